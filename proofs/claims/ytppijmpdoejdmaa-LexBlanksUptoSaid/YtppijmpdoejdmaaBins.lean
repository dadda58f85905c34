/- Blanks, or a remark ahead of a line's end, put ahead of a token. No program in sight. -/
import Derived.Test.YtppijmpdoejdmaaBlexed
namespace Go.AB
open Go.RowKit

/-- What stands on a line moves to the right. -/
def Tok.right (ln m : Nat) (t : Tok) : Tok := if t.line = ln then { t with col := t.col + m } else t
theorem pos_right_nolf (l : List UInt8) (m : Nat) (p : Nat × Nat) (h : ∀ c ∈ l, c.toNat ≠ 10) : pos (p.1, p.2 + m) l = ((pos p l).1, (pos p l).2 + m) := by
  rw [pos_no10 _ _ h, pos_no10 _ _ h]
  simp only
  congr 1
  omega
theorem Lexed.ge {d : List UInt8} {p : Nat × Nat} {ts : List Tok} (h : Lexed d p ts) : ∀ t ∈ ts, p.1 ≤ t.line := by
  induction h with
  | stop p => intro t ht; rw [List.mem_singleton.1 ht]; simp
  | @pass d n p ts h _ ih => intro t ht; have := ih t ht; rw [pos_pass h] at this; exact this
  | @tok d k t v n p ts h hk _ ih =>
    intro u hu
    rcases List.mem_cons.1 hu with rfl | hu
    · simp
    · have := ih u hu
      rw [pos_tok h hk] at this
      split at this
      · simp only at this; omega
      · exact this
theorem map_right_above {ts : List Tok} {ln m : Nat} (h : ∀ t ∈ ts, ln < t.line) : ts.map (Tok.right ln m) = ts := by
  conv => rhs; rw [← List.map_id ts]
  apply List.map_congr_left
  intro t ht
  have := h t ht
  unfold Tok.right
  rw [if_neg (by omega)]
  rfl
theorem Lexed.right {d : List UInt8} {p : Nat × Nat} {ts : List Tok} (h : Lexed d p ts) (m : Nat) : Lexed d (p.1, p.2 + m) (ts.map (Tok.right p.1 m)) := by
  induction h with
  | stop p => show Lexed [] _ [Tok.right p.1 m _]; unfold Tok.right; simp only [if_true]; exact .stop _
  | @pass d n p ts h _ ih =>
    refine .pass h ?_
    rw [pos_right_nolf _ _ _ (act1_pass_bytes h)]
    rw [show (pos p (d.take n)).1 = p.1 from by rw [pos_pass h]] at ih
    rw [show (pos p (d.take n)).1 = p.1 from by rw [pos_pass h]]
    exact ih
  | @tok d k t v n p ts h hk hr ih =>
    have e : Tok.right p.1 m ⟨k, t, v, p.1, p.2⟩ = ⟨k, t, v, p.1, p.2 + m⟩ := by unfold Tok.right; simp
    rw [List.map_cons, e]
    refine .tok h hk ?_
    rw [pos_tok h hk] at ih hr ⊢
    by_cases h6 : k = 6
    · rw [if_pos h6] at ih hr ⊢
      rw [map_right_above (fun t ht => by have := hr.ge t ht; simp only at this; omega)]
      exact hr
    · rw [if_neg h6] at ih hr ⊢
      simp only at ih ⊢
      rw [show p.2 + m + n = p.2 + n + m from by omega]
      exact ih

/-- What may be put ahead of a token of kind k. -/
def PutOk (k : Nat) (put : List UInt8) : Prop :=
  put ≠ [] ∧ (∀ c ∈ put, c.toNat ≠ 10) ∧ ((∀ c ∈ put, isBlank c = true) ∨ ((k = 6 ∨ k = 7) ∧ ∃ r, put = 9 :: 59 :: r))
theorem PutOk.nonw {k : Nat} {put : List UInt8} (h : PutOk k put) (z : List UInt8) : nonw (put ++ z) := by
  obtain ⟨h1, _, h3⟩ := h
  cases put with
  | nil => exact absurd rfl h1
  | cons c r =>
    refine nonw_cons ?_
    rcases h3 with h3 | ⟨_, r', h3⟩
    · have hb := h3 c (by simp)
      simp only [isBlank, Bool.or_eq_true, beq_iff_eq] at hb
      simp [isWordly, isLetter, isDigit]
      omega
    · simp only [List.cons.injEq] at h3
      rw [h3.1]; decide
theorem runLen_lf {l z : List UInt8} (h : ∀ c ∈ l, c.toNat ≠ 10) (hz : ∀ c, z.head? = some c → c.toNat = 10) : runLen notLf (l ++ z) = l.length :=
  runLen_append (fun c hc => by simp [notLf, hz c hc]) l (fun c hc => by simp [notLf, h c hc])
/-- Blanks are passed over one by one. -/
theorem Lexed.blanks : ∀ (put : List UInt8), (∀ c ∈ put, isBlank c = true) → ∀ {d : List UInt8} {p : Nat × Nat} {ts : List Tok}, Lexed d (p.1, p.2 + put.length) ts → Lexed (put ++ d) p ts
  | [], _, d, p, ts, h => h
  | c :: put, hb, d, p, ts, h => by
    have hc := hb c (by simp)
    have h10 : c.toNat ≠ 10 := by intro e; simp [isBlank, e] at hc
    refine .pass (n := 1) (act1_blank hc) ?_
    show Lexed (put ++ d) (pos p [c]) ts
    refine Lexed.blanks put (fun x hx => hb x (by simp [hx])) ?_
    rw [pos_no10 [c] p (fun x hx => by rw [List.mem_singleton.1 hx]; exact h10)]
    simp only [List.length_cons, List.length_nil] at h ⊢
    rw [show p.2 + (0 + 1) + put.length = p.2 + (put.length + 1) from by omega]
    exact h
/-- What is put ahead of the first token. -/
theorem Lexed.put {d : List UInt8} {p : Nat × Nat} {ts : List Tok} {k : Nat} {put : List UInt8} (hp : PutOk k put) (hz : (k = 6 ∨ k = 7) → ∀ c, d.head? = some c → c.toNat = 10) (h : Lexed d (p.1, p.2 + put.length) ts) : Lexed (put ++ d) p ts := by
  obtain ⟨h1, h2, h3⟩ := hp
  rcases h3 with h3 | ⟨hk, r, rfl⟩
  · exact Lexed.blanks put h3 h
  · refine .pass (n := 1) (act1_blank (by decide)) ?_
    show Lexed (59 :: r ++ d) (pos p [9]) ts
    have hrun : runLen notLf (59 :: r ++ d) = (59 :: r).length := runLen_lf (fun c hc => h2 c (List.mem_cons_of_mem _ hc)) (hz hk)
    refine .pass (n := (59 :: r).length) (by rw [← hrun]; exact act1_remark (by decide)) ?_
    rw [List.drop_left, List.take_left, ← pos_append]
    have := pos_no10 ([9] ++ 59 :: r) p h2
    rw [this]
    exact h
/-- The head of what follows a remark. -/
theorem remark_next {d : List UInt8} {n : Nat} (h : n = runLen notLf d) : ∀ c, (d.drop n).head? = some c → c.toNat = 10 := fun c hc => by
  rw [List.head?_drop, h] at hc
  have := runLen_next _ _ hc
  simpa [notLf] using this
/-- Something put ahead of the k-th token: it and what follows on its line move to the right. -/
theorem Lexed.insert {d : List UInt8} {p : Nat × Nat} {ts : List Tok} (h : Lexed d p ts) : ∀ k (hk : k < ts.length), ∃ g, g ≤ d.length ∧ pos p (d.take g) = (ts[k].line, ts[k].col) ∧
    ((k = 0 ∧ (ts[k].kind = 6 ∨ ts[k].kind = 7)) → ∀ c, (d.drop g).head? = some c → c.toNat = 10) ∧ (1 ≤ k → 1 ≤ g) ∧
    ∀ put, PutOk ts[k].kind put → Lexed (d.take g ++ put ++ d.drop g) p (ts.take k ++ (ts.drop k).map (Tok.right ts[k].line put.length)) := by
  induction h with
  | stop p =>
    intro k hk
    obtain rfl : k = 0 := by simp at hk; omega
    refine ⟨0, Nat.le_refl _, rfl, (fun _ c hc => by simp at hc), (by omega), fun put hp => ?_⟩
    exact Lexed.put hp (fun _ c hc => by simp at hc) ((Lexed.stop p).right put.length)
  | @pass d n p ts h hr ih =>
    intro k hk
    obtain ⟨g, hg, hpos, hnx, hg1, hput⟩ := ih k hk
    have hle := (act1_pass h).2
    have hn1 := (act1_pass h).1
    rw [List.length_drop] at hg
    rw [← pos_append, ← List.take_add] at hpos
    rw [List.drop_drop] at hnx hput
    have hline : (pos p (d.take n)).1 = p.1 := by rw [pos_pass h]
    obtain ⟨c, r, hd, hf⟩ := act1_pass_form h
    refine ⟨n + g, by omega, hpos, hnx, (by omega), fun put hp => ?_⟩
    have hl := hput put hp
    rcases hf with ⟨hb, rfl⟩ | ⟨hb, h59, hnr⟩
    · subst hd
      have e : (c :: r).take (1 + g) ++ put ++ (c :: r).drop (1 + g) = c :: (r.take g ++ put ++ r.drop g) := by rw [Nat.add_comm]; rfl
      rw [e]
      refine .pass (n := 1) (act1_blank hb) ?_
      rw [Nat.add_comm] at hl
      exact hl
    · have hnext := remark_next hnr
      by_cases hg0 : g = 0
      · subst hg0
        obtain rfl : k = 0 := by
          rcases Nat.eq_zero_or_pos k with h0 | h0
          · exact h0
          · have := hg1 h0; omega
        simp only [Nat.add_zero, List.take_zero, List.nil_append, List.drop_zero] at hl hnx ⊢
        have hn10 : ∀ x ∈ d.take n ++ put, x.toNat ≠ 10 := fun x hx => by
          rcases List.mem_append.1 hx with hx | hx
          · exact act1_pass_bytes h x hx
          · exact hp.2.1 x hx
        have hrun : runLen notLf (d.take n ++ put ++ d.drop n) = (d.take n ++ put).length := runLen_lf hn10 hnext
        have hd59 : ∃ q, d.take n ++ put ++ d.drop n = c :: q := by
          obtain ⟨m, rfl⟩ : ∃ m, n = m + 1 := ⟨n - 1, by omega⟩
          rw [hd]
          exact ⟨_, rfl⟩
        obtain ⟨q, hq⟩ := hd59
        have ha : act1 (d.take n ++ put ++ d.drop n) = .pass (d.take n ++ put).length := by
          rw [← hrun]
          rw [hq]
          exact act1_remark h59
        refine .pass ha ?_
        rw [List.drop_left, List.take_left, pos_no10 _ _ hn10]
        have h2 := hr.right put.length
        rw [pos_pass h] at h2
        simp only at h2
        have e2 : ts[0].line = p.1 := by
          simp only [Nat.add_zero] at hpos
          rw [pos_pass h] at hpos
          simp only [Prod.mk.injEq] at hpos
          exact hpos.1.symm
        rw [e2]
        have e3 : (d.take n ++ put).length = n + put.length := by rw [List.length_append, List.length_take, Nat.min_eq_left hle]
        rw [e3, ← Nat.add_assoc]
        simpa using h2
      · have e : d.take (n + g) ++ put ++ d.drop (n + g) = d.take n ++ ((d.drop n).take g ++ put ++ d.drop (n + g)) := by
          rw [List.take_add]; simp only [List.append_assoc]
        rw [e]
        have hz : ∀ x, ((d.drop n).take g ++ put ++ d.drop (n + g)).head? = some x → x.toNat = 10 := fun x hx => by
          refine hnext x ?_
          cases hdn : d.drop n with
          | nil =>
            exfalso
            have := congrArg List.length hdn
            simp only [List.length_drop, List.length_nil] at this
            omega
          | cons y q =>
            rw [hdn] at hx
            obtain ⟨m, rfl⟩ : ∃ m, g = m + 1 := ⟨g - 1, by omega⟩
            exact hx
        have hrun : runLen notLf (d.take n ++ ((d.drop n).take g ++ put ++ d.drop (n + g))) = (d.take n).length := runLen_lf (act1_pass_bytes h) hz
        have hln : (d.take n).length = n := by rw [List.length_take, Nat.min_eq_left hle]
        have ha : act1 (d.take n ++ ((d.drop n).take g ++ put ++ d.drop (n + g))) = .pass n := by
          rw [hln] at hrun
          obtain ⟨m, rfl⟩ : ∃ m, n = m + 1 := ⟨n - 1, by omega⟩
          rw [hd] at hrun ⊢
          rw [List.take_succ_cons, List.cons_append] at hrun ⊢
          rw [act1_remark h59, hrun]
        refine .pass ha ?_
        rw [List.drop_left' hln, List.take_left' hln]
        exact hl
  | @tok d kk t v n p ts h hk7 hr ih =>
    intro k hk
    have hle := (tok_le h hk7).2.1
    have hn1 := (tok_le h hk7).1
    cases k with
    | zero =>
      refine ⟨0, Nat.zero_le _, rfl, (fun hh c hc => ?_), (by omega), fun put hp => ?_⟩
      · simp only [List.getElem_cons_zero, true_and] at hh
        have h6 : kk = 6 := by rcases hh with h | h; exact h; exact absurd h hk7
        rcases act1_tok_bytes h hk7 with ⟨_, _, r, hdr⟩ | ⟨h1, _⟩
        · rw [List.drop_zero, hdr] at hc
          cases hc; rfl
        · exact absurd h6 h1
      · simp only [List.take_zero, List.nil_append, List.drop_zero, List.getElem_cons_zero]
        refine Lexed.put hp (fun hk c hc => ?_) ((Lexed.tok h hk7 hr).right put.length)
        simp only [List.getElem_cons_zero] at hk
        have h6 : kk = 6 := by rcases hk with h | h; exact h; exact absurd h hk7
        rcases act1_tok_bytes h hk7 with ⟨_, _, r, hdr⟩ | ⟨h1, _⟩
        · rw [hdr] at hc; cases hc; rfl
        · exact absurd h6 h1
    | succ k =>
      obtain ⟨g, hg, hpos, hnx, hg1, hput⟩ := ih k (by simpa using hk)
      rw [List.length_drop] at hg
      rw [← pos_append, ← List.take_add] at hpos
      rw [List.drop_drop] at hput
      refine ⟨n + g, by omega, by simpa using hpos, (fun hh => by omega), (by omega), fun put hp => ?_⟩
      have hl := hput put (by simpa using hp)
      have e : d.take (n + g) ++ put ++ d.drop (n + g) = d.take n ++ ((d.drop n).take g ++ put ++ d.drop (n + g)) := by
        rw [List.take_add]; simp only [List.append_assoc]
      rw [e]
      simp only [List.getElem_cons_succ, List.take_succ_cons, List.drop_succ_cons, List.cons_append]
      have hln : (d.take n).length = n := by rw [List.length_take, Nat.min_eq_left hle]
      refine .tok (act1_cut h hk7 (fun hk2 => ?_)) hk7 ?_
      · by_cases hg0 : g = 0
        · subst hg0
          rw [List.take_zero, List.nil_append]
          exact PutOk.nonw hp _
        · have h1 := act1_next h hk2
          cases hdn : d.drop n with
          | nil =>
            exfalso
            have := congrArg List.length hdn
            simp only [List.length_drop, List.length_nil] at this
            omega
          | cons y q =>
            rw [hdn] at h1
            obtain ⟨m, rfl⟩ : ∃ m, g = m + 1 := ⟨g - 1, by omega⟩
            exact fun c hc => h1 c hc
      · rw [List.drop_left' hln, List.take_left' hln]
        exact hl
end Go.AB
