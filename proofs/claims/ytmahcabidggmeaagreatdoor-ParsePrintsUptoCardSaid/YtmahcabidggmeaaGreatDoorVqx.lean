/- Joined by join.py out of Bins, Xpt, Vqb, Vqc, Vqd. -/
import Derived.Test.YtmahcabidggmeaaGreatDoorBlexed
import Derived.Test.YtmahcabidggmeaaGreatDoorVpw
import Derived.Test.YtmahcabidggmeaaGreatDoorVqa
set_option linter.unusedSimpArgs false
set_option linter.unusedVariables false
set_option linter.unusedSectionVars false

/- Blanks, or a remark ahead of a line's end, put ahead of a token. No program in sight. -/
namespace Go.AB
open Go.RowKit

/-- What stands on a line moves to the right. -/
def Tok.right (ln m : Nat) (t : Tok) : Tok := if t.line = ln then { t with col := t.col + m } else t
theorem pos_right_nolf (l : List UInt8) (m : Nat) (p : Nat × Nat) (h : ∀ c ∈ l, c.toNat ≠ 10) : pos (p.1, p.2 + m) l = ((pos p l).1, (pos p l).2 + m) := by
  rw [pos_no10 _ _ h, pos_no10 _ _ h]
  simp only
  congr 1
  omega
theorem Lexed.ge {d : List UInt8} {p : Nat × Nat} {ts : List Tok} (h : Lexed d p ts) : ∀ t ∈ ts, p.1 ≤ t.line := by
  induction h with
  | stop p => intro t ht; rw [List.mem_singleton.1 ht]; simp
  | @pass d n p ts h _ ih => intro t ht; have := ih t ht; rw [pos_pass h] at this; exact this
  | @tok d k t v n p ts h hk _ ih =>
    intro u hu
    rcases List.mem_cons.1 hu with rfl | hu
    · simp
    · have := ih u hu
      rw [pos_tok h hk] at this
      split at this
      · simp only at this; omega
      · exact this
theorem map_right_above {ts : List Tok} {ln m : Nat} (h : ∀ t ∈ ts, ln < t.line) : ts.map (Tok.right ln m) = ts := by
  conv => rhs; rw [← List.map_id ts]
  apply List.map_congr_left
  intro t ht
  have := h t ht
  unfold Tok.right
  rw [if_neg (by omega)]
  rfl
theorem Lexed.right {d : List UInt8} {p : Nat × Nat} {ts : List Tok} (h : Lexed d p ts) (m : Nat) : Lexed d (p.1, p.2 + m) (ts.map (Tok.right p.1 m)) := by
  induction h with
  | stop p => show Lexed [] _ [Tok.right p.1 m _]; unfold Tok.right; simp only [if_true]; exact .stop _
  | @pass d n p ts h _ ih =>
    refine .pass h ?_
    rw [pos_right_nolf _ _ _ (act1_pass_bytes h)]
    rw [show (pos p (d.take n)).1 = p.1 from by rw [pos_pass h]] at ih
    rw [show (pos p (d.take n)).1 = p.1 from by rw [pos_pass h]]
    exact ih
  | @tok d k t v n p ts h hk hr ih =>
    have e : Tok.right p.1 m ⟨k, t, v, p.1, p.2⟩ = ⟨k, t, v, p.1, p.2 + m⟩ := by unfold Tok.right; simp
    rw [List.map_cons, e]
    refine .tok h hk ?_
    rw [pos_tok h hk] at ih hr ⊢
    by_cases h6 : k = 6
    · rw [if_pos h6] at ih hr ⊢
      rw [map_right_above (fun t ht => by have := hr.ge t ht; simp only at this; omega)]
      exact hr
    · rw [if_neg h6] at ih hr ⊢
      simp only at ih ⊢
      rw [show p.2 + m + n = p.2 + n + m from by omega]
      exact ih

/-- What may be put ahead of a token of kind k. -/
def PutOk (k : Nat) (put : List UInt8) : Prop :=
  put ≠ [] ∧ (∀ c ∈ put, c.toNat ≠ 10) ∧ ((∀ c ∈ put, isBlank c = true) ∨ ((k = 6 ∨ k = 7) ∧ ∃ c0 b r, put = c0 :: b ++ 59 :: r ∧ isBlank c0 = true ∧ ∀ c ∈ b, isBlank c = true))
theorem PutOk.nonw {k : Nat} {put : List UInt8} (h : PutOk k put) (z : List UInt8) : nonw (put ++ z) := by
  obtain ⟨h1, _, h3⟩ := h
  cases put with
  | nil => exact absurd rfl h1
  | cons c r =>
    refine nonw_cons ?_
    have hb : isBlank c = true := by
      rcases h3 with h3 | ⟨_, c0, b, r', h3, h4, _⟩
      · exact h3 c (by simp)
      · simp only [List.cons_append, List.cons.injEq] at h3
        rw [h3.1]; exact h4
    simp only [isBlank, Bool.or_eq_true, beq_iff_eq] at hb
    simp [isWordly, isLetter, isDigit]
    omega
theorem runLen_lf {l z : List UInt8} (h : ∀ c ∈ l, c.toNat ≠ 10) (hz : ∀ c, z.head? = some c → c.toNat = 10) : runLen notLf (l ++ z) = l.length :=
  runLen_append (fun c hc => by simp [notLf, hz c hc]) l (fun c hc => by simp [notLf, h c hc])
/-- Blanks are passed over one by one. -/
theorem Lexed.blanks : ∀ (put : List UInt8), (∀ c ∈ put, isBlank c = true) → ∀ {d : List UInt8} {p : Nat × Nat} {ts : List Tok}, Lexed d (p.1, p.2 + put.length) ts → Lexed (put ++ d) p ts
  | [], _, d, p, ts, h => h
  | c :: put, hb, d, p, ts, h => by
    have hc := hb c (by simp)
    have h10 : c.toNat ≠ 10 := by intro e; simp [isBlank, e] at hc
    refine .pass (n := 1) (act1_blank hc) ?_
    show Lexed (put ++ d) (pos p [c]) ts
    refine Lexed.blanks put (fun x hx => hb x (by simp [hx])) ?_
    rw [pos_no10 [c] p (fun x hx => by rw [List.mem_singleton.1 hx]; exact h10)]
    simp only [List.length_cons, List.length_nil] at h ⊢
    rw [show p.2 + (0 + 1) + put.length = p.2 + (put.length + 1) from by omega]
    exact h
/-- What is put ahead of the first token. -/
theorem Lexed.put {d : List UInt8} {p : Nat × Nat} {ts : List Tok} {k : Nat} {put : List UInt8} (hp : PutOk k put) (hz : (k = 6 ∨ k = 7) → ∀ c, d.head? = some c → c.toNat = 10) (h : Lexed d (p.1, p.2 + put.length) ts) : Lexed (put ++ d) p ts := by
  obtain ⟨h1, h2, h3⟩ := hp
  rcases h3 with h3 | ⟨hk, c0, b, r, rfl, hb0, hb⟩
  · exact Lexed.blanks put h3 h
  · rw [show (c0 :: b ++ 59 :: r) ++ d = (c0 :: b) ++ (59 :: r ++ d) from by simp]
    refine Lexed.blanks (c0 :: b) (fun c hc => (List.mem_cons.1 hc).elim (fun e => e ▸ hb0) (hb c)) ?_
    have hrun : runLen notLf (59 :: r ++ d) = (59 :: r).length := runLen_lf (fun c hc => h2 c (List.mem_append_right _ hc)) (hz hk)
    refine .pass (n := (59 :: r).length) (by rw [← hrun]; exact act1_remark (by decide)) ?_
    rw [List.drop_left, List.take_left, pos_no10 _ _ (fun c hc => h2 c (List.mem_append_right _ hc))]
    rw [List.length_append] at h
    rw [show p.2 + (c0 :: b).length + (59 :: r).length = p.2 + ((c0 :: b).length + (59 :: r).length) from by omega]
    exact h
/-- The head of what follows a remark. -/
theorem remark_next {d : List UInt8} {n : Nat} (h : n = runLen notLf d) : ∀ c, (d.drop n).head? = some c → c.toNat = 10 := fun c hc => by
  rw [List.head?_drop, h] at hc
  have := runLen_next _ _ hc
  simpa [notLf] using this
/-- Something put ahead of the k-th token: it and what follows on its line move to the right. -/
theorem Lexed.insert {d : List UInt8} {p : Nat × Nat} {ts : List Tok} (h : Lexed d p ts) : ∀ k (hk : k < ts.length), ∃ g, g ≤ d.length ∧ pos p (d.take g) = (ts[k].line, ts[k].col) ∧
    ((k = 0 ∧ (ts[k].kind = 6 ∨ ts[k].kind = 7)) → ∀ c, (d.drop g).head? = some c → c.toNat = 10) ∧ (1 ≤ k → 1 ≤ g) ∧
    ∀ put, PutOk ts[k].kind put → Lexed (d.take g ++ put ++ d.drop g) p (ts.take k ++ (ts.drop k).map (Tok.right ts[k].line put.length)) := by
  induction h with
  | stop p =>
    intro k hk
    obtain rfl : k = 0 := by simp at hk; omega
    refine ⟨0, Nat.le_refl _, rfl, (fun _ c hc => by simp at hc), (by omega), fun put hp => ?_⟩
    exact Lexed.put hp (fun _ c hc => by simp at hc) ((Lexed.stop p).right put.length)
  | @pass d n p ts h hr ih =>
    intro k hk
    obtain ⟨g, hg, hpos, hnx, hg1, hput⟩ := ih k hk
    have hle := (act1_pass h).2
    have hn1 := (act1_pass h).1
    rw [List.length_drop] at hg
    rw [← pos_append, ← List.take_add] at hpos
    rw [List.drop_drop] at hnx hput
    have hline : (pos p (d.take n)).1 = p.1 := by rw [pos_pass h]
    obtain ⟨c, r, hd, hf⟩ := act1_pass_form h
    refine ⟨n + g, by omega, hpos, hnx, (by omega), fun put hp => ?_⟩
    have hl := hput put hp
    rcases hf with ⟨hb, rfl⟩ | ⟨hb, h59, hnr⟩
    · subst hd
      have e : (c :: r).take (1 + g) ++ put ++ (c :: r).drop (1 + g) = c :: (r.take g ++ put ++ r.drop g) := by rw [Nat.add_comm]; rfl
      rw [e]
      refine .pass (n := 1) (act1_blank hb) ?_
      rw [Nat.add_comm] at hl
      exact hl
    · have hnext := remark_next hnr
      by_cases hg0 : g = 0
      · subst hg0
        obtain rfl : k = 0 := by
          rcases Nat.eq_zero_or_pos k with h0 | h0
          · exact h0
          · have := hg1 h0; omega
        simp only [Nat.add_zero, List.take_zero, List.nil_append, List.drop_zero] at hl hnx ⊢
        have hn10 : ∀ x ∈ d.take n ++ put, x.toNat ≠ 10 := fun x hx => by
          rcases List.mem_append.1 hx with hx | hx
          · exact act1_pass_bytes h x hx
          · exact hp.2.1 x hx
        have hrun : runLen notLf (d.take n ++ put ++ d.drop n) = (d.take n ++ put).length := runLen_lf hn10 hnext
        have hd59 : ∃ q, d.take n ++ put ++ d.drop n = c :: q := by
          obtain ⟨m, rfl⟩ : ∃ m, n = m + 1 := ⟨n - 1, by omega⟩
          rw [hd]
          exact ⟨_, rfl⟩
        obtain ⟨q, hq⟩ := hd59
        have ha : act1 (d.take n ++ put ++ d.drop n) = .pass (d.take n ++ put).length := by
          rw [← hrun]
          rw [hq]
          exact act1_remark h59
        refine .pass ha ?_
        rw [List.drop_left, List.take_left, pos_no10 _ _ hn10]
        have h2 := hr.right put.length
        rw [pos_pass h] at h2
        simp only at h2
        have e2 : ts[0].line = p.1 := by
          simp only [Nat.add_zero] at hpos
          rw [pos_pass h] at hpos
          simp only [Prod.mk.injEq] at hpos
          exact hpos.1.symm
        rw [e2]
        have e3 : (d.take n ++ put).length = n + put.length := by rw [List.length_append, List.length_take, Nat.min_eq_left hle]
        rw [e3, ← Nat.add_assoc]
        simpa using h2
      · have e : d.take (n + g) ++ put ++ d.drop (n + g) = d.take n ++ ((d.drop n).take g ++ put ++ d.drop (n + g)) := by
          rw [List.take_add]; simp only [List.append_assoc]
        rw [e]
        have hz : ∀ x, ((d.drop n).take g ++ put ++ d.drop (n + g)).head? = some x → x.toNat = 10 := fun x hx => by
          refine hnext x ?_
          cases hdn : d.drop n with
          | nil =>
            exfalso
            have := congrArg List.length hdn
            simp only [List.length_drop, List.length_nil] at this
            omega
          | cons y q =>
            rw [hdn] at hx
            obtain ⟨m, rfl⟩ : ∃ m, g = m + 1 := ⟨g - 1, by omega⟩
            exact hx
        have hrun : runLen notLf (d.take n ++ ((d.drop n).take g ++ put ++ d.drop (n + g))) = (d.take n).length := runLen_lf (act1_pass_bytes h) hz
        have hln : (d.take n).length = n := by rw [List.length_take, Nat.min_eq_left hle]
        have ha : act1 (d.take n ++ ((d.drop n).take g ++ put ++ d.drop (n + g))) = .pass n := by
          rw [hln] at hrun
          obtain ⟨m, rfl⟩ : ∃ m, n = m + 1 := ⟨n - 1, by omega⟩
          rw [hd] at hrun ⊢
          rw [List.take_succ_cons, List.cons_append] at hrun ⊢
          rw [act1_remark h59, hrun]
        refine .pass ha ?_
        rw [List.drop_left' hln, List.take_left' hln]
        exact hl
  | @tok d kk t v n p ts h hk7 hr ih =>
    intro k hk
    have hle := (tok_le h hk7).2.1
    have hn1 := (tok_le h hk7).1
    cases k with
    | zero =>
      refine ⟨0, Nat.zero_le _, rfl, (fun hh c hc => ?_), (by omega), fun put hp => ?_⟩
      · simp only [List.getElem_cons_zero, true_and] at hh
        have h6 : kk = 6 := by rcases hh with h | h; exact h; exact absurd h hk7
        rcases act1_tok_bytes h hk7 with ⟨_, _, r, hdr⟩ | ⟨h1, _⟩
        · rw [List.drop_zero, hdr] at hc
          cases hc; rfl
        · exact absurd h6 h1
      · simp only [List.take_zero, List.nil_append, List.drop_zero, List.getElem_cons_zero]
        refine Lexed.put hp (fun hk c hc => ?_) ((Lexed.tok h hk7 hr).right put.length)
        simp only [List.getElem_cons_zero] at hk
        have h6 : kk = 6 := by rcases hk with h | h; exact h; exact absurd h hk7
        rcases act1_tok_bytes h hk7 with ⟨_, _, r, hdr⟩ | ⟨h1, _⟩
        · rw [hdr] at hc; cases hc; rfl
        · exact absurd h6 h1
    | succ k =>
      obtain ⟨g, hg, hpos, hnx, hg1, hput⟩ := ih k (by simpa using hk)
      rw [List.length_drop] at hg
      rw [← pos_append, ← List.take_add] at hpos
      rw [List.drop_drop] at hput
      refine ⟨n + g, by omega, by simpa using hpos, (fun hh => by omega), (by omega), fun put hp => ?_⟩
      have hl := hput put (by simpa using hp)
      have e : d.take (n + g) ++ put ++ d.drop (n + g) = d.take n ++ ((d.drop n).take g ++ put ++ d.drop (n + g)) := by
        rw [List.take_add]; simp only [List.append_assoc]
      rw [e]
      simp only [List.getElem_cons_succ, List.take_succ_cons, List.drop_succ_cons, List.cons_append]
      have hln : (d.take n).length = n := by rw [List.length_take, Nat.min_eq_left hle]
      refine .tok (act1_cut h hk7 (fun hk2 => ?_)) hk7 ?_
      · by_cases hg0 : g = 0
        · subst hg0
          rw [List.take_zero, List.nil_append]
          exact PutOk.nonw hp _
        · have h1 := act1_next h hk2
          cases hdn : d.drop n with
          | nil =>
            exfalso
            have := congrArg List.length hdn
            simp only [List.length_drop, List.length_nil] at this
            omega
          | cons y q =>
            rw [hdn] at h1
            obtain ⟨m, rfl⟩ : ∃ m, g = m + 1 := ⟨g - 1, by omega⟩
            exact fun c hc => h1 c hc
      · rw [List.drop_left' hln, List.take_left' hln]
        exact hl
end Go.AB

/- Two texts, one behind the other: the unit of both (ParseJoins). No program in sight. -/
set_option linter.unusedSimpArgs false
set_option linter.unusedVariables false
set_option linter.unusedSectionVars false
namespace Go.AB
open Go.RowKit
section
variable {s l : Tok} {R : List Tok}
/-- Tokens that end with a stop; and the same with a line's end and more tokens in its place. -/
def Ex (s l : Tok) (R ts ts' : List Tok) : Prop := ∃ X, (∀ t ∈ X, t.kind ≠ 7) ∧ ts = X ++ [s] ∧ ts' = X ++ l :: R
theorem Ex.cases {ts ts' : List Tok} (h : Ex s l R ts ts') : (ts = [s] ∧ ts' = l :: R) ∨ ∃ t r r', ts = t :: r ∧ ts' = t :: r' ∧ Ex s l R r r' := by
  obtain ⟨X, hX, rfl, rfl⟩ := h
  cases X with
  | nil => exact .inl ⟨rfl, rfl⟩
  | cons t X => exact .inr ⟨t, X ++ [s], X ++ l :: R, rfl, rfl, X, fun x hx => hX x (List.mem_cons_of_mem _ hx), rfl, rfl⟩
theorem Ex.kind {t : Tok} {ts ts' : List Tok} (h : Ex s l R (t :: ts) ts') (hn : ts ≠ []) : t.kind ≠ 7 := by
  obtain ⟨X, hX, h1, _⟩ := h
  cases X with
  | nil =>
    rw [List.nil_append] at h1
    cases h1
    exact absurd rfl hn
  | cons x X =>
    rw [List.cons_append] at h1
    cases h1
    exact hX _ (List.mem_cons_self ..)
theorem Ex.pos {ts ts' : List Tok} (h : Ex s l R ts ts') : 0 < ts.length := by
  obtain ⟨X, _, rfl, rfl⟩ := h
  simp
theorem Ex.len {ts ts' : List Tok} (h : Ex s l R ts ts') : ts'.length = ts.length + R.length := by
  obtain ⟨X, _, rfl, rfl⟩ := h
  simp
  omega
theorem takeK_ex (hs : s.kind = 7) {k : Nat} (hk : k ≠ 7) {ts ts' : List Tok} (h : Ex s l R ts ts') {t : Tok} {r : List Tok} (ht : takeK k ts = .ok (t, r)) : ∃ r', takeK k ts' = .ok (t, r') ∧ Ex s l R r r' := by
  rcases h.cases with ⟨rfl, rfl⟩ | ⟨t', r1, r1', rfl, rfl, h1⟩
  · unfold takeK at ht
    simp only [hs] at ht
    rw [if_neg (by omega)] at ht
    cases ht
  · unfold takeK at ht ⊢
    simp only at ht ⊢
    split at ht
    · cases ht
      rename_i hk2
      exact ⟨r1', by rw [if_pos hk2], h1⟩
    · cases ht
theorem free_kind {t : Tok} (h : t.kind ≠ 1) : freeB t = false := by unfold freeB; simp [h]
theorem nameT_ex (hs : s.kind = 7) {ts ts' : List Tok} (h : Ex s l R ts ts') {t : Tok} {r : List Tok} (ht : nameT ts = .ok (t, r)) : ∃ r', nameT ts' = .ok (t, r') ∧ Ex s l R r r' := by
  rcases h.cases with ⟨rfl, rfl⟩ | ⟨t', r1, r1', rfl, rfl, h1⟩
  · unfold nameT at ht
    simp only [free_kind (t := s) (by omega)] at ht
    simp at ht
  · unfold nameT at ht ⊢
    simp only at ht ⊢
    split at ht
    · cases ht
    · split at ht
      · cases ht
      · cases ht
        rename_i a b
        exact ⟨r1', by rw [if_neg a, if_neg b], h1⟩
theorem labels_stay {t : Tok} (ht : freeB t = false) (r : List Tok) (bs : List BkD) (any : Bool) : labelsD (t :: r) bs any = .ok (t :: r, bs, any) := by
  cases r with
  | nil => rfl
  | cons c r => unfold labelsD; rw [if_neg (by rw [ht]; simp)]
theorem labels_colon {t c : Tok} (hc : c.kind ≠ 4) (r : List Tok) (bs : List BkD) (any : Bool) : labelsD (t :: c :: r) bs any = .ok (t :: c :: r, bs, any) := by
  unfold labelsD
  rw [if_neg (fun h => hc h.2)]
theorem labels_ex (hs : s.kind = 7) (hl : l.kind = 6) : ∀ (n : Nat) {ts ts' : List Tok} {bs : List BkD} {any : Bool}, ts.length ≤ n → Ex s l R ts ts' → ∀ {r : List Tok} {bs' : List BkD} {any' : Bool}, labelsD ts bs any = .ok (r, bs', any') →
    ∃ r', labelsD ts' bs any = .ok (r', bs', any') ∧ Ex s l R r r'
  | n, ts, ts', bs, any, hn, h, r, bs', any', he => by
    rcases h.cases with ⟨rfl, rfl⟩ | ⟨t, r1, r1', rfl, rfl, h1⟩
    · rw [labels_stay (free_kind (by omega))] at he
      cases he
      exact ⟨l :: R, labels_stay (free_kind (by omega)) _ _ _, h⟩
    · rcases h1.cases with ⟨rfl, rfl⟩ | ⟨c, r2, r2', rfl, rfl, h2⟩
      · rw [labels_colon (by omega)] at he
        cases he
        exact ⟨_, labels_colon (by omega) _ _ _, h⟩
      · unfold labelsD at he ⊢
        split at he
        · rename_i hf
          rw [if_pos hf]
          split at he
          · cases he
          · rename_i hb
            rw [if_neg hb]
            split at he
            · cases he
            · rename_i hlen
              rw [if_neg hlen]
              match n, hn with
              | n + 1, hn => exact labels_ex hs hl n (by simp only [List.length_cons] at hn; omega) h2 he
        · rename_i hf
          rw [if_neg hf]
          cases he
          exact ⟨_, rfl, h⟩
theorem oper_ex (hs : s.kind = 7) {c : UInt8} {k : Nat} {ts ts' : List Tok} {x : ItD} (h : Ex s l R ts ts') {r : List Tok} {k' : Nat} {x' : ItD} (he : operD c k ts x = .ok (r, k', x')) : ∃ r', operD c k ts' x = .ok (r', k', x') ∧ Ex s l R r r' := by
  unfold operD at he ⊢
  by_cases c1 : c = 114
  · rw [if_pos c1] at he ⊢
    rcases h.cases with ⟨rfl, rfl⟩ | ⟨t, r1, r1', rfl, rfl, h1⟩
    · simp only at he
      rw [if_neg (by omega)] at he
      cases he
    · simp only at he ⊢
      split at he
      · rename_i hk
        rw [if_pos hk]
        cases he
        exact ⟨r1', rfl, h1⟩
      · cases he
  · rw [if_neg c1] at he ⊢
    by_cases c2 : c = 110
    · rw [if_pos c2] at he ⊢
      cases e1 : takeK 2 ts with
      | error f => rw [e1] at he; cases he
      | ok p =>
        obtain ⟨t, r1⟩ := p
        rw [e1] at he
        obtain ⟨r1', e2, h2⟩ := takeK_ex hs (by decide) h e1
        rw [e2]
        cases he
        exact ⟨r1', rfl, h2⟩
    · rw [if_neg c2] at he ⊢
      cases e1 : nameT ts with
      | error f => rw [e1] at he; cases he
      | ok p =>
        obtain ⟨t, r1⟩ := p
        rw [e1] at he
        obtain ⟨r1', e2, h2⟩ := nameT_ex hs h e1
        rw [e2]
        cases he
        exact ⟨r1', rfl, h2⟩
theorem opers_ex (hs : s.kind = 7) : ∀ (f : List UInt8) (first : Bool) (k : Nat) {ts ts' : List Tok} {x : ItD}, Ex s l R ts ts' → ∀ {r : List Tok} {x' : ItD}, opersD f first k ts x = .ok (r, x') → ∃ r', opersD f first k ts' x = .ok (r', x') ∧ Ex s l R r r'
  | [], _, _, ts, ts', x, h, r, x', he => by
    unfold opersD at he ⊢
    cases he
    exact ⟨_, rfl, h⟩
  | c :: f, first, k, ts, ts', x, h, r, x', he => by
    have hc : ∀ us, (if first = true then .ok ts else (takeK 3 ts).map Prod.snd) = Except.ok us → ∃ us', (if first = true then .ok ts' else (takeK 3 ts').map Prod.snd) = Except.ok us' ∧ Ex s l R us us' := by
      intro us hus
      split at hus
      · rename_i hf
        cases hus
        exact ⟨ts', by rw [if_pos hf], h⟩
      · rename_i hf
        rw [if_neg hf]
        cases e1 : takeK 3 ts with
        | error f => rw [e1] at hus; cases hus
        | ok p =>
          obtain ⟨t, r1⟩ := p
          rw [e1] at hus
          cases hus
          obtain ⟨r1', e2, h2⟩ := takeK_ex hs (by decide) h e1
          exact ⟨r1', by rw [e2]; rfl, h2⟩
    unfold opersD at he ⊢
    revert hc he
    generalize (if first = true then Except.ok ts else (takeK 3 ts).map Prod.snd) = A
    generalize (if first = true then Except.ok ts' else (takeK 3 ts').map Prod.snd) = B
    intro hc he
    cases A with
    | error f => cases he
    | ok us =>
      obtain ⟨us', rfl, hu⟩ := hc us rfl
      simp only at he ⊢
      cases e1 : operD c k us x with
      | error f => rw [e1] at he; cases he
      | ok p =>
        obtain ⟨r1, k1, x1⟩ := p
        rw [e1] at he
        obtain ⟨r1', e2, h2⟩ := oper_ex hs hu e1
        rw [e2]
        exact opers_ex hs f false k1 h2 he
theorem instr_ex (hs : s.kind = 7) {op : Nat} {t : Tok} {r r' : List Tok} {bs : List BkD} (h : Ex s l R r r') {q : List Tok} {bs' : List BkD} (he : instrD op (t :: r) bs = .ok (q, bs')) : ∃ q', instrD op (t :: r') bs = .ok (q', bs') ∧ Ex s l R q q' := by
  unfold instrD at he ⊢
  simp only at he ⊢
  split at he
  · cases he
  · rename_i hb
    rw [if_neg hb]
    cases e1 : opersD (formAt op) true 0 r ⟨op, 0, 0, 0, 0, ⟨#[]⟩, t.line, t.col, 0, 0⟩ with
    | error f => rw [e1] at he; cases he
    | ok p =>
      obtain ⟨r1, x1⟩ := p
      rw [e1] at he
      obtain ⟨r1', e2, h2⟩ := opers_ex hs _ _ _ h e1
      rw [e2]
      cases he
      exact ⟨r1', rfl, h2⟩
theorem value_ex (hs : s.kind = 7) (hl : l.kind = 6) {kind : Nat} {ts ts' : List Tok} (h : Ex s l R ts ts') {v : Int} {r : List Tok} (he : valueD kind ts = .ok (v, r)) : ∃ r', valueD kind ts' = .ok (v, r') ∧ Ex s l R r r' := by
  have hh : ((ts.head?.map Tok.kind) = some 5 ↔ (ts'.head?.map Tok.kind) = some 5) := by
    rcases h.cases with ⟨rfl, rfl⟩ | ⟨t, r1, r1', rfl, rfl, h1⟩
    · simp only [List.head?_cons, Option.map_some, Option.some.injEq]
      omega
    · rfl
  unfold valueD at he ⊢
  split at he
  · rename_i hc
    rw [if_pos (by rw [← hh]; exact hc)]
    cases e1 : takeK 5 ts with
    | error f => rw [e1] at he; cases he
    | ok p =>
      obtain ⟨t, r1⟩ := p
      rw [e1] at he
      obtain ⟨r1', e2, h2⟩ := takeK_ex hs (by decide) h e1
      rw [e2]
      simp only at he ⊢
      cases e3 : takeK 2 r1 with
      | error f => rw [e3] at he; cases he
      | ok p =>
        obtain ⟨t2, r2⟩ := p
        rw [e3] at he
        obtain ⟨r2', e4, h4⟩ := takeK_ex hs (by decide) h2 e3
        rw [e4]
        cases he
        exact ⟨r2', rfl, h4⟩
  · rename_i hc
    rw [if_neg (by rw [← hh]; exact hc)]
    cases he
    exact ⟨ts', rfl, h⟩
theorem declG_ex (hs : s.kind = 7) (hl : l.kind = 6) (kind : Nat) : ∀ (fuel : Nat) {ts ts' : List Tok} {ds : List DcD}, Ex s l R ts ts' → ts.length ≤ fuel → ∀ {F : Nat}, ts'.length ≤ F → ∀ {r : List Tok} {ds' : List DcD}, declG kind fuel ts ds = .ok (r, ds') → ∃ r', declG kind F ts' ds = .ok (r', ds') ∧ Ex s l R r r'
  | 0, ts, ts', ds, h, hf, F, hF, r, ds', he => by have := h.pos; omega
  | fuel + 1, ts, ts', ds, h, hf, F, hF, r, ds', he => by
    have hpos := h.pos
    have hlen := h.len
    obtain ⟨F, rfl⟩ : ∃ F', F = F' + 1 := ⟨F - 1, by omega⟩
    unfold declG at he ⊢
    cases e1 : nameT ts with
    | error f => rw [e1] at he; cases he
    | ok p =>
      obtain ⟨t, r1⟩ := p
      rw [e1] at he
      obtain ⟨r1', e2, h2⟩ := nameT_ex hs h e1
      rw [e2]
      simp only at he ⊢
      have hn1 := nameT_len e1
      have hn2 := nameT_len e2
      cases e3 : valueD kind r1 with
      | error f => rw [e3] at he; cases he
      | ok p =>
        obtain ⟨v, r2⟩ := p
        rw [e3] at he
        obtain ⟨r2', e4, h4⟩ := value_ex hs hl h2 e3
        rw [e4]
        simp only at he ⊢
        have hv1 := value_len e3
        have hv2 := value_len e4
        rcases h4.cases with ⟨rfl, rfl⟩ | ⟨c, r3, r3', rfl, rfl, h5⟩
        · simp only at he ⊢
          rw [if_neg (by omega)] at he ⊢
          cases he
          exact ⟨_, rfl, h4⟩
        · simp only at he ⊢
          split at he
          · rename_i hk
            rw [if_pos hk]
            simp only [List.length_cons] at hv1 hv2
            exact declG_ex hs hl kind fuel h5 (by omega) (by omega) he
          · rename_i hk
            rw [if_neg hk]
            cases he
            exact ⟨_, rfl, h4⟩
theorem end_ex {α : Type} (hs : s.kind = 7) (hl : l.kind = 6) {ts ts' : List Tok} (h : Ex s l R ts ts') {a b : α} {r : List Tok} (he : endD ts a = .ok (r, b)) : ∃ r', endD ts' a = .ok (r', b) ∧ Ex s l R r r' := by
  have e7 : endsB s = true := by unfold endsB; simp [hs]
  have e6 : endsB l = true := by unfold endsB; simp [hl]
  unfold endD at he ⊢
  rcases h.cases with ⟨rfl, rfl⟩ | ⟨t, r1, r1', rfl, rfl, h1⟩
  · simp only [e7, e6, if_true] at he ⊢
    cases he
    exact ⟨_, rfl, h⟩
  · simp only at he ⊢
    split at he
    · rename_i hk
      rw [if_pos hk]
      cases he
      exact ⟨_, rfl, h⟩
    · cases he
theorem line_ex (hs : s.kind = 7) (hl : l.kind = 6) {ts ts' : List Tok} {u v : UnD} (h : Ex s l R ts ts') {r : List Tok} (he : lineD ts u = .ok (r, v)) : ∃ r', lineD ts' u = .ok (r', v) ∧ Ex s l R r r' := by
  unfold lineD at he ⊢
  cases e1 : labelsD ts u.blocks false with
  | error f => rw [e1] at he; cases he
  | ok p =>
    obtain ⟨us, bs, any⟩ := p
    rw [e1] at he
    obtain ⟨us', e2, h2⟩ := labels_ex hs hl ts.length (Nat.le_refl _) h e1
    rw [e2]
    have e7 : endsB s = true := by unfold endsB; simp [hs]
    have e6 : endsB l = true := by unfold endsB; simp [hl]
    rcases h2.cases with ⟨rfl, rfl⟩ | ⟨t, r1, r1', rfl, rfl, h3⟩
    · simp only [e7, e6, if_true] at he ⊢
      cases he
      exact ⟨_, rfl, h2⟩
    · simp only at he ⊢
      split at he
      · rename_i hk
        rw [if_pos hk]
        cases he
        exact ⟨_, rfl, h2⟩
      · rename_i hk
        rw [if_neg hk]
        split at he
        · rename_i ho
          rw [if_pos ho]
          cases e3 : instrD (opL t.text) (t :: r1) bs with
          | error f => rw [e3] at he; cases he
          | ok p =>
            obtain ⟨q, bs2⟩ := p
            rw [e3] at he
            obtain ⟨q', e4, h4⟩ := instr_ex hs h3 e3
            rw [e4]
            exact end_ex hs hl h4 he
        · rename_i ho
          rw [if_neg ho]
          split at he
          · cases he
          · rename_i hw
            rw [if_neg hw]
            split at he
            · rename_i h5
              rw [if_pos h5]
              cases e3 : nameT r1 with
              | error f => rw [e3] at he; cases he
              | ok p =>
                obtain ⟨n, q⟩ := p
                rw [e3] at he
                obtain ⟨q', e4, h4⟩ := nameT_ex hs h3 e3
                rw [e4]
                exact end_ex hs hl h4 he
            · rename_i h5
              rw [if_neg h5]
              cases e3 : declG (kindL t.text) r1.length r1 u.decls with
              | error f => rw [e3] at he; cases he
              | ok p =>
                obtain ⟨q, ds⟩ := p
                rw [e3] at he
                obtain ⟨q', e4, h4⟩ := declG_ex hs hl (kindL t.text) r1.length h3 (Nat.le_refl _) (Nat.le_refl _) e3
                rw [e4]
                exact end_ex hs hl h4 he
theorem end_kind {ts r : List Tok} {t : Tok} {u v : UnD} (h : lineD ts u = .ok (t :: r, v)) : t.kind = 6 ∨ t.kind = 7 := by
  have key : ∀ {α : Type} {ts : List Tok} {a b : α} {t : Tok} {r : List Tok}, endD ts a = .ok (t :: r, b) → t.kind = 6 ∨ t.kind = 7 := by
    intro α ts a b t r he
    unfold endD at he
    cases ts with
    | nil => cases he
    | cons x q =>
      simp only at he
      split at he
      · rename_i hk
        cases he
        unfold endsB at hk
        exact of_decide_eq_true hk
      · cases he
  unfold lineD at h
  split at h
  · cases h
  · cases h
  · rename_i t1 r1 bs any _
    split at h
    · rename_i hk
      cases h
      unfold endsB at hk
      exact of_decide_eq_true hk
    · split at h
      · split at h
        · cases h
        · exact key h
      · split at h
        · cases h
        · split at h
          · split at h
            · cases h
            · exact key h
          · split at h
            · cases h
            · exact key h
theorem lines_ex (hs : s.kind = 7) (hl : l.kind = 6) : ∀ (fuel : Nat) {ts ts' : List Tok} {u a : UnD}, Ex s l R ts ts' → ts.length ≤ fuel → ∀ {F : Nat}, ts'.length ≤ F → linesD fuel ts u = .ok a → ∃ F', R.length ≤ F' ∧ linesD F ts' u = linesD F' R a
  | 0, ts, ts', u, a, h, hf, F, hF, he => by have := h.pos; omega
  | fuel + 1, ts, ts', u, a, h, hf, F, hF, he => by
    have hpos := h.pos
    have hlen := h.len
    obtain ⟨F, rfl⟩ : ∃ F', F = F' + 1 := ⟨F - 1, by omega⟩
    cases e1 : lineD ts u with
    | error f => rw [lines_bad e1] at he; cases he
    | ok p =>
      obtain ⟨r, v⟩ := p
      obtain ⟨r', e2, h3⟩ := line_ex hs hl h e1
      have hl1 := line_len e1
      have hl2 := line_len e2
      rcases h3.cases with ⟨rfl, rfl⟩ | ⟨t, r1, r1', rfl, rfl, h4⟩
      · rw [lines_end e1 (by omega)] at he
        cases he
        refine ⟨F, ?_, lines_more e2 hl⟩
        simp only [List.length_cons] at hl2
        omega
      · have hk : t.kind = 6 := by
          have h7 := h3.kind (by intro e; have := h4.pos; rw [e] at this; simp at this)
          rcases end_kind e1 with h | h
          · exact h
          · exact absurd h h7
        rw [lines_more e1 hk] at he
        rw [lines_more e2 hk]
        simp only [List.length_cons] at hl1 hl2
        exact lines_ex hs hl fuel h4 (by omega) (by omega) he
end

/-! More units ahead: the same tokens join them. -/
theorem put_app {x : ItD} {zs bs : List BkD} (h : bs ≠ []) : putLast x (zs ++ bs) = zs ++ putLast x bs := by
  obtain ⟨init, k, rfl⟩ : ∃ init k, bs = init ++ [k] := ⟨bs.dropLast, bs.getLast h, (List.dropLast_concat_getLast h).symm⟩
  unfold putLast
  rw [← List.append_assoc]
  simp
theorem put_ne {x : ItD} {bs : List BkD} (h : bs ≠ []) : putLast x bs ≠ [] := by
  obtain ⟨init, k, rfl⟩ : ∃ init k, bs = init ++ [k] := ⟨bs.dropLast, bs.getLast h, (List.dropLast_concat_getLast h).symm⟩
  unfold putLast
  simp
theorem labels_app (zs : List BkD) : ∀ (n : Nat) {ts : List Tok} {bs : List BkD} {any : Bool}, ts.length ≤ n → ∀ {r : List Tok} {bs' : List BkD} {any' : Bool}, labelsD ts bs any = .ok (r, bs', any') → labelsD ts (zs ++ bs) any = .ok (r, zs ++ bs', any')
  | n, [], bs, any, hn, r, bs', any', he => by cases he; rfl
  | n, [t], bs, any, hn, r, bs', any', he => by cases he; rfl
  | n, t :: c :: q, bs, any, hn, r, bs', any', he => by
    unfold labelsD at he ⊢
    split at he
    · rename_i hf
      rw [if_pos hf]
      split at he
      · cases he
      · rename_i hb
        rw [if_neg (by simp [hb])]
        split at he
        · cases he
        · rename_i hlen
          rw [if_neg hlen, put_app hb]
          match n, hn with
          | n + 1, hn => exact labels_app zs n (by simp only [List.length_cons] at hn; omega) he
    · rename_i hf
      rw [if_neg hf]
      cases he
      rfl
theorem instr_app (zs : List BkD) {op : Nat} {ts : List Tok} {bs : List BkD} {q : List Tok} {bs' : List BkD} (he : instrD op ts bs = .ok (q, bs')) : instrD op ts (zs ++ bs) = .ok (q, zs ++ bs') := by
  unfold instrD at he ⊢
  split at he
  · cases he
  · split at he
    · cases he
    · rename_i hb
      rw [if_neg (by simp [hb])]
      split at he
      · cases he
      · cases he
        rw [put_app hb]
theorem declG_app (es : List DcD) (kind : Nat) : ∀ (fuel : Nat) {ts : List Tok} {ds : List DcD} {r : List Tok} {ds' : List DcD}, declG kind fuel ts ds = .ok (r, ds') → declG kind fuel ts (es ++ ds) = .ok (r, es ++ ds')
  | 0, ts, ds, r, ds', he => by cases he; rfl
  | fuel + 1, ts, ds, r, ds', he => by
    unfold declG at he ⊢
    cases e1 : nameT ts with
    | error f => rw [e1] at he; cases he
    | ok p =>
      obtain ⟨t, r1⟩ := p
      rw [e1] at he
      simp only at he ⊢
      cases e3 : valueD kind r1 with
      | error f => rw [e3] at he; cases he
      | ok p =>
        obtain ⟨v, r2⟩ := p
        rw [e3] at he
        simp only [List.append_assoc] at he ⊢
        cases r2 with
        | nil => cases he; rfl
        | cons c r3 =>
          simp only at he ⊢
          split at he
          · rename_i hk
            rw [if_pos hk]
            exact declG_app es kind fuel he
          · rename_i hk
            rw [if_neg hk]
            cases he
            rfl
theorem end_app {α β : Type} {ts : List Tok} {a b : α} {r : List Tok} {f : α → β} (he : endD ts a = .ok (r, b)) : endD ts (f a) = .ok (r, f b) := by
  unfold endD at he ⊢
  split at he
  · cases he
  · split at he
    · rename_i hk
      rw [if_pos hk]
      cases he
      rfl
    · cases he
def UnD.behind (a u : UnD) : UnD := ⟨a.decls ++ u.decls, a.blocks ++ u.blocks⟩
theorem line_app (a : UnD) {ts : List Tok} {u v : UnD} {r : List Tok} (he : lineD ts u = .ok (r, v)) : lineD ts (a.behind u) = .ok (r, a.behind v) := by
  unfold lineD at he ⊢
  cases e1 : labelsD ts u.blocks false with
  | error f => rw [e1] at he; cases he
  | ok p =>
    obtain ⟨us, bs, any⟩ := p
    rw [e1] at he
    rw [show (a.behind u).blocks = a.blocks ++ u.blocks from rfl, labels_app a.blocks ts.length (Nat.le_refl _) e1]
    cases us with
    | nil => cases he
    | cons t r1 =>
      simp only at he ⊢
      split at he
      · rename_i hk
        rw [if_pos hk]
        cases he
        rfl
      · rename_i hk
        rw [if_neg hk]
        split at he
        · rename_i ho
          rw [if_pos ho]
          cases e3 : instrD (opL t.text) (t :: r1) bs with
          | error f => rw [e3] at he; cases he
          | ok p =>
            obtain ⟨q, bs2⟩ := p
            rw [e3] at he
            rw [instr_app a.blocks e3]
            exact end_app (f := a.behind) he
        · rename_i ho
          rw [if_neg ho]
          split at he
          · cases he
          · rename_i hw
            rw [if_neg hw]
            split at he
            · rename_i h5
              rw [if_pos h5]
              cases e3 : nameT r1 with
              | error f => rw [e3] at he; cases he
              | ok p =>
                obtain ⟨n, q⟩ := p
                rw [e3] at he
                simp only [List.append_assoc] at he ⊢
                exact end_app (f := a.behind) he
            · rename_i h5
              rw [if_neg h5]
              cases e3 : declG (kindL t.text) r1.length r1 u.decls with
              | error f => rw [e3] at he; cases he
              | ok p =>
                obtain ⟨q, ds⟩ := p
                rw [e3] at he
                rw [show (a.behind u).decls = a.decls ++ u.decls from rfl, declG_app a.decls _ _ e3]
                exact end_app (f := a.behind) he
theorem lines_app {s l : Tok} {R : List Tok} (hs : s.kind = 7) (hk6 : l.kind = 6) (a : UnD) : ∀ (fuel : Nat) {ts ts' : List Tok} {u v : UnD}, Ex s l R ts ts' → ts.length ≤ fuel → ∀ {F : Nat}, ts.length ≤ F → linesD fuel ts u = .ok v → linesD F ts (a.behind u) = .ok (a.behind v)
  | 0, ts, ts', u, v, h7, hf, F, hF, he => by have := h7.pos; omega
  | fuel + 1, ts, ts', u, v, h7, hf, F, hF, he => by
    have hpos := h7.pos
    obtain ⟨F, rfl⟩ : ∃ F', F = F' + 1 := ⟨F - 1, by omega⟩
    cases e1 : lineD ts u with
    | error f => rw [lines_bad e1] at he; cases he
    | ok p =>
      obtain ⟨r, v1⟩ := p
      have e2 := line_app a e1
      have hl := line_len e1
      obtain ⟨r', _, h3⟩ := line_ex hs hk6 h7 e1
      rcases h3.cases with ⟨rfl, rfl⟩ | ⟨t, r1, r1', rfl, rfl, h4⟩
      · rw [lines_end e1 (by omega)] at he
        rw [lines_end e2 (by omega)]
        cases he
        rfl
      · by_cases hk : t.kind = 6
        · rw [lines_more e1 hk] at he
          rw [lines_more e2 hk]
          simp only [List.length_cons] at hl
          exact lines_app hs hk6 a fuel h4 (by omega) (by omega) he
        · rw [lines_end e1 hk] at he
          rw [lines_end e2 hk]
          cases he
          rfl
/-- The last token is the only stop. -/
theorem lexed_last {d : List UInt8} {p : Nat × Nat} {ts : List Tok} (h : Lexed d p ts) : ∃ X s, ts = X ++ [s] ∧ s.kind = 7 ∧ ∀ t ∈ X, t.kind ≠ 7 := by
  induction h with
  | stop p => exact ⟨[], _, rfl, rfl, fun t ht => by cases ht⟩
  | pass _ _ ih => exact ih
  | @tok d k t v n p ts h hk _ ih =>
    obtain ⟨X, s, rfl, h1, h2⟩ := ih
    refine ⟨_ :: X, s, rfl, h1, fun t ht => ?_⟩
    rcases List.mem_cons.1 ht with rfl | ht
    · exact hk
    · exact h2 t ht
def downR (m : Nat) : Int → Int → Int → Int → Prop := fun l c l' c' => l' = l + m ∧ c' = c ∧ 1 ≤ l ∧ l ≤ 2097153
theorem down_tok {m : Nat} {ts : List Tok} (h : ∀ t ∈ ts, 1 ≤ t.line ∧ t.line ≤ 2097153) : All2 (TkR (downR m)) ts (ts.map (Tok.down m)) := by
  induction ts with
  | nil => exact .nil
  | cons t ts ih =>
    have h1 := h t (List.mem_cons_self ..)
    refine .cons ⟨rfl, rfl, rfl, ?_, rfl, by omega, by omega⟩ (ih fun x hx => h x (List.mem_cons_of_mem _ hx))
    simp [Tok.down]
/-- Two texts that have units, one behind the other. -/
theorem joined_unit {A B : List UInt8} {a b : UnD} (hA : A.length ≤ 1048576) (hB : B.length ≤ 1048576) (ha : sourceD A = .ok a) (hb : sourceD B = .ok b) : ∃ b', UnR (downR (lfs A + 1)) b b' ∧ sourceD (A ++ 10 :: B) = .ok (a.behind b') := by
  by_cases zA : (scanD A 1 1).2.1 = 0
  · by_cases zB : (scanD B 1 1).2.1 = 0
    · rw [source_ok zA] at ha
      rw [source_ok zB] at hb
      have lA := lexed_of_scan (A.length + 1) A (1, 1) (by omega) zA
      have lB := lexed_of_scan (B.length + 1) B (1, 1) (by omega) zB
      revert ha hb lA lB
      generalize (scanD A 1 1).1 = ta
      generalize (scanD B 1 1).1 = tb
      intro ha hb lA lB
      obtain ⟨X, x, rfl, hx, hj1, hj2, hj⟩ := joined_tokens lA lB
      obtain ⟨X2, s2, e2, k2, hX2⟩ := lexed_last lA
      obtain ⟨Y, s3, e3, k3, hY⟩ := lexed_last lB
      have e4 := List.append_inj' e2 rfl
      obtain ⟨rfl, e5⟩ := e4
      have hge := lB.ge
      have hle := lB.line
      have hR := unitT_rel (down_tok (m := lfs A + 1) (ts := tb) fun t ht => by
        have h1 := hge t ht
        have h2 := hle t ht
        simp only at h1 h2
        omega)
      rw [hb] at hR
      cases e6 : unitT (tb.map (Tok.down (lfs A + 1))) with
      | error f => rw [e6] at hR; exact hR.elim
      | ok b' =>
        rw [e6] at hR
        refine ⟨b', hR, ?_⟩
        unfold sourceD
        rw [hj]
        simp only [if_true]
        unfold unitT at ha e6 ⊢
        obtain ⟨F', hF1, hF2⟩ := lines_ex (s := x) (l := { x with kind := 6 }) (R := tb.map (Tok.down (lfs A + 1))) hx rfl _ (ts := X ++ [x]) ⟨X, hX2, rfl, rfl⟩ (Nat.le_refl _) (Nat.le_refl _) ha
        rw [hF2]
        have hE : Ex (Tok.down (lfs A + 1) s3) ⟨6, [], 0, 0, 0⟩ [] (tb.map (Tok.down (lfs A + 1))) (Y.map (Tok.down (lfs A + 1)) ++ [⟨6, [], 0, 0, 0⟩]) := by
          refine ⟨Y.map (Tok.down (lfs A + 1)), fun t ht => ?_, by rw [e3, List.map_append]; rfl, rfl⟩
          obtain ⟨y, hy, rfl⟩ := List.mem_map.1 ht
          exact hY y hy
        have h8 := lines_app (show (Tok.down (lfs A + 1) s3).kind = 7 from k3) rfl a _ hE (Nat.le_refl _) hF1 e6
        rw [show a.behind ⟨[], []⟩ = a from by unfold UnD.behind; simp] at h8
        exact h8
    · rw [source_bad zB] at hb
      cases hb
  · rw [source_bad zA] at ha
    cases ha
end Go.AB

/- Walks of the parser's laws: moved: a unit, so many lines further down. -/
set_option linter.unusedVariables false
set_option linter.unusedSectionVars false
set_option linter.unusedSimpArgs false
namespace Go.AB
open Go.RowKit
/-- A list whose first i elements have been turned. -/
def progL {α : Type} (f : α → α) (l : List α) (i : Nat) : List α := (l.take i).map f ++ l.drop i
theorem progL_len {α : Type} (f : α → α) (l : List α) (i : Nat) : (progL f l i).length = l.length := by
  unfold progL
  rw [List.length_append, List.length_map, List.length_take, List.length_drop]
  omega
theorem progL_at {α : Type} {f : α → α} {l : List α} {i : Nat} (h : i < l.length) (h2 : i < (progL f l i).length) : (progL f l i)[i] = l[i] := by
  unfold progL at h2
  show ((l.take i).map f ++ l.drop i)[i] = l[i]
  have h3 : ((l.take i).map f).length = i := by rw [List.length_map, List.length_take]; omega
  rw [List.getElem_append_right (by omega)]
  simp only [h3, Nat.sub_self, List.getElem_drop, Nat.add_zero]
theorem progL_set {α : Type} {f : α → α} {l : List α} {i : Nat} (h : i < l.length) : (progL f l i).set i (f l[i]) = progL f l (i + 1) := by
  unfold progL
  have h3 : ((l.take i).map f).length = i := by rw [List.length_map, List.length_take]; omega
  rw [List.set_append_right _ _ (by omega), h3, Nat.sub_self, List.drop_eq_getElem_cons h, List.set_cons_zero, List.take_succ_eq_append_getElem h, List.map_append]
  simp
theorem progL_zero {α : Type} (f : α → α) (l : List α) : progL f l 0 = l := rfl
theorem progL_all {α : Type} {f : α → α} {l : List α} {i : Nat} (h : l.length ≤ i) : progL f l i = l.map f := by
  unfold progL
  rw [List.take_of_length_le h, List.drop_of_length_le h, List.append_nil]
def dcM (m : Int) (d : DcD) : DcD := ⟨d.kind, d.name, d.val, d.l + m, d.c⟩
def itM (m : Int) (x : ItD) : ItD := ⟨x.op, x.a, x.b, x.c, x.n, x.name, x.p1 + m, x.p2, if x.q1 = 0 ∧ x.q2 = 0 then x.q1 else x.q1 + m, x.q2⟩
def bkM (m : Int) (b : BkD) : BkD := ⟨b.name, b.items.map (itM m), b.l + m, b.c⟩
def unM (m : Int) (u : UnD) : UnD := ⟨u.decls.map (dcM m), u.blocks.map (bkM m)⟩
def blM (m : Int) (x : BlO) : BlO := ⟨bkM m x.b, x.ao, x.cap, x.r⟩
/-- The lines are small. -/
def Ln (l : Int) : Prop := 0 ≤ l ∧ l ≤ 2097153
structure LnS (u : UnD) : Prop where
  d : ∀ d ∈ u.decls, Ln d.l
  b : ∀ b ∈ u.blocks, Ln b.l ∧ ∀ x ∈ b.items, Ln x.p1 ∧ Ln x.q1 ∧ (x.q1 = 0 → x.q2 = 0)
theorem Row.slice {w : World} {e k n : Nat} {a : Option Addr} {c : Nat} {r : Option Nat} {xs : List Value} (h : Row w e k (.slice a n c) r n xs) (hn : 0 < n) : ∃ g, r = Option.some g ∧ a = Option.some ⟨g, 0, none⟩ ∧ n ≤ c := by
  cases r with
  | none =>
    rcases h.form with ⟨h1, h2, _⟩ | ⟨g', cap', cur, _, h2, _⟩
    · omega
    · cases h2
  | some g =>
    obtain ⟨_, _, c', h2, h3, _⟩ := Row.cellk h
    simp only [Value.slice.injEq, true_and] at h2
    obtain ⟨rfl, rfl⟩ := h2
    exact ⟨g, rfl, rfl, h3⟩
def mkBl : BlO := ⟨⟨⟨#[55, 55]⟩, [], 0, 0⟩, none, 0, none⟩
theorem Hp.front {S0 : List Nat} {w0 w : World} {D B R P0 : It} {M : List It} (h : Hp S0 w0 w (D :: B :: M ++ [R, P0])) : Hp S0 w0 w (R :: D :: B :: M) :=
  (h.perm (List.perm_append_comm (l₁ := D :: B :: M) (l₂ := [R, P0]))).sub (.cons_cons _ (.cons _ (.refl _)))
theorem Hp.pull {S0 : List Nat} {w0 w : World} {a b c d R : It} {M K : List It} (h : Hp S0 w0 w (a :: b :: c :: d :: (M ++ R :: K))) : Hp S0 w0 w (a :: b :: c :: d :: R :: (M ++ K)) :=
  h.perm (.cons _ (.cons _ (.cons _ (.cons _ List.perm_middle))))
theorem Hp.push {S0 : List Nat} {w0 w : World} {a b c d R : It} {M K : List It} (h : Hp S0 w0 w (a :: b :: c :: d :: R :: (M ++ K))) : Hp S0 w0 w (a :: b :: c :: d :: (M ++ R :: K)) :=
  h.perm (.cons _ (.cons _ (.cons _ (.cons _ List.perm_middle.symm))))
end Go.AB
namespace Go.Proofs.YtmahcabidggmeaaGreatDoor
open Go.RowKit Go.AB
set_option linter.unusedSimpArgs false
set_option linter.unusedVariables false
set_option linter.unusedSectionVars false

theorem progL_split {α : Type} {f : α → α} {l : List α} {i : Nat} (h : i < l.length) : progL f l i = (l.take i).map f ++ l[i] :: l.drop (i + 1) ∧ progL f l (i + 1) = (l.take i).map f ++ f l[i] :: l.drop (i + 1) ∧ ((l.take i).map f).length = i := by
  refine ⟨?_, ?_, by rw [List.length_map, List.length_take]; omega⟩
  · unfold progL
    rw [List.drop_eq_getElem_cons h]
  · unfold progL
    rw [List.take_succ_eq_append_getElem h, List.map_append]
    simp
theorem set_mid {α : Type} {D K : List α} {x y z : α} {j : Nat} (h : D.length = j) : (D ++ x :: K ++ [z]).set j y = D ++ y :: K ++ [z] := by
  subst h
  rw [List.append_assoc, List.set_append_right _ _ (Nat.le_refl _), Nat.sub_self]
  simp
theorem get_mid {α : Type} {D K : List α} {x z : α} {j : Nat} (h : D.length = j) (h2 : j < (D ++ x :: K ++ [z]).length) : (D ++ x :: K ++ [z])[j] = x := by
  subst h
  simp
def mvD (a0 : Option Addr) (n0 c0 : Nat) (r0 : Option Nat) (ds : List DcD) : It := .row 47 5 (.slice a0 (n0 + 1) c0) r0 (n0 + 1) ((ds ++ [mkD]).flatMap dcC)
def mvB (a1 : Option Addr) (n1 c1 : Nat) (r1 : Option Nat) (bs : List BlO) : It := .row 50 4 (.slice a1 (n1 + 1) c1) r1 (n1 + 1) ((bs ++ [mkBl]).flatMap blC)
def mvI (x : BlO) (items : List ItD) : It := .row 53 10 (.slice x.ao (x.b.items.length + 1) x.cap) x.r (x.b.items.length + 1) ((items ++ [mkI]).flatMap itC)
theorem mvB_eq {a1 : Option Addr} {n1 c1 : Nat} {r1 : Option Nat} {D K : List BlO} {x y : BlO} (h : blC x = blC y) : mvB a1 n1 c1 r1 (D ++ x :: K) = mvB a1 n1 c1 r1 (D ++ y :: K) := by
  unfold mvB
  simp only [List.append_assoc, List.flatMap_append, List.cons_append, List.flatMap_cons, h]
theorem mvI_row (x : BlO) : mvI x x.b.items = itRowM x := by
  unfold mvI itRowM
  rw [List.flatMap_append]
  rfl
theorem mvI_done (m : Int) (x : BlO) : mvI x (x.b.items.map (itM m)) = itRowM (blM m x) := by
  unfold mvI itRowM blM bkM
  rw [List.flatMap_append, List.length_map]
  rfl
theorem cp_mv (ds : List DcD) (q : RQ) : cpI ds q = mvD q.a0 ds.length q.c0 q.r0 ds :: mvB q.a1 q.bs.length q.c1 q.r1 q.bs :: q.bs.map itRowM := by
  unfold cpI cpD cpB mvD mvB
  rw [List.flatMap_append, List.flatMap_append]
  rfl

end Go.Proofs.YtmahcabidggmeaaGreatDoor

/- The law ParseJoins: its walk. -/
set_option linter.unusedVariables false
set_option linter.unusedSectionVars false
set_option linter.unusedSimpArgs false
namespace Go.AB
open Go.RowKit
theorem All2.both {α β : Type} {R : α → β → Prop} {l : List α} {m : List β} (h : All2 R l m) {Q : α → Prop} (hq : ∀ a b, R a b → Q a) : ∀ a ∈ l, Q a := by
  induction h with
  | nil => intro a ha; cases ha
  | cons h _ ih =>
    intro x hx
    rcases List.mem_cons.1 hx with rfl | hx
    · exact hq _ _ h
    · exact ih x hx
theorem lns_of {m : Nat} {b b' : UnD} (h : UnR (downR m) b b') : LnS b := by
  refine ⟨h.1.both fun x y hx => ?_, h.2.both fun x y hx => ⟨?_, hx.2.1.both fun p q hp => ⟨?_, ?_, ?_⟩⟩⟩
  · obtain ⟨_, _, h1, h2⟩ := hx.2.2.2
    exact ⟨by omega, h2⟩
  · obtain ⟨_, _, h1, h2⟩ := hx.2.2
    exact ⟨by omega, h2⟩
  · obtain ⟨_, _, h1, h2⟩ := hp.2.2.2.2.2.2.1
    exact ⟨by omega, h2⟩
  · rcases hp.2.2.2.2.2.2.2 with ⟨_, _, h1, h2⟩ | ⟨h1, _⟩
    · exact ⟨by omega, h2⟩
    · exact ⟨by omega, by omega⟩
  · intro e
    rcases hp.2.2.2.2.2.2.2 with ⟨_, _, h1, h2⟩ | ⟨_, h1, _⟩
    · omega
    · exact h1
theorem All2.map_to {α β γ : Type} {R : α → β → Prop} {S : β → γ → Prop} {f : α → γ} {l : List α} {m : List β} (h : All2 R l m) (hs : ∀ a b, R a b → S b (f a)) : All2 S m (l.map f) := by
  induction h with
  | nil => exact .nil
  | cons h _ ih => exact .cons (hs _ _ h) ih
theorem All2.same {α : Type} {R : α → α → Prop} (hr : ∀ a, R a a) : ∀ l : List α, All2 R l l
  | [] => .nil
  | a :: l => .cons (hr a) (All2.same hr l)
theorem dcS_refl (p : Bool) (x : DcD) : DcS p x x := ⟨rfl, rfl, rfl, fun _ => ⟨rfl, rfl⟩⟩
theorem itS_refl (p : Bool) (x : ItD) : ItS p x x := ⟨rfl, rfl, rfl, rfl, rfl, rfl, fun _ => ⟨rfl, rfl, rfl, rfl⟩⟩
theorem bkS_refl (p : Bool) (x : BkD) : BkS p x x := ⟨rfl, All2.same (itS_refl p) _, fun _ => ⟨rfl, rfl⟩⟩
theorem unS_refl (p : Bool) (u : UnD) : UnS p u u := ⟨All2.same (dcS_refl p) _, All2.same (bkS_refl p) _⟩
theorem it_moved {m : Nat} {x y : ItD} (h : ItR (downR m) x y) : ItS true y (itM m x) := by
  obtain ⟨h1, h2, h3, h4, h5, h6, ⟨h7, h8, h9, _⟩, h10⟩ := h
  refine ⟨h1.symm, h2.symm, h3.symm, h4.symm, h5.symm, h6.symm, fun _ => ⟨h7, h8, ?_, ?_⟩⟩
  · rcases h10 with ⟨a, _, c, _⟩ | ⟨a, b, c, d⟩
    · unfold itM
      simp only
      rw [if_neg (by omega)]
      exact a
    · unfold itM
      simp only
      rw [if_pos ⟨a, b⟩, a, c]
  · rcases h10 with ⟨_, b, _, _⟩ | ⟨a, b, c, d⟩
    · exact b
    · show y.q2 = x.q2
      rw [b, d]
theorem joined_same {m : Nat} {a b b' : UnD} (h : UnR (downR m) b b') : UnS true (a.behind b') (a.behind (unM m b)) := by
  refine ⟨(All2.same (dcS_refl true) _).app (h.1.map_to fun x y hx => ?_), (All2.same (bkS_refl true) _).app (h.2.map_to fun x y hx => ?_)⟩
  · obtain ⟨h1, h2, h3, h4, h5, _⟩ := hx
    exact ⟨h1.symm, h2.symm, h3.symm, fun _ => ⟨h4, h5⟩⟩
  · obtain ⟨h1, h2, h4, h5, _⟩ := hx
    exact ⟨h1.symm, h2.map_to fun p q hp => it_moved hp, fun _ => ⟨h4, h5⟩⟩
theorem take_succ_lfs {L : List UInt8} {s : ByteArray} (hL : Hid (s.data.toList = L)) {k : Nat} (hk : k < s.size) : lfs (L.take (k + 1)) = lfs (L.take k) + if s[k].toNat = 10 then 1 else 0 := by
  have h := hL.out
  subst h
  have hlt : k < s.data.toList.length := by rw [Array.length_toList]; exact hk
  rw [List.take_succ_eq_append_getElem hlt]
  unfold lfs
  rw [List.filter_append, List.length_append]
  congr 1
  have e : s.data.toList[k] = s[k] := rfl
  rw [e]
  by_cases hx : s[k].toNat = 10 <;> simp [List.filter_cons, hx]
theorem Chg.since {a b c : World} {P : Nat} (h1 : Chg [] a b) (h2 : Chg [P] b c) (hP : a.heap.size ≤ P) : Chg [] a c := h1.trans h2 (fun x hx => by rw [List.mem_singleton] at hx; subst hx; exact .inr hP)
theorem UnV.parts {w : World} {a b : Value} {u : UnD} (h : UnV w (.agg #[a, b]) u) : ∃ bs : List BkV, Lst dcC 5 w a u.decls ∧ Lst bkC 4 w b bs ∧ bs.map BkV.b = u.blocks ∧ ∀ x ∈ bs, Lst itC 10 w x.items x.b.items := by
  obtain ⟨a', b', bs, he, h1, h2, h3, h4⟩ := h
  cases he
  exact ⟨bs, h1, h2, h3, h4⟩
theorem c2_keep {S : List Nat} {a b : World} {p q : Addr} {v1 v2 : Value} (hc : Chg S a b) (hp : p.block ∉ S) (hq : q.block ∉ S) (h : a.cell? p = some v1 ∧ a.cell? q = some v2) : b.cell? p = some v1 ∧ b.cell? q = some v2 :=
  ⟨hc.cell h.1 hp, hc.cell h.2 hq⟩
theorem Hp.notin {S0 : List Nat} {w0 w : World} {e k n : Nat} {v : Value} {r : Option Nat} {xs : List Value} {I : List It} (h : Hp S0 w0 w (.row e k v r n xs :: I)) {p : Nat} (hp : p < w0.heap.size) : p ∉ r.toList := by
  intro hm
  cases r with
  | none => simp at hm
  | some g =>
    simp at hm
    subst hm
    have := h.lo _ (List.mem_cons_self ..) p rfl
    omega
theorem one_bkC {w : World} {bs : List BkV} (h : ∀ x ∈ bs, Lst itC 10 w x.items x.b.items) : ∀ u ∈ bs.flatMap bkC, u.oneCell' = true := by
  intro u hu
  obtain ⟨x, hx, hu⟩ := List.mem_flatMap.1 hu
  obtain ⟨_, _, e1, _⟩ := (h x hx).len
  simp only [bkC, List.mem_cons, List.not_mem_nil, or_false] at hu
  rcases hu with rfl | rfl | rfl | rfl
  · rfl
  · rw [e1]; rfl
  · rfl
  · rfl
end Go.AB
namespace Go.Proofs.YtmahcabidggmeaaGreatDoor
open Go.RowKit Go.AB
set_option linter.unusedSimpArgs false
set_option linter.unusedVariables false
set_option linter.unusedSectionVars false

theorem cp_unV {W : World} {u : UnD} {q : RQ} (hq : q.bks = u.blocks) (hp : ∀ x ∈ cpI u.decls q, x.ok W) : UnV W (.agg #[.slice q.a0 u.decls.length q.c0, .slice q.a1 q.bs.length q.c1]) u := by
  have h0 : (cpD u.decls q).ok W := hp _ (List.mem_cons_self ..)
  have h1 : (cpB q).ok W := hp _ (List.mem_cons_of_mem _ (List.mem_cons_self ..))
  refine ⟨_, _, q.bs.map fun x => ⟨x.b, x.v⟩, rfl, (Row.pre h0 (by omega) (flat_len dcC_len _)).view, ?_, by rw [← hq, List.map_map]; rfl, fun x hx => ?_⟩
  · have h1 := (Row.pre h1 (n := q.bs.length) (by omega) (flat_len blC_len _)).view
    have h2 : q.bs.flatMap blC = (q.bs.map fun x => (⟨x.b, x.v⟩ : BkV)).flatMap bkC := by rw [List.flatMap_map]; rfl
    rw [h2] at h1
    simpa [Lst] using h1
  · obtain ⟨y, hy, rfl⟩ := List.mem_map.1 hx
    have hm : itRowM y ∈ cpI u.decls q := by unfold cpI; simp only [List.mem_cons, List.mem_map]; exact .inr (.inr ⟨y, hy, rfl⟩)
    have hr : (itRowM y).ok W := hp _ hm
    exact (Row.pre hr (by omega) (flat_len itC_len _)).view
/-- A copy stays where older memory is written. -/
theorem CpH.later {w w' W : World} {v : Value} {u : UnD} (h : CpH w w' v u) {S : List Nat} (hc : Chg S w' W) (hS : ∀ x ∈ S, x < w.heap.size) : UnV W v u := by
  obtain ⟨q, hq, rfl, hp⟩ := h
  exact cp_unV hq fun x hx => It.keep (hp.ok x hx) hc (fun g hg hm => by have := hp.lo x hx g hg; have := hS g hm; omega)
theorem un_unV {W : World} {u : UnD} {q : RQ} (hq : q.bks = u.blocks) (hp : ∀ x ∈ unI u.decls q, x.ok W) : UnV W (.agg #[.slice q.a0 u.decls.length q.c0, .slice q.a1 q.bs.length q.c1]) u := by
  have h0 : (rsDecls u.decls q).ok W := hp _ (List.mem_cons_self ..)
  have h1 : (rsBlocks q).ok W := hp _ (List.mem_cons_of_mem _ (List.mem_cons_self ..))
  refine ⟨_, _, q.bs.map fun x => ⟨x.b, x.v⟩, rfl, Row.view h0, ?_, by rw [← hq, List.map_map]; rfl, fun x hx => ?_⟩
  · have h1 := Row.view h1
    have h2 : q.bs.flatMap blC = (q.bs.map fun x => (⟨x.b, x.v⟩ : BkV)).flatMap bkC := by rw [List.flatMap_map]; rfl
    rw [h2] at h1
    simpa [Lst] using h1
  · obtain ⟨y, hy, rfl⟩ := List.mem_map.1 hx
    have hm : itRow y ∈ unI u.decls q := by unfold unI; simp only [List.mem_cons, List.mem_map]; exact .inr (.inr ⟨y, hy, rfl⟩)
    exact Row.view (hp _ hm)
/-- What is read stays where older memory is written. -/
theorem UnH.later {w w' W : World} {v : Value} {u : UnD} (h : UnH w w' v u) {S : List Nat} (hc : Chg S w' W) (hS : ∀ x ∈ S, x < w.heap.size) : UnV W v u := by
  obtain ⟨q, hq, rfl, hp⟩ := h
  exact un_unV hq fun x hx => It.keep (hp.ok x hx) hc (fun g hg hm => by have := hp.lo x hx g hg; have := hS g hm; omega)
/-- What Unit answers, of any text. -/
def UnitQ (s : ByteArray) (w : World) (e : Ending) (w' : World) : Prop := ∃ ao n cap bo m cap2 fc fl fk, e = .returned (.tuple #[.agg #[.slice ao n cap, .slice bo m cap2], .agg #[.int .i64 fc, .int .i64 fl, .int .i64 fk]]) ∧ Chg [] w w' ∧
  ((∃ f, sourceD s.data.toList = .error f ∧ fc = f.code ∧ fl = f.l ∧ fk = f.c ∧ fc ≠ 0 ∧ ao = none ∧ n = 0 ∧ cap = 0 ∧ bo = none ∧ m = 0 ∧ cap2 = 0) ∨ (∃ u, sourceD s.data.toList = .ok u ∧ fc = 0 ∧ fl = 0 ∧ fk = 0 ∧ UnH w w' (.agg #[.slice ao n cap, .slice bo m cap2]) u ∧ SmallN u ∧ u.decls.length = n ∧ u.blocks.length = m))
theorem unit_any (s : ByteArray) (hs : s.size ≤ 1048576) (w : World) (hv : VarsP w) : Calls Tryz.prog 6 #[.string s] w (UnitQ s w) := by
  have hL : s.data.toList.length ≤ 1048576 := by rw [data_len]; exact hs
  refine (unit_calls s.data.toList hL w hv).mono ?_
  intro e w' h
  cases hd : sourceD s.data.toList with
  | error f =>
    rw [hd] at h
    obtain ⟨rfl, hc⟩ := h
    exact ⟨none, 0, 0, none, 0, 0, _, _, _, rfl, hc, .inl ⟨f, hd, rfl, rfl, rfl, source_err hd, rfl, rfl, rfl, rfl, rfl, rfl⟩⟩
  | ok u =>
    rw [hd] at h
    obtain ⟨v, rfl, hu⟩ := h
    have hv := hu
    have hsm := (source_unit hL hd).2.2
    obtain ⟨q, hq, rfl, hp⟩ := hu
    exact ⟨_, _, _, _, _, _, _, _, _, rfl, hp.chg, .inr ⟨u, hd, rfl, rfl, rfl, hv, hsm, rfl, by rw [← hq]; exact List.length_map ..⟩⟩
end Go.Proofs.YtmahcabidggmeaaGreatDoor

/- The law ParseJoins: its walk. -/
set_option linter.unusedVariables false
set_option linter.unusedSectionVars false
set_option linter.unusedSimpArgs false
namespace Go.Proofs.YtmahcabidggmeaaGreatDoor
open Go.RowKit Go.AB
set_option linter.unusedSimpArgs false
set_option linter.unusedVariables false
set_option linter.unusedSectionVars false

theorem ba_join (s1 s2 : ByteArray) : (s1 ++ (⟨#[10]⟩ : ByteArray) ++ s2).data.toList = s1.data.toList ++ 10 :: s2.data.toList := by simp
end Go.Proofs.YtmahcabidggmeaaGreatDoor
