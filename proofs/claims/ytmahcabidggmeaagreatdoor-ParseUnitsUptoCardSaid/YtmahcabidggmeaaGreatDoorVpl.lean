/- Walks of the parser: a text is read. (Printed by gen_punit.py.) -/
import Derived.Test.YtmahcabidggmeaaGreatDoorVpk
import Derived.Test.YtmahcabidggmeaaGreatDoorPk4
import Derived.Test.YtmahcabidggmeaaGreatDoorPk3
set_option linter.unusedVariables false
set_option linter.unusedSectionVars false
set_option linter.unusedSimpArgs false
namespace Go.AB
open Go.RowKit
theorem tok_text {d : List UInt8} {k : Nat} {t : List UInt8} {v : Int} {n : Nat} (h : act1 d = .tok k t v n) : t.length ≤ d.length := by
  cases d with
  | nil =>
    have h1 : act1 [] = .tok 7 [] 0 0 := rfl
    rw [h1] at h
    cases h
    exact Nat.le_refl _
  | cons c r =>
    obtain ⟨_, _, h3⟩ := act1_tokAt h
    unfold tokAt at h3
    simp only at h3
    split at h3
    · simp only [Prod.mk.injEq] at h3
      obtain ⟨_, _, ht, _, _⟩ := h3
      subst ht
      rw [List.length_take]
      exact Nat.min_le_right _ _
    · split at h3
      · split at h3
        · simp at h3
        · simp only [Prod.mk.injEq] at h3
          obtain ⟨_, _, ht, _, _⟩ := h3
          subst ht
          simp
      · repeat' split at h3
        all_goals (simp at h3; try (obtain ⟨_, ht, _⟩ := h3; subst ht; simp))
theorem lexed_facts {d : List UInt8} {p : Nat × Nat} {ts : List Tok} (h : Lexed d p ts) : End7 ts ∧ ∀ t ∈ ts, t.text.length ≤ d.length := by
  induction h with
  | stop p => exact ⟨⟨_, rfl, rfl⟩, fun t ht => by rw [List.mem_singleton] at ht; subst ht; simp⟩
  | pass _ _ ih => exact ⟨ih.1, fun t ht => by have := ih.2 t ht; rw [List.length_drop] at this; omega⟩
  | tok h hk _ ih =>
    refine ⟨?_, fun t ht => ?_⟩
    · obtain ⟨x, h1, h2⟩ := ih.1
      refine ⟨x, ?_, h2⟩
      rename_i us _
      cases us with
      | nil => cases h1
      | cons y us => rw [← h1]; simp [List.getLast?_cons_cons]
    · rcases List.mem_cons.1 ht with rfl | ht
      · exact tok_text h
      · have := ih.2 t ht; rw [List.length_drop] at this; omega
/-- What a text says. -/
def sourceD (L : List UInt8) : Except Flt UnD := if (scanD L 1 1).2.1 = 0 then unitT (scanD L 1 1).1 else .error ⟨(scanD L 1 1).2.1, (scanD L 1 1).2.2.1, (scanD L 1 1).2.2.2⟩
theorem source_ok {L : List UInt8} (h : (scanD L 1 1).2.1 = 0) : sourceD L = unitT (scanD L 1 1).1 := by unfold sourceD; rw [if_pos h]
theorem source_bad {L : List UInt8} (h : (scanD L 1 1).2.1 ≠ 0) : sourceD L = .error ⟨(scanD L 1 1).2.1, (scanD L 1 1).2.2.1, (scanD L 1 1).2.2.2⟩ := by unfold sourceD; rw [if_neg h]
theorem lines_next {fuel : Nat} {ts r : List Tok} {u v : UnD} {t : Tok} (h : lineD ts u = .ok (t :: r, v)) {D : Except Flt UnD} (hD : linesD (fuel + 1) ts u = D) : (t.kind = 6 → linesD fuel r v = D) ∧ (t.kind ≠ 6 → D = .ok v) := by
  subst hD
  constructor
  · intro hk
    conv => rhs; unfold linesD
    rw [h]
    simp only
    rw [if_pos hk]
  · intro hk
    unfold linesD
    rw [h]
    simp only
    rw [if_neg hk]
theorem labels_len : ∀ (n : Nat) (ts : List Tok), ts.length ≤ n → ∀ (bs : List BkD) (any : Bool) {ts' : List Tok} {bs' : List BkD} {any' : Bool}, labelsD ts bs any = .ok (ts', bs', any') → ts'.length ≤ ts.length
  | n, [], _, bs, any, ts', bs', any', h => by unfold labelsD at h; cases h; exact Nat.le_refl _
  | n, [t], _, bs, any, ts', bs', any', h => by unfold labelsD at h; cases h; exact Nat.le_refl _
  | 0, t :: c :: r, hn, bs, any, ts', bs', any', h => by simp at hn
  | n + 1, t :: c :: r, hn, bs, any, ts', bs', any', h => by
    unfold labelsD at h
    split at h
    · split at h
      · cases h
      · split at h
        · cases h
        · have := labels_len n r (by simp only [List.length_cons] at hn; omega) _ _ h
          simp only [List.length_cons]
          omega
    · cases h; exact Nat.le_refl _
theorem takeK_len {k : Nat} {ts : List Tok} {t : Tok} {r : List Tok} (h : takeK k ts = .ok (t, r)) : r.length ≤ ts.length := by
  obtain ⟨rfl, _⟩ := takeK_ok h
  simp
theorem nameT_len {ts : List Tok} {t : Tok} {r : List Tok} (h : nameT ts = .ok (t, r)) : r.length ≤ ts.length := by
  obtain ⟨rfl, _⟩ := nameT_ok h
  simp
theorem oper_len {c : UInt8} {k : Nat} {ts : List Tok} {x : ItD} {ts' : List Tok} {k' : Nat} {x' : ItD} (h : operD c k ts x = .ok (ts', k', x')) : ts'.length ≤ ts.length := by
  unfold operD at h
  split at h
  · split at h
    · cases h
    · split at h
      · cases h; simp
      · cases h
  · split at h
    · split at h
      · cases h
      · rename_i h2; cases h; exact takeK_len h2
    · split at h
      · cases h
      · rename_i h2; cases h; exact nameT_len h2
theorem opers_len : ∀ (f : List UInt8) (first : Bool) (k : Nat) (ts : List Tok) (x : ItD) {ts' : List Tok} {x' : ItD}, opersD f first k ts x = .ok (ts', x') → ts'.length ≤ ts.length
  | [], _, _, ts, x, ts', x', h => by cases h; exact Nat.le_refl _
  | c :: f, first, k, ts, x, ts', x', h => by
    rw [opers_cons] at h
    cases hc : commaD first ts with
    | error e => rw [hc] at h; cases h
    | ok ts2 =>
      rw [hc] at h
      simp only at h
      have h2 : ts2.length ≤ ts.length := by
        unfold commaD at hc
        split at hc
        · cases hc; exact Nat.le_refl _
        · cases ht : takeK 3 ts with
          | error e => rw [ht] at hc; cases hc
          | ok p => rw [ht] at hc; cases hc; exact takeK_len (t := p.1) (r := p.2) (by rw [ht])
      cases ho : operD c k ts2 x with
      | error e => rw [ho] at h; cases h
      | ok p =>
        obtain ⟨ts3, k3, x3⟩ := p
        rw [ho] at h
        simp only at h
        have := opers_len f false k3 ts3 x3 h
        have := oper_len ho
        omega
theorem instr_len {op : Nat} {ts ts' : List Tok} {bs bs' : List BkD} (h : instrD op ts bs = .ok (ts', bs')) : ts'.length ≤ ts.length := by
  cases ts with
  | nil => cases h
  | cons t r =>
    rw [show instrD op (t :: r) bs = if bs = [] then .error (fltAt 81 t) else match opersD (formAt op) true 0 r ⟨op, 0, 0, 0, 0, ⟨#[]⟩, t.line, t.col, 0, 0⟩ with
      | .error e => .error e
      | .ok (ts, x) => .ok (ts, putLast x bs) from rfl] at h
    split at h
    · cases h
    · split at h
      · cases h
      · rename_i h2
        cases h
        have := opers_len _ _ _ _ _ h2
        simp only [List.length_cons]
        omega
theorem value_len {kind : Nat} {ts ts' : List Tok} {v : Int} (h : valueD kind ts = .ok (v, ts')) : ts'.length ≤ ts.length := by
  unfold valueD at h
  split at h
  · split at h
    · cases h
    · rename_i h1
      split at h
      · cases h
      · rename_i h2
        cases h
        exact Nat.le_trans (takeK_len h2) (takeK_len h1)
  · cases h; exact Nat.le_refl _
theorem declG_len (kind : Nat) : ∀ (fuel : Nat) (ts : List Tok) (ds : List DcD) {ts' : List Tok} {ds' : List DcD}, declG kind fuel ts ds = .ok (ts', ds') → ts'.length ≤ ts.length
  | 0, ts, ds, ts', ds', h => by cases h; exact Nat.le_refl _
  | fuel + 1, ts, ds, ts', ds', h => by
    unfold declG at h
    split at h
    · cases h
    · rename_i h1
      split at h
      · cases h
      · rename_i h2
        have l1 := nameT_len h1
        have l2 := value_len h2
        split at h
        · split at h
          · have := declG_len kind fuel _ _ h
            simp only [List.length_cons] at *
            omega
          · cases h; omega
        · cases h; omega
theorem endD_len {ts ts' : List Tok} {u u' : UnD} (h : endD ts u = .ok (ts', u')) : ts'.length ≤ ts.length := by
  unfold endD at h
  split at h
  · cases h
  · split at h
    · cases h; exact Nat.le_refl _
    · cases h
theorem line_len {ts ts' : List Tok} {u u' : UnD} (h : lineD ts u = .ok (ts', u')) : ts'.length ≤ ts.length := by
  unfold lineD at h
  split at h
  · cases h
  · cases h
  · rename_i t r bs any hl
    have l1 := labels_len _ _ (Nat.le_refl _) _ _ hl
    simp only [List.length_cons] at l1
    split at h
    · cases h; simpa using l1
    · split at h
      · split at h
        · cases h
        · rename_i h2
          have := instr_len h2
          have := endD_len h
          simp only [List.length_cons] at *
          omega
      · split at h
        · cases h
        · split at h
          · split at h
            · cases h
            · rename_i h2
              have := nameT_len h2
              have := endD_len h
              omega
          · split at h
            · cases h
            · rename_i h2
              have := declG_len _ _ _ _ h2
              have := endD_len h
              omega
theorem lines_bad {fuel : Nat} {ts : List Tok} {u : UnD} {f : Flt} (h : lineD ts u = .error f) : linesD (fuel + 1) ts u = .error f := by unfold linesD; rw [h]
theorem lines_more {fuel : Nat} {ts : List Tok} {u v : UnD} {t : Tok} {r : List Tok} (h : lineD ts u = .ok (t :: r, v)) (hk : t.kind = 6) : linesD (fuel + 1) ts u = linesD fuel r v := by
  conv => lhs; unfold linesD
  rw [h]
  simp only
  rw [if_pos hk]
theorem lines_end {fuel : Nat} {ts : List Tok} {u v : UnD} {t : Tok} {r : List Tok} (h : lineD ts u = .ok (t :: r, v)) (hk : t.kind ≠ 6) : linesD (fuel + 1) ts u = .ok v := by
  unfold linesD
  rw [h]
  simp only
  rw [if_neg hk]
end Go.AB
namespace Go.Proofs.YtmahcabidggmeaaGreatDoor
open Go.RowKit Go.AB
set_option linter.unusedSimpArgs false
set_option linter.unusedVariables false
set_option linter.unusedSectionVars false

theorem run_assert_struct {P : Program} {w : World} {t x : TypeId} {fs : Array Field} (h : P.underlying t = some (.struct fs)) (v : Value) : (Instr.typeAssert (.iface t v) x t true).run P w = .ok (.tuple #[v, .bool true]) w := by
  simp [Instr.typeAssert, run_underlying h]
theorem set5 {u : World} {P : Nat} {a0 a1 b0 b1 b2 : Value} (h0 : u.heap[P]? = some (.cells #[a0, a1] 25 (0, 0))) (h1 : u.heap[P + 1]? = some (.cells #[b0, b1, b2] 30 (0, 0))) (v0 v1 w0 w1 w2 : Value) :
    (((((u.setCell ⟨P, 0, none⟩ (v0)).setCell ⟨P, 1, none⟩ (v1)).setCell ⟨P + 1, 0, none⟩ (w0)).setCell ⟨P + 1, 1, none⟩ (w1)).setCell ⟨P + 1, 2, none⟩ (w2)).heap[P]? = some (.cells #[v0, v1] 25 (0, 0)) ∧ (((((u.setCell ⟨P, 0, none⟩ (v0)).setCell ⟨P, 1, none⟩ (v1)).setCell ⟨P + 1, 0, none⟩ (w0)).setCell ⟨P + 1, 1, none⟩ (w1)).setCell ⟨P + 1, 2, none⟩ (w2)).heap[P + 1]? = some (.cells #[w0, w1, w2] 30 (0, 0)) ∧ Chg [P, P + 1] u (((((u.setCell ⟨P, 0, none⟩ (v0)).setCell ⟨P, 1, none⟩ (v1)).setCell ⟨P + 1, 0, none⟩ (w0)).setCell ⟨P + 1, 1, none⟩ (w1)).setCell ⟨P + 1, 2, none⟩ (w2)) := by
  refine ⟨?_, ?_, ?_⟩
  · rw [blk_set_other (by omega), blk_set_other (by omega), blk_set_other (by omega)]
    exact blk_set (blk_set h0 0 v0) 1 v1
  · have h2 : ((u.setCell ⟨P, 0, none⟩ v0).setCell ⟨P, 1, none⟩ v1).heap[P + 1]? = some (.cells #[b0, b1, b2] 30 (0, 0)) := by
      rw [blk_set_other (by omega), blk_set_other (by omega)]
      exact h1
    exact blk_set (blk_set (blk_set h2 0 w0) 1 w1) 2 w2
  · exact (((((Chg.refl [P, P + 1] u).setCell (p := ⟨P, 0, none⟩) (.inl (by simp)) v0).setCell (p := ⟨P, 1, none⟩) (.inl (by simp)) v1).setCell (p := ⟨P + 1, 0, none⟩) (.inl (by simp)) w0).setCell (p := ⟨P + 1, 1, none⟩) (.inl (by simp)) w1).setCell (p := ⟨P + 1, 2, none⟩) (.inl (by simp)) w2
/-- Behind the deferred call: no unit, and what was wrong. -/
def CaughtP (P : Nat) (f : Flt) (w w' : World) : Prop :=
  w'.heap[P]? = some (.cells #[.slice none 0 0, .slice none 0 0] 25 (0, 0)) ∧ w'.heap[P + 1]? = some (.cells #[.int .i64 f.code, .int .i64 f.l, .int .i64 f.c] 30 (0, 0)) ∧ Chg [P, P + 1] w w'
set_option maxHeartbeats 2000000 in
set_option maxRecDepth 100000 in
theorem catch_panicking (P : Nat) (f : Flt) (v0 v1 v5 v6 v7 : Value) (w : World) (h0 : w.heap[P]? = some (.cells #[v0, v1] 25 (0, 0))) (h1 : w.heap[P + 1]? = some (.cells #[v5, v6, v7] 30 (0, 0))) :
    CallsD Tryz.prog 19 #[.pointer (some ⟨P, 0, none⟩), .pointer (some ⟨P + 1, 0, none⟩)] (.panicking (wrongs f)) w fun e u' w' =>
      e = .returned (.tuple #[]) ∧ u' = .panicking [{ v := .iface 65 (.agg #[.int .i64 f.code, .int .i64 f.l, .int .i64 f.c]), recovered := true }] ∧ CaughtP P f w w' := by
  obtain ⟨c, l, k⟩ := f
  have hta := fun (W : World) (v : Value) => run_assert_struct (P := Tryz.prog) (w := W) (x := 20) (t := 65) (fs := Tryz.prog.fieldsOf 65) (by kernel_rfl) v
  have hP : P < w.heap.size := blk_lt h0
  have hP1 : P + 1 < w.heap.size := blk_lt h1
  have c0 : w.cell? ⟨P, 0, none⟩ = some v0 := blk_cell h0 0
  have c1 : w.cell? ⟨P, 1, none⟩ = some v1 := blk_cell h0 1
  have f0 := fun i => blk_free h0 i
  have d0 : w.cell? ⟨P + 1, 0, none⟩ = some v5 := blk_cell h1 0
  have d1 : w.cell? ⟨P + 1, 1, none⟩ = some v6 := blk_cell h1 1
  have d2 : w.cell? ⟨P + 1, 2, none⟩ = some v7 := blk_cell h1 2
  have g0 := fun i => blk_free h1 i
  refine callsD_of_wpS Tryz.func19 rfl fun c₀ cs hu => ?_
  apply wpS_seq
  apply wpS_region
  simp [wpOpsS, go_sem, recoverD, hu, wrongs, Tryz.ntmps19, Exit.thenS]
  refine wpS_of_wp ?_
  simp only [Array.size, Array.replicate, List.replicate, List.setIfInBounds_toArray, List.set_cons_zero, List.set_cons_succ, List.append_toArray, List.cons_append, List.nil_append]
  go_wp2
  go_region
  all_goals go_wp2
  have hcw := set5 h0 h1 (.slice none 0 0) (.slice none 0 0) (.int .i64 c) (.int .i64 l) (.int .i64 k)
  generalize (((((w.setCell ⟨P, 0, none⟩ (.slice none 0 0)).setCell ⟨P, 1, none⟩ (.slice none 0 0)).setCell ⟨P + 1, 0, none⟩ (.int .i64 c)).setCell ⟨P + 1, 1, none⟩ (.int .i64 l)).setCell ⟨P + 1, 2, none⟩ (.int .i64 k)) = W at hcw ⊢
  have hcw2 : ∀ o, CaughtP P ⟨c, l, k⟩ w (W.alloc o).drew := fun o => ⟨blk_alloc_old hcw.1 o, blk_alloc_old hcw.2.1 o, (hcw.2.2.alloc o).drew⟩
  exact ⟨rfl, _, rfl, .tuple #[], by simp [results, Tryz.results19], rfl, rfl, hcw2 _⟩
theorem catch_idle (P : Nat) (w : World) :
    CallsD Tryz.prog 19 #[.pointer (some ⟨P, 0, none⟩), .pointer (some ⟨P + 1, 0, none⟩)] .returning w fun e u' w' => e = .returned (.tuple #[]) ∧ u' = .returning ∧ w' = w := by
  refine callsD_of_wpS Tryz.func19 rfl fun c₀ cs hu => ?_
  apply wpS_seq
  apply wpS_region
  simp [wpOpsS, go_sem, recoverD, hu, Tryz.ntmps19, Exit.thenS]
  refine wpS_of_wp ?_
  simp only [Array.size, Array.replicate, List.replicate, List.setIfInBounds_toArray, List.set_cons_zero, List.set_cons_succ, List.append_toArray, List.cons_append, List.nil_append]
  go_wp2
  refine ⟨rfl, _, ?_, .tuple #[], by simp [results, Tryz.results19], rfl, rfl, rfl⟩
  cases c₀
  simp_all
theorem unit_results {P : Nat} {v0 v1 v5 v6 v7 : Value} {w : World} {tmps : Array Value} (h0 : w.heap[P]? = some (.cells #[v0, v1] 25 (0, 0))) (h1 : w.heap[P + 1]? = some (.cells #[v5, v6, v7] 30 (0, 0)))
    (t2 : tmps[2]?.getD undef = .pointer (some ⟨P, 0, none⟩)) (t3 : tmps[3]?.getD undef = .pointer (some ⟨P + 1, 0, none⟩)) :
    (results Tryz.f6 tmps).run Tryz.prog w = .ok (.tuple #[.agg #[v0, v1], .agg #[v5, v6, v7]]) w := by
  have c0 : w.cell? ⟨P, 0, none⟩ = some v0 := blk_cell h0 0
  have c1 : w.cell? ⟨P, 1, none⟩ = some v1 := blk_cell h0 1
  have d0 : w.cell? ⟨P + 1, 0, none⟩ = some v5 := blk_cell h1 0
  have d1 : w.cell? ⟨P + 1, 1, none⟩ = some v6 := blk_cell h1 1
  have d2 : w.cell? ⟨P + 1, 2, none⟩ = some v7 := blk_cell h1 2
  simp [results, Tryz.results6, go_sem, t2, t3, c0, c1, d0, d1, d2]
/-- A unit's lists, in memory of their own. -/
def unI (ds : List DcD) (q : RQ) : List It := rsDecls ds q :: rsBlocks q :: q.bs.map itRow
def UnH (w w' : World) (v : Value) (u : UnD) : Prop := ∃ q : RQ, q.bks = u.blocks ∧ v = .agg #[.slice q.a0 u.decls.length q.c0, .slice q.a1 q.bs.length q.c1] ∧ Hp [] w w' (unI u.decls q)
/-- What Unit answers. -/
def UnitP (w : World) (d : Except Flt UnD) (e : Ending) (w' : World) : Prop :=
  OutP (fun f e w' => e = .returned (.tuple #[.agg #[.slice none 0 0, .slice none 0 0], .agg #[.int .i64 f.code, .int .i64 f.l, .int .i64 f.c]]) ∧ Chg [] w w') d (fun u e w' => ∃ v, e = .returned (.tuple #[v, .agg #[.int .i64 0, .int .i64 0, .int .i64 0]]) ∧ UnH w w' v u) e w'
theorem un_done {w w3 wr W : World} {P b m : Nat} {ts : List Tok} {ds : List DcD} {q : RQ} {X : List It} (h : RS w3 wr b ts ds q m X) (hc : Chg [] w w3) (hP : w.heap.size ≤ P) (hP1 : P + 1 < w3.heap.size) (hs : Chg [P, P + 1] wr W) : Hp [] w W (unI ds q) := by
  have h1 : Hp [] w3 wr (unI ds q) := h.hp.sub (List.Sublist.trans (.cons _ (.refl _)) (List.sublist_append_left _ X))
  refine ⟨fun x hx => It.keep (h1.ok x hx) hs (fun g hg hm => by have := h1.lo x hx g hg; simp at hm; omega), fun x hx g hg => Nat.le_trans hc.size (h1.lo x hx g hg), h1.nd, (hc.trans' h1.chg).trans hs (fun x hx => .inr (by simp at hx; omega)), by simp⟩
theorem door_bad {w u : World} {P : Nat} {v0 v1 v5 v6 v7 : Value} {tmps : Array Value} {d : Except Flt UnD} {f : Flt} (h0 : u.heap[P]? = some (.cells #[v0, v1] 25 (0, 0))) (h1 : u.heap[P + 1]? = some (.cells #[v5, v6, v7] 30 (0, 0))) (hc : Chg [] w u) (hP : w.heap.size ≤ P) (hd : d = .error f)
    (t2 : tmps[2]?.getD undef = .pointer (some ⟨P, 0, none⟩)) (t3 : tmps[3]?.getD undef = .pointer (some ⟨P + 1, 0, none⟩)) :
    bodyPostD Tryz.prog Tryz.f6 (UnitP w d) (.panic (wrongs f)) { tmps := tmps, defers := [{ target := .fn (.func 19) #[.pointer (some ⟨P, 0, none⟩), .pointer (some ⟨P + 1, 0, none⟩)], args := #[] }] } u := by
  subst hd
  refine leaves_cons (f := 19) (args := #[.pointer (some ⟨P, 0, none⟩), .pointer (some ⟨P + 1, 0, none⟩)]) (by simp) (by simp [go_sem]) ?_
  refine (catch_panicking P f v0 v1 v5 v6 v7 u h0 h1).mono ?_
  rintro e u' w'' ⟨rfl, rfl, s1, s2, s3⟩
  exact ⟨_, unit_results s1 s2 t2 t3, rfl, hc.trans s3 (fun x hx => .inr (by simp at hx; omega))⟩
theorem door_good {w u : World} {P : Nat} {v0 v1 : Value} {tmps : Array Value} {d : Except Flt UnD} {x : UnD} (h0 : u.heap[P]? = some (.cells #[v0, v1] 25 (0, 0))) (h1 : u.heap[P + 1]? = some (.cells #[.int .i64 0, .int .i64 0, .int .i64 0] 30 (0, 0))) (hd : d = .ok x) (hv : UnH w u (.agg #[v0, v1]) x)
    (t2 : tmps[2]?.getD undef = .pointer (some ⟨P, 0, none⟩)) (t3 : tmps[3]?.getD undef = .pointer (some ⟨P + 1, 0, none⟩)) :
    bodyPostD Tryz.prog Tryz.f6 (UnitP w d) .ret { tmps := tmps, defers := [{ target := .fn (.func 19) #[.pointer (some ⟨P, 0, none⟩), .pointer (some ⟨P + 1, 0, none⟩)], args := #[] }] } u := by
  subst hd
  refine leaves_cons (f := 19) (args := #[.pointer (some ⟨P, 0, none⟩), .pointer (some ⟨P + 1, 0, none⟩)]) (by simp) (by simp [go_sem]) ?_
  refine (catch_idle P u).mono ?_
  rintro e u' w'' ⟨rfl, rfl, rfl⟩
  exact ⟨_, unit_results h0 h1 t2 t3, _, rfl, hv⟩
/-- A reader is made. -/
theorem RS.start {W : World} {ts : List Tok} {tb off tc : Nat} (ht : Lst tkC 5 W (.slice (some ⟨tb, off, none⟩) ts.length tc) ts) (he : End7 ts) (hl : ts.length ≤ 2097152) (hx : ∀ t ∈ ts, t.text.length ≤ 1048576) :
    RS W (W.alloc (.cells #[.slice (some ⟨tb, off, none⟩) ts.length tc, .slice none 0 0, .slice none 0 0] 69)) W.heap.size ts [] ⟨tb, off, tc, none, 0, none, none, 0, none, []⟩ ts.length [] := by
  have h1 := ((Hp.start (S0 := []) W (by simp)).box (.cells #[.slice (some ⟨tb, off, none⟩) ts.length tc, .slice none 0 0, .slice none 0 0] 69)).nil 50 4
  have h2 := h1.nil 47 5
  refine ⟨h2.perm ?_, ht, he, by simp, by simp, by simp, hl, hx⟩
  exact List.perm_middle (l₁ := [_, _])

set_option maxHeartbeats 8000000 in
set_option maxRecDepth 100000 in
theorem unit_calls (L : List UInt8) (hL : L.length ≤ 1048576) (w : World) (hv : VarsP w) : Calls Tryz.prog 6 #[.string (bA L)] w (UnitP w (sourceD L)) := by
  have hmf : ∀ (fn : Fn) (first cap : Array Value) (w : World), (Instr.makeFunc fn first cap).run Tryz.prog w = .ok (.func fn first cap) w := fun _ _ _ _ => rfl
  obtain ⟨wa, hwa⟩ : ∃ wa, ((w.alloc (.cells #[.slice none 0 0, .slice none 0 0] 25)).alloc (.cells #[.int .i64 0, .int .i64 0, .int .i64 0] 30)) = wa := ⟨_, rfl⟩
  have hca : Chg [] w wa := by rw [← hwa]; exact ((Chg.refl [] w).alloc _).alloc _
  have hPb : wa.heap[w.heap.size]? = some (.cells #[.slice none 0 0, .slice none 0 0] 25 (0, 0)) := by rw [← hwa]; exact blk_alloc_old (heap_alloc_new w _) _
  have hFb : wa.heap[w.heap.size + 1]? = some (.cells #[.int .i64 0, .int .i64 0, .int .i64 0] 30 (0, 0)) := by
    rw [← hwa]
    have h := heap_alloc_new (w.alloc (.cells #[.slice none 0 0, .slice none 0 0] 25)) (.cells #[.int .i64 0, .int .i64 0, .int .i64 0] 30)
    simpa only [World.size_alloc] using h
  have hT := tokens_calls (s := bA L) wa (by rw [bA_size]; exact hL) L (hid rfl)
  obtain ⟨D, hD⟩ : ∃ D, sourceD L = D := ⟨_, rfl⟩
  rw [hD]
  obtain ⟨P, hP⟩ : ∃ P, w.heap.size = P := ⟨_, rfl⟩
  have HPF := hid (And.intro hPb hFb)
  have HT := hid hT
  have HC := hid hca
  have HV := hid (hv.keep hca)
  have HP := hid hP
  have HL := hid hL
  clear hPb hFb hT hca hv hP hL
  by_cases hz : (scanD L 1 1).2.1 = 0
  · rw [source_ok hz] at hD
    have hlx := lexed_of_scan (L.length + 1) L (1, 1) (by omega) hz
    have hll := scanD_len L 1 1
    have hfx := lexed_facts hlx
    have htk : tokensB L = ((scanD L 1 1).1, (0, 0, 0)) := by unfold tokensB; rw [if_pos hz]
    rw [htk] at HT
    obtain ⟨ts, hts⟩ : ∃ ts, (scanD L 1 1).1 = ts := ⟨_, rfl⟩
    rw [hts] at HT hD hll
    simp only at hfx
    rw [hts] at hfx
    have HD := hid hD
    have HFX := hid (And.intro hfx.1 (And.intro (fun t ht => Nat.le_trans (hfx.2 t ht) HL.out) (show ts.length ≤ 2097152 by have := HL.out; omega)))
    clear hD htk hz hlx hll hfx hts
    go_enter_defers Tryz.func6, Tryz.ntmps6
    go_wp2_with (go_at_call 18; refine halt (fun X hX => ?_))
    rw [hX.out]; clear hX
    have hPF := HPF.out
    rw [HP.out] at hPF ⊢
    refine HT.out.mono ?_
    rintro e w2 ⟨ts', ao, cap, rr, rfl, hrow, hfr, hc2, hts⟩
    obtain rfl : ts' = ts := hts.out
    have h0 := hc2.heap hPF.1 (by simp)
    have h1 := hc2.heap hPF.2 (by simp)
    obtain ⟨g, rfl⟩ : ∃ g, ao = some ⟨g, 0, none⟩ := by
      rcases hrow.form with ⟨_, hn, _⟩ | ⟨g, cap', cur, hv, _⟩
      · exact absurd (List.eq_nil_of_length_eq_zero hn) HFX.out.1.ne
      · simp only [Value.slice.injEq] at hv
        exact ⟨g, hv.1⟩
    have hls : Lst tkC 5 w2 (.slice (some ⟨g, 0, none⟩) ts'.length cap) ts' := hrow.view
    have HLS := hid hls
    have HS := hid (And.intro h0 (And.intro h1 hc2))
    have hrs := RS.start (W := w2.alloc (.cells #[.int .i64 0, .int .i64 0, .int .i64 0] 30)) (HLS.out.keep ((Chg.refl [] w2).alloc _)) HFX.out.1 HFX.out.2.2 HFX.out.2.1
    rw [show (w2.alloc (.cells #[.int .i64 0, .int .i64 0, .int .i64 0] 30)).heap.size = w2.heap.size + 1 from by simp] at hrs
    have hc3 : Chg [] w2 (w2.alloc (.cells #[.int .i64 0, .int .i64 0, .int .i64 0] 30)) := (Chg.refl [] w2).alloc _
    have H3 := hid (And.intro hrs hc3)
    have hv3 := (HV.out.keep hc2).keep hc3
    have hsz3 : w2.heap.size < (w2.alloc (.cells #[.int .i64 0, .int .i64 0, .int .i64 0] 30)).heap.size := by simp
    clear h0 h1 hc2 hPF hls hrow hfr hts HT hrs hc3
    go_upto_region 6 with fail
    generalize w2.alloc (.cells #[.int .i64 0, .int .i64 0, .int .i64 0] 30) = w3 at H3 hv3 hsz3 ⊢
    obtain ⟨b, hb⟩ : ∃ b, w2.heap.size + 1 = b := ⟨_, rfl⟩
    rw [hb] at H3 ⊢
    generalize w3.alloc (.cells #[.slice (some ⟨g, 0, none⟩) ts'.length cap, .slice none 0 0, .slice none 0 0] 69) = w4 at H3 ⊢
    have HZ : Hid (w.heap.size ≤ P ∧ P + 1 < w3.heap.size ∧ Chg [] w w3 ∧ w3.heap[P]? = some (.cells #[.slice none 0 0, .slice none 0 0] 25 (0, 0)) ∧ w3.heap[P + 1]? = some (.cells #[.int .i64 0, .int .i64 0, .int .i64 0] 30 (0, 0))) := hid (by
      obtain ⟨h0, h1, hc2⟩ := HS.out
      have := blk_lt h1
      exact ⟨by have := HP.out; omega, by omega, (HC.out.trans' hc2).trans' H3.out.2, H3.out.2.heap h0 (by simp), H3.out.2.heap h1 (by simp)⟩)
    have HV3 := hid hv3
    have HDD : Hid (linesD ts'.length ts' ⟨[], []⟩ = D) := HD
    have HR4 := hid H3.out.1
    have HLN := hid (line_calls H3.out.1 hv3)
    have HSM := hid HFX.out.2.2
    clear hb hsz3 hv3 H3 HS HLS HD HC HV
    obtain ⟨f0, hf0⟩ : ∃ f0, ts'.length = f0 + 1 := ⟨ts'.length - 1, by have := List.length_pos_iff.2 HFX.out.1.ne; omega⟩
    cases hl : lineD ts' ⟨[], []⟩ with
    | error f =>
      have HLN2 := hid (show Calls _ _ _ _ (LineP w3 b _ [] (.error f)) from by have h := HLN.out; rw [show RQ.bks _ = [] from rfl, hl] at h; exact h)
      have HDE : Hid (D = .error f) := hid (by rw [← HDD.out, hf0]; exact lines_bad hl)
      clear hl
      go_wp2_with (go_at_call 20; refine HLN2.out.mono ?_; rintro e w5 ⟨rfl, hc5⟩)
      exact door_bad (hc5.heap HZ.out.2.2.2.1 (by simp)) (hc5.heap HZ.out.2.2.2.2 (by simp)) (HZ.out.2.2.1.trans' hc5) HZ.out.1 HDE.out rfl rfl
    | ok p =>
      obtain ⟨ts1, v1⟩ := p
      have HLN2 := hid (show Calls _ _ _ _ (LineP w3 b _ [] (.ok (ts1, v1))) from by have h := HLN.out; rw [show RQ.bks _ = [] from rfl, hl] at h; exact h)
      have HL1 := hid hl
      clear hl
      go_wp2_with (go_at_call 20; refine HLN2.out.mono ?_; rintro e w5 ⟨rfl, q1, hq1, h5⟩)
      have H5 := hid (And.intro hq1 h5)
      clear hq1 h5
      go_loopg [] ts'.length (fun gk wr => ∃ (fuel : Nat) (t : Tok) (r : List Tok) (v : UnD) (q' : RQ) (m' : Nat), Hid (r.length ≤ gk) ∧ Hid (r.length ≤ fuel ∧ (t.kind = 6 → linesD fuel r v = D) ∧ (t.kind ≠ 6 → D = .ok v) ∧ q'.bks = v.blocks) ∧ Hid (RS w3 wr b (t :: r) v.decls q' m' []))
      case atStart =>
        obtain ⟨hq1, h5⟩ := H5.out
        obtain ⟨t, r, hts1⟩ := h5.cons
        have hts2 : ts1 = t :: r := hts1
        subst hts2
        have h5 : RS w3 _ b (t :: r) v1.decls q1 _ [] := h5
        have hld := h5.ld
        simp only [List.length_cons] at hld
        have hnx := lines_next (fuel := f0) HL1.out (D := D) (by rw [← HDD.out, hf0])
        exact ⟨f0, t, r, v1, q1, _, hid (by omega), hid ⟨by omega, hnx.1, hnx.2, hq1⟩, hid h5⟩
      case round =>
        obtain ⟨fuel, t, r, v, q', m', HGK, HI, HR⟩ := hrel
        have HHR := hid (here_calls HR.out)
        have hf0' := field_kind t
        have HSR := hid fun W (hc : Chg [] wr W) => HR.out.same hc
        by_cases hk : t.kind = 6
        · have e6 : ((t.kind : Int) == 6) = true := by simp; omega
          have HK := hid hk
          have HDN := hid (HI.out.2.1 hk)
          obtain ⟨c, r2, hr2⟩ := HR.out.e7.two (by omega)
          subst hr2
          obtain ⟨f1, hf1⟩ : ∃ f1, fuel = f1 + 1 := ⟨fuel - 1, by have := HI.out.1; simp only [List.length_cons] at this; omega⟩
          clear hk
          go_wp2_with (first
            | (go_at_call 21; refine HHR.out.mono ?_; rintro e w6 ⟨rfl, hc6⟩)
            | (go_at_call 22; refine (take_ok (HSR.out _ hc6) 6 (by have := HK.out; omega) (by have := HK.out; omega)).mono ?_; rintro e w7 ⟨rfl, h7, hm7⟩; refine halt (fun X hX => ?_)))
          have HLN3 := hid (line_calls h7 HV3.out)
          rw [RQ.next_bks, HI.out.2.2.2] at HLN3
          have HM7 := hid hm7
          cases hl2 : lineD (c :: r2) ⟨v.decls, v.blocks⟩ with
          | error f =>
            rw [hl2] at HLN3
            have HDE : Hid (D = .error f) := hid (by rw [← HDN.out, hf1]; exact lines_bad hl2)
            clear hl2 h7
            rw [hX.out]; clear hX
            go_wp2_with (go_at_call 20; refine HLN3.out.mono ?_; rintro e w8 ⟨rfl, hc8⟩)
            exact door_bad (hc8.heap HZ.out.2.2.2.1 (by simp)) (hc8.heap HZ.out.2.2.2.2 (by simp)) (HZ.out.2.2.1.trans' hc8) HZ.out.1 HDE.out rfl rfl
          | ok p3 =>
            obtain ⟨ts3, v3⟩ := p3
            rw [hl2] at HLN3
            have HNX := hid fun t3 r3 (e : ts3 = t3 :: r3) => lines_next (fuel := f1) (t := t3) (r := r3) (v := v3) (hl2.trans (by rw [e])) (hf1 ▸ HDN.out)
            have HLL := hid (line_len hl2)
            clear hl2 h7
            rw [hX.out]; clear hX
            go_wp2_with (go_at_call 20; refine HLN3.out.mono ?_; rintro e w8 ⟨rfl, q3, hq3, h8⟩)
            obtain ⟨t3, r3, hts3⟩ := h8.cons
            have hts4 : ts3 = t3 :: r3 := hts3
            subst hts4
            have h8 : RS w3 _ b (t3 :: r3) v3.decls q3 _ [] := h8
            have HQ3 := hid (And.intro hq3 h8)
            have hll := HLL.out
            simp only [List.length_cons] at hll
            have hgk := HGK.out
            simp only [List.length_cons] at hgk
            have HX := hid (HNX.out t3 r3 rfl)
            clear hq3 h8
            go_roundg r3.length
            case measure => omega
            case rel => exact ⟨f1, t3, r3, v3, q3, _, hid (Nat.le_refl _), hid ⟨by have := HI.out.1; simp only [List.length_cons] at this; omega, HX.out.1, HX.out.2, HQ3.out.1⟩, hid HQ3.out.2⟩
        · have e6 : ((t.kind : Int) == 6) = false := by simp; omega
          have HDE := hid (HI.out.2.2.1 hk)
          clear hk
          go_wp2_with (go_at_call 21; refine HHR.out.mono ?_; rintro e w6 ⟨rfl, hc6⟩; refine halt (fun X hX => ?_))
          have h6 := HR.out.same hc6
          have r1 := h6.c1
          have r2 := h6.c2
          have hw6 := h6.hp.chg
          have h0 := hw6.heap HZ.out.2.2.2.1 (by simp)
          have h1 := hw6.heap HZ.out.2.2.2.2 (by simp)
          have c0 : w6.cell? ⟨P, 0, none⟩ = some (.slice none 0 0) := blk_cell h0 0
          have c1 : w6.cell? ⟨P, 1, none⟩ = some (.slice none 0 0) := blk_cell h0 1
          have cf : ∀ i, w6.frozen? ⟨P, i, none⟩ = false := fun i => blk_free h0 i
          have d0 : w6.cell? ⟨P + 1, 0, none⟩ = some (.int .i64 0) := blk_cell h1 0
          have d1 : w6.cell? ⟨P + 1, 1, none⟩ = some (.int .i64 0) := blk_cell h1 1
          have d2 : w6.cell? ⟨P + 1, 2, none⟩ = some (.int .i64 0) := blk_cell h1 2
          have df : ∀ i, w6.frozen? ⟨P + 1, i, none⟩ = false := fun i => blk_free h1 i
          obtain ⟨n1, hn1⟩ : ∃ n1, v.decls.length = n1 := ⟨_, rfl⟩
          obtain ⟨n2, hn2⟩ : ∃ n2, q'.bs.length = n2 := ⟨_, rfl⟩
          rw [hn1] at r1
          rw [hn2] at r2
          have HS6 := hid (And.intro h0 (And.intro h1 (And.intro h6 (And.intro hn1 hn2))))
          clear h0 h1 h6 hw6 hn1 hn2
          rw [hX.out]; clear hX
          go_wp2
          obtain ⟨h0, h1, h6, hn1, hn2⟩ := HS6.out
          obtain ⟨s1, s2, s3⟩ := set5 h0 h1 (.slice q'.a0 n1 q'.c0) (.slice q'.a1 n2 q'.c1) (.int .i64 0) (.int .i64 0) (.int .i64 0)
          generalize (((((w6.setCell ⟨P, 0, none⟩ (.slice q'.a0 n1 q'.c0)).setCell ⟨P, 1, none⟩ (.slice q'.a1 n2 q'.c1)).setCell ⟨P + 1, 0, none⟩ (.int .i64 0)).setCell ⟨P + 1, 1, none⟩ (.int .i64 0)).setCell ⟨P + 1, 2, none⟩ (.int .i64 0)) = W at s1 s2 s3 ⊢
          refine door_good s1 s2 HDE.out ⟨q', HI.out.2.2.2, by rw [hn1, hn2], ?_⟩ rfl rfl
          exact un_done h6 HZ.out.2.2.1 HZ.out.1 HZ.out.2.1 s3
  · rw [source_bad hz] at hD
    have HD := hid hD
    have htk : tokensB L = ([], (scanD L 1 1).2) := by unfold tokensB; rw [if_neg hz]
    rw [htk] at HT
    obtain ⟨p0, p1, p2, hp⟩ : ∃ p0 p1 p2, (scanD L 1 1).2 = (p0, p1, p2) := ⟨_, _, _, rfl⟩
    rw [hp] at HT HD hz
    have g1 : ((p0 : Int) == 0) = false := by simp; simp only at hz; omega
    clear hD htk hp hz
    go_enter_defers Tryz.func6, Tryz.ntmps6
    go_wp2_with (go_at_call 18; refine halt (fun X hX => ?_))
    rw [hX.out]; clear hX
    have hPF := HPF.out
    rw [HP.out] at hPF ⊢
    refine HT.out.mono ?_
    rintro e w2 ⟨ts, ao, cap, r, rfl, _, _, hc2, _⟩
    have h0 := hc2.heap hPF.1 (by simp)
    have h1 := hc2.heap hPF.2 (by simp)
    have c0 : w2.cell? ⟨P, 0, none⟩ = some (.slice none 0 0) := blk_cell h0 0
    have c1 : w2.cell? ⟨P, 1, none⟩ = some (.slice none 0 0) := blk_cell h0 1
    have cf : ∀ i, w2.frozen? ⟨P, i, none⟩ = false := fun i => blk_free h0 i
    have d0 : w2.cell? ⟨P + 1, 0, none⟩ = some (.int .i64 0) := blk_cell h1 0
    have d1 : w2.cell? ⟨P + 1, 1, none⟩ = some (.int .i64 0) := blk_cell h1 1
    have d2 : w2.cell? ⟨P + 1, 2, none⟩ = some (.int .i64 0) := blk_cell h1 2
    have df : ∀ i, w2.frozen? ⟨P + 1, i, none⟩ = false := fun i => blk_free h1 i
    have hP1 := blk_lt h1
    have hP2 : P < w2.heap.size := by omega
    have n1 : P ≠ w2.heap.size := by omega
    have n2 : P + 1 ≠ w2.heap.size := by omega
    have n3 : w2.heap.size ≠ P := by omega
    have n4 : w2.heap.size ≠ P + 1 := by omega
    have HS := hid (And.intro h0 (And.intro h1 hc2))
    clear h0 h1 hc2 hPF
    go_wp2
    go_region
    all_goals go_wp2
    all_goals
      obtain ⟨h0, h1, hc2⟩ := HS.out
      obtain ⟨s1, s2, s3⟩ := set5 h0 h1 (.slice none 0 0) (.slice none 0 0) (.int .i64 p0) (.int .i64 p1) (.int .i64 p2)
      generalize ((((((w2.setCell ⟨P, 0, none⟩ (.slice none 0 0)).setCell ⟨P, 1, none⟩ (.slice none 0 0)).setCell ⟨P + 1, 0, none⟩ (.int .i64 p0)).setCell ⟨P + 1, 1, none⟩ (.int .i64 p1)).setCell ⟨P + 1, 2, none⟩ (.int .i64 p2))) = W at s1 s2 s3 ⊢
      have hd := HD.out
      subst hd
      refine ⟨_, unit_results (blk_alloc_old (o' := _) s1 _) (blk_alloc_old s2 _) rfl rfl, rfl, ?_⟩
      have hp := HP.out
      exact (((HC.out.trans' hc2).trans s3 (fun x hx => .inr (by simp at hx; omega))).alloc _).drew
end Go.Proofs.YtmahcabidggmeaaGreatDoor
