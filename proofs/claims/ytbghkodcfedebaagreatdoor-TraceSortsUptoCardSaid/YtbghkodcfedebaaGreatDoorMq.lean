/- Maps by their entries, in the order of their making; a range over one. No program in sight. -/
import Derived.Test.YtbghkodcfedebaaGreatDoorMp
import Derived.Maps.RangeRun
set_option linter.unusedVariables false
set_option linter.unusedSectionVars false
set_option linter.unusedSimpArgs false
namespace Go.AB
open Go.RowKit
/-- Block b is a map from whole numbers: its entries in the order in which they were laid. -/
structure MapE (es : Array MapEntry) (clock : Nat) (l : List (Int × Value)) : Prop where
  kv : es.toList.map (fun e => (e.key, e.val)) = l.map (fun p => (Value.int .i64 p.1, p.2))
  lt : ∀ x ∈ es.toList, x.born < clock
  nd : (es.toList.map (·.born)).Nodup
  kn : (l.map Prod.fst).Nodup
def MapG (w : World) (b : Nat) (l : List (Int × Value)) : Prop := ∃ es clock, w.heap[b]? = some (.map es clock) ∧ MapE es clock l
section
variable {w w' : World} {b : Nat} {l : List (Int × Value)} {P : Program} {k : TypeId}
theorem setB_same {r : Nat} {o : Obj} (h : w.heap[r]? = some o) (o' : Obj) : (ChangeMaps.setBlock w r o').heap[r]? = some o' := by
  have hr : r < w.heap.size := (Array.getElem?_eq_some_iff.1 h).1
  simp [ChangeMaps.setBlock, hr]
theorem setB_other {r i : Nat} (o' : Obj) (h : i ≠ r) : (ChangeMaps.setBlock w r o').heap[i]? = w.heap[i]? := by
  simp [ChangeMaps.setBlock, Array.getElem?_setIfInBounds_ne (Ne.symm h)]
theorem MapG.toF (h : MapG w b l) : MapF w b (Value.int .i64) (lookK l) := by
  obtain ⟨es, c, h1, h2⟩ := h
  exact ⟨es, c, h1, l, h2.kv, fun _ => rfl⟩
theorem MapG.keep (h : MapG w b l) {S : List Nat} (hc : Chg S w w') (hb : b ∉ S) : MapG w' b l := by
  obtain ⟨es, c, h1, h2⟩ := h
  exact ⟨es, c, hc.heap h1 hb, h2⟩
theorem MapG.made (w : World) : MapG (w.alloc (.map #[] 0)) w.heap.size [] := ⟨#[], 0, heap_alloc_new w _, ⟨rfl, by simp, by simp, by simp⟩⟩
theorem MapG.look (h : MapG w b l) {p : Int × Value} (hp : p ∈ l) : lookK l p.1 = some p.2 := by
  obtain ⟨es, c, h1, h2⟩ := h
  have hn := h2.kn
  clear h1 h2
  induction l with
  | nil => cases hp
  | cons q l ih =>
    rw [List.map_cons, List.nodup_cons] at hn
    rcases List.mem_cons.1 hp with rfl | hp
    · simp [lookK]
    · have hne : q.1 ≠ p.1 := fun e => hn.1 (by rw [e]; exact List.mem_map.2 ⟨p, hp, rfl⟩)
      have h3 := ih hp hn.2
      unfold lookK at h3 ⊢
      rw [List.find?_cons]
      simp only [hne, decide_false]
      exact h3
/-- What a store makes of the entries. -/
def updG (l : List (Int × Value)) (a : Int) (v : Value) : List (Int × Value) := match idxK l a with
  | some j => l.set j (a, v)
  | none => l ++ [(a, v)]
theorem updG_old {a : Int} {v : Value} {j : Nat} (h : idxK l a = some j) : updG l a v = l.set j (a, v) := by unfold updG; rw [h]
theorem updG_new {a : Int} {v : Value} (h : idxK l a = none) : updG l a v = l ++ [(a, v)] := by unfold updG; rw [h]
theorem idx_none {a : Int} (h : idxK l a = none) : a ∉ l.map Prod.fst := by
  unfold idxK at h
  rw [List.findIdx?_eq_none_iff] at h
  intro hm
  obtain ⟨p, hp, he⟩ := List.mem_map.1 hm
  have := h p hp
  simp [he] at this
theorem MapG.update (h : MapG w b l) (K : KeyOk P k Int (Value.int .i64)) {t e : TypeId} (ht : P.underlying t = some (.map k e)) (a : Int) (v : Value) :
    ∃ w', (Instr.mapUpdate t (.map (some b)) (.int .i64 a) v).run P w = .ok () w' ∧ MapG w' b (updG l a v) ∧ Chg [b] w w' := by
  obtain ⟨es, c, h1, hE⟩ := h
  have hf := run_findKey_at K a hE.kv w
  have hc := K.chk false a w
  have hgrow : ∀ o, Chg [b] w (ChangeMaps.setBlock w b o) := fun o => ⟨rfl, rfl, rfl, by simp [ChangeMaps.setBlock], fun i _ hi => ChangeMaps.heap_setBlock_other h1 _ (fun e => hi (by simp [e]))⟩
  have hlen : es.toList.length = l.length := by have := congrArg List.length hE.kv; simpa using this
  rcases idx_look l a with ⟨h4, h5⟩ | ⟨j, u, h4, h5⟩
  · rw [h4, h5] at hf
    refine ⟨ChangeMaps.setBlock w b (.map (es.push { key := .int .i64 a, val := v, born := c }) (c + 1)), ?_, ⟨_, _, ChangeMaps.heap_setBlock_same h1 _, ⟨?_, ?_, ?_, ?_⟩⟩, hgrow _⟩
    · simp [Instr.mapUpdate, run_underlying ht, MapKept.run_getObj_map h1, hc, hf, MapKept.run_setObj_map _ h1, ChangeMaps.setBlock]
    · rw [updG_new h4]
      simp [hE.kv]
    · intro x hx
      simp only [Array.toList_push, List.mem_append, List.mem_singleton] at hx
      rcases hx with hx | rfl
      · have := hE.lt x hx; omega
      · simp
    · simp only [Array.toList_push, List.map_append, List.map_cons, List.map_nil]
      rw [List.nodup_append]
      refine ⟨hE.nd, by simp, fun x hx y hy => ?_⟩
      obtain ⟨z, hz, rfl⟩ := List.mem_map.1 hx
      simp only [List.mem_singleton] at hy
      have := hE.lt z hz
      omega
    · rw [updG_new h4, List.map_append, List.nodup_append]
      refine ⟨hE.kn, by simp, fun x hx y hy e => ?_⟩
      simp only [List.map_cons, List.map_nil, List.mem_singleton] at hy
      subst hy e
      exact idx_none h4 hx
  · rw [h4, h5] at hf
    obtain ⟨hj, hja⟩ := idx_lt l a j h4
    have hje : j < es.size := by have : es.size = l.length := by simpa using hlen
                                 omega
    have hkey : es[j].key = .int .i64 a := by
      have := congrArg (fun L => L[j]?) hE.kv
      simp [hj, hje, hja] at this
      exact this.1
    have hst : ∀ w0 : World, (Instr.keyThatStays (.int .i64 a) (.int .i64 a)).run P w0 = .ok (.int .i64 a) w0 := fun w0 => by simp [Instr.keyThatStays, K.bit a]
    have hborn : (es.modify j fun e => { e with key := .int .i64 a, val := v }).toList.map (·.born) = es.toList.map (·.born) := by
      apply List.ext_getElem
      · simp
      · intro i g1 g2
        have hie : i < es.size := by simpa using g2
        by_cases hij : j = i
        · subst hij
          simp [Array.getElem_modify]
        · simp [Array.getElem_modify, hij]
    refine ⟨ChangeMaps.setBlock w b (.map (es.modify j fun e => { e with key := .int .i64 a, val := v }) c), ?_, ⟨_, _, ChangeMaps.heap_setBlock_same h1 _, ⟨?_, ?_, ?_, ?_⟩⟩, hgrow _⟩
    · simp [Instr.mapUpdate, run_underlying ht, MapKept.run_getObj_map h1, hc, hf, hje, hkey, hst, MapKept.run_setObj_map _ h1, ChangeMaps.setBlock]
    · rw [updG_old h4]
      apply List.ext_getElem
      · simpa using hlen
      · intro i g1 g2
        have := congrArg (fun L => L[i]?) hE.kv
        have hi : i < l.length := by simpa using g2
        have hie : i < es.size := by have : es.size = l.length := by simpa using hlen
                                     omega
        simp [hi, hie] at this
        by_cases hij : j = i
        · subst hij
          simp [Array.getElem_modify]
        · simp [Array.getElem_modify, hij, List.getElem_set_ne, this]
    · intro x hx
      have hb : x.born ∈ es.toList.map (·.born) := by rw [← hborn]; exact List.mem_map.2 ⟨x, hx, rfl⟩
      obtain ⟨y, hy, he⟩ := List.mem_map.1 hb
      rw [← he]
      exact hE.lt y hy
    · rw [hborn]; exact hE.nd
    · rw [updG_old h4, List.map_set, show (a, v).1 = (l.map Prod.fst)[j]'(by simpa using hj) from by simp [hja], List.set_getElem_self]
      exact hE.kn
theorem born_inj {es : List MapEntry} (h : (es.map (·.born)).Nodup) {x y : MapEntry} (hx : x ∈ es) (hy : y ∈ es) (he : x.born = y.born) : x = y := by
  obtain ⟨i, hi, rfl⟩ := List.getElem_of_mem hx
  obtain ⟨j, hj, rfl⟩ := List.getElem_of_mem hy
  have h1 := List.pairwise_iff_getElem.1 h
  rcases Nat.lt_trichotomy i j with h2 | h2 | h2
  · exact absurd (by rw [List.getElem_map, List.getElem_map]; exact he) (h1 i j (by simpa using hi) (by simpa using hj) h2)
  · subst h2; rfl
  · exact absurd (by rw [List.getElem_map, List.getElem_map]; exact he.symm) (h1 j i (by simpa using hj) (by simpa using hi) h2)
theorem key_inj {es : Array MapEntry} {clock : Nat} (h : MapE es clock l) {x y : MapEntry} (hx : x ∈ es.toList) (hy : y ∈ es.toList) (he : x.key = y.key) : x = y := by
  obtain ⟨i, hi, rfl⟩ := List.getElem_of_mem hx
  obtain ⟨j, hj, rfl⟩ := List.getElem_of_mem hy
  have hlen : es.toList.length = l.length := by have := congrArg List.length h.kv; simpa using this
  have hk : ∀ i (hi : i < es.toList.length), es.toList[i].key = .int .i64 (l[i]'(by omega)).1 := fun i hi => by
    have h1 := congrArg (fun L => L[i]?) h.kv
    have h2 : i < l.length := by omega
    have h3 : i < es.size := by simpa using hi
    simp [h2, h3] at h1
    simpa using h1.1
  rw [hk i hi, hk j hj] at he
  simp only [Value.int.injEq, true_and] at he
  have h1 := List.pairwise_iff_getElem.1 h.kn
  have h2 : i = j := by
    rcases Nat.lt_trichotomy i j with h2 | h2 | h2
    · exact absurd (by rw [List.getElem_map, List.getElem_map]; exact he) (h1 i j (by simp; omega) (by simp; omega) h2)
    · exact h2
    · exact absurd (by rw [List.getElem_map, List.getElem_map]; exact he.symm) (h1 j i (by simp; omega) (by simp; omega) h2)
  subst h2
  rfl
/-- A range over the map, under way: C has been told. -/
def ItG (w : World) (b r : Nat) (l : List (Int × Value)) (C : List Int) : Prop :=
  ∃ es clock since seen c0, w.heap[b]? = some (.map es clock) ∧ MapE es clock l ∧ w.heap[r]? = some (.mapIter (some b) since seen c0) ∧ (∀ x ∈ es.toList, x.born < since) ∧ since ≤ c0 ∧ since ≤ clock ∧
    (∀ x ∈ es.toList, seen.contains x.born = true ↔ ∃ c ∈ C, x.key = .int .i64 c) ∧ C.Nodup ∧ ∀ c ∈ C, c ∈ l.map Prod.fst
theorem ItG.toG {r : Nat} {C : List Int} (h : ItG w b r l C) : MapG w b l := by
  obtain ⟨es, clock, since, seen, c0, h1, h2, _⟩ := h
  exact ⟨es, clock, h1, h2⟩
theorem ItG.keep {r : Nat} {C : List Int} (h : ItG w b r l C) {S : List Nat} (hc : Chg S w w') (hb : b ∉ S) (hr : r ∉ S) : ItG w' b r l C := by
  obtain ⟨es, clock, since, seen, c0, h1, h2, h3, h4⟩ := h
  exact ⟨es, clock, since, seen, c0, hc.heap h1 hb, h2, hc.heap h3 hr, h4⟩
theorem ItG.nodup {r : Nat} {C : List Int} (h : ItG w b r l C) : C.Nodup ∧ ∀ c ∈ C, c ∈ l.map Prod.fst := by
  obtain ⟨es, clock, since, seen, c0, _, _, _, _, _, _, _, h⟩ := h
  exact h
/-- A store into a map, at the operation. -/
theorem wpList_mapG {ops : Array Oper} {rest : List Oper} {o : Oper} {a : Act} {Q : Exit → Act → World → Prop} (hgd : o.guard = none) (m x v : Operand) (t : TypeId) (hop : o.op = Op.mapUpdate t m x v)
    (K : KeyOk P k Int (Value.int .i64)) {e : TypeId} (ht : P.underlying t = some (.map k e)) (hm : a.eval m = .map (some b)) (h : MapG w b l) (c : Int) {val : Value} (hx : a.eval x = .int .i64 c) (hv : a.eval v = val)
    (hK : ∀ w', MapG w' b (updG l c val) → Chg [b] w w' → wpList P ops Q rest (a.put o.dst undef) w') : wpList P ops Q (o :: rest) a w := by
  obtain ⟨w', hrun, h1, h2⟩ := h.update K ht c val
  refine wpList_plain hgd fun K' hK' => ?_
  unfold Oper.wp
  simp [execOp, hop, hm, hx, hv, hrun, Result.andThen]
  exact hK' _ _ (hK w' h1 h2)
/-- .. as a step of a region that draws its order. -/
theorem step_mapG {ops : Array Oper} {o : Oper} {a : Act} {K0 : Act → World → Prop} {Q : Exit → Act → World → Prop} {E0 : Prop} (hgd : o.guard = none) (m x v : Operand) (t : TypeId) (hop : o.op = Op.mapUpdate t m x v)
    (K : KeyOk P k Int (Value.int .i64)) {e : TypeId} (ht : P.underlying t = some (.map k e)) (hm : a.eval m = .map (some b)) (h : MapG w b l) (c : Int) {val : Value} (hx : a.eval x = .int .i64 c) (hv : a.eval v = val)
    (hK : ∀ w', MapG w' b (updG l c val) → Chg [b] w w' → K0 (a.put o.dst undef) w') :
    if Region.wanted o (yielded ops a.tmps) = true then Oper.wp P o a w K0 Q else E0 := by
  have hw : Region.wanted o (yielded ops a.tmps) = true := by simp [Region.wanted, hgd]
  obtain ⟨w', hrun, h1, h2⟩ := h.update K ht c val
  rw [if_pos hw]
  unfold Oper.wp
  simp [execOp, hop, hm, hx, hv, hrun, Result.andThen]
  exact hK w' h1 h2
/-- range m. -/
theorem wpList_rangeG {ops : Array Oper} {rest : List Oper} {o : Oper} {a : Act} {Q : Exit → Act → World → Prop} (hgd : o.guard = none) (m : Operand) (t : TypeId) (hop : o.op = Op.range t m) {e : TypeId} (ht : P.underlying t = some (.map k e))
    (hm : a.eval m = .map (some b)) (h : MapG w b l)
    (hK : ∀ w', ItG w' b w.heap.size l [] → Chg [] w w' → wpList P ops Q rest (a.put o.dst (.pointer (some ⟨w.heap.size, 0, none⟩))) w') : wpList P ops Q (o :: rest) a w := by
  obtain ⟨es, c, h1, hE⟩ := h
  have hrun : (Instr.range t (.map (some b))).run P w = .ok (.pointer (some ⟨w.heap.size, 0, none⟩)) (w.alloc (.mapIter (some b) c #[] c)) := run_range_map w t k e b es c ht h1
  refine wpList_plain hgd fun K' hK' => ?_
  unfold Oper.wp
  simp [execOp, hop, hm, hrun, Result.andThen]
  refine hK' _ _ (hK _ ⟨es, c, c, #[], c, blk_alloc_old h1 _, hE, heap_alloc_new w _, hE.lt, Nat.le_refl _, Nat.le_refl _, fun x _ => by simp, by simp, by simp⟩ ((Chg.refl [] w).alloc _))
/-- A step. -/
theorem wpList_nextG {ops : Array Oper} {rest : List Oper} {o : Oper} {a : Act} {Q : Exit → Act → World → Prop} (hgd : o.guard = none) (it : Operand) (hop : o.op = Op.next it false) {r : Nat} {C : List Int}
    (hit : a.eval it = .pointer (some ⟨r, 0, none⟩)) (h : ItG w b r l C)
    (hDone : (∀ p ∈ l, p.1 ∈ C) → wpList P ops Q rest (a.put o.dst (.tuple #[.bool false])) w)
    (hMore : ∀ x v w', (x, v) ∈ l → x ∉ C → ItG w' b r l (C ++ [x]) → Chg [r] w w' → (Instr.entry (.pointer (some ⟨r, 0, none⟩))).run P w' = .ok (.tuple #[.int .i64 x, v]) w' → wpList P ops Q rest (a.put o.dst (.tuple #[.bool true, .int .i64 x, v])) w') :
    wpList P ops Q (o :: rest) a w := by
  obtain ⟨es, clock, since, seen, c0, h1, hE, h3, h4, h5, hle, h6, h7, h8⟩ := h
  have hkey : ∀ x ∈ es.toList, ∃ p ∈ l, x.key = .int .i64 p.1 ∧ x.val = p.2 := fun x hx => by
    have : (x.key, x.val) ∈ l.map (fun p => (Value.int .i64 p.1, p.2)) := by rw [← hE.kv]; exact List.mem_map.2 ⟨x, hx, rfl⟩
    obtain ⟨p, hp, he⟩ := List.mem_map.1 this
    simp only [Prod.mk.injEq] at he
    exact ⟨p, hp, he.1.symm, he.2.symm⟩
  have hkey2 : ∀ p ∈ l, ∃ x ∈ es.toList, x.key = .int .i64 p.1 := fun p hp => by
    have : (Value.int .i64 p.1, p.2) ∈ es.toList.map (fun e => (e.key, e.val)) := by rw [hE.kv]; exact List.mem_map.2 ⟨p, hp, rfl⟩
    obtain ⟨x, hx, he⟩ := List.mem_map.1 this
    simp only [Prod.mk.injEq] at he
    exact ⟨x, hx, he.1⟩
  refine wpList_plain hgd fun K' hK' => ?_
  unfold Oper.wp
  rcases run_next_at (P := P) w o.type r b since c0 seen es clock h3 h1 h4 h5 with ⟨h0, hrun⟩ | ⟨x, hx, w1, hw1, hrun⟩
  · simp [execOp, hop, hit, hrun, Result.andThen]
    refine hK' _ _ (hDone fun p hp => ?_)
    obtain ⟨y, hy, hyk⟩ := hkey2 p hp
    have hs : seen.contains y.born = true := by
      apply Classical.byContradiction
      intro hn
      have : y ∈ leftOf es seen := by
        unfold leftOf
        rw [Array.mem_filter]
        exact ⟨by simpa using hy, by simpa using hn⟩
      have h9 : leftOf es seen = #[] := Array.eq_empty_of_size_eq_zero h0
      rw [h9] at this
      simp at this
    obtain ⟨c, hc, hce⟩ := (h6 y hy).1 hs
    rw [hyk] at hce
    simp only [Value.int.injEq, true_and] at hce
    rw [hce]
    exact hc
  · have hx2 : x ∈ es.toList ∧ seen.contains x.born = false := by
      unfold leftOf at hx
      simp only [Array.toList_filter, List.mem_filter] at hx
      exact ⟨hx.1, by simpa using hx.2⟩
    obtain ⟨p, hp, hpk, hpv⟩ := hkey x hx2.1
    have hw1h : w1.heap = w.heap := by rcases hw1 with rfl | rfl <;> rfl
    have h3' : w1.heap[r]? = some (.mapIter (some b) since seen c0) := by rw [hw1h]; exact h3
    have h1' : w1.heap[b]? = some (.map es clock) := by rw [hw1h]; exact h1
    have hrb : b ≠ r := fun e => by rw [e, h3] at h1; cases h1
    have hgrow : Chg [r] w (ChangeMaps.setBlock w1 r (.mapIter (some b) since (seen.push x.born) clock)) := by
      have h9 : Chg [r] w1 (ChangeMaps.setBlock w1 r (.mapIter (some b) since (seen.push x.born) clock)) := ⟨rfl, rfl, rfl, by simp [ChangeMaps.setBlock], fun i _ hi => setB_other _ (fun e => hi (by simp [e]))⟩
      rcases hw1 with rfl | rfl
      · exact h9
      · exact ((Chg.refl [r] w).drew).trans' h9
    have hb2 : (ChangeMaps.setBlock w1 r (.mapIter (some b) since (seen.push x.born) clock)).heap[b]? = some (.map es clock) := by
      rw [setB_other _ hrb]; exact h1'
    have hr2 := setB_same h3' (.mapIter (some b) since (seen.push x.born) clock)
    have hxC : p.1 ∉ C := fun hm => by
      have := (h6 x hx2.1).2 ⟨p.1, hm, hpk⟩
      rw [hx2.2] at this
      cases this
    have hen := run_entry_at (P := P) _ r b since seen es clock x hr2 hb2 hx2.1 hE.nd
    simp [execOp, hop, hit, hrun, Result.andThen]
    rw [hpk, hpv] at hen ⊢
    refine hK' _ _ (hMore p.1 p.2 _ hp hxC ⟨es, clock, since, seen.push x.born, clock, hb2, hE, hr2, h4, hle, hle, fun y hy => ?_, ?_, ?_⟩ hgrow hen)
    · have hcp : (seen.push x.born).contains y.born = true ↔ seen.contains y.born = true ∨ y.born = x.born := by
        simp only [Array.contains_iff_mem, Array.mem_push]
      rw [hcp, h6 y hy]
      constructor
      · rintro (⟨c, hc, he⟩ | he)
        · exact ⟨c, by simp [hc], he⟩
        · have hyx : y = x := born_inj hE.nd hy hx2.1 he
          subst hyx
          exact ⟨p.1, by simp, hpk⟩
      · rintro ⟨c, hc, he⟩
        rcases List.mem_append.1 hc with hc | hc
        · exact .inl ⟨c, hc, he⟩
        · simp only [List.mem_singleton] at hc
          subst hc
          right
          exact congrArg MapEntry.born (key_inj hE hy hx2.1 (he.trans hpk.symm))
    · rw [List.nodup_append]
      exact ⟨h7, by simp, fun c hc y hy e => by simp only [List.mem_singleton] at hy; subst hy e; exact hxC hc⟩
    · intro c hc
      rcases List.mem_append.1 hc with hc | hc
      · exact h8 c hc
      · simp only [List.mem_singleton] at hc
        subst hc
        exact List.mem_map.2 ⟨p, hp, rfl⟩
end
end Go.AB
