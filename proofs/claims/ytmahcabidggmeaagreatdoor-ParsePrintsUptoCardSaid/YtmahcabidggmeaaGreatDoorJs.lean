/- Boxes and lists in memory of their own, kept apart. (Out of wip/tpl XXa, XYs.) -/
import Derived.Test.YtmahcabidggmeaaGreatDoorJv
import Derived.Test.YtmahcabidggmeaaGreatDoorBase2
set_option linter.unusedSimpArgs false
set_option linter.unusedSectionVars false
namespace Go.AB
open Go.RowKit
set_option linter.unusedVariables false
set_option linter.unusedSimpArgs false

theorem Row.cellk {w : World} {e k : Nat} {v : Value} {g n : Nat} {xs : List Value} (h : Row w e k v (some g) n xs) :
    (∀ p, p < n * k → w.cell? ⟨g, p, none⟩ = some (xs.getD p undef)) ∧ (∀ p, w.frozen? ⟨g, p, none⟩ = false) ∧ ∃ cap, v = .slice (some ⟨g, 0, none⟩) n cap ∧ n ≤ cap ∧ cap ≤ maxLen := by
  rcases h.form with ⟨_, _, _, h4⟩ | ⟨g', cap', cur, rfl, h2, hnc, hcm, hg, hcs, ht⟩
  · cases h4
  · simp only [Option.some.injEq] at h2
    subst h2
    refine ⟨fun p hp => ?_, fun p => blk_free hg p, cap', rfl, hnc, hcm⟩
    have hpc : p < cur.size := by rw [hcs]; exact Nat.lt_of_lt_of_le hp (Nat.mul_le_mul_right k hnc)
    rw [blk_cell hg, ← ht]
    simp [List.getD, hp, hpc]
theorem Row.putk {w : World} {e k : Nat} {v : Value} {n : Nat} {g : Nat} {xs : List Value} (h : Row w e k v (some g) n xs) (p : Nat) (x : Value) :
    Row (w.setCell ⟨g, p, none⟩ x) e k v (some g) n (xs.set p x) := by
  rcases h.form with ⟨_, _, _, h4⟩ | ⟨g', cap', cur, rfl, h2, hnc, hcm, hg, hcs, ht⟩
  · cases h4
  · simp only [Option.some.injEq] at h2
    subst h2
    refine ⟨⟨by rw [List.length_set]; exact h.len, .inr ⟨g, cap', _, rfl, Nat.zero_le _, blk_set hg p _, hnc, hcm, by simp [hcs], ?_⟩⟩, rfl⟩
    rw [Array.toList_setIfInBounds, ← ht, List.take_set]
theorem Row.cap {w : World} {e k : Nat} {ao : Option Addr} {n cap : Nat} {r : Option Nat} {xs : List Value} (h : Row w e k (.slice ao n cap) r n xs) : n ≤ cap := by
  obtain ⟨_, _, ao', cap', hv, h1, _⟩ := h.view
  simp only [Value.slice.injEq, true_and] at hv
  obtain ⟨rfl, rfl⟩ := hv
  exact h1
/-- The first elements of a list that is read. -/
theorem View.prek {w : World} {k : Nat} {ao : Option Addr} {cap n m : Nat} {xs ys : List Value} (h : View w k (.slice ao n cap) n (xs ++ ys)) (hm : m ≤ n) (hx : xs.length = m * k) (hao : ao ≠ none) : View w k (.slice ao m cap) m xs := by
  obtain ⟨h1, h2, ao', cap', hv, h3, h4, h5, h6⟩ := h
  simp only [Value.slice.injEq, true_and] at hv
  obtain ⟨rfl, rfl⟩ := hv
  refine ⟨hx, by omega, _, _, rfl, by omega, h4, fun e => absurd e hao, fun h0 => ?_⟩
  have hmk : m * k ≤ n * k := Nat.mul_le_mul_right k hm
  obtain ⟨b, off, hb, hc⟩ := h6 (by omega)
  refine ⟨b, off, hb, fun j hj => ?_⟩
  rw [hc j (by omega)]
  simp only [List.getD]
  rw [List.getElem?_append_left (by omega)]

/-- What is kept: a box, or a list in memory of its own. -/
inductive It where
  | box (a : Nat) (o : Obj)
  | row (e k : Nat) (v : Value) (r : Option Nat) (n : Nat) (xs : List Value)
def It.blk : It → Option Nat
  | .box a _ => some a
  | .row _ _ _ r _ _ => r
def It.ok (w : World) : It → Prop
  | .box a o => w.heap[a]? = some o
  | .row e k v r n xs => Row w e k v r n xs
/-- All that is kept holds, no two in the same memory, all of it newer than w0; only blocks of S0 of the old ones have changed. -/
structure Hp (S0 : List Nat) (w0 w : World) (I : List It) : Prop where
  ok : ∀ x ∈ I, x.ok w
  lo : ∀ x ∈ I, ∀ g, x.blk = some g → w0.heap.size ≤ g
  nd : (I.filterMap It.blk).Nodup
  chg : Chg S0 w0 w
  s0 : ∀ x ∈ S0, x < w0.heap.size
section
variable {S0 : List Nat} {w0 w w' : World} {I : List It}
theorem It.lt {x : It} (h : x.ok w) {g : Nat} (hg : x.blk = some g) : g < w.heap.size := by
  cases x with
  | box a o => simp only [It.blk, Option.some.injEq] at hg; subst hg; exact blk_lt h
  | row e k v r n xs => exact Row.lt h g hg
theorem It.keep {x : It} (h : x.ok w) {S : List Nat} (hc : Chg S w w') (hS : ∀ g, x.blk = some g → g ∉ S) : x.ok w' := by
  cases x with
  | box a o => exact hc.heap h (hS a rfl)
  | row e k v r n xs => exact Row.keep h hc (fun g hg => hS g hg)
theorem Hp.start (w : World) (h : ∀ x ∈ S0, x < w.heap.size) : Hp S0 w w [] := ⟨by simp, by simp, by simp, Chg.refl _ _, h⟩
theorem Hp.lt (h : Hp S0 w0 w I) {x : It} (hx : x ∈ I) {g : Nat} (hg : x.blk = some g) : g < w.heap.size := It.lt (h.ok x hx) hg
theorem Hp.out (h : Hp S0 w0 w I) {x : It} (hx : x ∈ I) {g : Nat} (hg : x.blk = some g) : g ∉ S0 := fun hm => by
  have := h.lo x hx g hg
  have := h.s0 g hm
  omega
/-- Only old blocks change. -/
theorem Hp.step (h : Hp S0 w0 w I) (hc : Chg S0 w w') : Hp S0 w0 w' I :=
  ⟨fun x hx => It.keep (h.ok x hx) hc (fun g hg => h.out hx hg), h.lo, h.nd, h.chg.trans' hc, h.s0⟩
theorem Hp.same (h : Hp S0 w0 w I) (hc : Chg [] w w') : Hp S0 w0 w' I := h.step hc.nil
theorem Hp.cons (h : Hp S0 w0 w I) (x : It) (h1 : x.ok w) (h2 : ∀ g, x.blk = some g → w0.heap.size ≤ g ∧ ∀ y ∈ I, y.blk ≠ some g) : Hp S0 w0 w (x :: I) := by
  refine ⟨fun y hy => ?_, fun y hy => ?_, ?_, h.chg, h.s0⟩
  · rcases List.mem_cons.1 hy with rfl | hy
    · exact h1
    · exact h.ok y hy
  · rcases List.mem_cons.1 hy with rfl | hy
    · exact fun g hg => (h2 g hg).1
    · exact h.lo y hy
  · cases hb : x.blk with
    | none => rw [List.filterMap_cons_none hb]; exact h.nd
    | some g =>
      rw [List.filterMap_cons_some hb, List.nodup_cons]
      refine ⟨fun hm => ?_, h.nd⟩
      obtain ⟨y, hy, hg⟩ := List.mem_filterMap.1 hm
      exact (h2 g hb).2 y hy hg
theorem Hp.newer (h : Hp S0 w0 w I) {g : Nat} (hg : w.heap.size ≤ g) : w0.heap.size ≤ g ∧ ∀ y ∈ I, y.blk ≠ some g :=
  ⟨Nat.le_trans h.chg.size hg, fun y hy e => by have := h.lt hy e; omega⟩
theorem Hp.box (h : Hp S0 w0 w I) (o : Obj) : Hp S0 w0 (w.alloc o) (.box w.heap.size o :: I) := by
  refine (h.same ((Chg.refl [] w).alloc o)).cons _ (heap_alloc_new w o) (fun g hg => ?_)
  simp only [It.blk, Option.some.injEq] at hg
  subst hg
  exact h.newer (Nat.le_refl _)
theorem Hp.nil (h : Hp S0 w0 w I) (e k : Nat) : Hp S0 w0 w (.row e k (.slice none 0 0) none 0 [] :: I) :=
  h.cons _ (Row.nil w e k) (fun g hg => by cases hg)
/-- A new list is answered. -/
theorem Hp.fresh (h : Hp S0 w0 w I) (hc : Chg S0 w w') {e k n : Nat} {v : Value} {r : Option Nat} {xs : List Value} (hr : Row w' e k v r n xs) (hf : Fresh w none r) : Hp S0 w0 w' (.row e k v r n xs :: I) := by
  refine (h.step hc).cons _ hr (fun g hg => ?_)
  exact h.newer ((hf g hg).resolve_left (by simp))
theorem Hp.get (h : Hp S0 w0 w I) {i : Nat} {x : It} (hi : I[i]? = some x) : x.ok w := h.ok x (List.mem_of_getElem? hi)
theorem Hp.cell (h : Hp S0 w0 w I) {i a : Nat} {cs : Array Value} {t : TypeId} {fr : Nat × Nat} (hi : I[i]? = some (.box a (.cells cs t fr))) (j : Nat) : w.cell? ⟨a, j, none⟩ = cs[j]? := blk_cell (h.get hi) j
theorem Hp.free (h : Hp S0 w0 w I) {i a : Nat} {cs : Array Value} {t : TypeId} (hi : I[i]? = some (.box a (.cells cs t (0, 0)))) (j : Nat) : w.frozen? ⟨a, j, none⟩ = false := blk_free (h.get hi) j
theorem Hp.rowAt (h : Hp S0 w0 w I) {i e k n : Nat} {v : Value} {r : Option Nat} {xs : List Value} (hi : I[i]? = some (.row e k v r n xs)) : Row w e k v r n xs := h.get hi
theorem apart_at : ∀ {I : List It} {i j : Nat} {x y : It} {g : Nat}, (I.filterMap It.blk).Nodup → I[i]? = some x → I[j]? = some y → x.blk = some g → y.blk = some g → i = j
  | [], i, j, x, y, g, _, hi, _, _, _ => by simp at hi
  | z :: I, i, j, x, y, g, hn, hi, hj, hx, hy => by
    have hmem : ∀ {k : Nat} {u : It}, I[k]? = some u → u.blk = some g → g ∈ I.filterMap It.blk := fun hk hu => List.mem_filterMap.2 ⟨_, List.mem_of_getElem? hk, hu⟩
    have hn' : (I.filterMap It.blk).Nodup := by
      cases hz : z.blk with
      | none => rwa [List.filterMap_cons_none hz] at hn
      | some g' => rw [List.filterMap_cons_some hz, List.nodup_cons] at hn; exact hn.2
    cases i with
    | zero =>
      cases j with
      | zero => rfl
      | succ j =>
        simp only [List.getElem?_cons_zero, Option.some.injEq, List.getElem?_cons_succ] at hi hj
        subst hi
        rw [List.filterMap_cons_some hx, List.nodup_cons] at hn
        exact absurd (hmem hj hy) hn.1
    | succ i =>
      cases j with
      | zero =>
        simp only [List.getElem?_cons_zero, Option.some.injEq, List.getElem?_cons_succ] at hi hj
        subst hj
        rw [List.filterMap_cons_some hy, List.nodup_cons] at hn
        exact absurd (hmem hi hx) hn.1
      | succ j =>
        simp only [List.getElem?_cons_succ] at hi hj
        rw [apart_at hn' hi hj hx hy]
theorem set_blk : ∀ {I : List It} {i : Nat} {x y : It}, I[i]? = some x → x.blk = y.blk → (I.set i y).filterMap It.blk = I.filterMap It.blk
  | [], i, x, y, hi, _ => by simp at hi
  | z :: I, 0, x, y, hi, h => by
    simp only [List.getElem?_cons_zero, Option.some.injEq] at hi
    subst hi
    simp only [List.set_cons_zero, List.filterMap_cons, h]
  | z :: I, i + 1, x, y, hi, h => by
    simp only [List.getElem?_cons_succ] at hi
    simp only [List.set_cons_succ, List.filterMap_cons, set_blk hi h]
theorem set_nodup : ∀ {I : List It} {i : Nat} {x y : It}, (I.filterMap It.blk).Nodup → I[i]? = some x → (∀ g, y.blk = some g → x.blk = some g ∨ ∀ z ∈ I, z.blk ≠ some g) → ((I.set i y).filterMap It.blk).Nodup
  | [], i, x, y, _, hi, _ => by simp at hi
  | z :: I, 0, x, y, hn, hi, h => by
    simp only [List.getElem?_cons_zero, Option.some.injEq] at hi
    subst hi
    simp only [List.set_cons_zero]
    have hn' : (I.filterMap It.blk).Nodup := by
      cases hz : z.blk with
      | none => rwa [List.filterMap_cons_none hz] at hn
      | some g' => rw [List.filterMap_cons_some hz, List.nodup_cons] at hn; exact hn.2
    cases hy : y.blk with
    | none => rw [List.filterMap_cons_none hy]; exact hn'
    | some g =>
      rw [List.filterMap_cons_some hy, List.nodup_cons]
      refine ⟨fun hm => ?_, hn'⟩
      rcases h g hy with h | h
      · rw [List.filterMap_cons_some h, List.nodup_cons] at hn
        exact hn.1 hm
      · obtain ⟨u, hu, hg⟩ := List.mem_filterMap.1 hm
        exact h u (List.mem_cons_of_mem _ hu) hg
  | z :: I, i + 1, x, y, hn, hi, h => by
    simp only [List.getElem?_cons_succ] at hi
    simp only [List.set_cons_succ]
    have hn' : (I.filterMap It.blk).Nodup := by
      cases hz : z.blk with
      | none => rwa [List.filterMap_cons_none hz] at hn
      | some g' => rw [List.filterMap_cons_some hz, List.nodup_cons] at hn; exact hn.2
    have ih := set_nodup hn' hi (fun g hg => (h g hg).imp id fun h u hu => h u (List.mem_cons_of_mem _ hu))
    cases hz : z.blk with
    | none => rw [List.filterMap_cons_none hz]; exact ih
    | some g =>
      rw [List.filterMap_cons_some hz, List.nodup_cons] at hn ⊢
      refine ⟨fun hm => ?_, ih⟩
      obtain ⟨u, hu, hg⟩ := List.mem_filterMap.1 hm
      rcases List.mem_or_eq_of_mem_set hu with hu | rfl
      · exact hn.1 (List.mem_filterMap.2 ⟨u, hu, hg⟩)
      · rcases h g hg with h | h
        · exact hn.1 (List.mem_filterMap.2 ⟨x, List.mem_of_getElem? hi, h⟩)
        · exact h z (List.mem_cons_self ..) hz
/-- One of them is another now; the others are as they were. -/
theorem Hp.set (h : Hp S0 w0 w I) {i : Nat} {x : It} (hi : I[i]? = some x) (y : It) {S : List Nat} (hc : Chg S w w') (hS : ∀ g ∈ S, x.blk = some g) (hy : y.ok w') (hyb : ∀ g, y.blk = some g → x.blk = some g ∨ w.heap.size ≤ g) {I' : List It} (hI : I.set i y = I') : Hp S0 w0 w' I' := by
  subst hI
  refine ⟨fun z hz => ?_, fun z hz g hg => ?_, set_nodup h.nd hi (fun g hg => (hyb g hg).imp id fun k => (h.newer k).2), h.chg.trans hc (fun g hg => .inr (h.lo x (List.mem_of_getElem? hi) g (hS g hg))), h.s0⟩
  · obtain ⟨j, hj, rfl⟩ := List.mem_iff_getElem.1 hz
    rw [List.getElem_set]
    split
    · exact hy
    · rename_i hij
      have hjl : j < I.length := by simpa using hj
      refine It.keep (h.ok _ (List.getElem_mem hjl)) hc (fun g hg hm => hij ?_)
      exact apart_at h.nd hi (List.getElem?_eq_getElem hjl) (hS g hm) hg
  · rcases List.mem_or_eq_of_mem_set hz with hz | rfl
    · exact h.lo z hz g hg
    · rcases hyb g hg with k | k
      · exact h.lo x (List.mem_of_getElem? hi) g k
      · exact (h.newer k).1
/-- A box is written. -/
theorem Hp.put (h : Hp S0 w0 w I) (i : Nat) {a : Nat} {vs : Array Value} {t : TypeId} (hi : I[i]? = some (.box a (.cells vs t (0, 0)))) (f : Nat) (u : Value) {I' : List It} (hI : I.set i (.box a (.cells (vs.setIfInBounds f u) t (0, 0))) = I') : Hp S0 w0 (w.setCell ⟨a, f, none⟩ u) I' :=
  h.set hi (.box a (.cells (vs.setIfInBounds f u) t (0, 0))) (S := [a]) ((Chg.refl [a] w).setCell (p := ⟨a, f, none⟩) (.inl (by simp)) u) (fun g hg => by simp only [List.mem_singleton] at hg; subst hg; rfl) (blk_set (h.get hi) f u) (fun g hg => .inl hg) hI
/-- An element of a list is written. -/
theorem Hp.puti (h : Hp S0 w0 w I) (i : Nat) {e k n g : Nat} {v : Value} {xs : List Value} (hi : I[i]? = some (.row e k v (some g) n xs)) (p : Nat) (u : Value) {I' : List It} (hI : I.set i (.row e k v (some g) n (xs.set p u)) = I') : Hp S0 w0 (w.setCell ⟨g, p, none⟩ u) I' :=
  h.set hi (.row e k v (some g) n (xs.set p u)) (S := [g]) ((Chg.refl [g] w).setCell (p := ⟨g, p, none⟩) (.inl (by simp)) u) (fun g' hg => by simp only [List.mem_singleton] at hg; subst hg; rfl) (by
    exact Row.putk (h.get hi) p u) (fun g hg => .inl hg) hI
/-- A list is grown. -/
theorem Hp.grow (h : Hp S0 w0 w I) (i : Nat) {e k n : Nat} {v : Value} {r : Option Nat} {xs : List Value} (hi : I[i]? = some (.row e k v r n xs)) {w1 w2 : World} (hc1 : Chg [] w w1) {e' k' n' : Nat} {v' : Value} {r' : Option Nat} {xs' : List Value} (hr : Row w2 e' k' v' r' n' xs') (hc2 : Chg r.toList w1 w2) (hf : Fresh w1 r r') {I' : List It} (hI : I.set i (.row e' k' v' r' n' xs') = I') : Hp S0 w0 w2 I' :=
  h.set hi (.row e' k' v' r' n' xs') (S := r.toList) (hc1.nil.trans' hc2) (fun g hg => (by simpa using hg : r = some g)) hr (fun g hg => (hf g hg).imp id fun k => Nat.le_trans hc1.size k) hI
theorem Hp.sub (h : Hp S0 w0 w I) {I' : List It} (hs : List.Sublist I' I) : Hp S0 w0 w I' :=
  ⟨fun x hx => h.ok x (hs.subset hx), fun x hx => h.lo x (hs.subset hx), h.nd.sublist (hs.filterMap _), h.chg, h.s0⟩
theorem Hp.perm (h : Hp S0 w0 w I) {I' : List It} (hp : I.Perm I') : Hp S0 w0 w I' :=
  ⟨fun x hx => h.ok x (hp.mem_iff.2 hx), fun x hx => h.lo x (hp.mem_iff.2 hx), (hp.filterMap It.blk).nodup_iff.1 h.nd, h.chg, h.s0⟩
/-- The rest of what was kept, under a change of one list alone. -/
theorem Hp.ne (h : Hp S0 w0 w I) {x y : It} {i j : Nat} (hi : I[i]? = some x) (hj : I[j]? = some y) (hij : i ≠ j) {g : Nat} (hx : x.blk = some g) : y.blk ≠ some g := fun hy => hij (apart_at h.nd hi hj hx hy)
/-- What a call made, beside what was there. -/
theorem Hp.join (h : Hp S0 w0 w I) {J : List It} {w1 : World} (k : Hp S0 w w1 J) : Hp S0 w0 w1 (J ++ I) := by
  have hI := h.step k.chg
  refine ⟨fun x hx => ?_, fun x hx g hg => ?_, ?_, hI.chg, h.s0⟩
  · rcases List.mem_append.1 hx with hx | hx
    · exact k.ok x hx
    · exact hI.ok x hx
  · rcases List.mem_append.1 hx with hx | hx
    · exact Nat.le_trans h.chg.size (k.lo x hx g hg)
    · exact h.lo x hx g hg
  · rw [List.filterMap_append, List.nodup_append]
    refine ⟨k.nd, h.nd, fun a ha c hc e => ?_⟩
    obtain ⟨x, hx, h1⟩ := List.mem_filterMap.1 ha
    obtain ⟨y, hy, h2⟩ := List.mem_filterMap.1 hc
    have h3 := k.lo x hx a h1
    have h4 := h.lt hy h2
    omega
/-- Seen from an older world. -/
theorem Hp.from {w1 : World} (hc : Chg S0 w0 w) (hs : ∀ x ∈ S0, x < w0.heap.size) (h : Hp S0 w w1 I) : Hp S0 w0 w1 I :=
  ⟨h.ok, fun x hx g hg => Nat.le_trans hc.size (h.lo x hx g hg), h.nd, hc.trans' h.chg, hs⟩
end
end Go.AB
