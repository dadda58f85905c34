/- Joined by join.py out of Jv, Js, Op, Aplain, Ascan, Mp. -/
import Derived.Test.YtmahcabidggmeaaGreatDoorPk1
import Derived.Carry
import Derived.OwnWalk
set_option linter.unusedSimpArgs false
set_option linter.unusedVariables false
set_option linter.unusedSectionVars false

/- Slices of structs that are read; programs in memory. (Out of wip/tpl XGplain, XGv.) -/
set_option linter.unusedSimpArgs false
set_option linter.unusedSectionVars false
namespace Go.AB
open Go.RowKit
set_option linter.unusedVariables false

/-- A variable, a volatile, or a barrier. -/
structure VarD where
  name : ByteArray
  first : Int
structure InsD where
  op : Int
  a : Int
  b : Int
  c : Int
  n : Int
structure PlcD where
  line : Int
  col : Int
structure ThrD where
  name : ByteArray
  code : List InsD
  places : List PlcD
structure PrgD where
  vars : List VarD
  vols : List VarD
  locks : List ByteArray
  bars : List VarD
  thrs : List ThrD

def varC (v : VarD) : List Value := [.string v.name, .int .i64 v.first]
def insC (x : InsD) : List Value := [.int .i64 x.op, .int .i64 x.a, .int .i64 x.b, .int .i64 x.c, .int .i64 x.n]
def plcC (p : PlcD) : List Value := [.int .i64 p.line, .int .i64 p.col]

theorem flat_len {α : Type} {f : α → List Value} {k : Nat} (hf : ∀ x, (f x).length = k) (xs : List α) : (xs.flatMap f).length = xs.length * k := by
  induction xs with
  | nil => simp
  | cons x xs ih => rw [List.flatMap_cons, List.length_append, hf, ih, List.length_cons, Nat.add_mul]; omega
theorem flat_get {α : Type} {f : α → List Value} {k : Nat} (hf : ∀ x, (f x).length = k) : ∀ (xs : List α) (i j : Nat) (hi : i < xs.length) (hj : j < k), (xs.flatMap f).getD (i * k + j) undef = (f xs[i]).getD j undef
  | [], i, _, hi, _ => by simp at hi
  | x :: xs, 0, j, _, hj => by
    rw [List.flatMap_cons, Nat.zero_mul, Nat.zero_add]
    simp only [List.getD]
    rw [List.getElem?_append_left (by rw [hf]; exact hj)]
    rfl
  | x :: xs, i + 1, j, hi, hj => by
    have h := flat_get hf xs i j (by simpa using hi) hj
    rw [List.flatMap_cons]
    simp only [List.getD] at h ⊢
    rw [List.getElem?_append_right (by rw [hf, Nat.add_mul]; omega), hf, show (i + 1) * k + j - k = i * k + j from by rw [Nat.add_mul]; omega, h]
    rfl
/-- A slice whose elements' cells are those of a list. -/
def Lst {α : Type} (f : α → List Value) (k : Nat) (w : World) (v : Value) (xs : List α) : Prop := View w k v xs.length (xs.flatMap f)
theorem Lst.at {α : Type} {f : α → List Value} {k : Nat} (hf : ∀ x, (f x).length = k) {w : World} {ao : Option Addr} {n cap : Nat} {xs : List α} (h : Lst f k w (.slice ao n cap) xs) {i : Nat} (hi : i < xs.length) (hk : 0 < k) :
    ∃ b off, ao = some ⟨b, off, none⟩ ∧ ∀ j, j < k → w.cell? ⟨b, off + i * k + j, none⟩ = some ((f xs[i]).getD j undef) := by
  obtain ⟨_, _, ao', cap', hv, _, _, _, hc⟩ := h
  simp only [Value.slice.injEq] at hv
  obtain ⟨rfl, rfl, rfl⟩ := hv
  have h1 : (i + 1) * k ≤ xs.length * k := Nat.mul_le_mul_right k (by omega)
  rw [Nat.add_mul] at h1
  obtain ⟨b, off, rfl, hcell⟩ := hc (by omega)
  refine ⟨b, off, rfl, fun j hj => ?_⟩
  rw [Nat.add_assoc, hcell (i * k + j) (by omega), flat_get hf xs i j hi hj]
theorem Lst.len {α : Type} {f : α → List Value} {k : Nat} {w : World} {v : Value} {xs : List α} (h : Lst f k w v xs) : ∃ ao cap, v = .slice ao xs.length cap ∧ xs.length ≤ cap ∧ cap ≤ maxLen ∧ xs.length ≤ maxLen := by
  obtain ⟨_, h1, ao, cap, rfl, h2, h3, _⟩ := h
  exact ⟨ao, cap, rfl, h2, h3, h1⟩
theorem Lst.keep {α : Type} {f : α → List Value} {k : Nat} {w w' : World} {v : Value} {xs : List α} (h : Lst f k w v xs) (hc : Chg [] w w') : Lst f k w' v xs := View.keep h hc (by simp)
theorem varC_len (v : VarD) : (varC v).length = 2 := rfl
theorem insC_len (v : InsD) : (insC v).length = 5 := rfl
theorem plcC_len (v : PlcD) : (plcC v).length = 2 := rfl
def strC (s : ByteArray) : List Value := [.string s]
theorem strC_len (s : ByteArray) : (strC s).length = 1 := rfl
/-- A thread's value: its name, and two slices. -/
structure ThrV where
  t : ThrD
  code : Value
  places : Value
def thrC (x : ThrV) : List Value := [.string x.t.name, x.code, x.places]
theorem thrC_len (x : ThrV) : (thrC x).length = 3 := rfl
/-- A program in memory. -/
structure PrgV (w : World) (v : Value) (p : PrgD) : Prop where
  mk' : ∃ a b c d e : Value, ∃ ts : List ThrV, v = .agg #[a, b, c, d, e] ∧ Lst varC 2 w a p.vars ∧ Lst varC 2 w b p.vols ∧ Lst strC 1 w c p.locks ∧ Lst varC 2 w d p.bars ∧ Lst thrC 3 w e ts ∧ ts.map ThrV.t = p.thrs ∧
    ∀ x ∈ ts, Lst insC 5 w x.code x.t.code ∧ Lst plcC 2 w x.places x.t.places
theorem PrgV.keep {w w' : World} {v : Value} {p : PrgD} (h : PrgV w v p) (hc : Chg [] w w') : PrgV w' v p := by
  obtain ⟨a, b, c, d, e, ts, h0, h1, h2, h3, h4, h5, h6, h7⟩ := h
  exact ⟨a, b, c, d, e, ts, h0, h1.keep hc, h2.keep hc, h3.keep hc, h4.keep hc, h5.keep hc, h6, fun x hx => ⟨(h7 x hx).1.keep hc, (h7 x hx).2.keep hc⟩⟩
end Go.AB

/- Boxes and lists in memory of their own, kept apart. (Out of wip/tpl XXa, XYs.) -/
set_option linter.unusedSimpArgs false
set_option linter.unusedSectionVars false
namespace Go.AB
open Go.RowKit
set_option linter.unusedVariables false
set_option linter.unusedSimpArgs false

theorem Row.cellk {w : World} {e k : Nat} {v : Value} {g n : Nat} {xs : List Value} (h : Row w e k v (some g) n xs) :
    (∀ p, p < n * k → w.cell? ⟨g, p, none⟩ = some (xs.getD p undef)) ∧ (∀ p, w.frozen? ⟨g, p, none⟩ = false) ∧ ∃ cap, v = .slice (some ⟨g, 0, none⟩) n cap ∧ n ≤ cap ∧ cap ≤ maxLen := by
  rcases h.form with ⟨_, _, _, h4⟩ | ⟨g', cap', cur, rfl, h2, hnc, hcm, hg, hcs, ht⟩
  · cases h4
  · simp only [Option.some.injEq] at h2
    subst h2
    refine ⟨fun p hp => ?_, fun p => blk_free hg p, cap', rfl, hnc, hcm⟩
    have hpc : p < cur.size := by rw [hcs]; exact Nat.lt_of_lt_of_le hp (Nat.mul_le_mul_right k hnc)
    rw [blk_cell hg, ← ht]
    simp [List.getD, hp, hpc]
theorem Row.putk {w : World} {e k : Nat} {v : Value} {n : Nat} {g : Nat} {xs : List Value} (h : Row w e k v (some g) n xs) (p : Nat) (x : Value) :
    Row (w.setCell ⟨g, p, none⟩ x) e k v (some g) n (xs.set p x) := by
  rcases h.form with ⟨_, _, _, h4⟩ | ⟨g', cap', cur, rfl, h2, hnc, hcm, hg, hcs, ht⟩
  · cases h4
  · simp only [Option.some.injEq] at h2
    subst h2
    refine ⟨⟨by rw [List.length_set]; exact h.len, .inr ⟨g, cap', _, rfl, Nat.zero_le _, blk_set hg p _, hnc, hcm, by simp [hcs], ?_⟩⟩, rfl⟩
    rw [Array.toList_setIfInBounds, ← ht, List.take_set]
theorem Row.cap {w : World} {e k : Nat} {ao : Option Addr} {n cap : Nat} {r : Option Nat} {xs : List Value} (h : Row w e k (.slice ao n cap) r n xs) : n ≤ cap := by
  obtain ⟨_, _, ao', cap', hv, h1, _⟩ := h.view
  simp only [Value.slice.injEq, true_and] at hv
  obtain ⟨rfl, rfl⟩ := hv
  exact h1
/-- The first elements of a list that is read. -/
theorem View.prek {w : World} {k : Nat} {ao : Option Addr} {cap n m : Nat} {xs ys : List Value} (h : View w k (.slice ao n cap) n (xs ++ ys)) (hm : m ≤ n) (hx : xs.length = m * k) (hao : ao ≠ none) : View w k (.slice ao m cap) m xs := by
  obtain ⟨h1, h2, ao', cap', hv, h3, h4, h5, h6⟩ := h
  simp only [Value.slice.injEq, true_and] at hv
  obtain ⟨rfl, rfl⟩ := hv
  refine ⟨hx, by omega, _, _, rfl, by omega, h4, fun e => absurd e hao, fun h0 => ?_⟩
  have hmk : m * k ≤ n * k := Nat.mul_le_mul_right k hm
  obtain ⟨b, off, hb, hc⟩ := h6 (by omega)
  refine ⟨b, off, hb, fun j hj => ?_⟩
  rw [hc j (by omega)]
  simp only [List.getD]
  rw [List.getElem?_append_left (by omega)]

/-- What is kept: a box, or a list in memory of its own. -/
inductive It where
  | box (a : Nat) (o : Obj)
  | row (e k : Nat) (v : Value) (r : Option Nat) (n : Nat) (xs : List Value)
def It.blk : It → Option Nat
  | .box a _ => some a
  | .row _ _ _ r _ _ => r
def It.ok (w : World) : It → Prop
  | .box a o => w.heap[a]? = some o
  | .row e k v r n xs => Row w e k v r n xs
/-- All that is kept holds, no two in the same memory, all of it newer than w0; only blocks of S0 of the old ones have changed. -/
structure Hp (S0 : List Nat) (w0 w : World) (I : List It) : Prop where
  ok : ∀ x ∈ I, x.ok w
  lo : ∀ x ∈ I, ∀ g, x.blk = some g → w0.heap.size ≤ g
  nd : (I.filterMap It.blk).Nodup
  chg : Chg S0 w0 w
  s0 : ∀ x ∈ S0, x < w0.heap.size
section
variable {S0 : List Nat} {w0 w w' : World} {I : List It}
theorem It.lt {x : It} (h : x.ok w) {g : Nat} (hg : x.blk = some g) : g < w.heap.size := by
  cases x with
  | box a o => simp only [It.blk, Option.some.injEq] at hg; subst hg; exact blk_lt h
  | row e k v r n xs => exact Row.lt h g hg
theorem It.keep {x : It} (h : x.ok w) {S : List Nat} (hc : Chg S w w') (hS : ∀ g, x.blk = some g → g ∉ S) : x.ok w' := by
  cases x with
  | box a o => exact hc.heap h (hS a rfl)
  | row e k v r n xs => exact Row.keep h hc (fun g hg => hS g hg)
theorem Hp.start (w : World) (h : ∀ x ∈ S0, x < w.heap.size) : Hp S0 w w [] := ⟨by simp, by simp, by simp, Chg.refl _ _, h⟩
theorem Hp.lt (h : Hp S0 w0 w I) {x : It} (hx : x ∈ I) {g : Nat} (hg : x.blk = some g) : g < w.heap.size := It.lt (h.ok x hx) hg
theorem Hp.out (h : Hp S0 w0 w I) {x : It} (hx : x ∈ I) {g : Nat} (hg : x.blk = some g) : g ∉ S0 := fun hm => by
  have := h.lo x hx g hg
  have := h.s0 g hm
  omega
/-- Only old blocks change. -/
theorem Hp.step (h : Hp S0 w0 w I) (hc : Chg S0 w w') : Hp S0 w0 w' I :=
  ⟨fun x hx => It.keep (h.ok x hx) hc (fun g hg => h.out hx hg), h.lo, h.nd, h.chg.trans' hc, h.s0⟩
theorem Hp.same (h : Hp S0 w0 w I) (hc : Chg [] w w') : Hp S0 w0 w' I := h.step hc.nil
theorem Hp.cons (h : Hp S0 w0 w I) (x : It) (h1 : x.ok w) (h2 : ∀ g, x.blk = some g → w0.heap.size ≤ g ∧ ∀ y ∈ I, y.blk ≠ some g) : Hp S0 w0 w (x :: I) := by
  refine ⟨fun y hy => ?_, fun y hy => ?_, ?_, h.chg, h.s0⟩
  · rcases List.mem_cons.1 hy with rfl | hy
    · exact h1
    · exact h.ok y hy
  · rcases List.mem_cons.1 hy with rfl | hy
    · exact fun g hg => (h2 g hg).1
    · exact h.lo y hy
  · cases hb : x.blk with
    | none => rw [List.filterMap_cons_none hb]; exact h.nd
    | some g =>
      rw [List.filterMap_cons_some hb, List.nodup_cons]
      refine ⟨fun hm => ?_, h.nd⟩
      obtain ⟨y, hy, hg⟩ := List.mem_filterMap.1 hm
      exact (h2 g hb).2 y hy hg
theorem Hp.newer (h : Hp S0 w0 w I) {g : Nat} (hg : w.heap.size ≤ g) : w0.heap.size ≤ g ∧ ∀ y ∈ I, y.blk ≠ some g :=
  ⟨Nat.le_trans h.chg.size hg, fun y hy e => by have := h.lt hy e; omega⟩
theorem Hp.box (h : Hp S0 w0 w I) (o : Obj) : Hp S0 w0 (w.alloc o) (.box w.heap.size o :: I) := by
  refine (h.same ((Chg.refl [] w).alloc o)).cons _ (heap_alloc_new w o) (fun g hg => ?_)
  simp only [It.blk, Option.some.injEq] at hg
  subst hg
  exact h.newer (Nat.le_refl _)
theorem Hp.nil (h : Hp S0 w0 w I) (e k : Nat) : Hp S0 w0 w (.row e k (.slice none 0 0) none 0 [] :: I) :=
  h.cons _ (Row.nil w e k) (fun g hg => by cases hg)
/-- A new list is answered. -/
theorem Hp.fresh (h : Hp S0 w0 w I) (hc : Chg S0 w w') {e k n : Nat} {v : Value} {r : Option Nat} {xs : List Value} (hr : Row w' e k v r n xs) (hf : Fresh w none r) : Hp S0 w0 w' (.row e k v r n xs :: I) := by
  refine (h.step hc).cons _ hr (fun g hg => ?_)
  exact h.newer ((hf g hg).resolve_left (by simp))
theorem Hp.get (h : Hp S0 w0 w I) {i : Nat} {x : It} (hi : I[i]? = some x) : x.ok w := h.ok x (List.mem_of_getElem? hi)
theorem Hp.cell (h : Hp S0 w0 w I) {i a : Nat} {cs : Array Value} {t : TypeId} {fr : Nat × Nat} (hi : I[i]? = some (.box a (.cells cs t fr))) (j : Nat) : w.cell? ⟨a, j, none⟩ = cs[j]? := blk_cell (h.get hi) j
theorem Hp.free (h : Hp S0 w0 w I) {i a : Nat} {cs : Array Value} {t : TypeId} (hi : I[i]? = some (.box a (.cells cs t (0, 0)))) (j : Nat) : w.frozen? ⟨a, j, none⟩ = false := blk_free (h.get hi) j
theorem Hp.rowAt (h : Hp S0 w0 w I) {i e k n : Nat} {v : Value} {r : Option Nat} {xs : List Value} (hi : I[i]? = some (.row e k v r n xs)) : Row w e k v r n xs := h.get hi
theorem apart_at : ∀ {I : List It} {i j : Nat} {x y : It} {g : Nat}, (I.filterMap It.blk).Nodup → I[i]? = some x → I[j]? = some y → x.blk = some g → y.blk = some g → i = j
  | [], i, j, x, y, g, _, hi, _, _, _ => by simp at hi
  | z :: I, i, j, x, y, g, hn, hi, hj, hx, hy => by
    have hmem : ∀ {k : Nat} {u : It}, I[k]? = some u → u.blk = some g → g ∈ I.filterMap It.blk := fun hk hu => List.mem_filterMap.2 ⟨_, List.mem_of_getElem? hk, hu⟩
    have hn' : (I.filterMap It.blk).Nodup := by
      cases hz : z.blk with
      | none => rwa [List.filterMap_cons_none hz] at hn
      | some g' => rw [List.filterMap_cons_some hz, List.nodup_cons] at hn; exact hn.2
    cases i with
    | zero =>
      cases j with
      | zero => rfl
      | succ j =>
        simp only [List.getElem?_cons_zero, Option.some.injEq, List.getElem?_cons_succ] at hi hj
        subst hi
        rw [List.filterMap_cons_some hx, List.nodup_cons] at hn
        exact absurd (hmem hj hy) hn.1
    | succ i =>
      cases j with
      | zero =>
        simp only [List.getElem?_cons_zero, Option.some.injEq, List.getElem?_cons_succ] at hi hj
        subst hj
        rw [List.filterMap_cons_some hy, List.nodup_cons] at hn
        exact absurd (hmem hi hx) hn.1
      | succ j =>
        simp only [List.getElem?_cons_succ] at hi hj
        rw [apart_at hn' hi hj hx hy]
theorem set_blk : ∀ {I : List It} {i : Nat} {x y : It}, I[i]? = some x → x.blk = y.blk → (I.set i y).filterMap It.blk = I.filterMap It.blk
  | [], i, x, y, hi, _ => by simp at hi
  | z :: I, 0, x, y, hi, h => by
    simp only [List.getElem?_cons_zero, Option.some.injEq] at hi
    subst hi
    simp only [List.set_cons_zero, List.filterMap_cons, h]
  | z :: I, i + 1, x, y, hi, h => by
    simp only [List.getElem?_cons_succ] at hi
    simp only [List.set_cons_succ, List.filterMap_cons, set_blk hi h]
theorem set_nodup : ∀ {I : List It} {i : Nat} {x y : It}, (I.filterMap It.blk).Nodup → I[i]? = some x → (∀ g, y.blk = some g → x.blk = some g ∨ ∀ z ∈ I, z.blk ≠ some g) → ((I.set i y).filterMap It.blk).Nodup
  | [], i, x, y, _, hi, _ => by simp at hi
  | z :: I, 0, x, y, hn, hi, h => by
    simp only [List.getElem?_cons_zero, Option.some.injEq] at hi
    subst hi
    simp only [List.set_cons_zero]
    have hn' : (I.filterMap It.blk).Nodup := by
      cases hz : z.blk with
      | none => rwa [List.filterMap_cons_none hz] at hn
      | some g' => rw [List.filterMap_cons_some hz, List.nodup_cons] at hn; exact hn.2
    cases hy : y.blk with
    | none => rw [List.filterMap_cons_none hy]; exact hn'
    | some g =>
      rw [List.filterMap_cons_some hy, List.nodup_cons]
      refine ⟨fun hm => ?_, hn'⟩
      rcases h g hy with h | h
      · rw [List.filterMap_cons_some h, List.nodup_cons] at hn
        exact hn.1 hm
      · obtain ⟨u, hu, hg⟩ := List.mem_filterMap.1 hm
        exact h u (List.mem_cons_of_mem _ hu) hg
  | z :: I, i + 1, x, y, hn, hi, h => by
    simp only [List.getElem?_cons_succ] at hi
    simp only [List.set_cons_succ]
    have hn' : (I.filterMap It.blk).Nodup := by
      cases hz : z.blk with
      | none => rwa [List.filterMap_cons_none hz] at hn
      | some g' => rw [List.filterMap_cons_some hz, List.nodup_cons] at hn; exact hn.2
    have ih := set_nodup hn' hi (fun g hg => (h g hg).imp id fun h u hu => h u (List.mem_cons_of_mem _ hu))
    cases hz : z.blk with
    | none => rw [List.filterMap_cons_none hz]; exact ih
    | some g =>
      rw [List.filterMap_cons_some hz, List.nodup_cons] at hn ⊢
      refine ⟨fun hm => ?_, ih⟩
      obtain ⟨u, hu, hg⟩ := List.mem_filterMap.1 hm
      rcases List.mem_or_eq_of_mem_set hu with hu | rfl
      · exact hn.1 (List.mem_filterMap.2 ⟨u, hu, hg⟩)
      · rcases h g hg with h | h
        · exact hn.1 (List.mem_filterMap.2 ⟨x, List.mem_of_getElem? hi, h⟩)
        · exact h z (List.mem_cons_self ..) hz
/-- One of them is another now; the others are as they were. -/
theorem Hp.set (h : Hp S0 w0 w I) {i : Nat} {x : It} (hi : I[i]? = some x) (y : It) {S : List Nat} (hc : Chg S w w') (hS : ∀ g ∈ S, x.blk = some g) (hy : y.ok w') (hyb : ∀ g, y.blk = some g → x.blk = some g ∨ w.heap.size ≤ g) {I' : List It} (hI : I.set i y = I') : Hp S0 w0 w' I' := by
  subst hI
  refine ⟨fun z hz => ?_, fun z hz g hg => ?_, set_nodup h.nd hi (fun g hg => (hyb g hg).imp id fun k => (h.newer k).2), h.chg.trans hc (fun g hg => .inr (h.lo x (List.mem_of_getElem? hi) g (hS g hg))), h.s0⟩
  · obtain ⟨j, hj, rfl⟩ := List.mem_iff_getElem.1 hz
    rw [List.getElem_set]
    split
    · exact hy
    · rename_i hij
      have hjl : j < I.length := by simpa using hj
      refine It.keep (h.ok _ (List.getElem_mem hjl)) hc (fun g hg hm => hij ?_)
      exact apart_at h.nd hi (List.getElem?_eq_getElem hjl) (hS g hm) hg
  · rcases List.mem_or_eq_of_mem_set hz with hz | rfl
    · exact h.lo z hz g hg
    · rcases hyb g hg with k | k
      · exact h.lo x (List.mem_of_getElem? hi) g k
      · exact (h.newer k).1
/-- A box is written. -/
theorem Hp.put (h : Hp S0 w0 w I) (i : Nat) {a : Nat} {vs : Array Value} {t : TypeId} (hi : I[i]? = some (.box a (.cells vs t (0, 0)))) (f : Nat) (u : Value) {I' : List It} (hI : I.set i (.box a (.cells (vs.setIfInBounds f u) t (0, 0))) = I') : Hp S0 w0 (w.setCell ⟨a, f, none⟩ u) I' :=
  h.set hi (.box a (.cells (vs.setIfInBounds f u) t (0, 0))) (S := [a]) ((Chg.refl [a] w).setCell (p := ⟨a, f, none⟩) (.inl (by simp)) u) (fun g hg => by simp only [List.mem_singleton] at hg; subst hg; rfl) (blk_set (h.get hi) f u) (fun g hg => .inl hg) hI
/-- An element of a list is written. -/
theorem Hp.puti (h : Hp S0 w0 w I) (i : Nat) {e k n g : Nat} {v : Value} {xs : List Value} (hi : I[i]? = some (.row e k v (some g) n xs)) (p : Nat) (u : Value) {I' : List It} (hI : I.set i (.row e k v (some g) n (xs.set p u)) = I') : Hp S0 w0 (w.setCell ⟨g, p, none⟩ u) I' :=
  h.set hi (.row e k v (some g) n (xs.set p u)) (S := [g]) ((Chg.refl [g] w).setCell (p := ⟨g, p, none⟩) (.inl (by simp)) u) (fun g' hg => by simp only [List.mem_singleton] at hg; subst hg; rfl) (by
    exact Row.putk (h.get hi) p u) (fun g hg => .inl hg) hI
/-- A list is grown. -/
theorem Hp.grow (h : Hp S0 w0 w I) (i : Nat) {e k n : Nat} {v : Value} {r : Option Nat} {xs : List Value} (hi : I[i]? = some (.row e k v r n xs)) {w1 w2 : World} (hc1 : Chg [] w w1) {e' k' n' : Nat} {v' : Value} {r' : Option Nat} {xs' : List Value} (hr : Row w2 e' k' v' r' n' xs') (hc2 : Chg r.toList w1 w2) (hf : Fresh w1 r r') {I' : List It} (hI : I.set i (.row e' k' v' r' n' xs') = I') : Hp S0 w0 w2 I' :=
  h.set hi (.row e' k' v' r' n' xs') (S := r.toList) (hc1.nil.trans' hc2) (fun g hg => (by simpa using hg : r = some g)) hr (fun g hg => (hf g hg).imp id fun k => Nat.le_trans hc1.size k) hI
theorem Hp.sub (h : Hp S0 w0 w I) {I' : List It} (hs : List.Sublist I' I) : Hp S0 w0 w I' :=
  ⟨fun x hx => h.ok x (hs.subset hx), fun x hx => h.lo x (hs.subset hx), h.nd.sublist (hs.filterMap _), h.chg, h.s0⟩
theorem Hp.perm (h : Hp S0 w0 w I) {I' : List It} (hp : I.Perm I') : Hp S0 w0 w I' :=
  ⟨fun x hx => h.ok x (hp.mem_iff.2 hx), fun x hx => h.lo x (hp.mem_iff.2 hx), (hp.filterMap It.blk).nodup_iff.1 h.nd, h.chg, h.s0⟩
/-- The rest of what was kept, under a change of one list alone. -/
theorem Hp.ne (h : Hp S0 w0 w I) {x y : It} {i j : Nat} (hi : I[i]? = some x) (hj : I[j]? = some y) (hij : i ≠ j) {g : Nat} (hx : x.blk = some g) : y.blk ≠ some g := fun hy => hij (apart_at h.nd hi hj hx hy)
/-- What a call made, beside what was there. -/
theorem Hp.join (h : Hp S0 w0 w I) {J : List It} {w1 : World} (k : Hp S0 w w1 J) : Hp S0 w0 w1 (J ++ I) := by
  have hI := h.step k.chg
  refine ⟨fun x hx => ?_, fun x hx g hg => ?_, ?_, hI.chg, h.s0⟩
  · rcases List.mem_append.1 hx with hx | hx
    · exact k.ok x hx
    · exact hI.ok x hx
  · rcases List.mem_append.1 hx with hx | hx
    · exact Nat.le_trans h.chg.size (k.lo x hx g hg)
    · exact h.lo x hx g hg
  · rw [List.filterMap_append, List.nodup_append]
    refine ⟨k.nd, h.nd, fun a ha c hc e => ?_⟩
    obtain ⟨x, hx, h1⟩ := List.mem_filterMap.1 ha
    obtain ⟨y, hy, h2⟩ := List.mem_filterMap.1 hc
    have h3 := k.lo x hx a h1
    have h4 := h.lt hy h2
    omega
/-- Seen from an older world. -/
theorem Hp.from {w1 : World} (hc : Chg S0 w0 w) (hs : ∀ x ∈ S0, x < w0.heap.size) (h : Hp S0 w w1 I) : Hp S0 w0 w1 I :=
  ⟨h.ok, fun x hx g hg => Nat.le_trans hc.size (h.lo x hx g hg), h.nd, hc.trans' h.chg, hs⟩
end
end Go.AB

/- Units and programs, plain: what is built of a unit. No program in sight. -/
set_option linter.unusedSimpArgs false
set_option linter.unusedSectionVars false
namespace Go.AB
open Go.RowKit
set_option linter.unusedVariables false

/-- An Item. -/
structure ItD where
  op : Int
  a : Int
  b : Int
  c : Int
  n : Int
  name : ByteArray
  p1 : Int
  p2 : Int
  q1 : Int
  q2 : Int
/-- A declaration. -/
structure DcD where
  kind : Int
  name : ByteArray
  val : Int
  l : Int
  c : Int
/-- A block. -/
structure BkD where
  name : ByteArray
  items : List ItD
  l : Int
  c : Int
structure UnD where
  decls : List DcD
  blocks : List BkD
def itC (x : ItD) : List Value := [.int .i64 x.op, .int .i64 x.a, .int .i64 x.b, .int .i64 x.c, .int .i64 x.n, .string x.name, .int .i64 x.p1, .int .i64 x.p2, .int .i64 x.q1, .int .i64 x.q2]
theorem itC_len (x : ItD) : (itC x).length = 10 := rfl
def dcC (x : DcD) : List Value := [.int .i64 x.kind, .string x.name, .int .i64 x.val, .int .i64 x.l, .int .i64 x.c]
theorem dcC_len (x : DcD) : (dcC x).length = 5 := rfl
/-- A block's value: its Items are a slice. -/
structure BkV where
  b : BkD
  items : Value
def bkC (x : BkV) : List Value := [.string x.b.name, x.items, .int .i64 x.b.l, .int .i64 x.b.c]
theorem bkC_len (x : BkV) : (bkC x).length = 4 := rfl
/-- A unit in memory. -/
structure UnV (w : World) (v : Value) (u : UnD) : Prop where
  mk' : ∃ a b : Value, ∃ bs : List BkV, v = .agg #[a, b] ∧ Lst dcC 5 w a u.decls ∧ Lst bkC 4 w b bs ∧ bs.map BkV.b = u.blocks ∧ ∀ x ∈ bs, Lst itC 10 w x.items x.b.items
theorem UnV.keep {w w' : World} {v : Value} {u : UnD} (h : UnV w v u) (hc : Chg [] w w') : UnV w' v u := by
  obtain ⟨a, b, bs, h0, h1, h2, h3, h4⟩ := h
  exact ⟨a, b, bs, h0, h1.keep hc, h2.keep hc, h3, fun x hx => (h4 x hx).keep hc⟩

def isLett (c : UInt8) : Bool := (decide (97 ≤ c.toNat) && decide (c.toNat ≤ 122)) || (decide (65 ≤ c.toNat) && decide (c.toNat ≤ 90))
def isNameC (c : UInt8) : Bool := isLett c || decide (c.toNat = 95) || (decide (48 ≤ c.toNat) && decide (c.toNat ≤ 57))
/-- Is it a name? -/
def nameL : List UInt8 → Bool
  | [] => false
  | c :: r => decide (r.length ≤ 23) && isLett c && r.all isNameC
def nameB (s : ByteArray) : Bool := nameL s.data.toList
/-- What an operation touches. -/
def touchB (op : Int) : Int :=
  if op = 11 ∨ op = 12 then 1 else if op = 13 ∨ op = 14 then 2 else if op = 15 ∨ op = 16 then 3 else if op = 19 then 4 else if op = 17 ∨ op = 18 then 5 else if op = 8 ∨ op = 9 then 6 else 0
/-- How many registers it names. -/
def regsB (op : Int) : Int :=
  if op = 3 ∨ op = 4 ∨ op = 5 ∨ op = 6 ∨ op = 7 then 3 else if op = 2 then 2 else if op = 1 ∨ op = 10 ∨ op = 9 ∨ op = 11 ∨ op = 12 ∨ op = 13 ∨ op = 14 then 1
  else if op = 8 ∨ op = 15 ∨ op = 16 ∨ op = 17 ∨ op = 18 ∨ op = 19 ∨ op = 20 then 0 else -1
def fit1 (n : Int) (i : Nat) (r : Int) : Bool := decide (0 ≤ r) && decide (r < 16) && (decide ((i : Int) < n) || decide (r = 0))
def fitB (n a b c : Int) : Bool := fit1 n 0 a && fit1 n 1 b && fit1 n 2 c && decide (0 ≤ n)
/-- May an Item be? -/
def lookB (x : ItD) : Bool :=
  if x.op = 0 then fitB 0 x.a x.b x.c && decide (x.n = 0) && nameB x.name
  else fitB (regsB x.op) x.a x.b x.c && (decide (x.n = 0) || decide (x.op = 1)) && (if touchB x.op = 0 then decide (x.name = ⟨#[]⟩) else nameB x.name)

/-- What is wrong, and where. -/
structure Flt where
  code : Int
  l : Int
  c : Int
/-- The value at a key of a list. -/
def assoc {α : Type} (l : List (ByteArray × α)) (s : ByteArray) : Option α := (l.find? (fun p => decide (p.1 = s))).map Prod.snd
/-- A block's labels and where they lead to; o: a label's place behind which there is no instruction yet. -/
def waysGo : List ItD → Nat → List (ByteArray × Nat) → Option (Int × Int) → Except Flt (List (ByteArray × Nat))
  | [], _, by', none => .ok by'
  | [], _, _, some q => .error ⟨93, q.1, q.2⟩
  | x :: r, n, by', o =>
    if lookB x = false then .error ⟨95, x.p1, x.p2⟩
    else if x.op ≠ 0 then waysGo r (n + 1) by' none
    else if (assoc by' x.name).isSome then .error ⟨90, x.p1, x.p2⟩
    else waysGo r n (by' ++ [(x.name, n)]) (some (o.getD (x.p1, x.p2)))
def waysD (l : List ItD) : Except Flt (List (ByteArray × Nat)) := waysGo l 0 [] none
/-- The names so far: each one's sort and number. -/
abbrev Nms := List (ByteArray × (Int × Nat))
def cntS (st : Nms) (s : Int) : Nat := (st.filter fun e => decide (e.2.1 = s)).length
def declD (st : Nms) (name : ByteArray) (s : Int) (most : Int) (l c : Int) : Except Flt Nms :=
  if nameB name = false then .error ⟨95, l, c⟩
  else if (assoc st name).isSome then .error ⟨90, l, c⟩
  else if most ≤ (cntS st s : Int) then .error ⟨94, l, c⟩
  else .ok (st ++ [(name, (s, cntS st s))])
/-- A declaration is laid down. -/
def dcPut (p : PrgD) (d : DcD) : PrgD :=
  if d.kind = 1 then { p with vars := p.vars ++ [⟨d.name, d.val⟩] } else if d.kind = 2 then { p with vols := p.vols ++ [⟨d.name, d.val⟩] }
  else if d.kind = 3 then { p with locks := p.locks ++ [d.name] } else { p with bars := p.bars ++ [⟨d.name, d.val⟩] }
def declnD (st : Nms) (p : PrgD) (d : DcD) : Except Flt (Nms × PrgD) :=
  if d.kind = 3 ∧ d.val ≠ 0 then .error ⟨95, d.l, d.c⟩
  else if d.kind = 1 ∨ d.kind = 2 ∨ d.kind = 3 ∨ d.kind = 4 then
    match declD st d.name d.kind 4096 d.l d.c with
    | .error f => .error f
    | .ok st' => .ok (st', dcPut p d)
  else .error ⟨95, d.l, d.c⟩
def declsD : List DcD → Nms → PrgD → Except Flt (Nms × PrgD)
  | [], st, p => .ok (st, p)
  | d :: r, st, p => match declnD st p d with
    | .error f => .error f
    | .ok q => declsD r q.1 q.2
def blocksD : List BkD → Nms → Except Flt Nms
  | [], st => .ok st
  | k :: r, st => match declD st k.name 5 65535 k.l k.c with
    | .error f => .error f
    | .ok st' => blocksD r st'
/-- What an instruction's name names or leads to. -/
def targD (st : Nms) (by' : List (ByteArray × Nat)) (x : ItD) : Except Flt Int :=
  if touchB x.op = 0 then .ok x.n
  else if touchB x.op = 6 then match assoc by' x.name with
    | none => .error ⟨91, x.q1, x.q2⟩
    | some n => .ok n
  else match assoc st x.name with
    | none => .error ⟨91, x.q1, x.q2⟩
    | some e => if e.1 ≠ touchB x.op then .error ⟨92, x.q1, x.q2⟩ else .ok e.2
def codeGo (st : Nms) (by' : List (ByteArray × Nat)) : List ItD → Nat → List InsD → List PlcD → Except Flt (Nat × List InsD × List PlcD)
  | [], all, c, p => .ok (all, c, p)
  | x :: r, all, c, p =>
    if x.op = 0 then codeGo st by' r all c p
    else if 262144 < all + 1 ∨ 4096 ≤ c.length then .error ⟨94, x.p1, x.p2⟩
    else match targD st by' x with
      | .error f => .error f
      | .ok n => codeGo st by' r (all + 1) (c ++ [⟨x.op, x.a, x.b, x.c, n⟩]) (p ++ [⟨x.p1, x.p2⟩])
def thrD (st : Nms) (all : Nat) (k : BkD) : Except Flt (Nat × ThrD) :=
  match waysD k.items with
  | .error f => .error f
  | .ok by' => match codeGo st by' k.items all [] [] with
    | .error f => .error f
    | .ok r => .ok (r.1, ⟨k.name, r.2.1, r.2.2⟩)
def thrsD (st : Nms) : List BkD → Nat → List ThrD → Except Flt (List ThrD)
  | [], _, ts => .ok ts
  | k :: r, all, ts => match thrD st all k with
    | .error f => .error f
    | .ok q => thrsD st r q.1 (ts ++ [q.2])
/-- The program of a unit. -/
def progD (u : UnD) : Except Flt PrgD :=
  match declsD u.decls [] ⟨[], [], [], [], []⟩ with
  | .error f => .error f
  | .ok q => match blocksD u.blocks q.1 with
    | .error f => .error f
    | .ok st => match thrsD st u.blocks 0 [] with
      | .error f => .error f
      | .ok ts => .ok { q.2 with thrs := ts }
end Go.AB

/- Plain definitions for the lexer: what a source's tokens are. No program in sight. -/
namespace Go.AB
open Go.RowKit

theorem take_snoc {α : Type} (l : List α) (k : Nat) (h : k < l.length) : l.take (k + 1) = l.take k ++ [l[k]] := by
  rw [List.take_succ_eq_append_getElem h]

def isLetter (c : UInt8) : Bool := (97 ≤ c.toNat && c.toNat ≤ 122) || (65 ≤ c.toNat && c.toNat ≤ 90)
def isDigit (c : UInt8) : Bool := 48 ≤ c.toNat && c.toNat ≤ 57
def isWordly (c : UInt8) : Bool := isLetter c || isDigit c || c.toNat == 95
def notLf (c : UInt8) : Bool := c.toNat != 10
def isBlank (c : UInt8) : Bool := c.toNat == 9 || c.toNat == 13 || c.toNat == 32
/-- How many bytes at the head are of a kind. -/
def runLen (p : UInt8 → Bool) : List UInt8 → Nat
  | [] => 0
  | c :: l => if p c then runLen p l + 1 else 0
theorem runLen_le (p : UInt8 → Bool) : ∀ l, runLen p l ≤ l.length
  | [] => Nat.le_refl _
  | c :: l => by unfold runLen; have := runLen_le p l; split <;> simp <;> omega
def hexVal (c : UInt8) : Option Nat :=
  if isDigit c then some (c.toNat - 48) else if 97 ≤ c.toNat ∧ c.toNat ≤ 102 then some (c.toNat - 87) else if 65 ≤ c.toNat ∧ c.toNat ≤ 70 then some (c.toNat - 55) else none
def isHex (c : UInt8) : Bool := (hexVal c).isSome
def hexNat (l : List UInt8) : Nat := l.foldl (fun v c => 16 * v + (hexVal c).getD 0) 0
def decNat (l : List UInt8) : Nat := l.foldl (fun v c => 10 * v + (c.toNat - 48)) 0
/-- 64 bits as a number with a sign. -/
def asI64 (n : Nat) : Int := if n < 9223372036854775808 then (n : Int) else (n : Int) - 18446744073709551616

/-- The number that stands at the head: its value, how many bytes; none: there is none. -/
def numAt (l : List UInt8) : Option (Int × Nat) :=
  if l.head? = some 48 ∧ l[1]? = some 120 then
    if 1 ≤ runLen isHex (l.drop 2) ∧ runLen isHex (l.drop 2) ≤ 16 then some (asI64 (hexNat ((l.drop 2).take (runLen isHex (l.drop 2)))), runLen isHex (l.drop 2) + 2) else none
  else if l.head? = some 45 then
    if decNat ((l.drop 1).take (runLen isDigit (l.drop 1))) ≤ 9223372036854775808 then some (-(decNat ((l.drop 1).take (runLen isDigit (l.drop 1))) : Int), runLen isDigit (l.drop 1) + 1) else none
  else
    if decNat (l.take (runLen isDigit l)) ≤ 9223372036854775807 then some ((decNat (l.take (runLen isDigit l)) : Int), runLen isDigit l) else none
/-- Does a byte that may stand in a name stand there? -/
def wAt (l : List UInt8) (n : Nat) : Bool := match l[n]? with | some c => isWordly c | none => false
/-- A number may not be followed by what may stand in a name. -/
def numTokAt (l : List UInt8) : Option (Int × Nat) :=
  match numAt l with
  | none => none
  | some (v, n) => if wAt l n then none else some (v, n)

/-- What stands at the head: an error's number, or the kind, the text, the number, how many bytes. -/
def tokAt (l : List UInt8) : Nat × (Nat × List UInt8 × Int × Nat) :=
  match l with
  | [] => (0, 7, [], 0, 0)
  | c :: r =>
    if isLetter c then (0, 1, l.take (runLen isWordly l), 0, runLen isWordly l)
    else if isDigit c ∨ (c.toNat = 45 ∧ ∃ d ∈ r.head?, isDigit d = true) then
      match numTokAt l with
      | none => (71, 0, [], 0, 0)
      | some (v, n) => (0, 2, [], v, n)
    else if c.toNat = 44 then (0, 3, [], 0, 1)
    else if c.toNat = 58 then (0, 4, [], 0, 1)
    else if c.toNat = 61 then (0, 5, [], 0, 1)
    else if c.toNat = 10 then (0, 6, [], 0, 1)
    else (70, 0, [], 0, 0)
/-- How many bytes of blanks and remarks stand at the head. -/
def gapLen (f : Nat) (l : List UInt8) : Nat :=
  match f, l with
  | 0, _ => 0
  | _, [] => 0
  | f + 1, c :: r =>
    if isBlank c then gapLen f r + 1
    else if c.toNat = 59 then runLen notLf l + gapLen f (l.drop (runLen notLf l))
    else 0

theorem foldl_hex (l : List UInt8) (v : Nat) : l.foldl (fun v c => 16 * v + (hexVal c).getD 0) v + 1 ≤ (v + 1) * 16 ^ l.length := by
  induction l generalizing v with
  | nil => simp
  | cons c l ih =>
    have hc : (hexVal c).getD 0 ≤ 15 := by
      unfold hexVal isDigit
      split
      · rename_i h; simp at h ⊢; omega
      · split
        · simp; omega
        · split
          · simp; omega
          · simp
    have h1 := ih (16 * v + (hexVal c).getD 0)
    simp only [List.foldl_cons, List.length_cons, Nat.pow_succ']
    refine Nat.le_trans h1 ?_
    rw [← Nat.mul_assoc]
    exact Nat.mul_le_mul_right _ (by omega)
theorem hexNat_lt (l : List UInt8) (h : l.length ≤ 16) : hexNat l < 18446744073709551616 := by
  have h1 := foldl_hex l 0
  have h2 : 16 ^ l.length ≤ 16 ^ 16 := Nat.pow_le_pow_right (by decide) h
  unfold hexNat
  omega
end Go.AB

/- The tokens of a source, plain. No program in sight. -/
namespace Go.AB
open Go.RowKit

structure Tok where
  kind : Nat
  text : List UInt8
  num : Int
  line : Nat
  col : Nat

/-- What is to be done at a place: pass some bytes over, a fault, or a token of n bytes. -/
inductive Act1 where
  | pass (n : Nat)
  | fault (e : Nat)
  | tok (k : Nat) (t : List UInt8) (v : Int) (n : Nat)
def act1 (d : List UInt8) : Act1 :=
  match d.head? with
  | some c =>
    if isBlank c then .pass 1
    else if c.toNat = 59 then .pass (runLen notLf d)
    else if (tokAt d).1 ≠ 0 then .fault (tokAt d).1 else .tok (tokAt d).2.1 (tokAt d).2.2.1 (tokAt d).2.2.2.1 (tokAt d).2.2.2.2
  | none => .tok 7 [] 0 0

/-- The tokens from a place on, and the fault (its number, line and column). -/
def scan : Nat → List UInt8 → Nat → Nat → List Tok × (Nat × Nat × Nat)
  | 0, _, _, _ => ([], (0, 0, 0))
  | f + 1, d, ln, col =>
    match act1 d with
    | .pass n => scan f (d.drop n) ln (col + n)
    | .fault e => ([], (e, ln, col))
    | .tok k t v n =>
      if k = 7 then ([⟨7, [], 0, ln, col⟩], (0, 0, 0))
      else if k = 6 then (⟨k, t, v, ln, col⟩ :: (scan f (d.drop n) (ln + 1) 1).1, (scan f (d.drop n) (ln + 1) 1).2)
      else (⟨k, t, v, ln, col⟩ :: (scan f (d.drop n) ln (col + n)).1, (scan f (d.drop n) ln (col + n)).2)
def lexB (L : List UInt8) : List Tok × (Nat × Nat × Nat) := if 1048576 < L.length then ([], (3, 0, 0)) else scan (L.length + 1) L 1 1

theorem runLen_pos {p : UInt8 → Bool} {c : UInt8} {r : List UInt8} (h : p c = true) : 1 ≤ runLen p (c :: r) := by rw [runLen, if_pos h]; omega
theorem numAt_pos {c : UInt8} {r : List UInt8} (hd : isDigit c = true ∨ c.toNat = 45) {v : Int} {n : Nat} (h : numAt (c :: r) = some (v, n)) : 1 ≤ n ∧ n ≤ (c :: r).length := by
  unfold numAt at h
  split at h
  · rename_i h0
    split at h
    · rename_i h1
      simp only [Option.some.injEq, Prod.mk.injEq] at h
      obtain ⟨_, rfl⟩ := h
      have h2 := runLen_le isHex ((c :: r).drop 2)
      simp only [List.length_drop, List.length_cons] at h2
      have h3 : 2 ≤ (c :: r).length := by
        have h4 := h0.2
        by_cases h5 : 1 < (c :: r).length
        · omega
        · rw [List.getElem?_eq_none (by omega)] at h4; cases h4
      simp only [List.length_cons] at h3 ⊢
      omega
    · cases h
  · split at h
    · split at h
      · simp only [Option.some.injEq, Prod.mk.injEq] at h
        obtain ⟨_, rfl⟩ := h
        have h2 := runLen_le isDigit ((c :: r).drop 1)
        simp only [List.length_drop, List.length_cons] at h2 ⊢
        omega
      · cases h
    · rename_i h0 h1
      split at h
      · simp only [Option.some.injEq, Prod.mk.injEq] at h
        obtain ⟨_, rfl⟩ := h
        refine ⟨?_, runLen_le _ _⟩
        rcases hd with hd | hd
        · exact runLen_pos hd
        · exfalso
          apply h1
          simp only [List.head?_cons, Option.some.injEq]
          exact UInt8.toNat_inj.1 (by simpa using hd)
      · cases h
/-- A token that is no end has a byte or more. -/
theorem act1_tok {d : List UInt8} {k : Nat} {t : List UInt8} {v : Int} {n : Nat} (h : act1 d = .tok k t v n) : (d = [] ∧ k = 7 ∧ t = [] ∧ v = 0 ∧ n = 0) ∨ (d ≠ [] ∧ 1 ≤ k ∧ k ≤ 6 ∧ 1 ≤ n ∧ n ≤ d.length) := by
  cases d with
  | nil => simp [act1] at h; exact .inl ⟨rfl, h.1.symm, h.2.1, h.2.2.1.symm, h.2.2.2.symm⟩
  | cons c r =>
    refine .inr ⟨by simp, ?_⟩
    unfold act1 at h
    simp only [List.head?_cons] at h
    split at h
    · cases h
    split at h
    · cases h
    split at h
    · cases h
    rename_i h1 h2 h3
    simp only [Act1.tok.injEq] at h
    obtain ⟨rfl, rfl, rfl, rfl⟩ := h
    simp only [ne_eq, Classical.not_not] at h3
    simp only [tokAt] at h3 ⊢
    split
    · rename_i hl
      refine ⟨by simp, by simp, ?_, runLen_le _ _⟩
      exact runLen_pos (by simp [isWordly, hl])
    · rename_i hl
      rw [if_neg hl] at h3
      split
      · rename_i hd
        rw [if_pos hd] at h3
        cases hn : numTokAt (c :: r) with
        | none => rw [hn] at h3; simp at h3
        | some p =>
          obtain ⟨v, n⟩ := p
          have hn2 : numAt (c :: r) = some (v, n) := by
            unfold numTokAt at hn
            split at hn
            · cases hn
            · rename_i v' n' h4
              split at hn
              · cases hn
              · rw [h4]; exact hn
          have := numAt_pos (hd.imp id (fun h => h.1)) hn2
          simp only
          exact ⟨by omega, by omega, this⟩
      · rename_i hd
        rw [if_neg hd] at h3
        have hl1 : 1 ≤ (c :: r).length := by simp
        split
        · exact ⟨by simp, by simp, by simp, hl1⟩
        split
        · exact ⟨by simp, by simp, by simp, hl1⟩
        split
        · exact ⟨by simp, by simp, by simp, hl1⟩
        split
        · exact ⟨by simp, by simp, by simp, hl1⟩
        rename_i n1 n2 n3 n4
        rw [if_neg n1, if_neg n2, if_neg n3, if_neg n4] at h3
        simp at h3
theorem act1_pass {d : List UInt8} {n : Nat} (h : act1 d = .pass n) : 1 ≤ n ∧ n ≤ d.length := by
  cases d with
  | nil => simp [act1] at h
  | cons c r =>
    unfold act1 at h
    simp only [List.head?_cons] at h
    split at h
    · simp only [Act1.pass.injEq] at h; subst h; simp
    split at h
    · rename_i hc
      simp only [Act1.pass.injEq] at h
      subst h
      exact ⟨runLen_pos (by simp [notLf, hc]), runLen_le _ _⟩
    · split at h <;> cases h
theorem scan_fuel : ∀ f g d ln col, d.length < f → d.length < g → scan f d ln col = scan g d ln col
  | 0, _, d, _, _, h, _ => by omega
  | f + 1, 0, d, _, _, _, h => by omega
  | f + 1, g + 1, d, ln, col, hf, hg => by
    unfold scan
    cases ha : act1 d with
    | pass n =>
      have := act1_pass ha
      exact scan_fuel f g _ _ _ (by rw [List.length_drop]; omega) (by rw [List.length_drop]; omega)
    | fault e => rfl
    | tok k t v n =>
      simp only
      rcases act1_tok ha with ⟨h1, h2, _⟩ | ⟨h1, h2⟩
      · rw [if_pos h2, if_pos h2]
      · have e := fun ln col => scan_fuel f g (d.drop n) ln col (by rw [List.length_drop]; omega) (by rw [List.length_drop]; omega)
        rw [e, e]
/-- The tokens from a place on, whatever the fuel. -/
def scanD (d : List UInt8) (ln col : Nat) : List Tok × (Nat × Nat × Nat) := scan (d.length + 1) d ln col
theorem scanD_eq (d : List UInt8) (ln col : Nat) : scanD d ln col = match act1 d with
    | .pass n => scanD (d.drop n) ln (col + n)
    | .fault e => ([], (e, ln, col))
    | .tok k t v n =>
      if k = 7 then ([⟨7, [], 0, ln, col⟩], (0, 0, 0))
      else if k = 6 then (⟨k, t, v, ln, col⟩ :: (scanD (d.drop n) (ln + 1) 1).1, (scanD (d.drop n) (ln + 1) 1).2)
      else (⟨k, t, v, ln, col⟩ :: (scanD (d.drop n) ln (col + n)).1, (scanD (d.drop n) ln (col + n)).2) := by
  unfold scanD
  rw [scan]
  cases ha : act1 d with
  | pass n =>
    have := act1_pass ha
    exact scan_fuel _ _ _ _ _ (by rw [List.length_drop]; omega) (by omega)
  | fault e => rfl
  | tok k t v n =>
    simp only
    rcases act1_tok ha with ⟨h1, h2, _⟩ | ⟨h1, h2⟩
    · rw [if_pos h2, if_pos h2]
    · have e := fun ln col => scan_fuel d.length ((d.drop n).length + 1) (d.drop n) ln col (by rw [List.length_drop]; omega) (by omega)
      rw [e, e]
theorem lexB_eq {L : List UInt8} (h : L.length ≤ 1048576) : lexB L = scanD L 1 1 := by unfold lexB; rw [if_neg (by omega)]; rfl
/-- The tokens are no more than the bytes and one. -/
theorem scan_len : ∀ f d ln col, d.length < f → (scan f d ln col).1.length ≤ d.length + 1
  | 0, d, _, _, h => by omega
  | f + 1, d, ln, col, hf => by
    unfold scan
    cases ha : act1 d with
    | pass n =>
      have := act1_pass ha
      have h := scan_len f (d.drop n) ln (col + n) (by rw [List.length_drop]; omega)
      rw [List.length_drop] at h
      simp only
      omega
    | fault e => simp
    | tok k t v n =>
      simp only
      rcases act1_tok ha with ⟨h1, h2, _⟩ | ⟨h1, h2⟩
      · rw [if_pos h2]; simp
      · have h := fun ln col => scan_len f (d.drop n) ln col (by rw [List.length_drop]; omega)
        have h3 := h (ln + 1) 1
        have h4 := h ln (col + n)
        rw [List.length_drop] at h3 h4
        split
        · simp
        split <;> simp only [List.length_cons] <;> omega
theorem scanD_len (d : List UInt8) (ln col : Nat) : (scanD d ln col).1.length ≤ d.length + 1 := scan_len _ _ _ _ (Nat.lt_succ_self _)
/-- Either there is a fault and no end among the tokens, or the last token is the end, and it alone. -/
theorem scan_end : ∀ f d ln col, d.length < f → ((scan f d ln col).2.1 ≠ 0 ∧ ∀ t ∈ (scan f d ln col).1, t.kind ≠ 7) ∨ ((scan f d ln col).2 = (0, 0, 0) ∧ ∃ l t, (scan f d ln col).1 = l ++ [t] ∧ t.kind = 7 ∧ ∀ u ∈ l, u.kind ≠ 7)
  | 0, d, _, _, h => by omega
  | f + 1, d, ln, col, hf => by
    unfold scan
    cases ha : act1 d with
    | pass n =>
      have := act1_pass ha
      exact scan_end f (d.drop n) ln (col + n) (by rw [List.length_drop]; omega)
    | fault e =>
      refine .inl ⟨?_, by simp⟩
      unfold act1 at ha
      split at ha
      · split at ha
        · cases ha
        split at ha
        · cases ha
        split at ha
        · rename_i h; cases ha; exact h
        · cases ha
      · cases ha
    | tok k t v n =>
      simp only
      rcases act1_tok ha with ⟨h1, h2, _⟩ | ⟨h1, h2⟩
      · rw [if_pos h2]; exact .inr ⟨rfl, [], _, rfl, rfl, by simp⟩
      · rw [if_neg (by omega)]
        have key : ∀ (p : List Tok × (Nat × Nat × Nat)) (x : Tok), x.kind ≠ 7 → ((p.2.1 ≠ 0 ∧ ∀ t ∈ p.1, t.kind ≠ 7) ∨ (p.2 = (0, 0, 0) ∧ ∃ l t, p.1 = l ++ [t] ∧ t.kind = 7 ∧ ∀ u ∈ l, u.kind ≠ 7)) →
            ((x :: p.1, p.2).2.1 ≠ 0 ∧ ∀ t ∈ (x :: p.1, p.2).1, t.kind ≠ 7) ∨ ((x :: p.1, p.2).2 = (0, 0, 0) ∧ ∃ l t, (x :: p.1, p.2).1 = l ++ [t] ∧ t.kind = 7 ∧ ∀ u ∈ l, u.kind ≠ 7) := by
          intro p x hx hp
          rcases hp with ⟨h3, h4⟩ | ⟨h3, l, t, h4, h5, h6⟩
          · exact .inl ⟨h3, fun t ht => by rcases List.mem_cons.1 ht with rfl | h; exact hx; exact h4 t h⟩
          · exact .inr ⟨h3, x :: l, t, by simp only [h4]; rfl, h5, fun u hu => by rcases List.mem_cons.1 hu with rfl | h; exact hx; exact h6 u h⟩
        split
        · exact key _ _ (by simp only; omega) (scan_end f (d.drop n) (ln + 1) 1 (by rw [List.length_drop]; omega))
        · exact key _ _ (by simp only; omega) (scan_end f (d.drop n) ln (col + n) (by rw [List.length_drop]; omega))
end Go.AB

/- Maps of the call's own, as what each key leads to. No program in sight. -/
set_option linter.unusedVariables false
set_option linter.unusedSectionVars false
set_option linter.unusedSimpArgs false
set_option linter.unusedSimpArgs false
set_option linter.unusedSectionVars false
namespace Go.AB
open Go.RowKit
set_option linter.unusedVariables false
set_option linter.unusedSimpArgs false

theorem ba_beq (a b : ByteArray) : (a == b) = decide (a = b) := by
  cases a with | mk x => cases b with | mk y =>
  show (x == y) = _
  by_cases h : x = y
  · subst h; simp
  · have h2 : ¬ (ByteArray.mk x = ByteArray.mk y) := fun e => h (by injection e)
    simp [h, h2]
/-- Keys of a plain type: texts, whole numbers. -/
structure KeyOk (P : Program) (k : TypeId) (κ : Type) [DecidableEq κ] (mk : κ → Value) : Prop where
  und : ∃ U, P.underlying k = some U ∧ ∀ a b, Instr.sameNow U (mk a) (mk b) = some (decide (a = b))
  chk : ∀ em (a : κ) (w : World), (Instr.checkKey em 10000 k (mk a)).run P w = .ok () w
  bit : ∀ a, Instr.sameBits 10000 (mk a) (mk a) = true
theorem key_string {P : Program} {k : TypeId} (h : P.underlying k = some .string) : KeyOk P k ByteArray Value.string := by
  refine ⟨⟨_, h, fun a b => ?_⟩, fun em a w => ?_, fun a => ?_⟩
  · simp only [Instr.sameNow]
    rw [ba_beq]
  · have h2 : ∀ d, (Instr.checkKey em (d + 1) k (.string a)).run P w = .ok () w := fun d => by simp [Instr.checkKey, run_underlying h]
    exact h2 9999
  · have h2 : ∀ d, Instr.sameBits (d + 1) (.string a) (.string a) = true := fun d => by simp [Instr.sameBits, ba_beq]
    exact h2 9999
theorem key_int {P : Program} {k : TypeId} (h : P.underlying k = some (.int .i64)) : KeyOk P k Int (Value.int .i64) := by
  refine ⟨⟨_, h, fun a b => ?_⟩, fun em a w => ?_, fun a => ?_⟩
  · simp only [Instr.sameNow, if_true]
    by_cases hab : a = b
    · subst hab; simp
    · simp [hab]
  · have h2 : ∀ d, (Instr.checkKey em (d + 1) k (.int .i64 a)).run P w = .ok () w := fun d => by simp [Instr.checkKey, run_underlying h]
    exact h2 9999
  · have h2 : ∀ d, Instr.sameBits (d + 1) (.int .i64 a) (.int .i64 a) = true := fun d => by simp [Instr.sameBits]
    exact h2 9999

section
variable {κ : Type} [DecidableEq κ]
/-- The first value that stands at a key. -/
def lookK (l : List (κ × Value)) (a : κ) : Option Value := (l.find? (fun p => decide (p.1 = a))).map Prod.snd
/-- Where it stands. -/
def idxK (l : List (κ × Value)) (a : κ) : Option Nat := l.findIdx? (fun p => decide (p.1 = a))
/-- Block b is a map; each key leads to what f tells. -/
def MapF (w : World) (b : Nat) (mk : κ → Value) (f : κ → Option Value) : Prop :=
  ∃ es clock, w.heap[b]? = some (.map es clock) ∧ ∃ l : List (κ × Value), es.toList.map (fun e => (e.key, e.val)) = l.map (fun p => (mk p.1, p.2)) ∧ ∀ a, lookK l a = f a
variable {w w' : World} {b : Nat} {mk : κ → Value} {f : κ → Option Value} {P : Program} {k : TypeId}
theorem MapF.keep (h : MapF w b mk f) {S : List Nat} (hc : Chg S w w') (hb : b ∉ S) : MapF w' b mk f := by
  obtain ⟨es, c, h1, h2⟩ := h
  exact ⟨es, c, hc.heap h1 hb, h2⟩
theorem MapF.lt (h : MapF w b mk f) : b < w.heap.size := by
  obtain ⟨es, c, h1, _⟩ := h
  exact (Array.getElem?_eq_some_iff.1 h1).1
theorem MapF.congr (h : MapF w b mk f) {g : κ → Option Value} (hg : ∀ a, f a = g a) : MapF w b mk g := by
  obtain ⟨es, c, h1, l, h2, h3⟩ := h
  exact ⟨es, c, h1, l, h2, fun a => (h3 a).trans (hg a)⟩
theorem MapF.made (w : World) (mk : κ → Value) : MapF (w.alloc (.map #[] 0)) w.heap.size mk (fun _ => none) :=
  ⟨#[], 0, heap_alloc_new w _, [], rfl, fun _ => rfl⟩

theorem findNow_at {U : TypeDesc} (hU : ∀ a b, Instr.sameNow U (mk a) (mk b) = some (decide (a = b))) (a : κ) : ∀ (es : List MapEntry) (l : List (κ × Value)) (i : Nat), es.map (fun e => (e.key, e.val)) = l.map (fun p => (mk p.1, p.2)) →
    Instr.findNow U (mk a) es i = some (match idxK l a, lookK l a with | some j, some v => some (i + j, v) | _, _ => none)
  | [], [], i, _ => rfl
  | [], _ :: _, i, h => by simp at h
  | _ :: _, [], i, h => by simp at h
  | e :: es, p :: l, i, h => by
    simp only [List.map_cons, List.cons.injEq, Prod.mk.injEq] at h
    obtain ⟨⟨h1, h2⟩, h3⟩ := h
    unfold Instr.findNow
    rw [h1, hU a p.1]
    by_cases hap : p.1 = a
    · simp [hap, idxK, lookK, List.find?_cons, List.findIdx?_cons, h2]
    · have hpa : ¬ a = p.1 := fun e => hap e.symm
      have ih := findNow_at hU a es l (i + 1) h3
      simp only [hpa, decide_false]
      rw [ih]
      simp only [idxK, lookK, List.find?_cons, List.findIdx?_cons, hap, decide_false]
      cases h4 : l.findIdx? (fun p => decide (p.1 = a)) with
      | none => simp
      | some j =>
        simp only [Option.map_some]
        cases h5 : (l.find? (fun p => decide (p.1 = a))).map Prod.snd with
        | none => simp
        | some v => simp; omega
theorem run_findKey_at (K : KeyOk P k κ mk) (a : κ) {es : List MapEntry} {l : List (κ × Value)} (h : es.map (fun e => (e.key, e.val)) = l.map (fun p => (mk p.1, p.2))) (w : World) :
    (Instr.findKey k (mk a) es).run P w = .ok (match idxK l a, lookK l a with | some j, some v => some (j, v) | _, _ => none) w := by
  obtain ⟨U, hU, hs⟩ := K.und
  have h1 := findNow_at hs a es l 0 h
  simp only [Nat.zero_add] at h1
  simp [Instr.findKey, run_underlying hU, h1]
theorem idx_look (l : List (κ × Value)) (a : κ) : (idxK l a = none ∧ lookK l a = none) ∨ ∃ j v, idxK l a = some j ∧ lookK l a = some v := by
  induction l with
  | nil => exact .inl ⟨rfl, rfl⟩
  | cons p l ih =>
    by_cases hap : p.1 = a
    · exact .inr ⟨0, p.2, by simp [idxK, List.findIdx?_cons, hap], by simp [lookK, List.find?_cons, hap]⟩
    · rcases ih with ⟨h1, h2⟩ | ⟨j, v, h1, h2⟩
      · left
        unfold idxK at h1
        unfold lookK at h2
        simp [idxK, lookK, List.findIdx?_cons, List.find?_cons, hap, h1]
        simpa using h2
      · right
        unfold idxK at h1
        unfold lookK at h2
        exact ⟨j + 1, v, by simp [idxK, List.findIdx?_cons, hap, h1], by simp only [lookK, List.find?_cons, hap, decide_false]; exact h2⟩
/-- A look-up. -/
theorem MapF.lookup (h : MapF w b mk f) (K : KeyOk P k κ mk) {t e : TypeId} (ht : P.underlying t = some (.map k e)) {z : Value} (hz : (zeroValue e).run P w = .ok z w) (a : κ) (ok : Bool) :
    (Instr.lookup t (.map (some b)) (mk a) ok).run P w = .ok (if ok then .tuple #[(f a).getD z, .bool (f a).isSome] else (f a).getD z) w := by
  obtain ⟨es, c, h1, l, h2, h3⟩ := h
  have hf := run_findKey_at K a h2 w
  have hc := K.chk es.isEmpty a w
  rw [← h3 a]
  rcases idx_look l a with ⟨h4, h5⟩ | ⟨j, v, h4, h5⟩
  · rw [h4, h5] at hf
    cases ok <;> simp [Instr.lookup, run_underlying ht, MapKept.run_getObj_map h1, hc, hf, h5, hz]
  · rw [h4, h5] at hf
    cases ok <;> simp [Instr.lookup, run_underlying ht, MapKept.run_getObj_map h1, hc, hf, h5]
theorem lookK_snoc (l : List (κ × Value)) (a : κ) (v : Value) (h : lookK l a = none) (x : κ) : lookK (l ++ [(a, v)]) x = if x = a then some v else lookK l x := by
  by_cases hx : x = a
  · subst hx
    rw [if_pos rfl]
    unfold lookK at h ⊢
    rw [List.find?_append]
    have h2 : l.find? (fun p => decide (p.1 = x)) = none := by simpa using h
    rw [h2]
    simp
  · have hax : ¬ a = x := fun e => hx e.symm
    rw [if_neg hx]
    unfold lookK
    rw [List.find?_append]
    simp [hax]
theorem idx_lt : ∀ (l : List (κ × Value)) (a : κ) (j : Nat), idxK l a = some j → ∃ h : j < l.length, l[j].1 = a
  | [], a, j, h => by simp [idxK] at h
  | p :: l, a, j, h => by
    by_cases hap : p.1 = a
    · simp [idxK, List.findIdx?_cons, hap] at h
      subst h
      exact ⟨by simp, hap⟩
    · unfold idxK at h
      simp only [List.findIdx?_cons, hap, decide_false] at h
      cases h2 : l.findIdx? (fun p => decide (p.1 = a)) with
      | none => simp [h2] at h
      | some i =>
        simp [h2] at h
        subst h
        obtain ⟨h3, h4⟩ := idx_lt l a i h2
        exact ⟨by simpa using h3, h4⟩
theorem lookK_set : ∀ (l : List (κ × Value)) (a : κ) (v : Value) (j : Nat), idxK l a = some j → ∀ x, lookK (l.set j (a, v)) x = if x = a then some v else lookK l x
  | [], a, v, j, h, x => by simp [idxK] at h
  | p :: l, a, v, j, h, x => by
    by_cases hap : p.1 = a
    · simp [idxK, List.findIdx?_cons, hap] at h
      subst h
      simp only [List.set_cons_zero, lookK, List.find?_cons]
      by_cases hx : x = a
      · subst hx; simp
      · have hax : ¬ a = x := fun e => hx e.symm
        have hpx : ¬ p.1 = x := fun e => hax (hap.symm.trans e)
        simp [hx, hax, hpx]
    · unfold idxK at h
      simp only [List.findIdx?_cons, hap, decide_false] at h
      cases h2 : l.findIdx? (fun p => decide (p.1 = a)) with
      | none => simp [h2] at h
      | some i =>
        simp [h2] at h
        subst h
        have ih := lookK_set l a v i h2 x
        simp only [List.set_cons_succ, lookK, List.find?_cons]
        by_cases hpx : p.1 = x
        · have hx : ¬ x = a := fun e => hap (hpx.trans e)
          simp [hpx, hx]
        · simp only [hpx, decide_false]
          exact ih
/-- A store. -/
theorem MapF.update (h : MapF w b mk f) (K : KeyOk P k κ mk) {t e : TypeId} (ht : P.underlying t = some (.map k e)) (a : κ) (v : Value) :
    ∃ w', (Instr.mapUpdate t (.map (some b)) (mk a) v).run P w = .ok () w' ∧ MapF w' b mk (fun x => if x = a then some v else f x) ∧ Chg [b] w w' := by
  obtain ⟨es, c, h1, l, h2, h3⟩ := h
  have hf := run_findKey_at K a h2 w
  have hc := K.chk false a w
  have hgrow : ∀ o, Chg [b] w (ChangeMaps.setBlock w b o) := fun o => ⟨rfl, rfl, rfl, by simp [ChangeMaps.setBlock], fun i _ hi => ChangeMaps.heap_setBlock_other h1 _ (fun e => hi (by simp [e]))⟩
  have hlen : es.toList.length = l.length := by have := congrArg List.length h2; simpa using this
  rcases idx_look l a with ⟨h4, h5⟩ | ⟨j, u, h4, h5⟩
  · rw [h4, h5] at hf
    refine ⟨ChangeMaps.setBlock w b (.map (es.push { key := mk a, val := v, born := c }) (c + 1)), ?_, ⟨_, _, ChangeMaps.heap_setBlock_same h1 _, l ++ [(a, v)], ?_, fun x => ?_⟩, hgrow _⟩
    · simp [Instr.mapUpdate, run_underlying ht, MapKept.run_getObj_map h1, hc, hf, MapKept.run_setObj_map _ h1, ChangeMaps.setBlock]
    · simp [h2]
    · rw [lookK_snoc l a v h5 x, h3]
  · rw [h4, h5] at hf
    obtain ⟨hj, hja⟩ := idx_lt l a j h4
    have hje : j < es.size := by have : es.size = l.length := by simpa using hlen
                                 omega
    have hkey : es[j].key = mk a := by
      have := congrArg (fun L => L[j]?) h2
      simp [hj, hje, hja] at this
      exact this.1
    have hst : ∀ w0 : World, (Instr.keyThatStays (mk a) (mk a)).run P w0 = .ok (mk a) w0 := fun w0 => by simp [Instr.keyThatStays, K.bit a]
    refine ⟨ChangeMaps.setBlock w b (.map (es.modify j fun e => { e with key := mk a, val := v }) c), ?_, ⟨_, _, ChangeMaps.heap_setBlock_same h1 _, l.set j (a, v), ?_, fun x => ?_⟩, hgrow _⟩
    · simp [Instr.mapUpdate, run_underlying ht, MapKept.run_getObj_map h1, hc, hf, hje, hkey, hst, MapKept.run_setObj_map _ h1, ChangeMaps.setBlock]
    · apply List.ext_getElem
      · simpa using hlen
      · intro i g1 g2
        have := congrArg (fun L => L[i]?) h2
        have hi : i < l.length := by simpa using g2
        have hie : i < es.size := by have : es.size = l.length := by simpa using hlen
                                     omega
        simp [hi, hie] at this
        by_cases hij : j = i
        · subst hij
          simp [Array.getElem_modify]
        · simp [Array.getElem_modify, hij, List.getElem_set_ne, this]
    · rw [lookK_set l a v j h4 x, h3]
end

section
variable {κ : Type} [DecidableEq κ] {P : Program} {k : TypeId} {mk : κ → Value}
/-- A store into a map, at the operation. -/
theorem wpList_mapF {w : World} {ops : Array Oper} {rest : List Oper} {o : Oper} {a : Act} {Q : Exit → Act → World → Prop} (hgd : o.guard = none) (m x v : Operand) (t : TypeId) (hop : o.op = Op.mapUpdate t m x v)
    (K : KeyOk P k κ mk) {e : TypeId} (ht : P.underlying t = some (.map k e)) {b : Nat} {f : κ → Option Value} (hm : a.eval m = .map (some b)) (h : MapF w b mk f) (c : κ) {val : Value} (hx : a.eval x = mk c) (hv : a.eval v = val)
    (hK : ∀ w', MapF w' b mk (fun x => if x = c then some val else f x) → Chg [b] w w' → wpList P ops Q rest (a.put o.dst undef) w') : wpList P ops Q (o :: rest) a w := by
  obtain ⟨w', hrun, h1, h2⟩ := h.update K ht c val
  refine wpList_plain hgd fun K' hK' => ?_
  unfold Oper.wp
  simp [execOp, hop, hm, hx, hv, hrun, Result.andThen]
  exact hK' _ _ (hK w' h1 h2)
/-- .. as a step of a region that draws its order. -/
theorem step_mapF {w : World} {ops : Array Oper} {o : Oper} {a : Act} {K0 : Act → World → Prop} {Q : Exit → Act → World → Prop} {E0 : Prop} (hgd : o.guard = none) (m x v : Operand) (t : TypeId) (hop : o.op = Op.mapUpdate t m x v)
    (K : KeyOk P k κ mk) {e : TypeId} (ht : P.underlying t = some (.map k e)) {b : Nat} {f : κ → Option Value} (hm : a.eval m = .map (some b)) (h : MapF w b mk f) (c : κ) {val : Value} (hx : a.eval x = mk c) (hv : a.eval v = val)
    (hK : ∀ w', MapF w' b mk (fun x => if x = c then some val else f x) → Chg [b] w w' → K0 (a.put o.dst undef) w') :
    if Region.wanted o (yielded ops a.tmps) = true then Oper.wp P o a w K0 Q else E0 := by
  have hw : Region.wanted o (yielded ops a.tmps) = true := by simp [Region.wanted, hgd]
  obtain ⟨w', hrun, h1, h2⟩ := h.update K ht c val
  rw [if_pos hw]
  unfold Oper.wp
  simp [execOp, hop, hm, hx, hv, hrun, Result.andThen]
  exact hK w' h1 h2
end
end Go.AB
