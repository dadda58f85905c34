/- A program in memory of its own as lists that are kept; lists turned element by element. -/
import Derived.Test.YtbikekgljabalaaXb
import Derived.Test.YtbikekgljabalaaYs
namespace Go.Proofs.Ytbikekgljabalaa
open Go.RowKit Go.AB
set_option linter.unusedVariables false
set_option linter.unusedSimpArgs false

def entIt (x : Ent) : It := .row x.e x.k x.v (some x.g) x.n x.xs
theorem hp_of_ents {w0 w : World} {es : List Ent} (h : Ents w0 w es) (hc : Chg [] w0 w) : Hp [] w0 w (es.map entIt) := by
  refine ⟨fun x hx => ?_, fun x hx g hg => ?_, ?_, hc, by simp⟩
  · obtain ⟨y, hy, rfl⟩ := List.mem_map.1 hx
    exact h.row hy
  · obtain ⟨y, hy, rfl⟩ := List.mem_map.1 hx
    simp only [entIt, It.blk, Option.some.injEq] at hg
    subst hg
    exact (h.1 y hy).1
  · have : (es.map entIt).filterMap It.blk = es.map Ent.g := by
      rw [List.filterMap_map]
      induction es with
      | nil => rfl
      | cons x es ih =>
        have hh : Ents w0 w es := ⟨fun y hy => h.1 y (List.mem_cons_of_mem _ hy), by have := h.2; rw [List.map_cons, List.nodup_cons] at this; exact this.2⟩
        simp only [List.filterMap_cons, Function.comp, entIt, It.blk, List.map_cons]
        exact congrArg _ (ih hh)
    rw [this]
    exact h.2
theorem ents_of_hp {w0 w : World} {es : List Ent} (h : Hp [] w0 w (es.map entIt)) : Ents w0 w es := by
  have he : (es.map entIt).filterMap It.blk = es.map Ent.g := by
    clear h
    rw [List.filterMap_map]
    induction es with
    | nil => rfl
    | cons x es ih =>
      simp only [List.filterMap_cons, Function.comp, entIt, It.blk, List.map_cons]
      exact congrArg _ ih
  refine ⟨fun x hx => ⟨h.lo (entIt x) (List.mem_map.2 ⟨x, hx, rfl⟩) x.g rfl, h.ok (entIt x) (List.mem_map.2 ⟨x, hx, rfl⟩)⟩, ?_⟩
  rw [← he]
  exact h.nd
/-- The first i elements turned. -/
def tk {α : Type} (f : α → α) (i : Nat) (xs : List α) : List α := (xs.take i).map f ++ xs.drop i
theorem tk_zero {α : Type} (f : α → α) (xs : List α) : tk f 0 xs = xs := by simp [tk]
theorem tk_all {α : Type} (f : α → α) (xs : List α) {i : Nat} (h : xs.length ≤ i) : tk f i xs = xs.map f := by simp [tk, List.take_of_length_le h, List.drop_eq_nil_of_le h]
theorem tk_len {α : Type} (f : α → α) (i : Nat) (xs : List α) : (tk f i xs).length = xs.length := by simp [tk]; omega
theorem tk_at {α : Type} (f : α → α) {i : Nat} {xs : List α} (h : i < xs.length) : tk f i xs = (xs.take i).map f ++ xs[i] :: xs.drop (i + 1) := by
  unfold tk
  rw [List.drop_eq_getElem_cons h]
theorem tk_succ {α : Type} (f : α → α) {i : Nat} {xs : List α} (h : i < xs.length) : tk f (i + 1) xs = (xs.take i).map f ++ f xs[i] :: xs.drop (i + 1) := by
  unfold tk
  rw [List.take_succ_eq_append_getElem h]
  simp only [List.map_append, List.map_cons, List.map_nil, List.append_assoc, List.cons_append, List.nil_append]
theorem flat_lenk {α : Type} {f : α → List Value} {k : Nat} (hf : ∀ x, (f x).length = k) : ∀ xs : List α, (xs.flatMap f).length = xs.length * k
  | [] => by simp
  | x :: xs => by simp [List.flatMap_cons, hf, flat_lenk hf xs, Nat.succ_mul]; omega
/-- What stands at an element's place, and what stands there once it is written. -/
theorem flat_at {α : Type} {f : α → List Value} {k : Nat} (hf : ∀ x, (f x).length = k) (ps bs : List α) (x : α) (m : List Value) {j : Nat} (hj : j < k) {n : Nat} (hn : ps.length = n) : ((ps ++ x :: bs).flatMap f ++ m).getD (n * k + j) undef = (f x).getD j undef := by
  subst hn
  have h1 := flat_lenk hf ps
  have h2 := hf x
  simp only [List.getD, List.flatMap_append, List.flatMap_cons, List.append_assoc]
  rw [List.getElem?_append_right (by omega), List.getElem?_append_left (by omega)]
  congr 2
  omega
theorem flat_set {α : Type} {f : α → List Value} {k : Nat} (hf : ∀ x, (f x).length = k) (ps bs : List α) (x y : α) (m : List Value) {j : Nat} (hj : j < k) {u : Value} (hy : f y = (f x).set j u) {n : Nat} (hn : ps.length = n) : ((ps ++ x :: bs).flatMap f ++ m).set (n * k + j) u = (ps ++ y :: bs).flatMap f ++ m := by
  subst hn
  have h1 := flat_lenk hf ps
  have h2 := hf x
  simp only [List.flatMap_append, List.flatMap_cons, List.append_assoc]
  rw [List.set_append_right _ _ (by omega), List.set_append_left _ _ (by omega), hy]
  congr 3
  omega
end Go.Proofs.Ytbikekgljabalaa
