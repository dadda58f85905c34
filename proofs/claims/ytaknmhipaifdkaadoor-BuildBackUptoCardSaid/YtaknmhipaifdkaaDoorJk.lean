/- Walks of the builder's laws: led, fit; lists turned element by element. -/
import Derived.Test.YtaknmhipaifdkaaDoorJf
import Derived.Test.YtaknmhipaifdkaaDoorJg
set_option linter.unusedSimpArgs false
set_option linter.unusedSectionVars false
namespace Go.AB
open Go.RowKit
set_option linter.unusedVariables false
/-- A list of which the first i elements are turned. -/
def mapTo {α : Type} (r : α → α) (xs : List α) (i : Nat) : List α := (xs.take i).map r ++ xs.drop i
section
variable {α : Type} (r : α → α) (xs : List α)
theorem mapTo_len (i : Nat) : (mapTo r xs i).length = xs.length := by simp only [mapTo, List.length_append, List.length_map, List.length_take, List.length_drop]; omega
theorem mapTo_zero : mapTo r xs 0 = xs := by simp [mapTo]
theorem mapTo_all {i : Nat} (h : xs.length ≤ i) : mapTo r xs i = xs.map r := by unfold mapTo; rw [List.take_of_length_le h, List.drop_of_length_le h, List.append_nil]
theorem mapTo_get {i : Nat} (hi : i < xs.length) : (mapTo r xs i)[i]'(by rw [mapTo_len]; exact hi) = xs[i] := by
  unfold mapTo
  have h1 : ((xs.take i).map r).length = i := by simp; omega
  rw [List.getElem_append_right (by omega)]
  simp only [h1, Nat.sub_self, List.getElem_drop, Nat.add_zero]
theorem mapTo_set {i : Nat} (hi : i < xs.length) : (mapTo r xs i).set i (r xs[i]) = mapTo r xs (i + 1) := by
  unfold mapTo
  have h1 : ((xs.take i).map r).length = i := by simp; omega
  rw [List.set_append_right _ _ (by omega), h1, Nat.sub_self, List.drop_eq_getElem_cons hi, List.set_cons_zero, List.take_succ_eq_append_getElem hi, List.map_append, List.append_assoc]
  rfl
theorem mapTo_succ {i : Nat} (hi : i < xs.length) (y : α) : (mapTo r xs i).set i y = (mapTo r xs (i + 1)).set i y := by
  rw [← mapTo_set r xs hi, List.set_set]
end
theorem Row.atf {α : Type} {f : α → List Value} {k : Nat} (hf : ∀ x, (f x).length = k) {w : World} {e g n : Nat} {v : Value} {xs : List α} (h : Row w e k v (Option.some g) n (xs.flatMap f)) (hn : xs.length = n) {i : Nat} (hi : i < xs.length) {j : Nat} (hj : j < k) :
    w.cell? ⟨g, i * k + j, none⟩ = Option.some ((f xs[i]).getD j undef) := by
  have h1 := (Row.cellk h).1 (i * k + j) (by
    subst hn
    have h2 : (i + 1) * k ≤ xs.length * k := Nat.mul_le_mul_right k (by omega)
    rw [Nat.add_mul] at h2
    omega)
  rw [h1, flat_get hf xs i j hi hj]
/-- An element of a list of structs is written. -/
theorem Hp.putf {α : Type} {f : α → List Value} {k : Nat} (hf : ∀ x, (f x).length = k) {S0 : List Nat} {w0 w : World} {I : List It} (h : Hp S0 w0 w I) (m : Nat) {e n g : Nat} {v : Value} {xs : List α} (hi : I[m]? = some (.row e k v (some g) n (xs.flatMap f))) {i : Nat} (hx : i < xs.length) (y : α) {j : Nat} (hj : j < k) {u : Value} (hy : f y = (f xs[i]).set j u) {I' : List It} (hI : I.set m (.row e k v (some g) n ((xs.set i y).flatMap f)) = I') : Hp S0 w0 (w.setCell ⟨g, i * k + j, none⟩ u) I' := by
  refine h.puti m hi (i * k + j) u ?_
  rw [← hI, flat_put hf xs i hx y j hj u hy]
end Go.AB
namespace Go.Proofs.YtaknmhipaifdkaaDoor
open Go.RowKit Go.AB
set_option linter.unusedSimpArgs false
set_option linter.unusedVariables false
set_option linter.unusedSectionVars false

def ledB (op : Int) : Bool := decide (op = 0) || decide (op = 8) || decide (op = 9)
/-- Are the names short enough? -/
structure FitU (u : UnD) : Prop where
  decls : ∀ d ∈ u.decls, d.name.size ≤ 23
  blocks : ∀ k ∈ u.blocks, k.name.size ≤ 23
  items : ∀ k ∈ u.blocks, ∀ x ∈ k.items, x.name.size ≤ 23
/-- A unit's box, and its lists. -/
structure UB (w : World) (p : Nat) (ad : Option Addr) (D cd : Nat) (ab : Option Addr) (L cb : Nat) (u : UnD) (bs : List BkV) : Prop where
  u0 : w.cell? ⟨p, 0, none⟩ = some (.slice ad D cd)
  u1 : w.cell? ⟨p, 1, none⟩ = some (.slice ab L cb)
  dl : u.decls.length = D
  bl : bs.length = L
  ds : Lst dcC 5 w (.slice ad D cd) u.decls
  bks : Lst bkC 4 w (.slice ab L cb) bs
  nm : bs.map BkV.b = u.blocks
  it : ∀ x ∈ bs, Lst itC 10 w x.items x.b.items
theorem UB.keep {w w' : World} {p : Nat} {ad : Option Addr} {D cd : Nat} {ab : Option Addr} {L cb : Nat} {u : UnD} {bs : List BkV} (h : UB w p ad D cd ab L cb u bs) (hc : Chg [] w w') : UB w' p ad D cd ab L cb u bs :=
  ⟨hc.cell h.u0 (by simp), hc.cell h.u1 (by simp), h.dl, h.bl, h.ds.keep hc, h.bks.keep hc, h.nm, fun x hx => (h.it x hx).keep hc⟩
theorem unv_boxed {w : World} {v : Value} {u : UnD} (h : UnV w v u) : ∃ ad D cd ab L cb bs, v = .agg #[.slice ad D cd, .slice ab L cb] ∧ UB (w.alloc (.cells #[.slice ad D cd, .slice ab L cb] 25)) w.heap.size ad D cd ab L cb u bs ∧ D = u.decls.length ∧ L = u.blocks.length ∧ D ≤ cd ∧ L ≤ cb := by
  obtain ⟨va, vb, bs, rfl, hda, hbb, hbs, hit⟩ := h
  obtain ⟨ad, cd, rfl, hdc, _, _⟩ := hda.len
  obtain ⟨ab, cb, rfl, hbc, _, _⟩ := hbb.len
  have hc := (Chg.refl [] w).alloc (.cells #[.slice ad u.decls.length cd, .slice ab bs.length cb] 25)
  have hb := heap_alloc_new w (.cells #[.slice ad u.decls.length cd, .slice ab bs.length cb] 25)
  refine ⟨ad, _, cd, ab, _, cb, bs, rfl, ⟨blk_cell hb 0, blk_cell hb 1, rfl, rfl, hda.keep hc, hbb.keep hc, hbs, fun x hx => (hit x hx).keep hc⟩, rfl, ?_, hdc, hbc⟩
  rw [← hbs, List.length_map]

end Go.Proofs.YtaknmhipaifdkaaDoor
