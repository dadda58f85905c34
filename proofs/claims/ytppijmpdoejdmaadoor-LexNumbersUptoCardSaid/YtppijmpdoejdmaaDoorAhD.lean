/- Walks of the lexer's laws: two lists of tokens that are alike. -/
import Derived.Test.YtppijmpdoejdmaaDoorAg
namespace Go.Proofs.YtppijmpdoejdmaaDoor
open Go.RowKit Go.AB
set_option linter.unusedSimpArgs false
set_option linter.unusedVariables false
set_option linter.unusedSectionVars false

theorem tokC_length (x : Tok) : (tokC x).length = 5 := rfl
theorem tokC_flat (ts : List Tok) : (ts.flatMap tokC).length = ts.length * 5 := by
  induction ts with
  | nil => rfl
  | cons x ts ih => rw [List.flatMap_cons, List.length_append, ih, tokC_length, List.length_cons]; omega
theorem tokC_get (ts : List Tok) (i j : Nat) (hi : i < ts.length) (hj : j < 5) : (ts.flatMap tokC).getD (i * 5 + j) undef = (tokC ts[i]).getD j undef := by
  induction ts generalizing i with
  | nil => simp at hi
  | cons x ts ih =>
    rw [List.flatMap_cons]
    cases i with
    | zero => simp only [Nat.zero_mul, Nat.zero_add, List.getD]; rw [List.getElem?_append_left (by rw [tokC_length]; omega)]; rfl
    | succ i =>
      have := ih i (by simpa using hi)
      simp only [List.getD] at this ⊢
      rw [List.getElem?_append_right (by rw [tokC_length]; omega), tokC_length, show (i + 1) * 5 + j - 5 = i * 5 + j from by omega, this]
      rfl
/-- A slice of tokens that is read. -/
def TView (w : World) (v : Value) (ts : List Tok) : Prop := View w 5 v ts.length (ts.flatMap tokC)
theorem TView.at {w : World} {ao : Option Addr} {n cap : Nat} {ts : List Tok} (h : TView w (.slice ao n cap) ts) {i : Nat} (hi : i < ts.length) : ∃ b off, ao = some ⟨b, off, none⟩ ∧
    w.cell? ⟨b, off + i * 5, none⟩ = some (.int .i64 ts[i].kind) ∧ w.cell? ⟨b, off + i * 5 + 1, none⟩ = some (.string ⟨ts[i].text.toArray⟩) ∧ w.cell? ⟨b, off + i * 5 + 2, none⟩ = some (.int .i64 ts[i].num) ∧
    w.cell? ⟨b, off + i * 5 + 3, none⟩ = some (.int .i64 ts[i].line) ∧ w.cell? ⟨b, off + i * 5 + 4, none⟩ = some (.int .i64 ts[i].col) := by
  obtain ⟨_, _, ao', cap', hv, _, _, _, hc⟩ := h
  simp only [Value.slice.injEq] at hv
  obtain ⟨rfl, rfl, rfl⟩ := hv
  obtain ⟨b, off, rfl, hcell⟩ := hc (by omega)
  have key : ∀ j, j < 5 → w.cell? ⟨b, off + i * 5 + j, none⟩ = some ((tokC ts[i]).getD j undef) := fun j hj => by
    rw [Nat.add_assoc, hcell (i * 5 + j) (by omega), tokC_get ts i j hi hj]
  exact ⟨b, off, rfl, key 0 (by omega), key 1 (by omega), key 2 (by omega), key 3 (by omega), key 4 (by omega)⟩
theorem TView.len {w : World} {v : Value} {ts : List Tok} (h : TView w v ts) : ∃ ao cap, v = .slice ao ts.length cap := by
  obtain ⟨_, _, ao, cap, rfl, _⟩ := h
  exact ⟨ao, cap, rfl⟩
end Go.Proofs.YtppijmpdoejdmaaDoor
