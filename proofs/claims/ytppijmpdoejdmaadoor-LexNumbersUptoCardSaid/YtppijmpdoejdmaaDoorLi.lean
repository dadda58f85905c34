/- From the form of the rows to plain data: slices of numbers. -/
import Derived.Test.YtppijmpdoejdmaaDoorLs
namespace Go.Proofs.YtppijmpdoejdmaaDoor
open Go.RowKit Go.AB Go.ChangeShapes Go.WideShapes Go.ChangeAt

theorem i64_wf {n : Int} (h : (Lit.int .i64 n).wf = true) : -9223372036854775808 ≤ n ∧ n ≤ 9223372036854775807 := by
  simpa [Lit.wf, IntKind.min, IntKind.max, IntKind.signed, IntKind.bits] using h
theorem u64_wf {n : Int} (h : (Lit.int .u64 n).wf = true) : 0 ≤ n ∧ n < 18446744073709551616 := by
  have h2 : 0 ≤ n ∧ n ≤ 18446744073709551615 := by simpa [Lit.wf, IntKind.min, IntKind.max, IntKind.signed, IntKind.bits] using h
  exact ⟨h2.1, by omega⟩
theorem u8_wf {n : Int} (h : (Lit.int .u8 n).wf = true) : 0 ≤ n ∧ n ≤ 255 := by
  simpa [Lit.wf, IntKind.min, IntKind.max, IntKind.signed, IntKind.bits] using h
theorem sum_ones {α : Type} (xs : List α) : (xs.map fun _ => 1).sum = xs.length := by
  induction xs with
  | nil => rfl
  | cons x xs ih => simp only [List.map_cons, List.sum_cons, ih, List.length_cons]; omega
theorem opens_nums (w : World) {t e : Nat} {k : IntKind} (ht : Tryd.prog.underlying t = some (.slice e)) (hc : Tryd.prog.cellsOf e = 1) (he : Tryd.prog.underlying e = some (.int k)) :
    Opens w t 1 (fun (xs : List Int) cs => ∃ v, cs = [v] ∧ View w 1 v xs.length (xs.map (Value.int k)) ∧ ∀ x ∈ xs, (Lit.int k x).wf = true) (fun xs => xs.length + 1) := by
  intro H enc base spare held fuel cs x h
  obtain ⟨h1, xs, ⟨v, rfl, ⟨css, hv, hl, hel⟩⟩, h3⟩ := opens_slice ht hc (opens_int he) H enc base spare held fuel cs x h
  refine ⟨h1, xs, ⟨v, rfl, ?_, fun y hy => ?_⟩, ?_⟩
  · have hfl : css.flatten = xs.map (Value.int k) := by
      apply List.ext_getElem
      · have := (flat_get (k := 1) css (fun i hi => (hel i (by omega) hi).1)).1
        rw [this]; simp [hl]
      · intro i h4 h5
        have hi : i < xs.length := by simpa using h5
        have hcc := (hel i hi (by omega)).2
        have hfg := (flat_get (k := 1) css (fun i hi => (hel i (by omega) hi).1)).2 i 0 (by omega) (by omega)
        simp only [Nat.mul_one, Nat.add_zero] at hfg
        rw [hcc.1] at hfg
        simp only [List.getD, List.getElem?_eq_getElem h4, Option.getD_some, List.getElem?_cons_zero] at hfg
        rw [hfg]
        simp
    rw [← hfl]
    exact hv
  · obtain ⟨i, hi, rfl⟩ := List.mem_iff_getElem.1 hy
    exact (hel i hi (by omega)).2.2
  · have h5 : (xs.map (fun _ : Int => 1)).sum + 1 ≤ Rows.uptoBulk x.1 := h3
    rw [sum_ones] at h5
    exact h5
end Go.Proofs.YtppijmpdoejdmaaDoor
