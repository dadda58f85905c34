/- From the form of the rows to plain data, for the laws of the wire layer: bytes, and the small facts that each law's frame wants. -/
import Derived.Test.YtdakcphkaljghaaLaw
import Derived.Test.YtdakcphkaljghaaWplain
namespace Go.Proofs.Ytdakcphkaljghaa
open Go.RowKit Go.AB Go.ChangeShapes Go.WideShapes Go.ChangeAt

theorem small_bound {H : Type} {l : List (DataW H)} (hk : Rows.uptoSmall H l = true) : Rows.uptoBulkAll l ≤ 1048576 := of_decide_eq_true hk

theorem sum_ge {α : Type} (f : α → Nat) (xs : List α) (h : ∀ x, 1 ≤ f x) : xs.length ≤ (xs.map f).sum := by
  induction xs with
  | nil => simp
  | cons x xs ih => have := h x; simp only [List.map_cons, List.sum_cons, List.length_cons]; omega
theorem cells_uint8 : Try.prog.cellsOf 5 = 1 := by kernel_rfl
theorem opens_bytes (w : World) : Opens w 25 1 (fun (l : List UInt8) cs => ∃ v, cs = [v] ∧ Bytes w v l) (fun l => l.length + 1) := by
  intro H enc base spare held fuel cs x h
  obtain ⟨h1, xs, ⟨v, rfl, ⟨css, hv, hl, he⟩⟩, h3⟩ := opens_slice Try.underlying25 cells_uint8 (opens_int Try.underlying5) H enc base spare held fuel cs x h
  refine ⟨h1, xs.map fun n => UInt8.ofNat n.toNat, ⟨v, rfl, ?_⟩, ?_⟩
  · have hfl : css.flatten = (xs.map fun n => UInt8.ofNat n.toNat).map B := by
      apply List.ext_getElem
      · have := (flat_get (k := 1) css (fun i hi => (he i (by omega) hi).1)).1
        rw [this]; simp [hl]
      · intro i h4 h5
        have hi : i < xs.length := by simpa using h5
        have hc := (he i hi (by omega)).2
        have hfg := (flat_get (k := 1) css (fun i hi => (he i (by omega) hi).1)).2 i 0 (by omega) (by omega)
        simp only [Nat.mul_one, Nat.add_zero] at hfg
        rw [hc.1] at hfg
        have hw := hc.2
        have hx : 0 ≤ xs[i] ∧ xs[i] ≤ 255 := by simpa [Lit.wf, IntKind.min, IntKind.max, IntKind.signed, IntKind.bits] using hw
        simp only [List.getD, List.getElem?_eq_getElem h4, Option.getD_some, List.getElem?_cons_zero] at hfg
        rw [hfg]
        simp only [List.getElem_map, B]
        congr 1
        simp
        omega
    have hn : (xs.map fun n => UInt8.ofNat n.toNat).length = xs.length := by simp
    unfold Bytes
    rw [hn, ← hfl]
    exact hv
  · have h4 := sum_ge (fun _ : Int => 1) xs (fun _ => by decide)
    have h5 : (xs.map (fun _ : Int => 1)).sum + 1 ≤ Rows.uptoBulk x.1 := h3
    simp only [List.length_map]
    omega
theorem wf_i64 {n : Int} (h : (Lit.int .i64 n).wf = true) : I64 n := by
  have h2 : -9223372036854775808 ≤ n ∧ n ≤ 9223372036854775807 := by simpa [Lit.wf, IntKind.min, IntKind.max, IntKind.signed, IntKind.bits] using h
  exact h2
theorem wf_u64 {n : Int} (h : (Lit.int .u64 n).wf = true) : 0 ≤ n ∧ n < 18446744073709551616 := by
  have h2 : 0 ≤ n ∧ n ≤ 18446744073709551615 := by simpa [Lit.wf, IntKind.min, IntKind.max, IntKind.signed, IntKind.bits] using h
  exact ⟨h2.1, by omega⟩
theorem cells_one {v : Value} {c : Value} {a : Option Addr} {n cap : Nat} (hv : v = .slice a n cap) (h : v.cells.toList = [c]) : c = v := by
  subst hv
  simpa [Value.cells] using h.symm
end Go.Proofs.Ytdakcphkaljghaa
