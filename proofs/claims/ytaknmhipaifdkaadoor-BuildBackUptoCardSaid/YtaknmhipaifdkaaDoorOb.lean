/- Walks of the builder: registers that fit; an Item that may be; what is thrown. -/
import Derived.Test.YtaknmhipaifdkaaDoorOa
set_option linter.unusedVariables false
set_option linter.unusedSectionVars false
namespace Go.Proofs.YtaknmhipaifdkaaDoor
open Go.RowKit Go.AB
set_option linter.unusedSimpArgs false
set_option linter.unusedVariables false
set_option linter.unusedSectionVars false

/-- Thrown. -/
def thrown (f : Flt) : List PanicEntry := [{ v := .iface 66 (.agg #[.int .i64 f.code, .int .i64 f.l, .int .i64 f.c]), recovered := false }]
abbrev refused (f : Flt) : Ending := .panicked (thrown f)
theorem refuse_calls (c l k : Int) (w : World) : Calls Tryd.prog 35 #[.int .i64 c, .agg #[.int .i64 l, .int .i64 k]] w fun e w' => e = refused ⟨c, l, k⟩ ∧ Chg [] w w' := by
  have hca := (Chg.refl [] w).alloc (.cells #[.int .i64 l, .int .i64 k] 35)
  go_enter Tryd.func35, Tryd.ntmps35
  go_wp2
  exact ⟨rfl, rfl, hca⟩

theorem fit1_ways (n r : Int) (k : Nat) : (fit1 n k r = false ∧ decide (r < 0) = true) ∨ (fit1 n k r = false ∧ decide (r < 0) = false ∧ decide ((16 : Int) ≤ r) = true) ∨
    (fit1 n k r = false ∧ decide (r < 0) = false ∧ decide ((16 : Int) ≤ r) = false ∧ decide (n ≤ (k : Int)) = true ∧ (r != 0) = true) ∨
    (fit1 n k r = true ∧ decide (r < 0) = false ∧ decide ((16 : Int) ≤ r) = false ∧ decide (n ≤ (k : Int)) = true ∧ (r != 0) = false) ∨
    (fit1 n k r = true ∧ decide (r < 0) = false ∧ decide ((16 : Int) ≤ r) = false ∧ decide (n ≤ (k : Int)) = false) := by
  unfold fit1
  simp only [bne_iff_ne, ne_eq, Bool.and_eq_true, Bool.or_eq_true, decide_eq_true_eq, decide_eq_false_iff_not, Bool.and_eq_false_iff, Bool.or_eq_false_iff, bne_eq_false_iff_eq]
  omega
/-- Do the first registers fit? -/
def FitTo (n : Int) (rs : List Int) (k : Nat) : Prop := ∀ i, i < k → fit1 n i (rs.getD i 0) = true
theorem FitTo.succ {n : Int} {rs : List Int} {k : Nat} (h : FitTo n rs k) (h2 : fit1 n k (rs.getD k 0) = true) : FitTo n rs (k + 1) := fun i hi => by
  by_cases e : i = k
  · subst e; exact h2
  · exact h i (by omega)
theorem fitB_all {n a b c : Int} (h : FitTo n [a, b, c] 3) : fitB n a b c = decide (0 ≤ n) := by
  unfold fitB
  rw [show fit1 n 0 a = true from h 0 (by omega), show fit1 n 1 b = true from h 1 (by omega), show fit1 n 2 c = true from h 2 (by omega)]
  rfl
theorem fitB_no {n a b c : Int} {k : Nat} (hk : k < 3) (h : fit1 n k ([a, b, c].getD k 0) = false) : fitB n a b c = false := by
  unfold fitB
  have : k = 0 ∨ k = 1 ∨ k = 2 := by omega
  rcases this with rfl | rfl | rfl
  · rw [show fit1 n 0 a = false from h]; rfl
  · rw [show fit1 n 1 b = false from h]; simp
  · rw [show fit1 n 2 c = false from h]; simp

set_option maxHeartbeats 2000000 in
set_option maxRecDepth 100000 in
theorem fits_calls (n a b c : Int) {ao : Option Addr} {cap : Nat} (w : World) (hv : View w 1 (.slice ao 3 cap) 3 [.int .i64 a, .int .i64 b, .int .i64 c]) :
    Calls Tryd.prog 31 #[.int .i64 n, .slice ao 3 cap] w fun e w' => e = .returned (.bool (fitB n a b c)) ∧ w' = w := by
  obtain ⟨_, _, ao', cap', hv1, _, _, _, hc⟩ := hv
  simp only [Value.slice.injEq] at hv1
  obtain ⟨rfl, _, rfl⟩ := hv1
  obtain ⟨bb, off, rfl, hcell⟩ := hc (by omega)
  have hcl : ∀ k, k < 3 → w.cell? ⟨bb, off + k, none⟩ = some (.int .i64 ([a, b, c].getD k 0)) := fun k hk => by
    rw [hcell k (by omega)]
    have : k = 0 ∨ k = 1 ∨ k = 2 := by omega
    rcases this with rfl | rfl | rfl <;> rfl
  have HC := hid hcl
  clear hcell hcl hc
  go_enter Tryd.func31, Tryd.ntmps31
  go_wp2
  go_loopw [9] (fun i wr => ∃ k : Nat, k ≤ 3 ∧ i = .int .i64 k ∧ wr = w ∧ Hid (FitTo n [a, b, c] k)) (fun i _ => 3 - (intOf i).toNat)
  case atStart => exact ⟨0, by omega, rfl, rfl, hid (fun j h => by omega)⟩
  case round =>
    obtain ⟨k, hk, rfl, hw, HB⟩ := hrel
    subst hw
    by_cases hlt : k < 3
    · have hcl := HC.out k hlt
      have hwy := fit1_ways n ([a, b, c].getD k 0) k
      obtain ⟨r, hr⟩ : ∃ r, [a, b, c].getD k 0 = r := ⟨_, rfl⟩
      rw [hr] at hcl hwy
      have HRR := hid hr
      clear hr
      rcases hwy with ⟨h1, t1⟩ | ⟨h1, t1, t2⟩ | ⟨h1, t1, t2, t3, t4⟩ | ⟨h1, t1, t2, t3, t4⟩ | ⟨h1, t1, t2, t3⟩
      · have HF := hid (fitB_no (a := a) (b := b) (c := c) hlt (by rw [HRR.out]; exact h1))
        clear h1
        go_wp2
        go_ret
        exact ⟨ret_bool HF.out.symm, rfl⟩
      · have HF := hid (fitB_no (a := a) (b := b) (c := c) hlt (by rw [HRR.out]; exact h1))
        clear h1
        go_wp2
        go_ret
        exact ⟨ret_bool HF.out.symm, rfl⟩
      · have HF := hid (fitB_no (a := a) (b := b) (c := c) hlt (by rw [HRR.out]; exact h1))
        clear h1
        go_wp2
        go_ret
        exact ⟨ret_bool HF.out.symm, rfl⟩
      · have HF := hid (HB.out.succ (by rw [HRR.out]; exact h1))
        clear h1
        go_wp2
        go_roundw
        case rel => exact ⟨k + 1, by omega, by go_num, by trivial, HF⟩
        case measure => simp [intOf]; omega
      · have HF := hid (HB.out.succ (by rw [HRR.out]; exact h1))
        clear h1
        go_wp2
        go_roundw
        case rel => exact ⟨k + 1, by omega, by go_num, by trivial, HF⟩
        case measure => simp [intOf]; omega
    · obtain rfl : k = 3 := by omega
      have HF := hid (fitB_all HB.out)
      go_wp2
      go_ret
      exact ⟨ret_bool HF.out.symm, rfl⟩
end Go.Proofs.YtaknmhipaifdkaaDoor
