/- Walks of the reference: words. -/
import Derived.Test.YtmahcabidggmeaaGreatDoorVsa
set_option linter.unusedVariables false
set_option linter.unusedSectionVars false
set_option linter.unusedSimpArgs false
namespace Go.Proofs.YtmahcabidggmeaaGreatDoor
open Go.RowKit Go.AB
set_option maxHeartbeats 4000000 in
set_option maxRecDepth 100000 in
theorem r_word_calls (s : ByteArray) (w : World) (hv : VarsP w) : Calls Tryz.prog 82 #[.string s] w fun e w' => e = .returned (.bool (wordL s.data.toList)) ∧ Chg [] w w' := by
  have HO := hid (r_op_calls s w)
  have HR := hid fun W (hc : Chg [] w W) => r_register_calls s W (hv.keep hc)
  have HK := hid fun W => r_kind_calls s W
  clear hv
  unfold wordL
  generalize opL s.data.toList = o at *
  generalize regL s.data.toList = r at *
  generalize kindL s.data.toList = k at *
  by_cases ho : o = 0
  · subst ho
    rw [show decide ((0 : Nat) ≠ 0) = false from rfl, Bool.false_or]
    by_cases hr : 0 ≤ r
    · have d2 : decide ((0 : Int) ≤ r) = true := decide_eq_true hr
      rw [d2, Bool.true_or]
      go_enter Tryz.func82, Tryz.ntmps82
      go_wp2_with (first | (go_at_call 33; refine HO.out.mono ?_; rintro e w1 ⟨rfl, hc1⟩) | (go_at_call 90; refine (HR.out _ hc1).mono ?_; rintro e w2 ⟨rfl, hc2⟩))
      go_ret
      exact ⟨rfl, hc1.trans' hc2⟩
    · have d2 : decide ((0 : Int) ≤ r) = false := decide_eq_false hr
      rw [d2, Bool.false_or]
      by_cases hk : k = 0
      · subst hk
        rw [show decide ((0 : Nat) ≠ 0) = false from rfl]
        go_enter Tryz.func82, Tryz.ntmps82
        go_wp2_with (first | (go_at_call 33; refine HO.out.mono ?_; rintro e w1 ⟨rfl, hc1⟩) | (go_at_call 90; refine (HR.out _ hc1).mono ?_; rintro e w2 ⟨rfl, hc2⟩) | (go_at_call 34; refine (HK.out _).mono ?_; rintro e w3 ⟨rfl, hc3⟩))
        go_ret
        exact ⟨rfl, (hc1.trans' hc2).trans' hc3⟩
      · have d3 : decide ((0 : Int) < (k : Int)) = true := decide_eq_true (by omega)
        have d4 : decide (0 < k) = true := decide_eq_true (by omega)
        have d5 : 0 < k := by omega
        rw [show decide (k ≠ 0) = true from decide_eq_true hk]
        go_enter Tryz.func82, Tryz.ntmps82
        go_wp2_with (first | (go_at_call 33; refine HO.out.mono ?_; rintro e w1 ⟨rfl, hc1⟩) | (go_at_call 90; refine (HR.out _ hc1).mono ?_; rintro e w2 ⟨rfl, hc2⟩) | (go_at_call 34; refine (HK.out _).mono ?_; rintro e w3 ⟨rfl, hc3⟩))
        go_ret
        exact ⟨rfl, (hc1.trans' hc2).trans' hc3⟩
  · have d1 : decide ((0 : Int) < (o : Int)) = true := decide_eq_true (by omega)
    have d2 : decide (0 < o) = true := decide_eq_true (by omega)
    have d3 : 0 < o := by omega
    have e1 : decide (o ≠ 0) = true := decide_eq_true ho
    rw [e1, Bool.true_or, Bool.true_or]
    go_enter Tryz.func82, Tryz.ntmps82
    go_wp2_with (go_at_call 33; refine HO.out.mono ?_; rintro e w1 ⟨rfl, hc1⟩)
    go_ret
    exact ⟨rfl, hc1⟩

end Go.Proofs.YtmahcabidggmeaaGreatDoor
