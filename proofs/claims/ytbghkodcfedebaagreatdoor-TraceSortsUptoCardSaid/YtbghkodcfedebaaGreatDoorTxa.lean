/- Walks of the trace layer's reference: a plain event, plain events. -/
import Derived.Test.YtbghkodcfedebaaGreatDoorTrs
import Derived.Deep.QuietTactic
import Derived.BigQuiet
set_option linter.unusedVariables false
set_option linter.unusedSectionVars false
set_option linter.unusedSimpArgs false
namespace Go.Proofs.YtbghkodcfedebaaGreatDoor
open Go.RowKit Go.AB
set_option linter.unusedSimpArgs false
set_option linter.unusedVariables false
set_option linter.unusedSectionVars false
set_option maxHeartbeats 4000000 in
set_option maxRecDepth 100000 in
theorem rplain_calls (x : Ev) (w : World) : Calls Tryz.prog 12 #[evV x] w fun e w' => e = .returned (.bool (plainE x)) ∧ Chg [] w w' := by
  obtain ⟨k, t, o⟩ := x
  have hw := plainE_ways ⟨k, t, o⟩
  simp only at hw
  obtain ⟨P, hP⟩ : ∃ P, plainE ⟨k, t, o⟩ = P := ⟨_, rfl⟩
  obtain ⟨M, hM⟩ : ∃ M, mostE k = M := ⟨_, rfl⟩
  have hmo := most_calls k
  rw [hM] at hmo hw
  rw [hP] at hw ⊢
  have HMO := hid hmo
  clear hP hM hmo
  unfold evV
  simp only
  have HC := hid ((Chg.refl [] w).alloc (.cells #[.int .i64 k, .int .i64 t, .int .i64 o] 28))
  rcases hw with ⟨q1, rfl⟩ | ⟨q1, q2, rfl⟩ | ⟨q1, q2, q3, rfl⟩ | ⟨q1, q2, q3, q4⟩
  all_goals
    go_enter Tryz.func12, Tryz.ntmps12
    go_wp2_with fail
    go_quiet ((go_at_call 37; refine Calls.quiet_of_same (HMO.out _)))
    go_wp2_with fail
    first | go_ret | go_ret2
    exact ⟨by first | rfl | rw [q4], by first | exact HC.out | exact HC.out.trans' (Chg.of_drewN _ _ _)⟩
set_option maxHeartbeats 4000000 in
set_option maxRecDepth 100000 in
theorem rplains_calls {v : Value} (l : List Ev) (w : World) (hl : Lst evC 3 w v l) (hn : l.length ≤ 16777216) :
    Calls Tryz.prog 42 #[v] w fun e w' => e = .returned (.bool (l.all plainE)) ∧ Chg [] w w' := by
  obtain ⟨ao, cap, rfl, -⟩ := hl.len
  obtain ⟨n, hln⟩ : ∃ n, l.length = n := ⟨_, rfl⟩
  rw [hln] at hl hn ⊢
  have HL := hid hl
  have HN := hid hln
  have HPL := hid fun x W => rplain_calls x W
  obtain ⟨Q, hQ⟩ : ∃ Q, l.all plainE = Q := ⟨_, rfl⟩
  have HQ := hid hQ
  rw [hQ]
  clear hl hln hQ
  go_enter Tryz.func42, Tryz.ntmps42
  go_upto_region 2 with fail
  go_loopg [3] n (fun gk v3 wr => ∃ i : Nat, v3 = .int .i64 i ∧ Hid (gk + i = n) ∧ Hid (Chg [] w wr ∧ (l.take i).all plainE = true))
  case atStart => exact ⟨0, rfl, hid (by omega), hid ⟨Chg.refl _ _, by simp⟩⟩
  case round =>
    obtain ⟨i, rfl, HG, HR⟩ := hrel
    by_cases hi : i < n
    · have hil : i < l.length := by rw [HN.out]; exact hi
      obtain ⟨b1, o1, rfl, x0, x1, x2⟩ := ev_at (HL.out.keep HR.out.1) hil
      obtain ⟨X, hX⟩ : ∃ X, l[i] = X := ⟨_, rfl⟩
      rw [hX] at x0 x1 x2
      have HX := hid hX
      have hpl := HPL.out X
      unfold evV at hpl
      have HPX := hid hpl
      obtain ⟨P, hP⟩ : ∃ P, plainE X = P := ⟨_, rfl⟩
      rw [hP] at HPX
      have HP := hid hP
      clear hX hpl hP
      go_wp2_with (go_at_call 12; refine (HPX.out _).mono ?_; rintro e w8 ⟨rfl, hc8⟩; refine halt (fun XX hXX => ?_))
      have HC8 := hid (HR.out.1.trans' hc8)
      clear hc8
      cases P with
      | true =>
        rw [hXX.out]; clear hXX XX
        go_wp2_with fail
        go_roundg (gk - 1)
        case measure => have := HG.out; omega
        case rel => exact ⟨i + 1, by go_num, hid (by have := HG.out; omega), hid ⟨HC8.out, take_all hil HR.out.2 (by rw [HX.out, HP.out])⟩⟩
      | false =>
        obtain rfl : Q = false := by rw [← HQ.out]; exact all_bad hil (by rw [HX.out, HP.out])
        rw [hXX.out]; clear hXX XX
        go_wp2_with fail
        go_ret
        exact ⟨rfl, HC8.out⟩
    · obtain rfl : Q = true := by
        have h := HR.out.2
        rw [List.take_of_length_le (by rw [HN.out]; omega)] at h
        rw [← HQ.out, h]
      go_wp2
      go_ret
      exact ⟨rfl, HR.out.1⟩
end Go.Proofs.YtbghkodcfedebaaGreatDoor
