/- Walks of the trace laws: a lent list that is still as it was. -/
import Derived.Test.YtbghkodcfedebaaGreatDoorTxi
set_option linter.unusedVariables false
set_option linter.unusedSectionVars false
set_option linter.unusedSimpArgs false
namespace Go.Proofs.YtbghkodcfedebaaGreatDoor
open Go.RowKit Go.AB
set_option linter.unusedSimpArgs false
set_option linter.unusedVariables false
set_option linter.unusedSectionVars false
theorem ev_pre {w : World} {n g cap : Nat} {l m : List Ev} (h : Row w 28 3 (.slice (some ⟨g, 0, none⟩) (n + 70) cap) (some g) (n + 70) ((l ++ m).flatMap evC)) (hn : l.length = n) : Row w 28 3 (.slice (some ⟨g, 0, none⟩) n cap) (some g) n (l.flatMap evC) := by
  rw [List.flatMap_append] at h
  exact h.pre (by omega) (by rw [flat_len evC_len, hn])
set_option maxHeartbeats 4000000 in
set_option maxRecDepth 100000 in
theorem still_calls {v : Value} (l : List Ev) (n g cap : Nat) (hN : l.length = n) (hn : n ≤ 1048576) (w : World) (hl : Lst evC 3 w v l)
    (hr : Row w 28 3 (.slice (some ⟨g, 0, none⟩) (n + 70) cap) (some g) (n + 70) ((l ++ roomE 70).flatMap evC)) :
    Calls Tryz.prog 19 #[.slice (some ⟨g, 0, none⟩) n cap, v] w fun e w' => e = .returned (.bool true) ∧ Chg [] w w' := by
  have hpre := (ev_pre hr hN).view
  have hpl : Lst evC 3 w (.slice (some ⟨g, 0, none⟩) n cap) l := by
    rw [← hN] at hpre ⊢
    exact hpre
  have HSM := hid (same_calls _ _ l l w hpl hl (by omega))
  obtain ⟨a0, c0, rfl, -⟩ := hl.len
  rw [hN] at hl HSM ⊢
  have hfull : Lst evC 3 w (.slice (some ⟨g, 0, none⟩) (n + 70) cap) (l ++ roomE 70) := by
    have h := hr.view
    have h2 : (l ++ roomE 70).length = n + 70 := by rw [List.length_append, hN, roomE_len]
    unfold Lst
    rw [h2]
    exact h
  have HFL := hid hfull
  have HN := hid hN
  have hcap2 : n + 70 ≤ cap := by
    rcases hr.form with ⟨hv, h0, _⟩ | ⟨g', cap', cur, hv, _, hnc, _⟩
    · omega
    · simp only [Value.slice.injEq, true_and] at hv
      rw [hv.2]; exact hnc
  have hcap : (n : Int) + 70 ≤ (cap : Int) := by omega
  clear hpre hpl hl hr hfull hN
  go_enter Tryz.func19, Tryz.ntmps19
  go_wp2_with (go_at_call 22; refine HSM.out.mono ?_; rintro e w1 ⟨q, rfl, hq1, hc1⟩; refine halt (fun XX hXX => ?_))
  obtain rfl : q = true := hq1.out.2 (by first | rfl | trivial)
  have HC1 := hid hc1
  clear hc1 hq1 HSM
  rw [hXX.out]; clear hXX XX
  go_upto_region 5 with fail
  go_loopg [6] 70 (fun gk v6 wr => ∃ i : Nat, v6 = .int .i64 i ∧ Hid (gk + i = 70) ∧ i ≤ 70 ∧ Hid (Chg [] w wr))
  case atStart => exact ⟨0, rfl, hid (by omega), by omega, HC1⟩
  case round =>
    obtain ⟨i, rfl, HG, hi7, HR⟩ := hrel
    by_cases hi : i < 70
    · obtain ⟨P, hP⟩ : ∃ P, n + i = P := ⟨_, rfl⟩
      have hPl : P < (l ++ roomE 70).length := by rw [List.length_append, HN.out, roomE_len]; omega
      obtain ⟨b1, o1, hb1, x0, x1, x2⟩ := ev_at (HFL.out.keep HR.out) hPl
      simp only [Option.some.injEq, Addr.mk.injEq, and_true] at hb1
      obtain ⟨rfl, rfl⟩ := hb1
      have hX : (l ++ roomE 70)[P] = ⟨0, 0, -100 - (i : Int)⟩ := by
        rw [List.getElem_append_right (by rw [HN.out]; omega)]
        simp only [roomE, List.getElem_map, List.getElem_range]
        rw [HN.out, show P - n = i from by omega]
      rw [hX] at x0 x1 x2
      simp only [Nat.zero_add] at x0 x1 x2
      have e1 : (n : Int) + (i : Int) = (P : Int) := by omega
      have e2 : wrap64 ((n : Int) + (i : Int)) = (P : Int) := by rw [e1]; exact IntWalk.wrap64_in _ (by omega)
      have e4 : IntKind.i64.wrap (-100 - (i : Int)) = -100 - (i : Int) := by rw [IntKind.wrap_i64]; omega
      have e5 : wrap64 (-100 - (i : Int)) = -100 - (i : Int) := IntWalk.wrap64_in _ (by omega)
      have hP7 : P < n + 70 := by omega
      have hP8 : (P : Int) < (n : Int) + 70 := by omega
      have qq : ∀ u : World, (binOp .neq 28 (.agg #[.int .i64 0, .int .i64 0, .int .i64 (-100 - (i : Int))]) (.agg #[.int .i64 0, .int .i64 0, .int .i64 (-100 - (i : Int))])).run Tryz.prog u = .ok (.bool false) u := fun u => by rw [neq_ev]; simp
      have gg := fun u => guard_ev u
      clear hX hPl hP
      go_wp2_with fail
      go_roundg (gk - 1)
      case measure => have := HG.out; omega
      case rel => exact ⟨i + 1, by go_num, hid (by have := HG.out; omega), by omega, HR⟩
    · go_wp2_with fail
      go_ret
      exact ⟨rfl, HR.out⟩
end Go.Proofs.YtbghkodcfedebaaGreatDoor
