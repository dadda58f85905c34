/- Walks of the trace layer's reference: one run. -/
import Derived.Test.YtbghkodcfedebaaGreatDoorTxd
set_option linter.unusedVariables false
set_option linter.unusedSectionVars false
set_option linter.unusedSimpArgs false
namespace Go.AB
open Go.RowKit
/-- From f on, k events are of one thread, and no more. -/
def RunK (l : List Ev) (f k : Nat) : Prop := 1 ≤ k ∧ f + k ≤ l.length ∧ (∀ j (h : f + j < l.length) (h0 : f < l.length), j < k → l[f + j].t = l[f].t) ∧ ∀ (h : f + k < l.length) (h0 : f < l.length), l[f + k].t ≠ l[f].t
theorem take_snocE {l : List Ev} {f k : Nat} (h : f + k < l.length) : (l.drop f).take (k + 1) = (l.drop f).take k ++ [l[f + k]] := by
  rw [List.take_succ_eq_append_getElem (by rw [List.length_drop]; omega)]
  simp
end Go.AB
namespace Go.Proofs.YtbghkodcfedebaaGreatDoor
open Go.RowKit Go.AB
set_option linter.unusedSimpArgs false
set_option linter.unusedVariables false
set_option linter.unusedSectionVars false
set_option maxHeartbeats 8000000 in
set_option maxRecDepth 100000 in
theorem rrun_calls {v : Value} (l : List Ev) (w : World) (hl : Lst evC 3 w v l) (hn : l.length ≤ 1048576) (f : Nat) (hf : f < l.length) :
    Calls Tryz.prog 82 #[v, .int .i64 f] w fun e w' => ∃ v' k, e = .returned v' ∧ NewE w ((l.drop f).take k) v' w' ∧ Hid (RunK l f k) := by
  obtain ⟨ao, cap, rfl, -⟩ := hl.len
  obtain ⟨n, hln⟩ : ∃ n, l.length = n := ⟨_, rfl⟩
  have HF := hid hf
  rw [hln] at hl hn hf ⊢
  have HL := hid hl
  have HN := hid hln
  obtain ⟨T, hT⟩ : ∃ T, (l[f]'HF.out).t = T := ⟨_, rfl⟩
  have HT := hid hT
  have hlE := HL.out
  rw [← hln] at hlE
  clear hl hln hT
  obtain ⟨b1, o1, rfl, _, z1, _⟩ := ev_at hlE HF.out
  rw [HT.out] at z1
  clear hlE
  go_enter Tryz.func82, Tryz.ntmps82
  go_upto_region 3 with fail
  go_loopg [5, 6] (n - f) (fun gk v5 v6 wr => ∃ (i k : Nat) (ab : Option Addr) (cb : Nat) (rb : Option Nat), v5 = .slice ab k cb ∧ v6 = .int .i64 i ∧ Hid (gk + i = n) ∧ Hid (i = f + k) ∧ i ≤ n ∧ k ≤ n ∧
      Hid (∀ j (h : f + j < l.length) (h0 : f < l.length), j < k → l[f + j].t = l[f].t) ∧ Hid (Row wr 28 3 (.slice ab k cb) rb k (((l.drop f).take k).flatMap evC) ∧ Fresh w none rb ∧ Chg [] w wr))
  case atStart => exact ⟨f, 0, none, 0, none, rfl, rfl, hid (by omega), hid rfl, by omega, by omega, hid (fun j h h0 hj => absurd hj (by omega)), hid ⟨Row.nil _ _ _, Fresh.refl _ _, Chg.refl _ _⟩⟩
  case round =>
    obtain ⟨i, k, ab, cb, rb, rfl, rfl, HG, HI, hin, hkn, HS, HR⟩ := hrel
    by_cases hi : i < n
    · have hil : i < l.length := by rw [HN.out]; exact hi
      obtain ⟨b2, o2, hb2, x0, x1, x2⟩ := ev_at (HL.out.keep HR.out.2.2) hil
      simp only [Option.some.injEq, Addr.mk.injEq, and_true] at hb2
      obtain ⟨rfl, rfl⟩ := hb2
      have z2 := HR.out.2.2.cell z1 (by simp)
      obtain ⟨X, hX⟩ : ∃ X, l[i] = X := ⟨_, rfl⟩
      rw [hX] at x0 x1 x2
      have HX := hid hX
      obtain ⟨xk, xt, xo⟩ := X
      simp only at x0 x1 x2
      have hHX : Hid (∃ h : f + k < l.length, l[f + k] = ⟨xk, xt, xo⟩) := hid (by
        have hi2 := HI.out
        subst hi2
        exact ⟨hil, HX.out⟩)
      have HZ := hid z1
      by_cases hUT : xt = T
      · have q5 : (xt == T) = true := by simp [hUT]
        have HU := hid hUT
        have HRW := hid fun q o => HR.out.1.keep ((Chg.of_drewN [] wr q).alloc o) (by simp)
        clear hUT hX z1 hil HX
        go_wp2_with fail
        go_quiet (fail)
        go_wp2_with (at_builtin; refine wpList_grew rfl _ _ 22 rfl elem_ev rfl (HRW.out _ _) rfl (View.structAt _ [.int .i64 xk, .int .i64 xt, .int .i64 xo] 28 (by first | rfl | simp) rfl) (by simp [Value.oneCell']) (by unfold maxLen; omega) (by omega) (fun ao' cap' r' w4 hr4 hg4 => halt (fun X hX => ?_)))
        have hcA : Chg [] w _ := HR.out.2.2.trans' ((Chg.of_drewN [] wr nq).alloc (.cells [Value.int .i64 xk, .int .i64 xt, .int .i64 xo].toArray 28))
        have hr5 : Row w4 28 3 (.slice ao' (k + 1) cap') r' (k + 1) (((l.drop f).take (k + 1)).flatMap evC) := by
          obtain ⟨h, he⟩ := hHX.out
          rw [take_snocE h, he, ← evs_snoc]
          exact hr4
        have hfr : Fresh w none r' := HR.out.2.1.trans hcA.size hg4.fresh
        have hch : Chg [] w w4 := hcA.trans hg4.chg (fun g hg => .inr (by
          have := HR.out.2.1 g (by simpa using hg)
          simpa using this))
        have HF4 := hid (And.intro hr5 (And.intro hfr hch))
        have HS2 : Hid (∀ j (h : f + j < l.length) (h0 : f < l.length), j < k + 1 → l[f + j].t = l[f].t) := hid fun j h h0 hj => by
          rcases Nat.lt_or_ge j k with h1 | h1
          · exact HS.out j h h0 h1
          · obtain rfl : j = k := by omega
            obtain ⟨h2, he⟩ := hHX.out
            rw [he, HT.out]
            exact HU.out
        clear hr4 hg4 hfr hch hcA hr5 HRW x0 x1 x2 z2
        rw [hX.out]; clear hX
        go_wp2_with fail
        go_roundg (gk - 1)
        case measure => have := HG.out; omega
        case rel => exact ⟨i + 1, k + 1, ao', cap', r', by first | rfl | go_num, by go_num, hid (by have := HG.out; omega), hid (by have := HI.out; omega), by omega, by have := HI.out; omega, HS2, HF4⟩
      · have q5 : (xt == T) = false := by simpa using hUT
        have HU := hid hUT
        clear hUT hX z1 hil HX
        go_wp2_with fail
        go_quiet (fail)
        go_wp2_with fail
        go_ret
        obtain ⟨h2, he⟩ := hHX.out
        refine ⟨_, k, rfl, ⟨ab, cb, rb, ?_, ?_, HR.out.2.1, HR.out.2.2.trans' (Chg.of_drewN _ _ _)⟩, hid ⟨?_, ?_, HS.out, fun h h0 => ?_⟩⟩
        · rw [List.length_take, List.length_drop, Nat.min_eq_left (by omega)]; rfl
        · rw [List.length_take, List.length_drop, Nat.min_eq_left (by omega)]; exact HR.out.1.keep (Chg.of_drewN [] _ _) (by simp)
        · rcases Nat.eq_zero_or_pos k with h0 | h0
          · exfalso
            subst h0
            apply HU.out
            have h3 := HT.out
            simp only [Nat.add_zero] at he
            rw [he] at h3
            exact h3
          · exact h0
        · omega
        · rw [he, HT.out]; exact HU.out
    · have hkl : Hid (f + k = l.length) := hid (by rw [HN.out]; have := HI.out; omega)
      clear z1
      go_wp2_with fail
      go_quiet (fail)
      go_wp2_with fail
      go_ret
      have hkl := hkl.out
      refine ⟨_, k, rfl, ⟨ab, cb, rb, ?_, ?_, HR.out.2.1, HR.out.2.2.trans' (Chg.of_drewN _ _ _)⟩, hid ⟨?_, ?_, HS.out, fun h h0 => ?_⟩⟩
      · rw [List.length_take, List.length_drop, Nat.min_eq_left (by omega)]; rfl
      · rw [List.length_take, List.length_drop, Nat.min_eq_left (by omega)]; exact HR.out.1.keep (Chg.of_drewN [] _ _) (by simp)
      · have := HF.out; omega
      · omega
      · omega
end Go.Proofs.YtbghkodcfedebaaGreatDoor
