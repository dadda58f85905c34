/- Walks of the trace layer's reference: a list's text. -/
import Derived.Test.YtbghkodcfedebaaGreatDoorTxb
set_option linter.unusedVariables false
set_option linter.unusedSectionVars false
set_option linter.unusedSimpArgs false
namespace Go.Proofs.YtbghkodcfedebaaGreatDoor
open Go.RowKit Go.AB
set_option linter.unusedSimpArgs false
set_option linter.unusedVariables false
set_option linter.unusedSectionVars false
set_option maxHeartbeats 8000000 in
set_option maxRecDepth 100000 in
theorem rtext_calls {v : Value} (l : List Ev) (w : World) (hl : Lst evC 3 w v l) (hn : l.length ≤ 1048576) (hv : VarsT w) :
    Calls Tryz.prog 14 #[v] w (TxtP w (textD l)) := by
  have HO := hid (rplains_calls l w hl (by omega))
  obtain ⟨ao, cap, rfl, -⟩ := hl.len
  obtain ⟨D, hD⟩ : ∃ D, textD l = D := ⟨_, rfl⟩
  rw [hD]
  have HV := hid hv
  have HL := hid hl
  cases hp : l.all plainE with
  | false =>
    rw [hp] at HO
    have HD : Hid (D = ([], 6)) := hid (by rw [← hD]; unfold textD; rw [hp]; rfl)
    clear hp hD hl
    go_enter Tryz.func14, Tryz.ntmps14
    go_wp2_with (go_at_call 42; refine HO.out.mono ?_; rintro e w1 ⟨rfl, hc⟩)
    first | go_ret2 | go_ret
    exact ⟨by rw [HD.out]; rfl, hc⟩
  | true =>
    rw [hp] at HO
    obtain ⟨n, hln⟩ : ∃ n, l.length = n := ⟨_, rfl⟩
    rw [hln] at hn HO HL ⊢
    have HN := hid hln
    have HP := hid hp
    have HD : Hid (D = if 16777216 < (linesE l).length then ([], 3) else (linesE l, 0)) := hid (by rw [← hD]; unfold textD; rw [hp]; rfl)
    clear hp hD hl hln hv
    go_enter Tryz.func14, Tryz.ntmps14
    go_upto_region 4 with (go_at_call 42; refine HO.out.mono ?_; rintro e w1 ⟨rfl, hc⟩; refine halt (fun XX hXX => ?_); have HC1 := hid hc; clear hc; rw [hXX.out]; clear hXX XX)
    clear HO
    go_upto_region 5 with fail
    go_loopg [4, 5] n (fun gk v4 v5 wr => ∃ (i m : Nat) (ab : Option Addr) (cb : Nat) (rb : Option Nat) (L : List UInt8), v4 = .slice ab m cb ∧ v5 = .int .i64 i ∧ Hid (gk + i = n) ∧ m ≤ 16777235 ∧
      Hid (linesE (l.take i) = L ∧ L.length = m) ∧ Hid (Row wr 5 1 (.slice ab m cb) rb m (L.map B) ∧ Fresh w1 none rb ∧ Chg [] w1 wr))
    case atStart => exact ⟨0, 0, none, 0, none, [], rfl, rfl, hid (by omega), by omega, hid ⟨rfl, rfl⟩, hid ⟨Row.nil _ _ _, Fresh.refl _ _, Chg.refl _ _⟩⟩
    case round =>
      obtain ⟨i, m, ab, cb, rb, L, rfl, rfl, HG, hm9, HLI, HR⟩ := hrel
      by_cases hi : i < n
      · by_cases hm : m ≤ 16777216
        · have hil : i < l.length := by rw [HN.out]; exact hi
          obtain ⟨b1, o1, rfl, x0, x1, x2⟩ := ev_at (HL.out.keep (HC1.out.trans' HR.out.2.2)) hil
          have hpx : plainE l[i] = true := List.all_eq_true.1 HP.out _ (List.getElem_mem hil)
          have HTK := hid (lines_take hil)
          obtain ⟨X, hX⟩ : ∃ X, l[i] = X := ⟨_, rfl⟩
          rw [hX] at x0 x1 x2 hpx HTK
          have hsh := (line_short hpx).1
          have hpl := rline_calls X hpx wr (HV.out.keep (HC1.out.trans' HR.out.2.2))
          unfold evV at hpl
          obtain ⟨S, hS⟩ : ∃ S, lineE X = S := ⟨_, rfl⟩
          rw [hS] at hpl HTK hsh
          obtain ⟨q, hq⟩ : ∃ q, S.length = q := ⟨_, rfl⟩
          have hbs : (bA S).size = q := by rw [bA_size, hq]
          have HPX := hid hpl
          have HBS := hid (And.intro hbs hq)
          have hq19 : q ≤ 19 := by rw [← hq]; exact hsh
          clear hX hpl hS hpx hsh hbs hq
          go_wp2_with (go_at_call 43; refine HPX.out.mono ?_; rintro e w8 ⟨rfl, hc8⟩; refine halt (fun XX hXX => ?_))
          have HC8 := hid hc8
          have HR8 := hid (HR.out.1.keep hc8 (by simp))
          clear hc8 x0 x1 x2 HPX
          rw [hXX.out]; clear hXX XX
          go_wp2_with (at_builtin; refine wpList_app_string rfl _ _ 34 9 rfl elem_u8 Tryz.underlying9 rfl HR8.out rfl (by rw [HBS.out.1]; unfold maxLen; omega) (by rw [HBS.out.1]; omega) (fun ao' cap' r' w2 hr2 hc2 hf2 hnil2 => halt (fun XX hXX => ?_)))
          clear hnil2
          rw [HBS.out.1] at hr2 hXX
          have HR2 : Hid (Row w2 5 1 (.slice ao' (m + q) cap') r' (m + q) ((L ++ S).map B) ∧ Fresh w1 none r' ∧ Chg [] w1 w2) := hid ⟨by rw [List.map_append]; exact hr2, HR.out.2.1.trans (Nat.le_trans HR.out.2.2.size HC8.out.size) hf2, (HR.out.2.2.trans' HC8.out).trans hc2 (fun x hx => .inr (by
            rcases HR.out.2.1 x (by simpa using hx) with h | h
            · cases h
            · exact h))⟩
          have HL2 : Hid (linesE (l.take (i + 1)) = L ++ S ∧ (L ++ S).length = m + q) := hid ⟨by rw [HTK.out, HLI.out.1], by rw [List.length_append, HLI.out.2, HBS.out.2]⟩
          clear hr2 hc2 hf2
          rw [hXX.out]; clear hXX XX
          go_wp2_with fail
          go_roundg (gk - 1)
          case measure => have := HG.out; omega
          case rel => exact ⟨i + 1, m + q, ao', cap', r', L ++ S, by first | rfl | go_num, by go_num, hid (by have := HG.out; omega), by omega, HL2, HR2⟩
        · have hlong : Hid (16777216 < (linesE l).length) := hid (by have := lines_mono l i; rw [HLI.out.1, HLI.out.2] at this; omega)
          have h1 : ¬ ((m : Int) ≤ 16777216) := by omega
          have h2 : (16777216 : Int) < (m : Int) := by omega
          go_wp2_with fail
          first | go_ret2 | go_ret
          exact ⟨by rw [HD.out, if_pos hlong.out]; rfl, HC1.out.trans' HR.out.2.2⟩
      · have hin : l.length ≤ i := by rw [HN.out]; omega
        have HLL : Hid (linesE l = L) := hid (by have h := HLI.out.1; rwa [List.take_of_length_le hin] at h)
        by_cases hm : m ≤ 16777216
        · have h2 : ¬ ((16777216 : Int) < (m : Int)) := by omega
          have HD2 : Hid (D = (L, 0)) := hid (by rw [HD.out, HLL.out, if_neg (by rw [HLI.out.2]; omega)])
          have hcv := run_conv_view Tryz.underlying34 Tryz.underlying5 Tryz.underlying9 HR.out.1.view wr rfl
          clear hin
          go_wp2_with fail
          first | go_ret2 | go_ret
          exact ⟨by rw [HD2.out]; rfl, HC1.out.trans' HR.out.2.2⟩
        · have h2 : (16777216 : Int) < (m : Int) := by omega
          have HD2 : Hid (D = ([], 3)) := hid (by rw [HD.out, HLL.out, if_pos (by rw [HLI.out.2]; omega)])
          clear hin
          go_wp2_with fail
          first | go_ret2 | go_ret
          exact ⟨by rw [HD2.out]; rfl, HC1.out.trans' HR.out.2.2⟩
end Go.Proofs.YtbghkodcfedebaaGreatDoor
