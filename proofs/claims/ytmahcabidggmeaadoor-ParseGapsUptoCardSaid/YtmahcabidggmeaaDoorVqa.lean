/- The law ParseBack: its walk. -/
import Derived.Test.YtmahcabidggmeaaDoorVpz
set_option linter.unusedVariables false
set_option linter.unusedSectionVars false
set_option linter.unusedSimpArgs false
namespace Go.AB
open Go.RowKit
theorem print_cases (u : UnD) : (printD u = .error 85 ∨ printD u = .error 3) ∨ (printD u = .ok (textS u) ∧ unitOk u = true ∧ (textS u).length ≤ 1048576) := by
  unfold printD
  split
  · exact .inl (.inl rfl)
  · split
    · exact .inl (.inr rfl)
    · rename_i h1 h2
      exact .inr ⟨rfl, by simpa using h1, by omega⟩
end Go.AB
namespace Go.Proofs.YtmahcabidggmeaaDoor
open Go.RowKit Go.AB
set_option linter.unusedSimpArgs false
set_option linter.unusedVariables false
set_option linter.unusedSectionVars false

set_option maxHeartbeats 16000000 in
set_option maxRecDepth 100000 in
theorem back_walk {v : Value} (u : UnD) (hs : SmallN u) (hw : UnW u) (w : World) (hvu : UnV w v u) (hv : VarsP w) : Calls Tryd.prog 4 #[v] w fun e w' => e = .returned (.bool true) ∧ Chg [] w w' := by
  obtain ⟨va0, va1, ts, rfl, l0, l1, _, _⟩ := id hvu
  obtain ⟨a0, c0, rfl, _⟩ := l0.len
  obtain ⟨a1, c1, rfl, _⟩ := l1.len
  obtain ⟨n0, hn0⟩ : ∃ n, u.decls.length = n := ⟨_, rfl⟩
  obtain ⟨n1, hn1⟩ : ∃ n, ts.length = n := ⟨_, rfl⟩
  rw [hn0, hn1] at hvu ⊢
  have HS := hid hs
  have HW := hid hw
  have HB0 := hid (heap_alloc_new w (.cells #[.slice a0 n0 c0, .slice a1 n1 c1] 32))
  have HC0 := hid ((Chg.refl [] w).alloc (.cells #[.slice a0 n0 c0, .slice a1 n1 c1] 32))
  have HUV := hid hvu
  have HV := hid hv
  have HPR := hid (print_cases u)
  clear hvu l0 l1 hn0 hn1 hs hw hv
  go_enter Tryd.func4, Tryd.ntmps4
  go_upto_region 1 with fail
  obtain ⟨wA, hwA⟩ : ∃ wA, w.alloc (.cells #[.slice a0 n0 c0, .slice a1 n1 c1] 32) = wA := ⟨_, rfl⟩
  obtain ⟨Q, hQ⟩ : ∃ Q, w.heap.size = Q := ⟨_, rfl⟩
  rw [hwA] at HB0 HC0 ⊢
  rw [hQ] at HB0 ⊢
  clear hwA hQ
  go_wp2_with (go_at_call 16; refine (lives_calls _ (HV.out.keep HC0.out)).mono ?_; rintro e w1 ⟨rfl, hc1⟩; refine halt (fun XX hXX => ?_))
  have HC1 := hid (HC0.out.trans' hc1)
  have HB1 := hid (hc1.heap HB0.out (by simp))
  have u0 : w1.cell? ⟨Q, 0, none⟩ = some (.slice a0 n0 c0) := blk_cell HB1.out 0
  have u1 : w1.cell? ⟨Q, 1, none⟩ = some (.slice a1 n1 c1) := blk_cell HB1.out 1
  have HCP := hid (copied_calls u HS.out w1 (HUV.out.keep HC1.out))
  clear hc1 HB0
  rw [hXX.out]; clear hXX XX
  go_wp2_with (go_at_call 18; refine HCP.out.mono ?_; rintro e w2 ⟨v2, rfl, hcp⟩; refine halt (fun XX hXX => ?_))
  have HC2 := hid (HC1.out.trans' hcp.chg)
  have HB2 := hid (hcp.chg.heap HB1.out (by simp))
  have HP2 := hid (print_calls u HS.out w2 hcp.unV (HV.out.keep HC2.out))
  clear hcp HB1 u0 u1
  rw [hXX.out]; clear hXX XX
  rcases HPR.out with (hp | hp) | ⟨hp, hok, hlen⟩
  · rw [hp] at HP2
    go_wp2_with (go_at_call 17; refine HP2.out.mono ?_; rintro e w3 hP3; obtain ⟨rfl, hc3⟩ := prn_err hP3; clear hP3; refine halt (fun XX hXX => ?_))
    have HC3 := hid (HC2.out.trans' hc3)
    clear hc3
    rw [hXX.out]; clear hXX XX
    go_wp2
    go_ret
    exact ⟨rfl, HC3.out⟩
  · rw [hp] at HP2
    go_wp2_with (go_at_call 17; refine HP2.out.mono ?_; rintro e w3 hP3; obtain ⟨rfl, hc3⟩ := prn_err hP3; clear hP3; refine halt (fun XX hXX => ?_))
    have HC3 := hid (HC2.out.trans' hc3)
    clear hc3
    rw [hXX.out]; clear hXX XX
    go_wp2
    go_ret
    exact ⟨rfl, HC3.out⟩
  · obtain ⟨q, hsq, hsame, hpq⟩ := printed_back hok HW.out
    rw [hp] at HP2 hpq
    have HQS := hid (source_unit hlen hsq).2.2
    have HSM := hid hsame
    have HPQ := hid hpq
    clear hsame hpq hok
    go_wp2_with (go_at_call 17; refine HP2.out.mono ?_; rintro e w3 hP3; obtain ⟨rfl, hc3⟩ := prn_ok hP3; clear hP3; refine halt (fun XX hXX => ?_))
    have HC3 := hid (HC2.out.trans' hc3)
    have HB3 := hid (hc3.heap HB2.out (by simp))
    have HUC := hid (unit_calls (textS u) hlen w3 (HV.out.keep HC3.out))
    rw [hsq] at HUC
    clear hc3 HB2 HCP
    rw [hXX.out]; clear hXX XX
    go_wp2_with (go_at_call 19; refine HUC.out.mono ?_; rintro e w5 ⟨v5, rfl, hu⟩; refine halt (fun XX hXX => ?_))
    have hc5 : Chg [] w3 w5 := by obtain ⟨q, _, _, hp⟩ := hu; exact hp.chg
    have hvu := hu.unV
    obtain ⟨va5, vb5, bs5, rfl, hda, hbb, _, _⟩ := id hvu
    obtain ⟨ad5, cd5, rfl, _⟩ := hda.len
    obtain ⟨ab5, cb5, rfl, _⟩ := hbb.len
    obtain ⟨D5, hD⟩ : ∃ D, q.decls.length = D := ⟨_, rfl⟩
    obtain ⟨M5, hM⟩ : ∃ M, bs5.length = M := ⟨_, rfl⟩
    rw [hD, hM] at hvu hXX
    have HC5 := hid (HC3.out.trans' hc5)
    have HB5 := hid (hc5.heap HB3.out (by simp))
    have HVU := hid hvu
    clear hu hc5 hvu hda hbb hD hM
    rw [hXX.out]; clear hXX XX
    go_upto_region 7 with fail
    have HD := hid (UF.mk' w5 (.slice ad5 D5 cd5) (.slice ab5 M5 cb5) 0 0 0)
    have HK6 := hid (uf_chg w5 (.slice ad5 D5 cd5) (.slice ab5 M5 cb5) 0 0 0)
    obtain ⟨w6, hw6⟩ : ∃ w6, (w5.alloc (.cells #[.slice ad5 D5 cd5, .slice ab5 M5 cb5] 32)).alloc (.cells #[.int .i64 0, .int .i64 0, .int .i64 0] 40) = w6 := ⟨_, rfl⟩
    obtain ⟨P5, hP⟩ : ∃ P, w5.heap.size = P := ⟨_, rfl⟩
    rw [hP, hw6] at HD
    rw [hw6] at HK6 ⊢
    rw [hP]
    have HC6 := hid (HC5.out.trans' HK6.out)
    have HB6 := hid (HK6.out.heap HB5.out (by simp))
    have HVU6 := hid (HVU.out.keep HK6.out)
    have HPN := hid (print_calls q HQS.out w6 HVU6.out (HV.out.keep HC6.out))
    rw [HPQ.out] at HPN
    have d0 : w6.cell? ⟨P5, 0, none⟩ = some (.slice ad5 D5 cd5) := blk_cell HD.out.u 0
    have d1 : w6.cell? ⟨P5, 1, none⟩ = some (.slice ab5 M5 cb5) := blk_cell HD.out.u 1
    clear hw6 hP HK6 HVU
    go_wp2_with (go_at_call 17; refine HPN.out.mono ?_; rintro e w7 hP7; obtain ⟨rfl, hc7⟩ := prn_ok hP7; clear hP7; refine halt (fun XX hXX => ?_))
    have HC7 := hid (HC6.out.trans' hc7)
    have HB7 := hid (hc7.heap HB6.out (by simp))
    have HD7 := hid (HD.out.keep hc7)
    have HS := hid (same_calls false HSM.out HS.out w7 (HUV.out.keep HC7.out) (HVU6.out.keep hc7))
    have a0 : w7.cell? ⟨P5 + 1, 0, none⟩ = some (.int .i64 0) := blk_cell HD7.out.f 0
    have a1 : w7.cell? ⟨P5 + 1, 1, none⟩ = some (.int .i64 0) := blk_cell HD7.out.f 1
    have a2 : w7.cell? ⟨P5 + 1, 2, none⟩ = some (.int .i64 0) := blk_cell HD7.out.f 2
    have b0 := blk_cell HB7.out 0
    have b1 := blk_cell HB7.out 1
    have e0 : w7.cell? ⟨P5, 0, none⟩ = some (.slice ad5 D5 cd5) := blk_cell HD7.out.u 0
    have e1 : w7.cell? ⟨P5, 1, none⟩ = some (.slice ab5 M5 cb5) := blk_cell HD7.out.u 1
    simp only [List.getElem?_toArray, List.getElem?_cons_zero, List.getElem?_cons_succ] at b0 b1
    clear hc7 d0 d1 HPN HB6 HB5 HUC
    rw [hXX.out]; clear hXX XX
    go_wp2_with (go_at_call 20; refine HS.out.mono ?_; rintro e w8 ⟨rfl, hc8⟩)
    go_ret
    exact ⟨rfl, HC7.out.trans' hc8⟩
end Go.Proofs.YtmahcabidggmeaaDoor
