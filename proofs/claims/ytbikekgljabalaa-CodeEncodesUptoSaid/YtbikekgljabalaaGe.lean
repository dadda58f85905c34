/- Walks of the code layer: is it plain? The reference's. -/
import Derived.Test.YtbikekgljabalaaGd
namespace Go.Proofs.Ytbikekgljabalaa
open Go.RowKit Go.AB
set_option linter.unusedSimpArgs false
set_option linter.unusedVariables false

set_option maxHeartbeats 2000000 in
set_option maxRecDepth 100000 in
theorem r_vars_calls (xs : List VarD) (hb : ∀ x ∈ xs, x.name.size ≤ 1048576) (hn : xs.length ≤ 1048576) {v : Value} (w : World) (hv : Lst varC 2 w v xs) :
    Calls Try.prog 40 #[v] w fun e w' => e = .returned (.bool (varsB xs)) ∧ w = w' := by
  obtain ⟨ao, cap, rfl, _⟩ := hv.len
  have HV := hid hv
  have HB := hid hb
  obtain ⟨n, hnn⟩ : ∃ n, xs.length = n := ⟨_, rfl⟩
  have hq : varsB xs = (decide (xs.length ≤ 4096) && xs.all fun v => decide (v.name.size ≤ 24)) := rfl
  rw [hnn] at HV hn hq ⊢
  have HN := hid hnn
  obtain ⟨R, hR⟩ : ∃ r, varsB xs = r := ⟨_, rfl⟩
  rw [hR] at hq ⊢
  have HQ := hid hq
  clear hv hb hnn hq hR
  by_cases h1 : 4096 < n
  · have HR : Hid (R = false) := hid (by rw [HQ.out, decide_eq_false (show ¬ n ≤ 4096 by omega), Bool.false_and])
    go_enter Try.func40, Try.ntmps40
    go_wp2
    go_ret
    exact ⟨by rw [HR.out]; rfl, rfl⟩
  have z0 : (n : Int) ≤ 4096 := by omega
  have HR : Hid (R = xs.all fun v => decide (v.name.size ≤ 24)) := hid (by rw [HQ.out, decide_eq_true (show n ≤ 4096 by omega), Bool.true_and])
  go_enter Try.func40, Try.ntmps40
  go_wp2
  go_loop [3] (fun vi => ∃ k : Nat, k ≤ n ∧ vi = .int .i64 k ∧ Hid (R = ((xs.drop k).all fun v => decide (v.name.size ≤ 24)))) (fun vi => n - (intOf vi).toNat)
  case atStart => exact ⟨0, Nat.zero_le _, rfl, HR.out⟩
  case round =>
    obtain ⟨k, hk, rfl, hh⟩ := hrel
    by_cases hlt : k < n
    · have hkl : k < xs.length := by rw [HN.out]; exact hlt
      obtain ⟨b, off, hao, hcl⟩ := HV.out.at varC_len hkl (by omega)
      have zl : (k : Int) < (n : Int) := by omega
      have c0 : w.cell? ⟨b, off + k * 2, none⟩ = some (.string xs[k].name) := hcl 0 (by omega)
      have hbx := HB.out _ (List.getElem_mem hkl)
      have hdr : xs.drop k = xs[k] :: xs.drop (k + 1) := List.drop_eq_getElem_cons hkl
      have hh2 := hh.out
      rw [hdr, List.all_cons] at hh2
      obtain ⟨S, hS⟩ : ∃ S, xs[k].name = S := ⟨_, rfl⟩
      rw [hS] at c0 hbx hh2
      have HH := hid hh2
      have HAO := hid hao
      subst hao
      clear hcl hh hh2 hdr hS
      by_cases hs : 24 < S.size
      · have HF : Hid (R = false) := hid (by rw [HH.out, decide_eq_false (show ¬ S.size ≤ 24 by omega), Bool.false_and])
        have hs' : (24 : Int) < (S.size : Int) := by omega
        go_wp2
        go_ret
        exact ⟨by rw [HF.out]; rfl, rfl⟩
      · have HF : Hid (R = ((xs.drop (k + 1)).all fun v => decide (v.name.size ≤ 24))) := hid (by rw [HH.out, decide_eq_true (show S.size ≤ 24 by omega), Bool.true_and])
        have hs' : (S.size : Int) ≤ 24 := by omega
        go_wp2
        refine ⟨⟨k + 1, by omega, by go_num, HF⟩, by simp [intOf]; omega⟩
    · obtain rfl : k = n := by omega
      have HF : Hid (R = true) := hid (by rw [hh.out, List.drop_eq_nil_of_le (by rw [HN.out]; exact Nat.le_refl _)]; rfl)
      clear hh
      go_wp2
      go_ret
      exact ⟨by rw [HF.out]; rfl, rfl⟩

set_option maxHeartbeats 8000000 in
set_option maxRecDepth 100000 in
theorem r_thread_calls (nm : ByteArray) (code : List InsD) (places : List PlcD) (hnm : nm.size ≤ 1048576) (hnc : code.length ≤ 1048576) (hnp : places.length ≤ 1048576) {vc vp : Value} (w : World) (hc : Lst insC 5 w vc code) (hp : Lst plcC 2 w vp places) :
    Calls Try.prog 41 #[.agg #[.string nm, vc, vp]] w fun e w' => e = .returned (.bool (thrB ⟨nm, code, places⟩)) ∧ Chg [] w w' := by
  obtain ⟨ac, cc, rfl, _⟩ := hc.len
  obtain ⟨ap, cp, rfl, _⟩ := hp.len
  have hq := thrB_chk ⟨nm, code, places⟩
  simp only at hq
  obtain ⟨nc, hnc2⟩ : ∃ n, code.length = n := ⟨_, rfl⟩
  obtain ⟨np, hnp2⟩ : ∃ n, places.length = n := ⟨_, rfl⟩
  have HX := hid (And.intro hc hp)
  rw [hnc2] at hnc hq ⊢
  rw [hnp2] at hnp hq ⊢
  have HNL := hid (And.intro hnc2 hnp2)
  obtain ⟨R, hR⟩ : ∃ r, thrB ⟨nm, code, places⟩ = r := ⟨_, rfl⟩
  rw [hR] at hq ⊢
  have HQ := hid hq
  clear hc hp hnc2 hnp2 hq hR
  by_cases g0 : 24 < nm.size
  · have HF : Hid (R = false) := hid (by rw [HQ.out, decide_eq_false (show ¬ nm.size ≤ 24 by omega)]; rfl)
    have g0' : (24 : Int) < (nm.size : Int) := by omega
    go_enter Try.func41, Try.ntmps41
    go_wp2
    go_ret
    exact ⟨by rw [HF.out]; rfl, (Chg.refl _ _).alloc _⟩
  have g0' : (nm.size : Int) ≤ 24 := by omega
  by_cases g1 : 4096 < nc
  · have HF : Hid (R = false) := hid (by rw [HQ.out, decide_eq_false (show ¬ nc ≤ 4096 by omega)]; simp)
    have g1' : (4096 : Int) < (nc : Int) := by omega
    go_enter Try.func41, Try.ntmps41
    go_wp2
    go_ret
    exact ⟨by rw [HF.out]; rfl, (Chg.refl _ _).alloc _⟩
  have g1' : (nc : Int) ≤ 4096 := by omega
  by_cases g2 : np ≠ nc
  · have HF : Hid (R = false) := hid (by rw [HQ.out, decide_eq_false g2]; simp)
    have g2' : ((np : Int) == (nc : Int)) = false := by rw [beq_eq_false_iff_ne]; omega
    have g2'' : ((np : Int) != (nc : Int)) = true := by rw [bne, g2']; rfl
    have g3 : (np == nc) = false := by rw [beq_eq_false_iff_ne]; exact g2
    have g3' : (np != nc) = true := by rw [bne, g3]; rfl
    go_enter Try.func41, Try.ntmps41
    go_wp2
    go_ret
    exact ⟨by rw [HF.out]; rfl, (Chg.refl _ _).alloc _⟩
  have g2' : np = nc := Classical.not_not.1 g2
  clear g2
  subst g2'
  have HR : Hid (R = chkI code places) := hid (by rw [HQ.out, decide_eq_true (show nm.size ≤ 24 by omega), decide_eq_true (show np ≤ 4096 by omega)]; simp)
  have tb : ∀ u, Chg [] (w.alloc (.cells #[.string nm, .slice ac np cc, .slice ap np cp] 59)) u → u.cell? ⟨w.heap.size, 1, none⟩ = some (.slice ac np cc) ∧ u.cell? ⟨w.heap.size, 2, none⟩ = some (.slice ap np cp) := fun u hu => ⟨hu.cell (by simp) (by simp), hu.cell (by simp) (by simp)⟩
  have TB := hid tb
  clear tb
  go_enter Try.func41, Try.ntmps41
  go_wp2
  go_loopw [3] (fun vi wx => ∃ j : Nat, j ≤ np ∧ vi = .int .i64 j ∧ Chg [] (w.alloc (.cells #[.string nm, .slice ac np cc, .slice ap np cp] 59)) wx ∧ Hid (R = chkI (code.drop j) (places.drop j))) (fun vi _ => np - (intOf vi).toNat)
  case atStart => exact ⟨0, Nat.zero_le _, rfl, Chg.refl _ _, HR.out⟩
  case round =>
    obtain ⟨j, hj, rfl, hcx, hi⟩ := hrel
    obtain ⟨m1, m2⟩ := TB.out _ hcx
    by_cases hjl : j < np
    · have hjc : j < code.length := by rw [HNL.out.1]; exact hjl
      have hjp : j < places.length := by rw [HNL.out.2]; exact hjl
      have hox : Chg [] w wr := ((Chg.refl _ _).alloc _).trans' hcx
      obtain ⟨bc, oc, hac, hcc⟩ := (HX.out.1.keep hox).at insC_len hjc (by omega)
      obtain ⟨bp, op, hap, hcp⟩ := (HX.out.2.keep hox).at plcC_len hjp (by omega)
      have hdc : code.drop j = code[j] :: code.drop (j + 1) := List.drop_eq_getElem_cons hjc
      have hdp : places.drop j = places[j] :: places.drop (j + 1) := List.drop_eq_getElem_cons hjp
      have hi2 := hi.out
      rw [hdc, hdp] at hi2
      have hi3 : R = (insB code[j] && plcB places[j] && chkI (code.drop (j + 1)) (places.drop (j + 1))) := hi2
      have y0 := hcc 0 (by omega)
      have y1 := hcc 1 (by omega)
      have y2 := hcc 2 (by omega)
      have y3 := hcc 3 (by omega)
      have y4 := hcc 4 (by omega)
      have v0 := hcp 0 (by omega)
      have v1 := hcp 1 (by omega)
      obtain ⟨X, hX⟩ : ∃ x, code[j] = x := ⟨_, rfl⟩
      obtain ⟨Y, hY⟩ : ∃ x, places[j] = x := ⟨_, rfl⟩
      rw [hX] at y0 y1 y2 y3 y4 hi3
      rw [hY] at v0 v1 hi3
      obtain ⟨x0, x1, x2, x3, x4⟩ := X
      obtain ⟨ln, cl⟩ := Y
      change wr.cell? _ = some (Value.int .i64 x0) at y0
      change wr.cell? _ = some (Value.int .i64 x1) at y1
      change wr.cell? _ = some (Value.int .i64 x2) at y2
      change wr.cell? _ = some (Value.int .i64 x3) at y3
      change wr.cell? _ = some (Value.int .i64 x4) at y4
      change wr.cell? _ = some (Value.int .i64 ln) at v0
      change wr.cell? _ = some (Value.int .i64 cl) at v1
      rw [Nat.add_zero] at y0 v0
      have hin := r_instr_calls ⟨x0, x1, x2, x3, x4⟩
      obtain ⟨qi, hqi⟩ : ∃ q, insB ⟨x0, x1, x2, x3, x4⟩ = q := ⟨_, rfl⟩
      rw [hqi] at hin hi3
      have HI : Hid (∀ u, Calls Try.prog 82 #[.agg #[.int .i64 x0, .int .i64 x1, .int .i64 x2, .int .i64 x3, .int .i64 x4]] u _) := hid hin
      have hpl : plcB ⟨ln, cl⟩ = (decide (0 ≤ ln) && decide (ln ≤ 2147483647) && decide (0 ≤ cl) && decide (cl ≤ 2147483647)) := rfl
      rw [hpl] at hi3
      have HJ := hid hi3
      have HCX := hid hcx
      have HOX := hid hox
      have HAC := hid hac
      have HAP := hid hap
      have zj : (j : Int) < (np : Int) := by omega
      have KP := hid (And.intro m2 (And.intro v0 v1))
      subst hac hap
      clear hi hi2 hi3 hdc hdp hcc hcp hin hqi hpl hX hY hcx hox m2 v0 v1
      cases qi
      case false =>
        have HRf : Hid (R = false) := hid (by rw [HJ.out]; simp)
        go_wp2_with (go_at_call 82; refine (HI.out _).mono ?_; rintro e w7 ⟨rfl, hc7⟩; have p2 := hc7.cell KP.out.1 (by simp); have p0 := hc7.cell KP.out.2.1 (by simp); have p1 := hc7.cell KP.out.2.2 (by simp))
        go_ret
        exact ⟨by rw [HRf.out]; rfl, (HOX.out.trans' hc7).alloc _⟩
      by_cases b0 : ln < 0
      · have HRf : Hid (R = false) := hid (by rw [HJ.out, decide_eq_false (show ¬ 0 ≤ ln by omega)]; simp)
        go_wp2_with (go_at_call 82; refine (HI.out _).mono ?_; rintro e w7 ⟨rfl, hc7⟩; have p2 := hc7.cell KP.out.1 (by simp); have p0 := hc7.cell KP.out.2.1 (by simp); have p1 := hc7.cell KP.out.2.2 (by simp))
        go_ret
        exact ⟨by rw [HRf.out]; rfl, (HOX.out.trans' hc7).alloc _⟩
      by_cases b1 : 2147483647 < ln
      · have HRf : Hid (R = false) := hid (by rw [HJ.out, decide_eq_false (show ¬ ln ≤ 2147483647 by omega)]; simp)
        go_wp2_with (go_at_call 82; refine (HI.out _).mono ?_; rintro e w7 ⟨rfl, hc7⟩; have p2 := hc7.cell KP.out.1 (by simp); have p0 := hc7.cell KP.out.2.1 (by simp); have p1 := hc7.cell KP.out.2.2 (by simp))
        go_ret
        exact ⟨by rw [HRf.out]; rfl, (HOX.out.trans' hc7).alloc _⟩
      by_cases b2 : cl < 0
      · have HRf : Hid (R = false) := hid (by rw [HJ.out, decide_eq_false (show ¬ 0 ≤ cl by omega)]; simp)
        have b0' : 0 ≤ ln := by omega
        have b1' : ln ≤ 2147483647 := by omega
        go_wp2_with (go_at_call 82; refine (HI.out _).mono ?_; rintro e w7 ⟨rfl, hc7⟩; have p2 := hc7.cell KP.out.1 (by simp); have p0 := hc7.cell KP.out.2.1 (by simp); have p1 := hc7.cell KP.out.2.2 (by simp))
        go_ret
        exact ⟨by rw [HRf.out]; rfl, (HOX.out.trans' hc7).alloc _⟩
      by_cases b3 : 2147483647 < cl
      · have HRf : Hid (R = false) := hid (by rw [HJ.out, decide_eq_false (show ¬ cl ≤ 2147483647 by omega)]; simp)
        have b0' : 0 ≤ ln := by omega
        have b1' : ln ≤ 2147483647 := by omega
        have b2' : 0 ≤ cl := by omega
        go_wp2_with (go_at_call 82; refine (HI.out _).mono ?_; rintro e w7 ⟨rfl, hc7⟩; have p2 := hc7.cell KP.out.1 (by simp); have p0 := hc7.cell KP.out.2.1 (by simp); have p1 := hc7.cell KP.out.2.2 (by simp))
        go_ret
        exact ⟨by rw [HRf.out]; rfl, (HOX.out.trans' hc7).alloc _⟩
      have b0' : 0 ≤ ln := by omega
      have b1' : ln ≤ 2147483647 := by omega
      have b2' : 0 ≤ cl := by omega
      have b3' : cl ≤ 2147483647 := by omega
      have HG : Hid (R = chkI (code.drop (j + 1)) (places.drop (j + 1))) := hid (by
        rw [HJ.out, decide_eq_true b0', decide_eq_true b1', decide_eq_true b2', decide_eq_true b3']
        simp)
      go_wp2_with (go_at_call 82; refine (HI.out _).mono ?_; rintro e w7 ⟨rfl, hc7⟩; have p2 := hc7.cell KP.out.1 (by simp); have p0 := hc7.cell KP.out.2.1 (by simp); have p1 := hc7.cell KP.out.2.2 (by simp))
      go_roundw
      case rel => exact ⟨j + 1, by omega, by go_num, (HCX.out.trans' hc7).alloc _, HG.out⟩
      case measure => simp [intOf]; omega
    · obtain rfl : j = np := by omega
      have HF : Hid (R = true) := hid (by rw [hi.out, List.drop_eq_nil_of_le (by rw [HNL.out.1]; exact Nat.le_refl _)]; rfl)
      have HCX := hid hcx
      clear hi hcx
      go_wp2
      go_ret
      exact ⟨by rw [HF.out]; rfl, ((Chg.refl _ _).alloc _).trans' HCX.out⟩
end Go.Proofs.Ytbikekgljabalaa
