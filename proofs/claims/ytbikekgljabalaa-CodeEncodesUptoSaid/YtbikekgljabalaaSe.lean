/- Walks of the code layer: programs compared. -/
import Derived.Test.YtbikekgljabalaaSd
namespace Go.Proofs.Ytbikekgljabalaa
open Go.RowKit Go.AB
set_option linter.unusedSimpArgs false
set_option linter.unusedVariables false

set_option maxHeartbeats 4000000 in
set_option maxRecDepth 100000 in
theorem sameThr_calls (nx ny : ByteArray) (cx cy : List InsD) (px py : List PlcD) (h1 : cx.length ≤ 1048576) (h2 : cy.length ≤ 1048576) (h3 : px.length ≤ 1048576) (h4 : py.length ≤ 1048576) {vcx vcy vpx vpy : Value} (w : World) (a1 : Lst insC 5 w vcx cx) (a2 : Lst insC 5 w vcy cy) (a3 : Lst plcC 2 w vpx px) (a4 : Lst plcC 2 w vpy py) :
    Calls Try.prog 65 #[.agg #[.string nx, vcx, vpx], .agg #[.string ny, vcy, vpy]] w fun e w' => e = .returned (.bool (eqB ((⟨nx, cx, px⟩ : ThrD) = ⟨ny, cy, py⟩))) ∧ Chg [] w w' := by
  have q1 := fun u (hu : Chg [] w u) => eqIns_calls cx cy h1 h2 u (a1.keep hu) (a2.keep hu)
  have q2 := fun u (hu : Chg [] w u) => eqPlcs_calls px py h3 h4 u (a3.keep hu) (a4.keep hu)
  obtain ⟨ac1, kc1, rfl, _⟩ := a1.len
  obtain ⟨ac2, kc2, rfl, _⟩ := a2.len
  obtain ⟨ap1, kp1, rfl, _⟩ := a3.len
  obtain ⟨ap2, kp2, rfl, _⟩ := a4.len
  have hbx := two_boxes w (.cells #[.string nx, .slice ac1 cx.length kc1, .slice ap1 px.length kp1] 59) (.cells #[.string ny, .slice ac2 cy.length kc2, .slice ap2 py.length kp2] 59)
  have hc0 := ((Chg.refl [] w).alloc (.cells #[.string nx, .slice ac1 cx.length kc1, .slice ap1 px.length kp1] 59)).alloc (.cells #[.string ny, .slice ac2 cy.length kc2, .slice ap2 py.length kp2] 59)
  have hcell : ∀ u, Chg [] ((w.alloc (.cells #[.string nx, .slice ac1 cx.length kc1, .slice ap1 px.length kp1] 59)).alloc (.cells #[.string ny, .slice ac2 cy.length kc2, .slice ap2 py.length kp2] 59)) u →
      u.cell? ⟨w.heap.size, 2, none⟩ = some (.slice ap1 px.length kp1) ∧ u.cell? ⟨w.heap.size + 1, 2, none⟩ = some (.slice ap2 py.length kp2) := fun u hu => ⟨blk_cell (hu.heap hbx.1 (by simp)) 2, blk_cell (hu.heap hbx.2 (by simp)) 2⟩
  have Q1 := hid q1
  have Q2 := hid q2
  have HW := hid hc0
  have HC := hid hcell
  obtain ⟨t, ht⟩ : ∃ t, eqB ((⟨nx, cx, px⟩ : ThrD) = ⟨ny, cy, py⟩) = t := ⟨_, rfl⟩
  rw [ht]
  have HT := hid ht
  clear a1 a2 a3 a4 q1 q2 ht hbx hc0 hcell
  by_cases e1 : nx = ny
  · obtain ⟨s1, s2, s3, s4⟩ := str_eq e1
    have E1 := hid e1
    clear e1
    by_cases e2 : cx = cy
    · have E2 := hid e2
      clear e2
      have hq := Q2.out
      by_cases e3 : px = py
      · have ht2 : t = true := HT.out.symm.trans (eqB_true (by rw [E1.out, E2.out, e3]))
        subst ht2
        rw [eqB_true e3] at hq
        have Q3 := hid hq
        clear hq Q2 e3
        go_enter Try.func65, Try.ntmps65
        go_wp2_with (first
          | (go_at_call 66; (with_reducible refine (Q1.out _ HW.out).mono ?_); rw [eqB_true E2.out]; rintro e w1 ⟨rfl, hc1⟩; obtain ⟨x2, y2⟩ := HC.out _ hc1)
          | (go_at_call 67; (with_reducible refine (Q3.out _ (HW.out.trans' hc1)).mono ?_); rintro e w2 ⟨rfl, hc2⟩))
        go_ret
        exact ⟨rfl, (HW.out.trans' hc1).trans' hc2⟩
      · have ht2 : t = false := HT.out.symm.trans (eqB_false (fun e => e3 (by simp only [ThrD.mk.injEq] at e; exact e.2.2)))
        subst ht2
        rw [eqB_false e3] at hq
        have Q3 := hid hq
        clear hq Q2 e3
        go_enter Try.func65, Try.ntmps65
        go_wp2_with (first
          | (go_at_call 66; (with_reducible refine (Q1.out _ HW.out).mono ?_); rw [eqB_true E2.out]; rintro e w1 ⟨rfl, hc1⟩; obtain ⟨x2, y2⟩ := HC.out _ hc1)
          | (go_at_call 67; (with_reducible refine (Q3.out _ (HW.out.trans' hc1)).mono ?_); rintro e w2 ⟨rfl, hc2⟩))
        go_ret
        exact ⟨rfl, (HW.out.trans' hc1).trans' hc2⟩
    · have ht2 : t = false := HT.out.symm.trans (eqB_false (fun e => e2 (by simp only [ThrD.mk.injEq] at e; exact e.2.1)))
      subst ht2
      have E2 := hid e2
      clear e2
      go_enter Try.func65, Try.ntmps65
      go_wp2_with (go_at_call 66; (with_reducible refine (Q1.out _ HW.out).mono ?_); rw [eqB_false E2.out]; rintro e w1 ⟨rfl, hc1⟩)
      go_ret
      exact ⟨rfl, HW.out.trans' hc1⟩
  · have ht2 : t = false := HT.out.symm.trans (eqB_false (fun e => e1 (by simp only [ThrD.mk.injEq] at e; exact e.1)))
    subst ht2
    obtain ⟨s1, s2, s3, s4⟩ := str_ne e1
    clear e1
    go_enter Try.func65, Try.ntmps65
    go_wp2
    go_ret
    exact ⟨rfl, HW.out⟩
set_option maxHeartbeats 4000000 in
set_option maxRecDepth 100000 in
theorem eqThrs_calls (ts us : List ThrV) (hn : ts.length ≤ 1048576) (hm : us.length ≤ 1048576) (h1 : ∀ x ∈ ts, x.t.code.length ≤ 1048576 ∧ x.t.places.length ≤ 1048576) (h2 : ∀ x ∈ us, x.t.code.length ≤ 1048576 ∧ x.t.places.length ≤ 1048576)
    {va vb : Value} (w : World) (ha : Lst thrC 3 w va ts) (hb : Lst thrC 3 w vb us) (ht : ∀ x ∈ ts, Lst insC 5 w x.code x.t.code ∧ Lst plcC 2 w x.places x.t.places) (hu : ∀ x ∈ us, Lst insC 5 w x.code x.t.code ∧ Lst plcC 2 w x.places x.t.places) :
    Calls Try.prog 64 #[va, vb, .func (.func 65) #[] #[]] w fun e w' => e = .returned (.bool (eqB (ts.map ThrV.t = us.map ThrV.t))) ∧ Chg [] w w' := by
  obtain ⟨aa, ca, rfl, _⟩ := ha.len
  obtain ⟨ab, cb, rfl, _⟩ := hb.len
  have HA := hid ha
  have HB := hid hb
  have HTU := hid (And.intro ht (And.intro hu (And.intro h1 h2)))
  obtain ⟨n, hnx⟩ : ∃ n, ts.length = n := ⟨_, rfl⟩
  obtain ⟨m, hmy⟩ : ∃ n, us.length = n := ⟨_, rfl⟩
  have HN := hid (And.intro hnx hmy)
  obtain ⟨t, htt⟩ : ∃ t, eqB (ts.map ThrV.t = us.map ThrV.t) = t := ⟨_, rfl⟩
  rw [hnx] at hn ⊢
  rw [hmy] at hm ⊢
  rw [htt]
  have HT := hid htt
  clear ha hb hnx hmy htt ht hu h1 h2
  by_cases hl : n = m
  · subst hl
    have z0 := int_eq n
    go_enter Try.func64, Try.ntmps64
    go_wp2
    go_loopw [17] (fun vi wr => ∃ k : Nat, k ≤ n ∧ vi = .int .i64 k ∧ Hid ((ts.map ThrV.t).take k = (us.map ThrV.t).take k) ∧ Hid (Chg [] w wr)) (fun vi _ => n - (intOf vi).toNat)
    case atStart => exact ⟨0, Nat.zero_le _, rfl, hid (by simp), hid (Chg.refl _ _)⟩
    case round =>
      obtain ⟨k, hk, rfl, HE, HC⟩ := hrel
      by_cases hlt : k < n
      · have hk3 : k < ts.length := by rw [HN.out.1]; exact hlt
        have hk4 : k < us.length := by rw [HN.out.2]; exact hlt
        have hk1 : k < (ts.map ThrV.t).length := by rw [List.length_map]; exact hk3
        have hk2 : k < (us.map ThrV.t).length := by rw [List.length_map]; exact hk4
        obtain ⟨b1, o1, hb1, c1⟩ := (HA.out.keep HC.out).at thrC_len hk3 (by omega)
        obtain ⟨b2, o2, hb2, c2⟩ := (HB.out.keep HC.out).at thrC_len hk4 (by omega)
        have zl : (k : Int) < (n : Int) := by omega
        have x0 : wr.cell? ⟨b1, o1 + k * 3, none⟩ = some (.string ts[k].t.name) := c1 0 (by omega)
        have x1 : wr.cell? ⟨b1, o1 + k * 3 + 1, none⟩ = some ts[k].code := c1 1 (by omega)
        have x2 : wr.cell? ⟨b1, o1 + k * 3 + 2, none⟩ = some ts[k].places := c1 2 (by omega)
        have y0 : wr.cell? ⟨b2, o2 + k * 3, none⟩ = some (.string us[k].t.name) := c2 0 (by omega)
        have y1 : wr.cell? ⟨b2, o2 + k * 3 + 1, none⟩ = some us[k].code := c2 1 (by omega)
        have y2 : wr.cell? ⟨b2, o2 + k * 3 + 2, none⟩ = some us[k].places := c2 2 (by omega)
        have ex : (ts.map ThrV.t)[k] = ts[k].t := by rw [List.getElem_map]
        have ey : (us.map ThrV.t)[k] = us[k].t := by rw [List.getElem_map]
        have l1 := HTU.out.1 _ (List.getElem_mem hk3)
        have l2 := HTU.out.2.1 _ (List.getElem_mem hk4)
        have s1 := HTU.out.2.2.1 _ (List.getElem_mem hk3)
        have s2 := HTU.out.2.2.2 _ (List.getElem_mem hk4)
        obtain ⟨X, hX⟩ : ∃ X, ts[k] = X := ⟨_, rfl⟩
        obtain ⟨Y, hY⟩ : ∃ X, us[k] = X := ⟨_, rfl⟩
        rw [hX] at x0 x1 x2 l1 s1 ex
        rw [hY] at y0 y1 y2 l2 s2 ey
        obtain ⟨⟨nx, cx, px⟩, vcx, vpx⟩ := X
        obtain ⟨⟨ny, cy, py⟩, vcy, vpy⟩ := Y
        simp only at x0 x1 x2 y0 y1 y2 l1 l2 s1 s2 ex ey
        have hcall := fun u (hu : Chg [] w u) => sameThr_calls nx ny cx cy px py s1.1 s2.1 s1.2 s2.2 u (l1.1.keep hu) (l2.1.keep hu) (l1.2.keep hu) (l2.2.keep hu)
        obtain ⟨ac1, kc1, rfl, _⟩ := l1.1.len
        obtain ⟨ap1, kp1, rfl, _⟩ := l1.2.len
        obtain ⟨ac2, kc2, rfl, _⟩ := l2.1.len
        obtain ⟨ap2, kp2, rfl, _⟩ := l2.2.len
        have hA := (HC.out.alloc (.cells #[.string nx, .slice ac1 cx.length kc1, .slice ap1 px.length kp1] 59)).alloc (.cells #[.string ny, .slice ac2 cy.length kc2, .slice ap2 py.length kp2] 59)
        have y0' := fun o => ((Chg.refl [] wr).alloc o).cell y0 (by simp)
        have y1' := fun o => ((Chg.refl [] wr).alloc o).cell y1 (by simp)
        have y2' := fun o => ((Chg.refl [] wr).alloc o).cell y2 (by simp)
        have HCALL := hid hcall
        have HXY := hid (And.intro ex ey)
        have HAA := hid hA
        clear hcall l1 l2 s1 s2 ex ey hX hY c1 c2 hA
        subst hb1 hb2
        by_cases heq : (⟨nx, cx, px⟩ : ThrD) = ⟨ny, cy, py⟩
        · have HE2 := hid (take_next hk1 hk2 HE.out (by rw [HXY.out.1, HXY.out.2, heq]))
          rw [eqB_true heq] at HCALL
          clear heq
          go_wp2_with (go_at_call 65; refine (HCALL.out _ HAA.out).mono ?_; rintro e w5 ⟨rfl, hc5⟩)
          have HC5 := hid (HAA.out.trans' hc5)
          clear hc5
          go_roundw
          case rel => exact ⟨k + 1, by omega, by go_num, HE2, HC5⟩
          case measure => simp [intOf]; omega
        · have hf := take_ne hk1 hk2 (by rw [HXY.out.1, HXY.out.2]; exact heq)
          have ht2 : t = false := HT.out.symm.trans (eqB_false hf)
          subst ht2
          rw [eqB_false heq] at HCALL
          clear heq hf
          go_wp2_with (go_at_call 65; refine (HCALL.out _ HAA.out).mono ?_; rintro e w5 ⟨rfl, hc5⟩)
          go_ret
          exact ⟨rfl, HAA.out.trans' hc5⟩
      · have hf : eqB (ts.map ThrV.t = us.map ThrV.t) = true := eqB_true (by
          have h := HE.out
          rwa [List.take_of_length_le (by rw [List.length_map, HN.out.1]; omega), List.take_of_length_le (by rw [List.length_map, HN.out.2]; omega)] at h)
        have ht2 : t = true := HT.out.symm.trans hf
        subst ht2
        clear hf
        go_wp2
        go_ret
        exact ⟨rfl, HC.out⟩
  · have hf : eqB (ts.map ThrV.t = us.map ThrV.t) = false := eqB_false (len_ne (by rw [List.length_map, List.length_map, HN.out.1, HN.out.2]; exact hl))
    have ht2 : t = false := HT.out.symm.trans hf
    subst ht2
    have z0 := int_ne hl
    clear hf
    go_enter Try.func64, Try.ntmps64
    go_wp2
    go_ret
    exact ⟨rfl, Chg.refl _ _⟩
end Go.Proofs.Ytbikekgljabalaa
