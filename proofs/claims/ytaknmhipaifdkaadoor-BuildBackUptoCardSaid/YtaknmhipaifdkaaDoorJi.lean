/- Walks of the code layer's reference: threads compared. -/
import Derived.Test.YtaknmhipaifdkaaDoorJh
set_option linter.unusedVariables false
set_option linter.unusedSectionVars false
namespace Go.Proofs.YtaknmhipaifdkaaDoor
open Go.RowKit Go.AB
set_option linter.unusedSimpArgs false
set_option linter.unusedVariables false

theorem str_eq {X Y : ByteArray} (heq : X = Y) : X.toList = Y.toList ∧ (X.toList == Y.toList) = true ∧ (X == Y) = true ∧ (X != Y) = false := by
  have w1 : X.toList = Y.toList := by rw [heq]
  have w2 : (X.toList == Y.toList) = true := by rw [heq]; simp
  have w3 : (X == Y) = true := by rw [beq_toListBytes]; exact w2
  exact ⟨w1, w2, w3, by show (!(X == Y)) = false; rw [w3]; rfl⟩
theorem str_ne {X Y : ByteArray} (heq : ¬ X = Y) : (¬ X.toList = Y.toList) ∧ (X.toList == Y.toList) = false ∧ (X == Y) = false ∧ (X != Y) = true := by
  have w1 : ¬ X.toList = Y.toList := fun h => heq (list_inj.1 h)
  have w2 : (X.toList == Y.toList) = false := by simpa using w1
  have w3 : (X == Y) = false := by rw [beq_toListBytes]; exact w2
  exact ⟨w1, w2, w3, by show (!(X == Y)) = true; rw [w3]; rfl⟩
theorem int_ne {n m : Nat} (h : ¬ n = m) : ((n : Int) != (m : Int)) = true := by simp; omega
theorem int_eq (n : Nat) : ((n : Int) != (n : Int)) = false := by simp
theorem two_boxes (w : World) (o1 o2 : Obj) : ((w.alloc o1).alloc o2).heap[w.heap.size]? = some o1 ∧ ((w.alloc o1).alloc o2).heap[w.heap.size + 1]? = some o2 := by
  have h := heap_alloc_new (w.alloc o1) o2
  rw [World.size_alloc] at h
  exact ⟨blk_alloc_old (heap_alloc_new w o1) o2, h⟩

set_option maxHeartbeats 4000000 in
set_option maxRecDepth 100000 in
theorem sameThread_calls (nx ny : ByteArray) (cx cy : List InsD) (px py : List PlcD) (h1 : cx.length ≤ 1048576) (h2 : cy.length ≤ 1048576) (h3 : px.length ≤ 1048576) (h4 : py.length ≤ 1048576) {vcx vcy vpx vpy : Value} (w : World) (a1 : Lst insC 5 w vcx cx) (a2 : Lst insC 5 w vcy cy) (a3 : Lst plcC 2 w vpx px) (a4 : Lst plcC 2 w vpy py) :
    Calls Tryd.prog 22 #[.agg #[.string nx, vcx, vpx], .agg #[.string ny, vcy, vpy]] w fun e w' => e = .returned (.bool (eqB ((⟨nx, cx, px⟩ : ThrD) = ⟨ny, cy, py⟩))) ∧ Chg [] w w' := by
  obtain ⟨ac1, kc1, rfl, _⟩ := a1.len
  obtain ⟨ac2, kc2, rfl, _⟩ := a2.len
  obtain ⟨ap1, kp1, rfl, _⟩ := a3.len
  obtain ⟨ap2, kp2, rfl, _⟩ := a4.len
  have A1 := hid a1
  have A2 := hid a2
  have A3 := hid a3
  have A4 := hid a4
  obtain ⟨n1, hn1⟩ : ∃ n, cx.length = n := ⟨_, rfl⟩
  obtain ⟨n2, hn2⟩ : ∃ n, cy.length = n := ⟨_, rfl⟩
  obtain ⟨n3, hn3⟩ : ∃ n, px.length = n := ⟨_, rfl⟩
  obtain ⟨n4, hn4⟩ : ∃ n, py.length = n := ⟨_, rfl⟩
  have HN := hid (And.intro hn1 (And.intro hn2 (And.intro hn3 hn4)))
  obtain ⟨t, ht⟩ : ∃ t, eqB ((⟨nx, cx, px⟩ : ThrD) = ⟨ny, cy, py⟩) = t := ⟨_, rfl⟩
  rw [ht]
  have HT := hid ht
  rw [hn1] at h1 ⊢
  rw [hn2] at h2 ⊢
  rw [hn3] at h3 ⊢
  rw [hn4] at h4 ⊢
  have hc0 := ((Chg.refl [] w).alloc (.cells #[.string nx, .slice ac1 n1 kc1, .slice ap1 n3 kp1] 50)).alloc (.cells #[.string ny, .slice ac2 n2 kc2, .slice ap2 n4 kp2] 50)
  have g1 := fun u => guard_ins' u
  have g2 := fun u => guard_plc' u
  clear a1 a2 a3 a4 hn1 hn2 hn3 hn4 ht
  by_cases e1 : nx = ny
  · obtain ⟨s1, s2, s3, s4⟩ := str_eq e1
    have HE1 := hid e1
    by_cases e2 : n1 = n2
    · by_cases e3 : n3 = n4
      · subst e2 e3
        have z0 := int_eq n1
        have z1 := int_eq n3
        clear e1
        have hbx := two_boxes w (.cells #[.string nx, .slice ac1 n1 kc1, .slice ap1 n3 kp1] 50) (.cells #[.string ny, .slice ac2 n1 kc2, .slice ap2 n3 kp2] 50)
        have HBX := hid hbx
        have HW0 := hid hc0
        clear hbx hc0
        go_enter Tryd.func22, Tryd.ntmps22
        go_wp2
        obtain ⟨W0, hW0⟩ : ∃ x : World, (w.alloc (.cells #[.string nx, .slice ac1 n1 kc1, .slice ap1 n3 kp1] 50)).alloc (.cells #[.string ny, .slice ac2 n1 kc2, .slice ap2 n3 kp2] 50) = x := ⟨_, rfl⟩
        rw [hW0] at HBX HW0 ⊢
        clear hW0 s1 s2 s3 s4
        go_loopw [5] (fun vi wr => ∃ k : Nat, k ≤ n1 ∧ vi = .int .i64 k ∧ Hid (cx.take k = cy.take k) ∧ Hid (Chg [] W0 wr)) (fun vi _ => n1 - (intOf vi).toNat)
        case atStart => exact ⟨0, Nat.zero_le _, rfl, hid (by simp), hid (Chg.refl _ _)⟩
        case round =>
          obtain ⟨k, hk, rfl, HE, HC⟩ := hrel
          have bx1 : wr.cell? ⟨w.heap.size, 1, none⟩ = some (.slice ac1 n1 kc1) := blk_cell (HC.out.heap HBX.out.1 (by simp)) 1
          have bx2 : wr.cell? ⟨w.heap.size, 2, none⟩ = some (.slice ap1 n3 kp1) := blk_cell (HC.out.heap HBX.out.1 (by simp)) 2
          have by1 : wr.cell? ⟨w.heap.size + 1, 1, none⟩ = some (.slice ac2 n1 kc2) := blk_cell (HC.out.heap HBX.out.2 (by simp)) 1
          have by2 : wr.cell? ⟨w.heap.size + 1, 2, none⟩ = some (.slice ap2 n3 kp2) := blk_cell (HC.out.heap HBX.out.2 (by simp)) 2
          by_cases hlt : k < n1
          · have hk1 : k < cx.length := by rw [HN.out.1]; exact hlt
            have hk2 : k < cy.length := by rw [HN.out.2.1]; exact hlt
            obtain ⟨b1, o1, hb1, c1⟩ := (A1.out.keep ((HW0.out).trans' HC.out)).at insC_len hk1 (by omega)
            obtain ⟨b2, o2, hb2, c2⟩ := (A2.out.keep ((HW0.out).trans' HC.out)).at insC_len hk2 (by omega)
            have zl : (k : Int) < (n1 : Int) := by omega
            have x0 : wr.cell? ⟨b1, o1 + k * 5, none⟩ = some (.int .i64 cx[k].op) := c1 0 (by omega)
            have y0 : wr.cell? ⟨b2, o2 + k * 5, none⟩ = some (.int .i64 cy[k].op) := c2 0 (by omega)
            have x1 : wr.cell? ⟨b1, o1 + k * 5 + 1, none⟩ = some (.int .i64 cx[k].a) := c1 1 (by omega)
            have y1 : wr.cell? ⟨b2, o2 + k * 5 + 1, none⟩ = some (.int .i64 cy[k].a) := c2 1 (by omega)
            have x2 : wr.cell? ⟨b1, o1 + k * 5 + 2, none⟩ = some (.int .i64 cx[k].b) := c1 2 (by omega)
            have y2 : wr.cell? ⟨b2, o2 + k * 5 + 2, none⟩ = some (.int .i64 cy[k].b) := c2 2 (by omega)
            have x3 : wr.cell? ⟨b1, o1 + k * 5 + 3, none⟩ = some (.int .i64 cx[k].c) := c1 3 (by omega)
            have y3 : wr.cell? ⟨b2, o2 + k * 5 + 3, none⟩ = some (.int .i64 cy[k].c) := c2 3 (by omega)
            have x4 : wr.cell? ⟨b1, o1 + k * 5 + 4, none⟩ = some (.int .i64 cx[k].n) := c1 4 (by omega)
            have y4 : wr.cell? ⟨b2, o2 + k * 5 + 4, none⟩ = some (.int .i64 cy[k].n) := c2 4 (by omega)
            obtain ⟨X, hX⟩ : ∃ X, cx[k] = X := ⟨_, rfl⟩
            obtain ⟨Y, hY⟩ : ∃ X, cy[k] = X := ⟨_, rfl⟩
            rw [hX] at x0 x1 x2 x3 x4
            rw [hY] at y0 y1 y2 y3 y4
            obtain ⟨xa0, xa1, xa2, xa3, xa4⟩ := X
            obtain ⟨ya0, ya1, ya2, ya3, ya4⟩ := Y
            simp only at x0 x1 x2 x3 x4 y0 y1 y2 y3 y4
            have qq := fun u => neq_ins u xa0 ya0 xa1 ya1 xa2 ya2 xa3 ya3 xa4 ya4
            have HXY := hid (And.intro hX hY)
            have HB12 := hid (And.intro hb1 hb2)
            subst hb1 hb2
            clear c1 c2 hX hY
            by_cases heq : xa0 = ya0 ∧ xa1 = ya1 ∧ xa2 = ya2 ∧ xa3 = ya3 ∧ xa4 = ya4
            · rw [eqB_true heq] at qq
              have HE2 := hid (take_next hk1 hk2 HE.out (by rw [HXY.out.1, HXY.out.2, heq.1, heq.2.1, heq.2.2.1, heq.2.2.2.1, heq.2.2.2.2]))
              clear heq
              go_wp2_with fail
              go_quiet (fail)
              go_wp2_with fail
              go_roundw
              case rel => exact ⟨k + 1, by omega, by go_num, HE2, hid (HC.out.drewN _)⟩
              case measure => simp [intOf]; omega
            · rw [eqB_false heq] at qq
              have hf := (fun h e => h (by simp only [ThrD.mk.injEq] at e; exact e.2.1) : ¬ cx = cy → ¬ (⟨nx, cx, px⟩ : ThrD) = ⟨ny, cy, py⟩) (take_ne hk1 hk2 (by rw [HXY.out.1, HXY.out.2]; intro e; simp only [InsD.mk.injEq] at e; exact heq e))
              have ht2 : t = false := HT.out.symm.trans (eqB_false hf)
              subst ht2
              clear heq hf
              go_wp2_with fail
              go_quiet (fail)
              go_wp2
              go_ret
              exact ⟨rfl, HW0.out.trans' (HC.out.drewN _)⟩
          · have HEQ : Hid (cx = cy) := hid (by have h := HE.out; rwa [List.take_of_length_le (by rw [HN.out.1]; omega), List.take_of_length_le (by rw [HN.out.2.1]; omega)] at h)
            have HQ1 := HEQ
            clear HEQ HE
            go_wp2_with fail
            go_loopw [6] (fun vi wr => ∃ k : Nat, k ≤ n3 ∧ vi = .int .i64 k ∧ Hid (px.take k = py.take k) ∧ Hid (Chg [] W0 wr)) (fun vi _ => n3 - (intOf vi).toNat)
            case atStart => exact ⟨0, Nat.zero_le _, rfl, hid (by simp), HC⟩
            case round =>
              obtain ⟨k, hk, rfl, HE, HC⟩ := hrel
              have bx1 : wr.cell? ⟨w.heap.size, 1, none⟩ = some (.slice ac1 n1 kc1) := blk_cell (HC.out.heap HBX.out.1 (by simp)) 1
              have bx2 : wr.cell? ⟨w.heap.size, 2, none⟩ = some (.slice ap1 n3 kp1) := blk_cell (HC.out.heap HBX.out.1 (by simp)) 2
              have by1 : wr.cell? ⟨w.heap.size + 1, 1, none⟩ = some (.slice ac2 n1 kc2) := blk_cell (HC.out.heap HBX.out.2 (by simp)) 1
              have by2 : wr.cell? ⟨w.heap.size + 1, 2, none⟩ = some (.slice ap2 n3 kp2) := blk_cell (HC.out.heap HBX.out.2 (by simp)) 2
              by_cases hlt : k < n3
              · have hk1 : k < px.length := by rw [HN.out.2.2.1]; exact hlt
                have hk2 : k < py.length := by rw [HN.out.2.2.2]; exact hlt
                obtain ⟨b1, o1, hb1, c1⟩ := (A3.out.keep ((HW0.out).trans' HC.out)).at plcC_len hk1 (by omega)
                obtain ⟨b2, o2, hb2, c2⟩ := (A4.out.keep ((HW0.out).trans' HC.out)).at plcC_len hk2 (by omega)
                have zl : (k : Int) < (n3 : Int) := by omega
                have x0 : wr.cell? ⟨b1, o1 + k * 2, none⟩ = some (.int .i64 px[k].line) := c1 0 (by omega)
                have y0 : wr.cell? ⟨b2, o2 + k * 2, none⟩ = some (.int .i64 py[k].line) := c2 0 (by omega)
                have x1 : wr.cell? ⟨b1, o1 + k * 2 + 1, none⟩ = some (.int .i64 px[k].col) := c1 1 (by omega)
                have y1 : wr.cell? ⟨b2, o2 + k * 2 + 1, none⟩ = some (.int .i64 py[k].col) := c2 1 (by omega)
                obtain ⟨X, hX⟩ : ∃ X, px[k] = X := ⟨_, rfl⟩
                obtain ⟨Y, hY⟩ : ∃ X, py[k] = X := ⟨_, rfl⟩
                rw [hX] at x0 x1
                rw [hY] at y0 y1
                obtain ⟨xa0, xa1⟩ := X
                obtain ⟨ya0, ya1⟩ := Y
                simp only at x0 x1 y0 y1
                have qq := fun u => neq_plc u xa0 ya0 xa1 ya1
                have HXY := hid (And.intro hX hY)
                have HB12 := hid (And.intro hb1 hb2)
                subst hb1 hb2
                clear c1 c2 hX hY
                by_cases heq : xa0 = ya0 ∧ xa1 = ya1
                · rw [eqB_true heq] at qq
                  have HE2 := hid (take_next hk1 hk2 HE.out (by rw [HXY.out.1, HXY.out.2, heq.1, heq.2]))
                  clear heq
                  go_wp2_with fail
                  go_quiet (fail)
                  go_wp2_with fail
                  go_roundw
                  case rel => exact ⟨k + 1, by omega, by go_num, HE2, hid (HC.out.drewN _)⟩
                  case measure => simp [intOf]; omega
                · rw [eqB_false heq] at qq
                  have hf := (fun h e => h (by simp only [ThrD.mk.injEq] at e; exact e.2.2) : ¬ px = py → ¬ (⟨nx, cx, px⟩ : ThrD) = ⟨ny, cy, py⟩) (take_ne hk1 hk2 (by rw [HXY.out.1, HXY.out.2]; intro e; simp only [PlcD.mk.injEq] at e; exact heq e))
                  have ht2 : t = false := HT.out.symm.trans (eqB_false hf)
                  subst ht2
                  clear heq hf
                  go_wp2_with fail
                  go_quiet (fail)
                  go_wp2
                  go_ret
                  exact ⟨rfl, HW0.out.trans' (HC.out.drewN _)⟩
              · have HEQ : Hid (px = py) := hid (by have h := HE.out; rwa [List.take_of_length_le (by rw [HN.out.2.2.1]; omega), List.take_of_length_le (by rw [HN.out.2.2.2]; omega)] at h)
                have ht2 : t = true := HT.out.symm.trans (eqB_true (by rw [HE1.out, HQ1.out, HEQ.out]))
                subst ht2
                go_wp2
                go_ret
                exact ⟨rfl, HW0.out.trans' HC.out⟩
      · have ht2 : t = false := HT.out.symm.trans (eqB_false (fun e => e3 (by have := HN.out; simp only [ThrD.mk.injEq] at e; rw [← this.2.2.1, ← this.2.2.2, e.2.2])))
        subst ht2
        subst e2
        have z0 := int_eq n1
        have z1 := int_ne e3
        clear e1 e3
        go_enter Tryd.func22, Tryd.ntmps22
        go_wp2
        go_ret
        exact ⟨rfl, hc0⟩
    · have ht2 : t = false := HT.out.symm.trans (eqB_false (fun e => e2 (by have := HN.out; simp only [ThrD.mk.injEq] at e; rw [← this.1, ← this.2.1, e.2.1])))
      subst ht2
      have z0 := int_ne e2
      clear e1 e2
      go_enter Tryd.func22, Tryd.ntmps22
      go_wp2
      go_ret
      exact ⟨rfl, hc0⟩
  · have ht2 : t = false := HT.out.symm.trans (eqB_false (fun e => e1 (by simp only [ThrD.mk.injEq] at e; exact e.1)))
    subst ht2
    obtain ⟨s1, s2, s3, s4⟩ := str_ne e1
    clear e1
    go_enter Tryd.func22, Tryd.ntmps22
    go_wp2
    go_ret
    exact ⟨rfl, hc0⟩
end Go.Proofs.YtaknmhipaifdkaaDoor
