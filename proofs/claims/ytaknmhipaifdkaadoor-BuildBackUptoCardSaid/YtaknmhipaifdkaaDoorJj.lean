/- Walks of the code layer's reference: programs compared. -/
import Derived.Test.YtaknmhipaifdkaaDoorJi
set_option linter.unusedVariables false
set_option linter.unusedSectionVars false
namespace Go.Proofs.YtaknmhipaifdkaaDoor
open Go.RowKit Go.AB
set_option linter.unusedSimpArgs false
set_option linter.unusedVariables false

/-- Small enough. -/
structure SmallP (p : PrgD) : Prop where
  vars : p.vars.length ≤ 1048576
  vols : p.vols.length ≤ 1048576
  locks : p.locks.length ≤ 1048576
  bars : p.bars.length ≤ 1048576
  thrs : p.thrs.length ≤ 1048576
  nvars : ∀ x ∈ p.vars, x.name.size ≤ 1048576
  nvols : ∀ x ∈ p.vols, x.name.size ≤ 1048576
  nlocks : ∀ x ∈ p.locks, x.size ≤ 1048576
  nbars : ∀ x ∈ p.bars, x.name.size ≤ 1048576
  nthrs : ∀ t ∈ p.thrs, t.name.size ≤ 1048576 ∧ t.code.length ≤ 1048576 ∧ t.places.length ≤ 1048576
set_option maxHeartbeats 8000000 in
set_option maxRecDepth 100000 in
theorem same_calls (p q : PrgD) (hp : SmallP p) (hq : SmallP q) {va vb : Value} (w : World) (ha : PrgV w va p) (hb : PrgV w vb q) :
    Calls Tryd.prog 11 #[va, vb] w fun e w' => e = .returned (.bool (eqB (p = q))) ∧ Chg [] w w' := by
  obtain ⟨va0, va1, va2, va3, va4, ts, rfl, a0, a1, a2, a3, a4, a5, a6⟩ := ha
  obtain ⟨vb0, vb1, vb2, vb3, vb4, us, rfl, b0, b1, b2, b3, b4, b5, b6⟩ := hb
  have lts : ts.length = p.thrs.length := by rw [← a5, List.length_map]
  have lus : us.length = q.thrs.length := by rw [← b5, List.length_map]
  obtain ⟨ax0, ak0, rfl, _⟩ := a0.len
  obtain ⟨ax1, ak1, rfl, _⟩ := a1.len
  obtain ⟨ax2, ak2, rfl, _⟩ := a2.len
  obtain ⟨ax3, ak3, rfl, _⟩ := a3.len
  obtain ⟨ax4, ak4, rfl, _⟩ := a4.len
  obtain ⟨bx0, bk0, rfl, _⟩ := b0.len
  obtain ⟨bx1, bk1, rfl, _⟩ := b1.len
  obtain ⟨bx2, bk2, rfl, _⟩ := b2.len
  obtain ⟨bx3, bk3, rfl, _⟩ := b3.len
  obtain ⟨bx4, bk4, rfl, _⟩ := b4.len
  have hv0 := fun u (hu : Chg [] w u) => sameVars_calls p.vars q.vars hp.vars hq.vars u (a0.keep hu) (b0.keep hu)
  have hv1 := fun u (hu : Chg [] w u) => sameVars_calls p.vols q.vols hp.vols hq.vols u (a1.keep hu) (b1.keep hu)
  have V0 := hid hv0
  have V1 := hid hv1
  have A2 := hid a2
  have B2 := hid b2
  have A3 := hid a3
  have B3 := hid b3
  have A4 := hid a4
  have B4 := hid b4
  have HTH := hid (And.intro a5 (And.intro b5 (And.intro a6 b6)))
  have h2 := hp.locks
  have h2' := hq.locks
  have h3 := hp.bars
  have h3' := hq.bars
  have h4 := hp.thrs
  have h4' := hq.thrs
  have HSM := hid (And.intro hp.nthrs hq.nthrs)
  obtain ⟨i0, hi0⟩ : ∃ n, p.vars.length = n := ⟨_, rfl⟩
  obtain ⟨i1, hi1⟩ : ∃ n, p.vols.length = n := ⟨_, rfl⟩
  obtain ⟨j0, hj0⟩ : ∃ n, q.vars.length = n := ⟨_, rfl⟩
  obtain ⟨j1, hj1⟩ : ∃ n, q.vols.length = n := ⟨_, rfl⟩
  obtain ⟨n2, hn2⟩ : ∃ n, p.locks.length = n := ⟨_, rfl⟩
  obtain ⟨m2, hm2⟩ : ∃ n, q.locks.length = n := ⟨_, rfl⟩
  obtain ⟨n3, hn3⟩ : ∃ n, p.bars.length = n := ⟨_, rfl⟩
  obtain ⟨m3, hm3⟩ : ∃ n, q.bars.length = n := ⟨_, rfl⟩
  obtain ⟨n4, hn4⟩ : ∃ n, p.thrs.length = n := ⟨_, rfl⟩
  obtain ⟨m4, hm4⟩ : ∃ n, q.thrs.length = n := ⟨_, rfl⟩
  have lts2 := lts.trans hn4
  have lus2 := lus.trans hm4
  have HN := hid (And.intro hn2 (And.intro hm2 (And.intro hn3 (And.intro hm3 (And.intro hn4 (And.intro hm4 (And.intro lts2 lus2)))))))
  obtain ⟨t, ht⟩ : ∃ t, eqB (p = q) = t := ⟨_, rfl⟩
  have HT := hid ht
  rw [ht]
  rw [hi0] at V0 ⊢
  rw [hj0] at V0 ⊢
  rw [hi1] at V1 ⊢
  rw [hj1] at V1 ⊢
  rw [hn2] at h2 ⊢
  rw [hm2] at h2' ⊢
  rw [hn3] at h3 ⊢
  rw [hm3] at h3' ⊢
  rw [hn4] at h4
  rw [hm4] at h4'
  rw [lts2, lus2]
  have pe : ∀ {p q : PrgD}, p = q → p.vars = q.vars ∧ p.vols = q.vols ∧ p.locks = q.locks ∧ p.bars = q.bars ∧ p.thrs = q.thrs := fun e => by subst e; exact ⟨rfl, rfl, rfl, rfl, rfl⟩
  have PE := hid (@pe p q)
  have g1 := fun u => guard_bar u
  have hc0 := ((Chg.refl [] w).alloc (.cells #[.slice ax0 i0 ak0, .slice ax1 i1 ak1, .slice ax2 n2 ak2, .slice ax3 n3 ak3, .slice ax4 n4 ak4] 32)).alloc (.cells #[.slice bx0 j0 bk0, .slice bx1 j1 bk1, .slice bx2 m2 bk2, .slice bx3 m3 bk3, .slice bx4 m4 bk4] 32)
  have HW := hid hc0
  have HBX := hid (two_boxes w (.cells #[.slice ax0 i0 ak0, .slice ax1 i1 ak1, .slice ax2 n2 ak2, .slice ax3 n3 ak3, .slice ax4 n4 ak4] 32) (.cells #[.slice bx0 j0 bk0, .slice bx1 j1 bk1, .slice bx2 m2 bk2, .slice bx3 m3 bk3, .slice bx4 m4 bk4] 32))
  have hbx : ∀ u, Chg [] ((w.alloc (.cells #[.slice ax0 i0 ak0, .slice ax1 i1 ak1, .slice ax2 n2 ak2, .slice ax3 n3 ak3, .slice ax4 n4 ak4] 32)).alloc (.cells #[.slice bx0 j0 bk0, .slice bx1 j1 bk1, .slice bx2 m2 bk2, .slice bx3 m3 bk3, .slice bx4 m4 bk4] 32)) u →
      (u.cell? ⟨w.heap.size, 1, none⟩ = some (.slice ax1 i1 ak1) ∧ u.cell? ⟨w.heap.size, 2, none⟩ = some (.slice ax2 n2 ak2) ∧ u.cell? ⟨w.heap.size, 3, none⟩ = some (.slice ax3 n3 ak3) ∧ u.cell? ⟨w.heap.size, 4, none⟩ = some (.slice ax4 n4 ak4)) ∧
      (u.cell? ⟨w.heap.size + 1, 1, none⟩ = some (.slice bx1 j1 bk1) ∧ u.cell? ⟨w.heap.size + 1, 2, none⟩ = some (.slice bx2 m2 bk2) ∧ u.cell? ⟨w.heap.size + 1, 3, none⟩ = some (.slice bx3 m3 bk3) ∧ u.cell? ⟨w.heap.size + 1, 4, none⟩ = some (.slice bx4 m4 bk4)) := fun u hu =>
    ⟨⟨blk_cell (hu.heap HBX.out.1 (by simp)) 1, blk_cell (hu.heap HBX.out.1 (by simp)) 2, blk_cell (hu.heap HBX.out.1 (by simp)) 3, blk_cell (hu.heap HBX.out.1 (by simp)) 4⟩, ⟨blk_cell (hu.heap HBX.out.2 (by simp)) 1, blk_cell (hu.heap HBX.out.2 (by simp)) 2, blk_cell (hu.heap HBX.out.2 (by simp)) 3, blk_cell (hu.heap HBX.out.2 (by simp)) 4⟩⟩
  have HB := hid hbx
  clear hp hq a0 a1 a2 a3 a4 a5 a6 b0 b1 b2 b3 b4 b5 b6 lts lus lts2 lus2 hi0 hi1 hj0 hj1 hn2 hm2 hn3 hm3 hn4 hm4 ht hv0 hv1 hc0 hbx pe HBX
  by_cases e0 : p.vars = q.vars
  · have E0 := hid e0
    clear e0
    by_cases e1 : p.vols = q.vols
    · have E1 := hid e1
      clear e1
      by_cases e2 : n2 = m2
      · have E2 := hid e2
        have z2 := int_eq n2
        subst e2
        by_cases e3 : n3 = m3
        · have E3 := hid e3
          have z3 := int_eq n3
          subst e3
          by_cases e4 : n4 = m4
          · have E4 := hid e4
            have z4 := int_eq n4
            subst e4
            go_enter Tryd.func11, Tryd.ntmps11
            go_wp2_with (first | (go_at_call 21; (with_reducible refine (V0.out _ HW.out).mono ?_); rw [eqB_true E0.out]; rintro e w1 ⟨rfl, hc1⟩; obtain ⟨⟨p1, p2, p3, p4⟩, ⟨q1, q2, q3, q4⟩⟩ := HB.out _ hc1) | (go_at_call 21; (with_reducible refine (V1.out _ (HW.out.trans' hc1)).mono ?_); rw [eqB_true E1.out]; rintro e w2 ⟨rfl, hc2⟩; obtain ⟨⟨p1, p2, p3, p4⟩, ⟨q1, q2, q3, q4⟩⟩ := HB.out _ (hc1.trans' hc2)))
            obtain ⟨W0, hW0⟩ : ∃ x : World, w2 = x := ⟨_, rfl⟩
            have hc12 := hc1.trans' hc2
            have HWW := hid (HW.out.trans' hc12)
            have HB2 := hid (fun u (hu : Chg [] w2 u) => HB.out u (hc12.trans' hu))
            rw [hW0] at HWW HB2 ⊢
            clear hW0 hc12 HW HB V0 V1 p1 p2 p3 p4 q1 q2 q3 q4
            have HW0 := HWW
            go_loopw [5] (fun vi wr => ∃ k : Nat, k ≤ n2 ∧ vi = .int .i64 k ∧ Hid (p.locks.take k = q.locks.take k) ∧ Hid (Chg [] W0 wr)) (fun vi _ => n2 - (intOf vi).toNat)
            case atStart => exact ⟨0, Nat.zero_le _, rfl, hid (by simp), hid (Chg.refl _ _)⟩
            case round =>
              obtain ⟨k, hk, rfl, HE, HC⟩ := hrel
              obtain ⟨⟨p1, p2, p3, p4⟩, ⟨q1, q2, q3, q4⟩⟩ := HB2.out _ HC.out
              by_cases hlt : k < n2
              · have hk1 : k < p.locks.length := by rw [HN.out.1]; exact hlt
                have hk2 : k < q.locks.length := by rw [HN.out.2.1]; exact hlt
                obtain ⟨b1, o1, hb1, c1⟩ := (A2.out.keep ((HW0.out).trans' HC.out)).at strC_len hk1 (by omega)
                obtain ⟨b2, o2, hb2, c2⟩ := (B2.out.keep ((HW0.out).trans' HC.out)).at strC_len hk2 (by omega)
                have zl : (k : Int) < (n2 : Int) := by omega
                have x0 : wr.cell? ⟨b1, o1 + k, none⟩ = some (.string p.locks[k]) := by have h := c1 0 (by omega); simpa [strC] using h
                have y0 : wr.cell? ⟨b2, o2 + k, none⟩ = some (.string q.locks[k]) := by have h := c2 0 (by omega); simpa [strC] using h
                obtain ⟨X, hX⟩ : ∃ X, p.locks[k] = X := ⟨_, rfl⟩
                obtain ⟨Y, hY⟩ : ∃ X, q.locks[k] = X := ⟨_, rfl⟩
                rw [hX] at x0
                rw [hY] at y0
                have qq := fun u => neq_str u X Y
                have HXY := hid (And.intro hX hY)
                have HB12 := hid (And.intro hb1 hb2)
                subst hb1 hb2
                clear c1 c2 hX hY
                by_cases heq : X = Y
                · rw [eqB_true heq] at qq
                  have HE2 := hid (take_next hk1 hk2 HE.out (by rw [HXY.out.1, HXY.out.2, heq]))
                  obtain ⟨s1, s2, s3, s4⟩ := str_eq heq
                  clear heq
                  go_wp2_with fail
                  go_quiet (fail)
                  go_wp2_with fail
                  go_roundw
                  case rel => exact ⟨k + 1, by omega, by go_num, HE2, hid (HC.out.drewN _)⟩
                  case measure => simp [intOf]; omega
                · rw [eqB_false heq] at qq
                  have hf := (fun h e => h (PE.out e).2.2.1 : ¬ p.locks = q.locks → ¬ p = q) (take_ne hk1 hk2 (by rw [HXY.out.1, HXY.out.2]; intro e; exact heq e))
                  have ht2 : t = false := HT.out.symm.trans (eqB_false hf)
                  subst ht2
                  obtain ⟨s1, s2, s3, s4⟩ := str_ne heq
                  clear heq hf
                  go_wp2_with fail
                  go_quiet (fail)
                  go_wp2
                  go_ret
                  exact ⟨rfl, HW0.out.trans' (HC.out.drewN _)⟩
              · have HEQ : Hid (p.locks = q.locks) := hid (by have h := HE.out; rwa [List.take_of_length_le (by rw [HN.out.1]; omega), List.take_of_length_le (by rw [HN.out.2.1]; omega)] at h)
                have EQL := HEQ
                clear HEQ HE
                go_wp2_with fail
                go_loopw [6] (fun vi wr => ∃ k : Nat, k ≤ n3 ∧ vi = .int .i64 k ∧ Hid (p.bars.take k = q.bars.take k) ∧ Hid (Chg [] W0 wr)) (fun vi _ => n3 - (intOf vi).toNat)
                case atStart => exact ⟨0, Nat.zero_le _, rfl, hid (by simp), HC⟩
                case round =>
                  obtain ⟨k, hk, rfl, HE, HC⟩ := hrel
                  obtain ⟨⟨p1, p2, p3, p4⟩, ⟨q1, q2, q3, q4⟩⟩ := HB2.out _ HC.out
                  by_cases hlt : k < n3
                  · have hk1 : k < p.bars.length := by rw [HN.out.2.2.1]; exact hlt
                    have hk2 : k < q.bars.length := by rw [HN.out.2.2.2.1]; exact hlt
                    obtain ⟨b1, o1, hb1, c1⟩ := (A3.out.keep ((HW0.out).trans' HC.out)).at varC_len hk1 (by omega)
                    obtain ⟨b2, o2, hb2, c2⟩ := (B3.out.keep ((HW0.out).trans' HC.out)).at varC_len hk2 (by omega)
                    have zl : (k : Int) < (n3 : Int) := by omega
                    have x0 : wr.cell? ⟨b1, o1 + k * 2, none⟩ = some (.string p.bars[k].name) := c1 0 (by omega)
                    have y0 : wr.cell? ⟨b2, o2 + k * 2, none⟩ = some (.string q.bars[k].name) := c2 0 (by omega)
                    have x1 : wr.cell? ⟨b1, o1 + k * 2 + 1, none⟩ = some (.int .i64 p.bars[k].first) := c1 1 (by omega)
                    have y1 : wr.cell? ⟨b2, o2 + k * 2 + 1, none⟩ = some (.int .i64 q.bars[k].first) := c2 1 (by omega)
                    obtain ⟨X, hX⟩ : ∃ X, p.bars[k] = X := ⟨_, rfl⟩
                    obtain ⟨Y, hY⟩ : ∃ X, q.bars[k] = X := ⟨_, rfl⟩
                    rw [hX] at x0 x1
                    rw [hY] at y0 y1
                    obtain ⟨xa0, xa1⟩ := X
                    obtain ⟨ya0, ya1⟩ := Y
                    simp only at x0 x1 y0 y1
                    have qq := fun u => neq_bar u xa0 ya0 xa1 ya1
                    have HXY := hid (And.intro hX hY)
                    have HB12 := hid (And.intro hb1 hb2)
                    subst hb1 hb2
                    clear c1 c2 hX hY
                    by_cases heq : xa0 = ya0 ∧ xa1 = ya1
                    · rw [eqB_true heq] at qq
                      have HE2 := hid (take_next hk1 hk2 HE.out (by rw [HXY.out.1, HXY.out.2, heq.1, heq.2]))
                      clear heq
                      go_wp2_with fail
                      go_quiet (fail)
                      go_wp2_with fail
                      go_roundw
                      case rel => exact ⟨k + 1, by omega, by go_num, HE2, hid (HC.out.drewN _)⟩
                      case measure => simp [intOf]; omega
                    · rw [eqB_false heq] at qq
                      have hf := (fun h e => h (PE.out e).2.2.2.1 : ¬ p.bars = q.bars → ¬ p = q) (take_ne hk1 hk2 (by rw [HXY.out.1, HXY.out.2]; intro e; simp only [VarD.mk.injEq] at e; exact heq e))
                      have ht2 : t = false := HT.out.symm.trans (eqB_false hf)
                      subst ht2
                      clear heq hf
                      go_wp2_with fail
                      go_quiet (fail)
                      go_wp2
                      go_ret
                      exact ⟨rfl, HW0.out.trans' (HC.out.drewN _)⟩
                  · have HEQ : Hid (p.bars = q.bars) := hid (by have h := HE.out; rwa [List.take_of_length_le (by rw [HN.out.2.2.1]; omega), List.take_of_length_le (by rw [HN.out.2.2.2.1]; omega)] at h)
                    have EQB := HEQ
                    clear HEQ HE
                    go_wp2_with fail
                    go_loopw [7] (fun vi wr => ∃ k : Nat, k ≤ n4 ∧ vi = .int .i64 k ∧ Hid (p.thrs.take k = q.thrs.take k) ∧ Hid (Chg [] W0 wr)) (fun vi _ => n4 - (intOf vi).toNat)
                    case atStart => exact ⟨0, Nat.zero_le _, rfl, hid (by simp), HC⟩
                    case round =>
                      obtain ⟨k, hk, rfl, HE, HC⟩ := hrel
                      obtain ⟨⟨p1, p2, p3, p4⟩, ⟨q1, q2, q3, q4⟩⟩ := HB2.out _ HC.out
                      by_cases hlt : k < n4
                      · have hk1 : k < p.thrs.length := by rw [HN.out.2.2.2.2.1]; exact hlt
                        have hk2 : k < q.thrs.length := by rw [HN.out.2.2.2.2.2.1]; exact hlt
                        have hk3 : k < ts.length := by rw [HN.out.2.2.2.2.2.2.1]; exact hlt
                        have hk4 : k < us.length := by rw [HN.out.2.2.2.2.2.2.2]; exact hlt
                        obtain ⟨b1, o1, hb1, c1⟩ := (A4.out.keep ((HW0.out).trans' HC.out)).at thrC_len hk3 (by omega)
                        obtain ⟨b2, o2, hb2, c2⟩ := (B4.out.keep ((HW0.out).trans' HC.out)).at thrC_len hk4 (by omega)
                        have zl : (k : Int) < (n4 : Int) := by omega
                        have x0 : wr.cell? ⟨b1, o1 + k * 3, none⟩ = some (.string ts[k].t.name) := c1 0 (by omega)
                        have x1 : wr.cell? ⟨b1, o1 + k * 3 + 1, none⟩ = some ts[k].code := c1 1 (by omega)
                        have x2 : wr.cell? ⟨b1, o1 + k * 3 + 2, none⟩ = some ts[k].places := c1 2 (by omega)
                        have y0 : wr.cell? ⟨b2, o2 + k * 3, none⟩ = some (.string us[k].t.name) := c2 0 (by omega)
                        have y1 : wr.cell? ⟨b2, o2 + k * 3 + 1, none⟩ = some us[k].code := c2 1 (by omega)
                        have y2 : wr.cell? ⟨b2, o2 + k * 3 + 2, none⟩ = some us[k].places := c2 2 (by omega)
                        have ex : p.thrs[k] = ts[k].t := by
                          have h := List.getElem_of_eq HTH.out.1.symm hk1
                          rw [h, List.getElem_map]
                        have ey : q.thrs[k] = us[k].t := by
                          have h := List.getElem_of_eq HTH.out.2.1.symm hk2
                          rw [h, List.getElem_map]
                        have l1 := HTH.out.2.2.1 _ (List.getElem_mem hk3)
                        have l2 := HTH.out.2.2.2 _ (List.getElem_mem hk4)
                        have s1 := HSM.out.1 _ (List.getElem_mem hk1)
                        have s2 := HSM.out.2 _ (List.getElem_mem hk2)
                        rw [ex] at s1
                        rw [ey] at s2
                        obtain ⟨X, hX⟩ : ∃ X, ts[k] = X := ⟨_, rfl⟩
                        obtain ⟨Y, hY⟩ : ∃ X, us[k] = X := ⟨_, rfl⟩
                        rw [hX] at x0 x1 x2 l1 s1 ex
                        rw [hY] at y0 y1 y2 l2 s2 ey
                        obtain ⟨⟨nx, cx, px⟩, vcx, vpx⟩ := X
                        obtain ⟨⟨ny, cy, py⟩, vcy, vpy⟩ := Y
                        simp only at x0 x1 x2 y0 y1 y2 l1 l2 s1 s2 ex ey
                        have hcall := fun u (hu : Chg [] w u) => sameThread_calls nx ny cx cy px py s1.2.1 s2.2.1 s1.2.2 s2.2.2 u (l1.1.keep hu) (l2.1.keep hu) (l1.2.keep hu) (l2.2.keep hu)
                        obtain ⟨ac1, kc1, rfl, _⟩ := l1.1.len
                        obtain ⟨ap1, kp1, rfl, _⟩ := l1.2.len
                        obtain ⟨ac2, kc2, rfl, _⟩ := l2.1.len
                        obtain ⟨ap2, kp2, rfl, _⟩ := l2.2.len
                        have HCALL := hid hcall
                        have HXY := hid (And.intro ex ey)
                        clear hcall l1 l2 s1 s2 ex ey hX hY c1 c2
                        subst hb1 hb2
                        by_cases heq : (⟨nx, cx, px⟩ : ThrD) = ⟨ny, cy, py⟩
                        · have HE2 := hid (take_next hk1 hk2 HE.out (by rw [HXY.out.1, HXY.out.2, heq]))
                          rw [eqB_true heq] at HCALL
                          clear heq
                          go_wp2_with fail
                          (refine wp_region_held_drew (S := (fun w' => (w'.cell? ⟨w.heap.size, 4, none⟩ = some (.slice (some ⟨b1, o1, none⟩) n4 ak4) ∧ w'.cell? ⟨w.heap.size + 1, 4, none⟩ = some (.slice (some ⟨b2, o2, none⟩) n4 bk4)) ∧ (w'.cell? ⟨b1, o1 + k * 3, none⟩ = some (.string nx) ∧ w'.cell? ⟨b1, o1 + k * 3 + 1, none⟩ = some (.slice ac1 cx.length kc1) ∧ w'.cell? ⟨b1, o1 + k * 3 + 2, none⟩ = some (.slice ap1 px.length kp1)) ∧ (w'.cell? ⟨b2, o2 + k * 3, none⟩ = some (.string ny) ∧ w'.cell? ⟨b2, o2 + k * 3 + 1, none⟩ = some (.slice ac2 cy.length kc2) ∧ w'.cell? ⟨b2, o2 + k * 3 + 2, none⟩ = some (.slice ap2 py.length kp2)))) (by kernel_rfl) (by exact ⟨⟨p4, q4⟩, ⟨x0, x1, x2⟩, ⟨y0, y1, y2⟩⟩) (fun hHeld => ?_); (refine wpAnyH_take (i := 0) (v := ?_) rfl (by kernel_rfl) (by kernel_rfl) (by kernel_rfl) (fun _ _ _ h => h) (Or.inl ⟨by rfl, ?_⟩) (by assumption) ?_; rotate_left 1; (focus (intro w hSw; (try dsimp only at hSw); go_simp; (try with_reducible rfl))); (try simp only [List.getElem_toArray, List.getElem_cons_zero, List.getElem_cons_succ, Act.put, List.setIfInBounds_toArray, List.set_cons_zero, List.set_cons_succ])); (refine wpAnyH_take (i := 1) (v := ?_) rfl (by kernel_rfl) (by kernel_rfl) (by kernel_rfl) (fun _ _ _ h => h) (Or.inl ⟨by rfl, ?_⟩) (by assumption) ?_; rotate_left 1; (focus (intro w hSw; (try dsimp only at hSw); go_simp; (try with_reducible rfl))); (try simp only [List.getElem_toArray, List.getElem_cons_zero, List.getElem_cons_succ, Act.put, List.setIfInBounds_toArray, List.set_cons_zero, List.set_cons_succ])); (refine wpAnyH_take (i := 2) (v := ?_) rfl (by kernel_rfl) (by kernel_rfl) (by kernel_rfl) (fun _ _ _ h => h) (Or.inl ⟨by rfl, ?_⟩) (by assumption) ?_; rotate_left 1; (focus (intro w hSw; (try dsimp only at hSw); go_simp; (try with_reducible rfl))); (try simp only [List.getElem_toArray, List.getElem_cons_zero, List.getElem_cons_succ, Act.put, List.setIfInBounds_toArray, List.set_cons_zero, List.set_cons_succ])); (refine wpAnyH_take (i := 3) (v := ?_) rfl (by kernel_rfl) (by kernel_rfl) (by kernel_rfl) (fun _ _ _ h => h) (Or.inl ⟨by rfl, ?_⟩) (by assumption) ?_; rotate_left 1; (focus (intro w hSw; (try dsimp only at hSw); go_simp; (try with_reducible rfl))); (try simp only [List.getElem_toArray, List.getElem_cons_zero, List.getElem_cons_succ, Act.put, List.setIfInBounds_toArray, List.set_cons_zero, List.set_cons_succ])); (refine wpAnyH_take (i := 4) (v := ?_) rfl (by kernel_rfl) (by kernel_rfl) (by kernel_rfl) (fun _ _ _ h => h) (Or.inl ⟨by rfl, ?_⟩) (by assumption) ?_; rotate_left 1; (focus (intro w hSw; (try dsimp only at hSw); go_simp; (try with_reducible rfl))); (try simp only [List.getElem_toArray, List.getElem_cons_zero, List.getElem_cons_succ, Act.put, List.setIfInBounds_toArray, List.set_cons_zero, List.set_cons_succ])); (refine wpAnyH_take (i := 5) (v := ?_) rfl (by kernel_rfl) (by kernel_rfl) (by kernel_rfl) (fun _ _ _ h => h) (Or.inl ⟨by rfl, ?_⟩) (by assumption) ?_; rotate_left 1; (focus (intro w hSw; (try dsimp only at hSw); go_simp; (try with_reducible rfl))); (try simp only [List.getElem_toArray, List.getElem_cons_zero, List.getElem_cons_succ, Act.put, List.setIfInBounds_toArray, List.set_cons_zero, List.set_cons_succ])); (refine wpAnyH_take (i := 6) (v := ?_) rfl (by kernel_rfl) (by kernel_rfl) (by kernel_rfl) (fun _ _ _ h => h) (Or.inl ⟨by rfl, ?_⟩) (by assumption) ?_; rotate_left 1; (focus (intro w hSw; (try dsimp only at hSw); go_simp; (try with_reducible rfl))); (try simp only [List.getElem_toArray, List.getElem_cons_zero, List.getElem_cons_succ, Act.put, List.setIfInBounds_toArray, List.set_cons_zero, List.set_cons_succ])); (refine wpAnyH_take (i := 7) (v := ?_) rfl (by kernel_rfl) (by kernel_rfl) (by kernel_rfl) (fun _ _ _ h => h) (Or.inl ⟨by rfl, ?_⟩) (by assumption) ?_; rotate_left 1; (focus (intro w hSw; (try dsimp only at hSw); go_simp; (try with_reducible rfl))); (try simp only [List.getElem_toArray, List.getElem_cons_zero, List.getElem_cons_succ, Act.put, List.setIfInBounds_toArray, List.set_cons_zero, List.set_cons_succ])); (refine wpAnyH_take (i := 8) (v := ?_) rfl (by kernel_rfl) (by kernel_rfl) (by kernel_rfl) (fun _ _ _ h => h) (Or.inl ⟨by rfl, ?_⟩) (by assumption) ?_; rotate_left 1; (focus (intro w hSw; (try dsimp only at hSw); go_simp; (try with_reducible rfl))); (try simp only [List.getElem_toArray, List.getElem_cons_zero, List.getElem_cons_succ, Act.put, List.setIfInBounds_toArray, List.set_cons_zero, List.set_cons_succ])); (refine wpAnyH_take (i := 9) (v := ?_) rfl (by kernel_rfl) (by kernel_rfl) (by kernel_rfl) (fun _ _ _ h => h) (Or.inl ⟨by rfl, ?_⟩) (by assumption) ?_; rotate_left 1; (focus (intro w hSw; (try dsimp only at hSw); go_simp; (try with_reducible rfl))); (try simp only [List.getElem_toArray, List.getElem_cons_zero, List.getElem_cons_succ, Act.put, List.setIfInBounds_toArray, List.set_cons_zero, List.set_cons_succ])); (refine wpAnyH_ready (rs := [10]) (by kernel_rfl) (by simp) ?_; refine AllReadyH.cons rfl (fun K hK => ?_) AllReadyH.nil; go_simp; go_at_call 22; refine (HCALL.out _ (HW0.out.trans' (HC.out.drewN 1))).mono ?_; rintro e w5 ⟨rfl, hc5⟩; (refine hK.out _ _ (by exact (by have hh := (Chg.of_drewN [] wr 1).trans' hc5; exact ⟨⟨hh.cell p4 (by simp), hh.cell q4 (by simp)⟩, ⟨hh.cell x0 (by simp), hh.cell x1 (by simp), hh.cell x2 (by simp)⟩, ⟨hh.cell y0 (by simp), hh.cell y1 (by simp), hh.cell y2 (by simp)⟩⟩)) (fun hHeld => ?_); clear hK K; (try simp only [List.getElem_toArray, List.getElem_cons_zero, List.getElem_cons_succ, Act.put, List.setIfInBounds_toArray, List.set_cons_zero, List.set_cons_succ]))); (refine wpAnyH_take (i := 11) (v := ?_) rfl (by kernel_rfl) (by kernel_rfl) (by kernel_rfl) (fun _ _ _ h => h) (Or.inl ⟨by rfl, ?_⟩) (by assumption) ?_; rotate_left 1; (focus (intro w hSw; (try dsimp only at hSw); go_simp; (try with_reducible rfl))); (try simp only [List.getElem_toArray, List.getElem_cons_zero, List.getElem_cons_succ, Act.put, List.setIfInBounds_toArray, List.set_cons_zero, List.set_cons_succ])); refine wpAnyH_done (by kernel_rfl) ?_ _)
                          have HC5 := hid ((HC.out.drewN 1).trans' hc5)
                          clear hc5
                          go_wp2_with fail
                          go_roundw
                          case rel => exact ⟨k + 1, by omega, by go_num, HE2, HC5⟩
                          case measure => simp [intOf]; omega
                        · have hf : ¬ p = q := fun e => take_ne hk1 hk2 (by rw [HXY.out.1, HXY.out.2]; exact heq) (PE.out e).2.2.2.2
                          have ht2 : t = false := HT.out.symm.trans (eqB_false hf)
                          subst ht2
                          rw [eqB_false heq] at HCALL
                          clear heq hf
                          go_wp2_with fail
                          (refine wp_region_held_drew (S := (fun w' => (w'.cell? ⟨w.heap.size, 4, none⟩ = some (.slice (some ⟨b1, o1, none⟩) n4 ak4) ∧ w'.cell? ⟨w.heap.size + 1, 4, none⟩ = some (.slice (some ⟨b2, o2, none⟩) n4 bk4)) ∧ (w'.cell? ⟨b1, o1 + k * 3, none⟩ = some (.string nx) ∧ w'.cell? ⟨b1, o1 + k * 3 + 1, none⟩ = some (.slice ac1 cx.length kc1) ∧ w'.cell? ⟨b1, o1 + k * 3 + 2, none⟩ = some (.slice ap1 px.length kp1)) ∧ (w'.cell? ⟨b2, o2 + k * 3, none⟩ = some (.string ny) ∧ w'.cell? ⟨b2, o2 + k * 3 + 1, none⟩ = some (.slice ac2 cy.length kc2) ∧ w'.cell? ⟨b2, o2 + k * 3 + 2, none⟩ = some (.slice ap2 py.length kp2)))) (by kernel_rfl) (by exact ⟨⟨p4, q4⟩, ⟨x0, x1, x2⟩, ⟨y0, y1, y2⟩⟩) (fun hHeld => ?_); (refine wpAnyH_take (i := 0) (v := ?_) rfl (by kernel_rfl) (by kernel_rfl) (by kernel_rfl) (fun _ _ _ h => h) (Or.inl ⟨by rfl, ?_⟩) (by assumption) ?_; rotate_left 1; (focus (intro w hSw; (try dsimp only at hSw); go_simp; (try with_reducible rfl))); (try simp only [List.getElem_toArray, List.getElem_cons_zero, List.getElem_cons_succ, Act.put, List.setIfInBounds_toArray, List.set_cons_zero, List.set_cons_succ])); (refine wpAnyH_take (i := 1) (v := ?_) rfl (by kernel_rfl) (by kernel_rfl) (by kernel_rfl) (fun _ _ _ h => h) (Or.inl ⟨by rfl, ?_⟩) (by assumption) ?_; rotate_left 1; (focus (intro w hSw; (try dsimp only at hSw); go_simp; (try with_reducible rfl))); (try simp only [List.getElem_toArray, List.getElem_cons_zero, List.getElem_cons_succ, Act.put, List.setIfInBounds_toArray, List.set_cons_zero, List.set_cons_succ])); (refine wpAnyH_take (i := 2) (v := ?_) rfl (by kernel_rfl) (by kernel_rfl) (by kernel_rfl) (fun _ _ _ h => h) (Or.inl ⟨by rfl, ?_⟩) (by assumption) ?_; rotate_left 1; (focus (intro w hSw; (try dsimp only at hSw); go_simp; (try with_reducible rfl))); (try simp only [List.getElem_toArray, List.getElem_cons_zero, List.getElem_cons_succ, Act.put, List.setIfInBounds_toArray, List.set_cons_zero, List.set_cons_succ])); (refine wpAnyH_take (i := 3) (v := ?_) rfl (by kernel_rfl) (by kernel_rfl) (by kernel_rfl) (fun _ _ _ h => h) (Or.inl ⟨by rfl, ?_⟩) (by assumption) ?_; rotate_left 1; (focus (intro w hSw; (try dsimp only at hSw); go_simp; (try with_reducible rfl))); (try simp only [List.getElem_toArray, List.getElem_cons_zero, List.getElem_cons_succ, Act.put, List.setIfInBounds_toArray, List.set_cons_zero, List.set_cons_succ])); (refine wpAnyH_take (i := 4) (v := ?_) rfl (by kernel_rfl) (by kernel_rfl) (by kernel_rfl) (fun _ _ _ h => h) (Or.inl ⟨by rfl, ?_⟩) (by assumption) ?_; rotate_left 1; (focus (intro w hSw; (try dsimp only at hSw); go_simp; (try with_reducible rfl))); (try simp only [List.getElem_toArray, List.getElem_cons_zero, List.getElem_cons_succ, Act.put, List.setIfInBounds_toArray, List.set_cons_zero, List.set_cons_succ])); (refine wpAnyH_take (i := 5) (v := ?_) rfl (by kernel_rfl) (by kernel_rfl) (by kernel_rfl) (fun _ _ _ h => h) (Or.inl ⟨by rfl, ?_⟩) (by assumption) ?_; rotate_left 1; (focus (intro w hSw; (try dsimp only at hSw); go_simp; (try with_reducible rfl))); (try simp only [List.getElem_toArray, List.getElem_cons_zero, List.getElem_cons_succ, Act.put, List.setIfInBounds_toArray, List.set_cons_zero, List.set_cons_succ])); (refine wpAnyH_take (i := 6) (v := ?_) rfl (by kernel_rfl) (by kernel_rfl) (by kernel_rfl) (fun _ _ _ h => h) (Or.inl ⟨by rfl, ?_⟩) (by assumption) ?_; rotate_left 1; (focus (intro w hSw; (try dsimp only at hSw); go_simp; (try with_reducible rfl))); (try simp only [List.getElem_toArray, List.getElem_cons_zero, List.getElem_cons_succ, Act.put, List.setIfInBounds_toArray, List.set_cons_zero, List.set_cons_succ])); (refine wpAnyH_take (i := 7) (v := ?_) rfl (by kernel_rfl) (by kernel_rfl) (by kernel_rfl) (fun _ _ _ h => h) (Or.inl ⟨by rfl, ?_⟩) (by assumption) ?_; rotate_left 1; (focus (intro w hSw; (try dsimp only at hSw); go_simp; (try with_reducible rfl))); (try simp only [List.getElem_toArray, List.getElem_cons_zero, List.getElem_cons_succ, Act.put, List.setIfInBounds_toArray, List.set_cons_zero, List.set_cons_succ])); (refine wpAnyH_take (i := 8) (v := ?_) rfl (by kernel_rfl) (by kernel_rfl) (by kernel_rfl) (fun _ _ _ h => h) (Or.inl ⟨by rfl, ?_⟩) (by assumption) ?_; rotate_left 1; (focus (intro w hSw; (try dsimp only at hSw); go_simp; (try with_reducible rfl))); (try simp only [List.getElem_toArray, List.getElem_cons_zero, List.getElem_cons_succ, Act.put, List.setIfInBounds_toArray, List.set_cons_zero, List.set_cons_succ])); (refine wpAnyH_take (i := 9) (v := ?_) rfl (by kernel_rfl) (by kernel_rfl) (by kernel_rfl) (fun _ _ _ h => h) (Or.inl ⟨by rfl, ?_⟩) (by assumption) ?_; rotate_left 1; (focus (intro w hSw; (try dsimp only at hSw); go_simp; (try with_reducible rfl))); (try simp only [List.getElem_toArray, List.getElem_cons_zero, List.getElem_cons_succ, Act.put, List.setIfInBounds_toArray, List.set_cons_zero, List.set_cons_succ])); (refine wpAnyH_ready (rs := [10]) (by kernel_rfl) (by simp) ?_; refine AllReadyH.cons rfl (fun K hK => ?_) AllReadyH.nil; go_simp; go_at_call 22; refine (HCALL.out _ (HW0.out.trans' (HC.out.drewN 1))).mono ?_; rintro e w5 ⟨rfl, hc5⟩; (refine hK.out _ _ (by exact (by have hh := (Chg.of_drewN [] wr 1).trans' hc5; exact ⟨⟨hh.cell p4 (by simp), hh.cell q4 (by simp)⟩, ⟨hh.cell x0 (by simp), hh.cell x1 (by simp), hh.cell x2 (by simp)⟩, ⟨hh.cell y0 (by simp), hh.cell y1 (by simp), hh.cell y2 (by simp)⟩⟩)) (fun hHeld => ?_); clear hK K; (try simp only [List.getElem_toArray, List.getElem_cons_zero, List.getElem_cons_succ, Act.put, List.setIfInBounds_toArray, List.set_cons_zero, List.set_cons_succ]))); (refine wpAnyH_take (i := 11) (v := ?_) rfl (by kernel_rfl) (by kernel_rfl) (by kernel_rfl) (fun _ _ _ h => h) (Or.inl ⟨by rfl, ?_⟩) (by assumption) ?_; rotate_left 1; (focus (intro w hSw; (try dsimp only at hSw); go_simp; (try with_reducible rfl))); (try simp only [List.getElem_toArray, List.getElem_cons_zero, List.getElem_cons_succ, Act.put, List.setIfInBounds_toArray, List.set_cons_zero, List.set_cons_succ])); refine wpAnyH_done (by kernel_rfl) ?_ _)
                          go_wp2
                          go_ret
                          exact ⟨rfl, HW0.out.trans' ((HC.out.drewN 1).trans' hc5)⟩
                      · have HEQ : Hid (p.thrs = q.thrs) := hid (by have h := HE.out; rwa [List.take_of_length_le (by rw [HN.out.2.2.2.2.1]; omega), List.take_of_length_le (by rw [HN.out.2.2.2.2.2.1]; omega)] at h)
                        have ht2 : t = true := HT.out.symm.trans (eqB_true (by
                          obtain ⟨pa, pb, pc, pd, pe⟩ := p
                          obtain ⟨qa, qb, qc, qd, qe⟩ := q
                          have f0 := E0.out
                          have f1 := E1.out
                          have f2 := EQL.out
                          have f3 := EQB.out
                          have f4 := HEQ.out
                          simp only at f0 f1 f2 f3 f4
                          rw [f0, f1, f2, f3, f4]))
                        subst ht2
                        go_wp2
                        go_ret
                        exact ⟨rfl, HW0.out.trans' HC.out⟩
          · have ht2 : t = false := HT.out.symm.trans (eqB_false (fun e => e4 (by rw [← HN.out.2.2.2.2.1, ← HN.out.2.2.2.2.2.1, (PE.out e).2.2.2.2])))
            subst ht2
            have E4 := hid e4
            have z4 := int_ne e4
            clear e4
            go_enter Tryd.func11, Tryd.ntmps11
            go_wp2_with (first | (go_at_call 21; (with_reducible refine (V0.out _ HW.out).mono ?_); rw [eqB_true E0.out]; rintro e w1 ⟨rfl, hc1⟩; obtain ⟨⟨p1, p2, p3, p4⟩, ⟨q1, q2, q3, q4⟩⟩ := HB.out _ hc1) | (go_at_call 21; (with_reducible refine (V1.out _ (HW.out.trans' hc1)).mono ?_); rw [eqB_true E1.out]; rintro e w2 ⟨rfl, hc2⟩; obtain ⟨⟨p1, p2, p3, p4⟩, ⟨q1, q2, q3, q4⟩⟩ := HB.out _ (hc1.trans' hc2)))
            go_ret
            exact ⟨rfl, HW.out.trans' (hc1.trans' hc2)⟩
        · have ht2 : t = false := HT.out.symm.trans (eqB_false (fun e => e3 (by rw [← HN.out.2.2.1, ← HN.out.2.2.2.1, (PE.out e).2.2.2.1])))
          subst ht2
          have E3 := hid e3
          have z3 := int_ne e3
          clear e3
          go_enter Tryd.func11, Tryd.ntmps11
          go_wp2_with (first | (go_at_call 21; (with_reducible refine (V0.out _ HW.out).mono ?_); rw [eqB_true E0.out]; rintro e w1 ⟨rfl, hc1⟩; obtain ⟨⟨p1, p2, p3, p4⟩, ⟨q1, q2, q3, q4⟩⟩ := HB.out _ hc1) | (go_at_call 21; (with_reducible refine (V1.out _ (HW.out.trans' hc1)).mono ?_); rw [eqB_true E1.out]; rintro e w2 ⟨rfl, hc2⟩; obtain ⟨⟨p1, p2, p3, p4⟩, ⟨q1, q2, q3, q4⟩⟩ := HB.out _ (hc1.trans' hc2)))
          go_ret
          exact ⟨rfl, HW.out.trans' (hc1.trans' hc2)⟩
      · have ht2 : t = false := HT.out.symm.trans (eqB_false (fun e => e2 (by rw [← HN.out.1, ← HN.out.2.1, (PE.out e).2.2.1])))
        subst ht2
        have E2 := hid e2
        have z2 := int_ne e2
        clear e2
        go_enter Tryd.func11, Tryd.ntmps11
        go_wp2_with (first | (go_at_call 21; (with_reducible refine (V0.out _ HW.out).mono ?_); rw [eqB_true E0.out]; rintro e w1 ⟨rfl, hc1⟩; obtain ⟨⟨p1, p2, p3, p4⟩, ⟨q1, q2, q3, q4⟩⟩ := HB.out _ hc1) | (go_at_call 21; (with_reducible refine (V1.out _ (HW.out.trans' hc1)).mono ?_); rw [eqB_true E1.out]; rintro e w2 ⟨rfl, hc2⟩; obtain ⟨⟨p1, p2, p3, p4⟩, ⟨q1, q2, q3, q4⟩⟩ := HB.out _ (hc1.trans' hc2)))
        go_ret
        exact ⟨rfl, HW.out.trans' (hc1.trans' hc2)⟩
    · have ht2 : t = false := HT.out.symm.trans (eqB_false (fun e => e1 ((PE.out e).2.1)))
      subst ht2
      have E1 := hid e1
      clear e1
      go_enter Tryd.func11, Tryd.ntmps11
      go_wp2_with (first | (go_at_call 21; (with_reducible refine (V0.out _ HW.out).mono ?_); rw [eqB_true E0.out]; rintro e w1 ⟨rfl, hc1⟩; obtain ⟨⟨p1, p2, p3, p4⟩, ⟨q1, q2, q3, q4⟩⟩ := HB.out _ hc1) | (go_at_call 21; (with_reducible refine (V1.out _ (HW.out.trans' hc1)).mono ?_); rw [eqB_false E1.out]; rintro e w2 ⟨rfl, hc2⟩; obtain ⟨⟨p1, p2, p3, p4⟩, ⟨q1, q2, q3, q4⟩⟩ := HB.out _ (hc1.trans' hc2)))
      go_ret
      exact ⟨rfl, HW.out.trans' (hc1.trans' hc2)⟩
  · have ht2 : t = false := HT.out.symm.trans (eqB_false (fun e => e0 ((PE.out e).1)))
    subst ht2
    have E0 := hid e0
    clear e0
    go_enter Tryd.func11, Tryd.ntmps11
    go_wp2_with (go_at_call 21; (with_reducible refine (V0.out _ HW.out).mono ?_); rw [eqB_false E0.out]; rintro e w1 ⟨rfl, hc1⟩; obtain ⟨⟨p1, p2, p3, p4⟩, ⟨q1, q2, q3, q4⟩⟩ := HB.out _ hc1)
    go_ret
    exact ⟨rfl, HW.out.trans' hc1⟩
end Go.Proofs.YtaknmhipaifdkaaDoor
