/- Walks of the code layer: programs compared, whole. -/
import Derived.Test.YtbikekgljabalaaSe
namespace Go.Proofs.Ytbikekgljabalaa
open Go.RowKit Go.AB
set_option linter.unusedSimpArgs false
set_option linter.unusedVariables false

set_option maxHeartbeats 8000000 in
set_option maxRecDepth 100000 in
theorem same_calls (p q : PrgD) (hp : SmallP p) (hq : SmallP q) {va vb : Value} (w : World) (ha : PrgV w va p) (hb : PrgV w vb q) :
    Calls Try.prog 24 #[va, vb] w fun e w' => e = .returned (.bool (eqB (p = q))) ∧ Chg [] w w' := by
  obtain ⟨va0, va1, va2, va3, va4, ts, rfl, a0, a1, a2, a3, a4, a5, a6⟩ := ha
  obtain ⟨vb0, vb1, vb2, vb3, vb4, us, rfl, b0, b1, b2, b3, b4, b5, b6⟩ := hb
  have lts : ts.length = p.thrs.length := by rw [← a5, List.length_map]
  have lus : us.length = q.thrs.length := by rw [← b5, List.length_map]
  have hv0 := fun u (hu : Chg [] w u) => eqVars_calls p.vars q.vars hp.vars hq.vars u (a0.keep hu) (b0.keep hu)
  have hv1 := fun u (hu : Chg [] w u) => eqVars_calls p.vols q.vols hp.vols hq.vols u (a1.keep hu) (b1.keep hu)
  have hv2 := fun u (hu : Chg [] w u) => eqStrs_calls p.locks q.locks hp.locks hq.locks u (a2.keep hu) (b2.keep hu)
  have hv3 := fun u (hu : Chg [] w u) => eqBars_calls p.bars q.bars hp.bars hq.bars u (a3.keep hu) (b3.keep hu)
  have hv4 := fun u (hu : Chg [] w u) => eqThrs_calls ts us (by have := hp.thrs; omega) (by have := hq.thrs; omega)
    (fun x hx => (hp.nthrs x.t (by rw [← a5]; exact List.mem_map_of_mem hx)).2) (fun x hx => (hq.nthrs x.t (by rw [← b5]; exact List.mem_map_of_mem hx)).2) u (a4.keep hu) (b4.keep hu)
    (fun x hx => ⟨(a6 x hx).1.keep hu, (a6 x hx).2.keep hu⟩) (fun x hx => ⟨(b6 x hx).1.keep hu, (b6 x hx).2.keep hu⟩)
  rw [a5, b5] at hv4
  obtain ⟨ax0, ak0, rfl, _⟩ := a0.len
  obtain ⟨ax1, ak1, rfl, _⟩ := a1.len
  obtain ⟨ax2, ak2, rfl, _⟩ := a2.len
  obtain ⟨ax3, ak3, rfl, _⟩ := a3.len
  obtain ⟨ax4, ak4, rfl, _⟩ := a4.len
  obtain ⟨bx0, bk0, rfl, _⟩ := b0.len
  obtain ⟨bx1, bk1, rfl, _⟩ := b1.len
  obtain ⟨bx2, bk2, rfl, _⟩ := b2.len
  obtain ⟨bx3, bk3, rfl, _⟩ := b3.len
  obtain ⟨bx4, bk4, rfl, _⟩ := b4.len
  have V0 := hid hv0
  have V1 := hid hv1
  have V2 := hid hv2
  have V3 := hid hv3
  have V4 := hid hv4
  obtain ⟨t, ht⟩ : ∃ t, eqB (p = q) = t := ⟨_, rfl⟩
  have HT := hid ht
  rw [ht]
  have hc0 := ((Chg.refl [] w).alloc (.cells #[.slice ax0 p.vars.length ak0, .slice ax1 p.vols.length ak1, .slice ax2 p.locks.length ak2, .slice ax3 p.bars.length ak3, .slice ax4 ts.length ak4] 28)).alloc (.cells #[.slice bx0 q.vars.length bk0, .slice bx1 q.vols.length bk1, .slice bx2 q.locks.length bk2, .slice bx3 q.bars.length bk3, .slice bx4 us.length bk4] 28)
  have HW := hid hc0
  have HBX := hid (two_boxes w (.cells #[.slice ax0 p.vars.length ak0, .slice ax1 p.vols.length ak1, .slice ax2 p.locks.length ak2, .slice ax3 p.bars.length ak3, .slice ax4 ts.length ak4] 28) (.cells #[.slice bx0 q.vars.length bk0, .slice bx1 q.vols.length bk1, .slice bx2 q.locks.length bk2, .slice bx3 q.bars.length bk3, .slice bx4 us.length bk4] 28))
  have hbx : ∀ u, Chg [] ((w.alloc (.cells #[.slice ax0 p.vars.length ak0, .slice ax1 p.vols.length ak1, .slice ax2 p.locks.length ak2, .slice ax3 p.bars.length ak3, .slice ax4 ts.length ak4] 28)).alloc (.cells #[.slice bx0 q.vars.length bk0, .slice bx1 q.vols.length bk1, .slice bx2 q.locks.length bk2, .slice bx3 q.bars.length bk3, .slice bx4 us.length bk4] 28)) u →
      (u.cell? ⟨w.heap.size, 1, none⟩ = some (.slice ax1 p.vols.length ak1) ∧ u.cell? ⟨w.heap.size, 2, none⟩ = some (.slice ax2 p.locks.length ak2) ∧ u.cell? ⟨w.heap.size, 3, none⟩ = some (.slice ax3 p.bars.length ak3) ∧ u.cell? ⟨w.heap.size, 4, none⟩ = some (.slice ax4 ts.length ak4)) ∧
      (u.cell? ⟨w.heap.size + 1, 1, none⟩ = some (.slice bx1 q.vols.length bk1) ∧ u.cell? ⟨w.heap.size + 1, 2, none⟩ = some (.slice bx2 q.locks.length bk2) ∧ u.cell? ⟨w.heap.size + 1, 3, none⟩ = some (.slice bx3 q.bars.length bk3) ∧ u.cell? ⟨w.heap.size + 1, 4, none⟩ = some (.slice bx4 us.length bk4)) := fun u hu =>
    ⟨⟨blk_cell (hu.heap HBX.out.1 (by simp)) 1, blk_cell (hu.heap HBX.out.1 (by simp)) 2, blk_cell (hu.heap HBX.out.1 (by simp)) 3, blk_cell (hu.heap HBX.out.1 (by simp)) 4⟩, ⟨blk_cell (hu.heap HBX.out.2 (by simp)) 1, blk_cell (hu.heap HBX.out.2 (by simp)) 2, blk_cell (hu.heap HBX.out.2 (by simp)) 3, blk_cell (hu.heap HBX.out.2 (by simp)) 4⟩⟩
  have HB := hid hbx
  have pe : ∀ {p q : PrgD}, p = q → p.vars = q.vars ∧ p.vols = q.vols ∧ p.locks = q.locks ∧ p.bars = q.bars ∧ p.thrs = q.thrs := fun e => by subst e; exact ⟨rfl, rfl, rfl, rfl, rfl⟩
  have PE := hid (@pe p q)
  clear hp hq a0 a1 a2 a3 a4 a5 a6 b0 b1 b2 b3 b4 b5 b6 lts lus hv0 hv1 hv2 hv3 hv4 hc0 hbx pe ht HBX
  by_cases e0 : p.vars = q.vars
  · have E0 := hid e0
    clear e0
    by_cases e1 : p.vols = q.vols
    · have E1 := hid e1
      clear e1
      by_cases e2 : p.locks = q.locks
      · have E2 := hid e2
        clear e2
        by_cases e3 : p.bars = q.bars
        · have E3 := hid e3
          clear e3
          by_cases e4 : p.thrs = q.thrs
          · have E4 := hid e4
            clear e4
            have ht2 : t = true := HT.out.symm.trans (eqB_true (by
              obtain ⟨pa, pb, pc, pd, pe⟩ := p
              obtain ⟨qa, qb, qc, qd, qe⟩ := q
              have f0 := E0.out
              have f1 := E1.out
              have f2 := E2.out
              have f3 := E3.out
              have f4 := E4.out
              simp only at f0 f1 f2 f3 f4
              rw [f0, f1, f2, f3, f4]))
            subst ht2
            go_enter Try.func24, Try.ntmps24
            go_wp2_with (first
              | (go_at_call 61; (with_reducible refine (V0.out _ HW.out).mono ?_); rw [eqB_true E0.out]; rintro e w1 ⟨rfl, hc1⟩; obtain ⟨⟨p1, p2, p3, p4⟩, ⟨q1, q2, q3, q4⟩⟩ := HB.out _ hc1)
              | (go_at_call 61; (with_reducible refine (V1.out _ (HW.out.trans' hc1)).mono ?_); rw [eqB_true E1.out]; rintro e w2 ⟨rfl, hc2⟩; obtain ⟨⟨p1, p2, p3, p4⟩, ⟨q1, q2, q3, q4⟩⟩ := HB.out _ (hc1.trans' hc2))
              | (go_at_call 62; (with_reducible refine (V2.out _ ((HW.out.trans' hc1).trans' hc2)).mono ?_); rw [eqB_true E2.out]; rintro e w3 ⟨rfl, hc3⟩; obtain ⟨⟨p1, p2, p3, p4⟩, ⟨q1, q2, q3, q4⟩⟩ := HB.out _ ((hc1.trans' hc2).trans' hc3))
              | (go_at_call 63; (with_reducible refine (V3.out _ (((HW.out.trans' hc1).trans' hc2).trans' hc3)).mono ?_); rw [eqB_true E3.out]; rintro e w4 ⟨rfl, hc4⟩; obtain ⟨⟨p1, p2, p3, p4⟩, ⟨q1, q2, q3, q4⟩⟩ := HB.out _ (((hc1.trans' hc2).trans' hc3).trans' hc4))
              | (go_at_call 64; (with_reducible refine (V4.out _ ((((HW.out.trans' hc1).trans' hc2).trans' hc3).trans' hc4)).mono ?_); rw [eqB_true E4.out]; rintro e w5 ⟨rfl, hc5⟩))
            go_ret
            exact ⟨rfl, (((((HW.out.trans' hc1).trans' hc2).trans' hc3).trans' hc4).trans' hc5)⟩
          · have ht2 : t = false := HT.out.symm.trans (eqB_false (fun e => e4 ((PE.out e).2.2.2.2)))
            subst ht2
            have E4 := hid e4
            clear e4
            go_enter Try.func24, Try.ntmps24
            go_wp2_with (first
              | (go_at_call 61; (with_reducible refine (V0.out _ HW.out).mono ?_); rw [eqB_true E0.out]; rintro e w1 ⟨rfl, hc1⟩; obtain ⟨⟨p1, p2, p3, p4⟩, ⟨q1, q2, q3, q4⟩⟩ := HB.out _ hc1)
              | (go_at_call 61; (with_reducible refine (V1.out _ (HW.out.trans' hc1)).mono ?_); rw [eqB_true E1.out]; rintro e w2 ⟨rfl, hc2⟩; obtain ⟨⟨p1, p2, p3, p4⟩, ⟨q1, q2, q3, q4⟩⟩ := HB.out _ (hc1.trans' hc2))
              | (go_at_call 62; (with_reducible refine (V2.out _ ((HW.out.trans' hc1).trans' hc2)).mono ?_); rw [eqB_true E2.out]; rintro e w3 ⟨rfl, hc3⟩; obtain ⟨⟨p1, p2, p3, p4⟩, ⟨q1, q2, q3, q4⟩⟩ := HB.out _ ((hc1.trans' hc2).trans' hc3))
              | (go_at_call 63; (with_reducible refine (V3.out _ (((HW.out.trans' hc1).trans' hc2).trans' hc3)).mono ?_); rw [eqB_true E3.out]; rintro e w4 ⟨rfl, hc4⟩; obtain ⟨⟨p1, p2, p3, p4⟩, ⟨q1, q2, q3, q4⟩⟩ := HB.out _ (((hc1.trans' hc2).trans' hc3).trans' hc4))
              | (go_at_call 64; (with_reducible refine (V4.out _ ((((HW.out.trans' hc1).trans' hc2).trans' hc3).trans' hc4)).mono ?_); rw [eqB_false E4.out]; rintro e w5 ⟨rfl, hc5⟩))
            go_ret
            exact ⟨rfl, (((((HW.out.trans' hc1).trans' hc2).trans' hc3).trans' hc4).trans' hc5)⟩
        · have ht2 : t = false := HT.out.symm.trans (eqB_false (fun e => e3 ((PE.out e).2.2.2.1)))
          subst ht2
          have E3 := hid e3
          clear e3
          go_enter Try.func24, Try.ntmps24
          go_wp2_with (first
            | (go_at_call 61; (with_reducible refine (V0.out _ HW.out).mono ?_); rw [eqB_true E0.out]; rintro e w1 ⟨rfl, hc1⟩; obtain ⟨⟨p1, p2, p3, p4⟩, ⟨q1, q2, q3, q4⟩⟩ := HB.out _ hc1)
            | (go_at_call 61; (with_reducible refine (V1.out _ (HW.out.trans' hc1)).mono ?_); rw [eqB_true E1.out]; rintro e w2 ⟨rfl, hc2⟩; obtain ⟨⟨p1, p2, p3, p4⟩, ⟨q1, q2, q3, q4⟩⟩ := HB.out _ (hc1.trans' hc2))
            | (go_at_call 62; (with_reducible refine (V2.out _ ((HW.out.trans' hc1).trans' hc2)).mono ?_); rw [eqB_true E2.out]; rintro e w3 ⟨rfl, hc3⟩; obtain ⟨⟨p1, p2, p3, p4⟩, ⟨q1, q2, q3, q4⟩⟩ := HB.out _ ((hc1.trans' hc2).trans' hc3))
            | (go_at_call 63; (with_reducible refine (V3.out _ (((HW.out.trans' hc1).trans' hc2).trans' hc3)).mono ?_); rw [eqB_false E3.out]; rintro e w4 ⟨rfl, hc4⟩; obtain ⟨⟨p1, p2, p3, p4⟩, ⟨q1, q2, q3, q4⟩⟩ := HB.out _ (((hc1.trans' hc2).trans' hc3).trans' hc4)))
          go_ret
          exact ⟨rfl, ((((HW.out.trans' hc1).trans' hc2).trans' hc3).trans' hc4)⟩
      · have ht2 : t = false := HT.out.symm.trans (eqB_false (fun e => e2 ((PE.out e).2.2.1)))
        subst ht2
        have E2 := hid e2
        clear e2
        go_enter Try.func24, Try.ntmps24
        go_wp2_with (first
          | (go_at_call 61; (with_reducible refine (V0.out _ HW.out).mono ?_); rw [eqB_true E0.out]; rintro e w1 ⟨rfl, hc1⟩; obtain ⟨⟨p1, p2, p3, p4⟩, ⟨q1, q2, q3, q4⟩⟩ := HB.out _ hc1)
          | (go_at_call 61; (with_reducible refine (V1.out _ (HW.out.trans' hc1)).mono ?_); rw [eqB_true E1.out]; rintro e w2 ⟨rfl, hc2⟩; obtain ⟨⟨p1, p2, p3, p4⟩, ⟨q1, q2, q3, q4⟩⟩ := HB.out _ (hc1.trans' hc2))
          | (go_at_call 62; (with_reducible refine (V2.out _ ((HW.out.trans' hc1).trans' hc2)).mono ?_); rw [eqB_false E2.out]; rintro e w3 ⟨rfl, hc3⟩; obtain ⟨⟨p1, p2, p3, p4⟩, ⟨q1, q2, q3, q4⟩⟩ := HB.out _ ((hc1.trans' hc2).trans' hc3)))
        go_ret
        exact ⟨rfl, (((HW.out.trans' hc1).trans' hc2).trans' hc3)⟩
    · have ht2 : t = false := HT.out.symm.trans (eqB_false (fun e => e1 ((PE.out e).2.1)))
      subst ht2
      have E1 := hid e1
      clear e1
      go_enter Try.func24, Try.ntmps24
      go_wp2_with (first
        | (go_at_call 61; (with_reducible refine (V0.out _ HW.out).mono ?_); rw [eqB_true E0.out]; rintro e w1 ⟨rfl, hc1⟩; obtain ⟨⟨p1, p2, p3, p4⟩, ⟨q1, q2, q3, q4⟩⟩ := HB.out _ hc1)
        | (go_at_call 61; (with_reducible refine (V1.out _ (HW.out.trans' hc1)).mono ?_); rw [eqB_false E1.out]; rintro e w2 ⟨rfl, hc2⟩; obtain ⟨⟨p1, p2, p3, p4⟩, ⟨q1, q2, q3, q4⟩⟩ := HB.out _ (hc1.trans' hc2)))
      go_ret
      exact ⟨rfl, ((HW.out.trans' hc1).trans' hc2)⟩
  · have ht2 : t = false := HT.out.symm.trans (eqB_false (fun e => e0 ((PE.out e).1)))
    subst ht2
    have E0 := hid e0
    clear e0
    go_enter Try.func24, Try.ntmps24
    go_wp2_with (first
      | (go_at_call 61; (with_reducible refine (V0.out _ HW.out).mono ?_); rw [eqB_false E0.out]; rintro e w1 ⟨rfl, hc1⟩; obtain ⟨⟨p1, p2, p3, p4⟩, ⟨q1, q2, q3, q4⟩⟩ := HB.out _ hc1))
    go_ret
    exact ⟨rfl, (HW.out.trans' hc1)⟩
end Go.Proofs.Ytbikekgljabalaa
