/- The document's Encode: the walk. -/
import Derived.Test.YtbikekgljabalaaVd
import Derived.Test.YtbikekgljabalaaGf
import Derived.Test.YtbikekgljabalaaM02
import Derived.Test.YtbikekgljabalaaUd
namespace Go.Proofs.Ytbikekgljabalaa
open Go.RowKit Go.AB
set_option linter.unusedSimpArgs false
set_option linter.unusedVariables false

set_option maxHeartbeats 4000000 in
set_option maxRecDepth 100000 in
theorem q_encode_bad (p : PrgD) (hs : SmallP p) (hg : prgB p = false) {v : Value} (w : World) (hv : PrgV w v p) :
    Calls Try.prog 10 #[v] w fun e w' => e = .returned (.tuple #[.slice none 0 0, .int .i64 4]) ∧ Chg [] w w' := by
  have hp := fun u (hu : Chg [] w u) => r_plain_calls p hs u (hv.keep hu)
  rw [hg] at hp
  obtain ⟨a0, a1, a2, a3, a4, k0, k1, k2, k3, k4, rfl⟩ := prgV_shape hv
  have HP := hid hp
  have hca := (Chg.refl [] w).alloc (.cells #[.slice a0 p.vars.length k0, .slice a1 p.vols.length k1, .slice a2 p.locks.length k2, .slice a3 p.bars.length k3, .slice a4 p.thrs.length k4] 28)
  clear hp hv hg
  go_enter Try.func10, Try.ntmps10
  go_wp2_with (go_at_call 17; (with_reducible refine (HP.out _ hca).mono ?_); rintro e w1 ⟨rfl, hc1⟩)
  go_ret2
  exact ⟨rfl, hca.trans' hc1⟩
set_option maxHeartbeats 4000000 in
set_option maxRecDepth 100000 in
theorem q_encode_good (p : PrgD) (hs : SmallP p) (hw64 : Wf64 p) (hg : prgB p = true) {v : Value} (w : World) (hv : PrgV w v p) :
    Calls Try.prog 10 #[v] w (NewB2 5 w (frameB 1 (bodyL p)) 0) := by
  have hp := fun u (hu : Chg [] w u) => r_plain_calls p hs u (hv.keep hu)
  rw [hg] at hp
  have hbd := fun u (hu : Chg [] w u) => q_body p hw64 hg u (hv.keep hu)
  have hlen := bodyL_len hg hw64
  obtain ⟨a0, a1, a2, a3, a4, k0, k1, k2, k3, k4, rfl⟩ := prgV_shape hv
  have HP := hid hp
  have HB := hid hbd
  have HL := hid hlen
  have hca := (Chg.refl [] w).alloc (.cells #[.slice a0 p.vars.length k0, .slice a1 p.vols.length k1, .slice a2 p.locks.length k2, .slice a3 p.bars.length k3, .slice a4 p.thrs.length k4] 28)
  have hbx := heap_alloc_new w (.cells #[.slice a0 p.vars.length k0, .slice a1 p.vols.length k1, .slice a2 p.locks.length k2, .slice a3 p.bars.length k3, .slice a4 p.thrs.length k4] 28)
  have HBX := hid hbx
  clear hp hv hg hbd hlen hbx
  go_enter Try.func10, Try.ntmps10
  go_wp2_with (first
    | (go_at_call 17; (with_reducible refine (HP.out _ hca).mono ?_); rintro e w1 ⟨rfl, hc1⟩; have hb := hc1.heap HBX.out (by simp); have y0 := (blk_cell hb 0).trans rfl; have y1 := (blk_cell hb 1).trans rfl; have y2 := (blk_cell hb 2).trans rfl; have y3 := (blk_cell hb 3).trans rfl; have y4 := (blk_cell hb 4).trans rfl; clear hb)
    | (go_at_call 25; (with_reducible refine (HB.out _ (hca.trans' hc1)).mono ?_); rintro e w2 ⟨l2, ao2, cap2, r2, rfl, hr2, hf2, hc2, HL2⟩)
    | (go_at_call 19; refine (q_frame_calls 1 _ l2 w2 hr2.view (by have := HL.out; rw [HL2.out]; omega)).mono ?_; rintro e w3 ⟨l3, ao3, cap3, r3, rfl, hr3, hf3, hc3, HL3⟩))
  go_ret2
  exact ⟨l3, ao3, cap3, r3, rfl, hr3, hf3.mono (((hca.trans' hc1).trans' hc2).size), ((hca.trans' hc1).trans' hc2).trans' hc3, hid (by rw [HL3.out, HL2.out])⟩
end Go.Proofs.Ytbikekgljabalaa
