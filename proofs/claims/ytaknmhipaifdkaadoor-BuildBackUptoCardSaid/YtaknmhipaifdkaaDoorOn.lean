/- Walks of the builder's laws: works. -/
import Derived.Test.YtaknmhipaifdkaaDoorOm
set_option linter.unusedSimpArgs false
set_option linter.unusedVariables false
set_option linter.unusedSectionVars false
namespace Go.AB
open Go.RowKit
theorem alloc2 (w : World) (a b : Obj) : ((w.alloc a).alloc b).heap[w.heap.size]? = some a ∧ ((w.alloc a).alloc b).heap[w.heap.size + 1]? = some b := by
  have h := heap_alloc_new (w.alloc a) b
  rw [World.size_alloc] at h
  exact ⟨blk_alloc_old (heap_alloc_new w a) b, h⟩
end Go.AB
namespace Go.Proofs.YtaknmhipaifdkaaDoor
open Go.RowKit Go.AB
set_option linter.unusedSimpArgs false
set_option linter.unusedVariables false
set_option linter.unusedSectionVars false

theorem SmV.rename {w0 w : World} {nm nm' : ByteArray} {d i t : Nat} (h : SmV w0 w nm d i t) : SmV w0 (w.setCell ⟨t, 0, none⟩ (.string nm')) nm' d i t :=
  ⟨(blk_set_other h.ge.2.2.2.1 _ _).trans h.hd, (blk_set_other h.ge.2.2.2.2 _ _).trans h.hi, blk_set h.ht 0 (.string nm'), h.ge⟩

set_option maxHeartbeats 8000000 in
set_option maxRecDepth 100000 in
theorem works_calls (w : World) : Calls Tryd.prog 5 #[] w fun e w' => e = .returned (.bool true) ∧ Chg [] w w' := by
  have hgp := guard_plc
  have hgi := guard_ins
  have hnp := neq_plc28
  have hei := eql_ins_same
  go_enter Tryd.func5, Tryd.ntmps5
  go_wp2_with (go_at_call 14; refine halt (fun X hX => ?_))
  rw [hX.out]; clear hX
  refine (small_calls _).mono ?_
  rintro e w1 ⟨d1, i1, t1, rfl, hs1, hc1⟩
  have hp1 := program_calls (smallU_small ⟨#[116]⟩ (by decide)) w1 hs1.unV
  rw [small_good] at hp1
  have HP1 := hid hp1
  clear hp1 hs1
  go_wp2_with (go_at_call 6; refine halt (fun X hX => ?_))
  rw [hX.out]; clear hX
  refine (show Calls Tryd.prog 6 #[smV d1 t1] w1 _ from HP1.out).mono ?_
  rintro e w2 (⟨f, hd, _⟩ | ⟨p, vp, hd, rfl, hv, hc2⟩)
  · cases hd
  simp only [Except.ok.injEq] at hd
  obtain ⟨b0, o0, k0, a1, k1, a2, k2, a3, k3, b4, o4, k4, bc, oc, kc, rfl, hlook⟩ := smallP_look (w := w2) (v := vp) (by have := hv.now; rw [← hd] at this; exact this)
  have HLK := hid hlook
  have HCF := hid (hc1.trans hc2 (by simp))
  clear hd hv hlook HP1 hc1 hc2
  go_wp2_with (go_at_call 14; refine halt (fun X hX => ?_))
  rw [hX.out]; clear hX
  refine (small_calls _).mono ?_
  rintro e w3 ⟨d3, i3, t3, rfl, hs3, hc3⟩
  have hk3 : ∀ o, (w3.alloc o).cell? ⟨t3, 0, none⟩ = some (.string ⟨#[116]⟩) := fun o => blk_cell (blk_alloc_old hs3.ht o) 0
  have hf3 : ∀ o, (w3.alloc o).frozen? ⟨t3, 0, none⟩ = false := fun o => blk_free (blk_alloc_old hs3.ht o) 0
  have n3 : t3 ≠ w3.heap.size := by have := blk_lt hs3.ht; omega
  have n3' : w3.heap.size ≠ t3 := by omega
  have HB3 : ∀ o, Calls Tryd.prog 6 #[.agg #[.slice (some ⟨d3, 0, none⟩) 1 1, .slice (some ⟨t3, 0, none⟩) 1 1]] ((w3.alloc o).setCell ⟨t3, 0, none⟩ (.string ⟨#[120]⟩)) (ProgP ((w3.alloc o).setCell ⟨t3, 0, none⟩ (.string ⟨#[120]⟩)) (.error ⟨90, 2, 8⟩)) := by
    intro o
    have h := program_calls (smallU_small ⟨#[120]⟩ (by decide)) _ ((hs3.keep ((Chg.refl [] w3).alloc o)).rename (nm' := ⟨#[120]⟩)).unV
    rw [small_bad] at h
    exact h
  have HS3 := hid hs3.ge.2.2.1
  clear hs3
  unfold smV
  go_wp2_with (go_at_call 6; refine halt (fun X hX => ?_))
  rw [hX.out]; clear hX
  refine (HB3 _).mono ?_
  clear HB3
  rintro e w4 (⟨f, hd, rfl, hc4⟩ | ⟨p, vp, hd, _⟩)
  case inr => cases hd
  simp only [Except.error.injEq] at hd
  subst hd
  have hc24 := Chg.trans (Chg.setCell (Chg.alloc hc3 (.cells #[.slice (some ⟨d3, 0, none⟩) 1 1, .slice (some ⟨t3, 0, none⟩) 1 1] 25)) (p := ⟨t3, 0, none⟩) (.inr HS3.out) (.string ⟨#[120]⟩)) hc4 (by simp)
  clear HS3 hk3 hf3 n3 n3'
  simp only [noPrg]
  go_wp2_with (go_at_call 14; refine halt (fun X hX => ?_))
  rw [hX.out]; clear hX
  refine (small_calls _).mono ?_
  rintro e w5 ⟨d5, i5, t5, rfl, hs5, hc5⟩
  have ht5 := hs5.ht
  have k0 : w5.cell? ⟨t5, 0, none⟩ = some (.string ⟨#[116]⟩) := blk_cell ht5 0
  have k1 : w5.cell? ⟨t5, 1, none⟩ = some (.slice (some ⟨i5, 0, none⟩) 3 3) := blk_cell ht5 1
  have k2 : w5.cell? ⟨t5, 2, none⟩ = some (.int .i64 2) := blk_cell ht5 2
  have k3 : w5.cell? ⟨t5, 3, none⟩ = some (.int .i64 8) := blk_cell ht5 3
  have HL := labels_ok (smallB ⟨#[116]⟩) (fun x hx => ((smallU_small ⟨#[116]⟩ (by decide)).bn (smallB ⟨#[116]⟩) (by simp [smallU])).2.2 x hx) (by simp [smallB, smallI]) w5 (View.ofblk (n := 3) (k := 10) hs5.hi rfl (by simp [maxLen])) small_ways
  simp only [smallB] at HL
  have HL' := hid HL
  clear HL ht5 hs5
  have hfd : ∀ (u : World) (a b : Value), (Instr.field 25 (.agg #[a, b]) 1).run Tryd.prog u = .ok b u := fun _ _ _ => by kernel_rfl
  unfold smV
  go_wp2_with (go_at_call 15; refine halt (fun X hX => ?_))
  rw [hX.out]; clear hX
  refine HL'.out.mono ?_
  clear HL' k0 k1 k2 k3
  rintro e w6 ⟨vo, rfl, hvo, hc6⟩
  obtain ⟨bv, ov, cv, rfl, hcv, hcm, hv0⟩ : ∃ bv ov cv, vo = .slice (some ⟨bv, ov, none⟩) 1 cv ∧ 1 ≤ cv ∧ cv ≤ maxLen ∧ w6.cell? ⟨bv, ov, none⟩ = some (.int .i64 0) := by
    obtain ⟨_, _, av, cv, rfl, h1, h2, _, h6⟩ := hvo
    obtain ⟨b, o, rfl, hc⟩ := h6 (by decide)
    exact ⟨b, o, cv, rfl, h1, h2, by simpa [intV] using hc 0 (by decide)⟩
  have hcf := Chg.alloc (((Chg.alloc (Chg.alloc hc24 (.cells #[.slice none 0 0, .slice none 0 0, .slice none 0 0, .slice none 0 0, .slice none 0 0] 32)) (.cells #[.int .i64 90, .int .i64 2, .int .i64 8] 37)).trans hc5 (by simp)).trans hc6 (by simp)) (.cells #[.int .i64 0, .int .i64 0, .int .i64 0] 37)
  have f2 := hcf.heap (alloc2 w2 _ _).2 (by simp)
  have f1 := hcf.heap (alloc2 w2 _ _).1 (by simp)
  have f5 := (Chg.alloc (hc5.trans hc6 (by simp)) (.cells #[.int .i64 0, .int .i64 0, .int .i64 0] 37)).heap (alloc2 w4 _ _).2 (by simp)
  have f7 := heap_alloc_new w6 (.cells #[.int .i64 0, .int .i64 0, .int .i64 0] 37)
  have fv := (Chg.alloc (Chg.refl [] w6) (.cells #[.int .i64 0, .int .i64 0, .int .i64 0] 37)).cell hv0 (by simp)
  have hcw : Chg [] w2 (w6.alloc (.cells #[.int .i64 0, .int .i64 0, .int .i64 0] 37)) := (((Chg.refl [] w2).alloc _).alloc _).trans hcf (by simp)
  have hfin := hid (hcw)
  clear hc24 hc3 hc5 hc6 hv0 hcf hc4
  go_upto_region 6 with fail
  obtain ⟨W, hW⟩ : ∃ W, w6.alloc (.cells #[.int .i64 0, .int .i64 0, .int .i64 0] 37) = W := ⟨_, rfl⟩
  rw [hW] at f1 f2 f5 f7 fv hcw
  rw [hW]
  clear hfin
  have a0 : W.cell? ⟨w2.heap.size, 0, none⟩ = some (.slice (some ⟨b0, o0, none⟩) 1 k0) := blk_cell f1 0
  have a4 : W.cell? ⟨w2.heap.size, 4, none⟩ = some (.slice (some ⟨b4, o4, none⟩) 1 k4) := blk_cell f1 4
  have e0 : W.cell? ⟨w2.heap.size + 1, 0, none⟩ = some (.int .i64 0) := blk_cell f2 0
  have g0 : W.cell? ⟨w4.heap.size + 1, 0, none⟩ = some (.int .i64 90) := blk_cell f5 0
  have g1 : W.cell? ⟨w4.heap.size + 1, 1, none⟩ = some (.int .i64 2) := blk_cell f5 1
  have g2 : W.cell? ⟨w4.heap.size + 1, 2, none⟩ = some (.int .i64 8) := blk_cell f5 2
  have i0 : W.cell? ⟨w6.heap.size, 0, none⟩ = some (.int .i64 0) := blk_cell f7 0
  obtain ⟨x0, x1, ⟨y0, y1, y2, y3, y4⟩, ⟨z0, z1, z2, z3, z4⟩⟩ := HLK.out W hcw
  have hcF : Chg [] w W := HCF.out.trans hcw (by simp)
  have HF := hid hcF
  clear hcF HCF hcw hW f1 f2 f5 f7 HLK
  go_wp2_with (go_at_call 9; refine halt (fun X hX => ?_))
  rw [hX.out]; clear hX
  refine (num_calls 90 W).mono ?_
  rintro e u ⟨rfl, rfl⟩
  go_wp2_with fail
  exact bodyPost_ret (v := .bool true) (by simp [results, Tryd.results5, go_sem]) rfl ⟨rfl, HF.out⟩
end Go.Proofs.YtaknmhipaifdkaaDoor
