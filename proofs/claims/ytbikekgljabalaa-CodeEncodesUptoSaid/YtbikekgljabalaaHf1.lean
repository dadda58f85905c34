/- Walks of the code layer: an instruction taken off, four of its twelve ways. -/
import Derived.Test.YtbikekgljabalaaM05
namespace Go.Proofs.Ytbikekgljabalaa
open Go.RowKit Go.AB
set_option linter.unusedSimpArgs false
set_option linter.unusedVariables false
set_option linter.unusedSectionVars false
section
variable {w : World} {b : Nat} {l : List UInt8} {ao : Option Addr} {cap q op v c p1 h1 b1 p2 h2 b2 p3 h3 b3 p4 h4 b4 : Nat} {n : Int} {ib : Bool}
set_option maxHeartbeats 8000000 in
set_option maxRecDepth 100000 in
theorem dinstr_0000 (h : DIn w b l ao cap q op v c n p1 h1 b1 p2 h2 b2 p3 h3 b3 p4 h4 b4 ib false false false false) : Calls Try.prog 87 #[.agg #[.pointer (some ⟨b, 0, none⟩)]] w (DV insV w b l ao cap (dIns l q)) := by
  obtain ⟨hO, hl, ho, hv, hc, hT1, hT2, hT3, hT4, hX', HI, HN, HG, HGN, hgood⟩ := h
  have hbl := blk_lt hO.rd.blk
  have zo : wrap64 (op : Int) = (op : Int) := IntWalk.wrap64_in _ (by omega)
  have zv : wrap64 (v : Int) = (v : Int) := IntWalk.wrap64_in _ (by omega)
  have zc : wrap64 (c : Int) = (c : Int) := IntWalk.wrap64_in _ (by omega)
  have hz15 := and15 v hv
  have HT1 := hid hT1
  clear hT1
  have hR0 := (hO.keep ((((Chg.refl [] w).alloc (.cells #[.pointer (some ⟨b, 0, none⟩)] 89))).alloc (.cells #[.int .i64 0, .int .i64 0, .int .i64 0, .int .i64 0, .int .i64 0] 61))).rd
  simp only [if_true, if_false, Bool.false_eq_true, Prod.mk.injEq, RS.mk.injEq] at hT2 hT3 hT4 hX'
  obtain ⟨rfl, rfl, rfl, rfl⟩ := hT2
  obtain ⟨rfl, rfl, rfl, rfl⟩ := hT3
  obtain ⟨rfl, rfl, rfl, rfl⟩ := hT4
  have HIX : Hid (∀ u : World, Calls Try.prog 32 #[.agg #[.int .i64 (op : Int), .int .i64 0, .int .i64 0, .int .i64 0, .int .i64 0]] u fun e w' => e = .returned (.bool ib) ∧ Chg [] u w') := hid (by have h := HI.out; rw [← hX'] at h; exact h)
  have HRX : Hid (insV (insOf (op, 0, 0, 0)) = .agg #[.int .i64 (op : Int), .int .i64 0, .int .i64 0, .int .i64 0, .int .i64 0]) := hid (by rw [← hX']; rfl)
  clear HI hX'
  go_enter Try.func87, Try.ntmps87
  go_wp2_with (go_at_call 105; refine (take_u8_calls hR0 (by omega)).mono ?_; rw [HT1.out]; rintro e w2 ⟨rfl, hR, hc2⟩; refine halt (fun X hX => ?_))
  rw [hX.out]; clear hX
  have hIS := IS.start hO hc2 hR (.int .i64 (op : Int))
  obtain ⟨hbox, x0, x1, x2, x3, x4, f1, f2, f3, f4, n1, n2⟩ := hIS.facts
  have HIS := hid hIS
  clear hIS hR hc2
  go_wp2_with (first
      | (go_at_call 22; refine (HN.out _).mono ?_; rintro e w' ⟨rfl, rfl⟩))
  have hU := HIS.out
  obtain ⟨U, hUe⟩ : ∃ U : World, U = (w2.alloc (.cells #[.int .i64 (op : Int), .int .i64 0, .int .i64 0, .int .i64 0, .int .i64 0] 61)) := ⟨_, rfl⟩
  rw [← hUe] at hU ⊢
  clear hUe hbox x0 x1 x2 x3 x4 f1 f2 f3 f4 n1 n2
  obtain ⟨hbox, x0, x1, x2, x3, x4, f1, f2, f3, f4, n1, n2⟩ := hU.facts
  have HU := hid hU
  clear hU
  rcases hgood with ⟨g1, g2⟩ | g1
  · subst g1 g2
    (refine wp_region_held_drew (S := (fun w' => w'.cell? ⟨w.heap.size, 0, none⟩ = some (.pointer (some ⟨b, 0, none⟩)) ∧ w'.cell? ⟨w2.heap.size, 0, none⟩ = some (.int .i64 (op : Int)) ∧ w'.cell? ⟨w2.heap.size, 1, none⟩ = some (.int .i64 0) ∧ w'.cell? ⟨w2.heap.size, 2, none⟩ = some (.int .i64 0) ∧ w'.cell? ⟨w2.heap.size, 3, none⟩ = some (.int .i64 0) ∧ w'.cell? ⟨w2.heap.size, 4, none⟩ = some (.int .i64 0))) (by kernel_rfl) (by exact ⟨hbox, x0, x1, x2, x3, x4⟩) (fun hHeld => ?_); (refine wpAnyH_take (i := 0) (v := ?_) rfl (by kernel_rfl) (by kernel_rfl) (by kernel_rfl) (fun _ _ _ h => h) (Or.inl ⟨by rfl, ?_⟩) (by assumption) ?_; rotate_left 1; (focus (intro w hSw; (try dsimp only at hSw); go_simp; (try with_reducible rfl))); (try simp only [List.getElem_toArray, List.getElem_cons_zero, List.getElem_cons_succ, Act.put, List.setIfInBounds_toArray, List.set_cons_zero, List.set_cons_succ])); (refine wpAnyH_take (i := 1) (v := ?_) rfl (by kernel_rfl) (by kernel_rfl) (by kernel_rfl) (fun _ _ _ h => h) (Or.inl ⟨by rfl, ?_⟩) (by assumption) ?_; rotate_left 1; (focus (intro w hSw; (try dsimp only at hSw); go_simp; (try with_reducible rfl))); (try simp only [List.getElem_toArray, List.getElem_cons_zero, List.getElem_cons_succ, Act.put, List.setIfInBounds_toArray, List.set_cons_zero, List.set_cons_succ])); (refine wpAnyH_ready (rs := [2]) (by kernel_rfl) (by simp) ?_; refine AllReadyH.cons rfl (fun K hK => ?_) AllReadyH.nil; go_simp); (go_at_call 32; refine (HIX.out _).mono ?_; rintro e w6 ⟨rfl, hc6⟩); (refine hK.out _ _ (by exact (by obtain ⟨a, b, c, d, e, f, _⟩ := (HU.out.same ((Chg.of_drewN [] U 1).trans' hc6)).facts; exact ⟨a, b, c, d, e, f⟩)) (fun hHeld => ?_); clear hK K; (try simp only [List.getElem_toArray, List.getElem_cons_zero, List.getElem_cons_succ, Act.put, List.setIfInBounds_toArray, List.set_cons_zero, List.set_cons_succ])); (refine wpAnyH_ready (rs := [3]) (by kernel_rfl) (by simp) ?_; refine AllReadyH.cons rfl (fun K hK => ?_) AllReadyH.nil; go_simp); (go_at_call 48; refine (sure_ok ((HU.out.same ((Chg.of_drewN [] U 1).trans' hc6)).rd)).mono ?_; rintro e w7 ⟨rfl, hc7⟩); (refine hK.out _ _ (by exact (by obtain ⟨a, b, c, d, e, f, _⟩ := (HU.out.same (((Chg.of_drewN [] U 1).trans' hc6).trans' hc7)).facts; exact ⟨a, b, c, d, e, f⟩)) (fun hHeld => ?_); clear hK K; (try simp only [List.getElem_toArray, List.getElem_cons_zero, List.getElem_cons_succ, Act.put, List.setIfInBounds_toArray, List.set_cons_zero, List.set_cons_succ])); refine wpAnyH_done (by kernel_rfl) ?_ _)
    all_goals
      have hU7 := HU.out.same (((Chg.of_drewN [] U 1).trans' hc6).trans' hc7)
      obtain ⟨y0, y1, y2, y3, y4, r0, r1, r2, r3, r4, q0, q1, q2, q3, q4⟩ := hU7.outs
      have HU7 := hid hU7
      clear hU7 hbox x0 x1 x2 x3 x4 f1 f2 f3 f4
      go_wp2
      exact bodyPost_ret (v := .agg #[.int .i64 (op : Int), .int .i64 0, .int .i64 0, .int .i64 0, .int .i64 0]) (by simp [results, Try.results87, go_sem, y0, y1, y2, y3, y4, r0, r1, r2, r3, r4]) rfl (HU7.out.done (HG.out (by simp) (by simp)) HRX.out)
  · (refine wp_region_held_drew (S := (fun w' => w'.cell? ⟨w.heap.size, 0, none⟩ = some (.pointer (some ⟨b, 0, none⟩)) ∧ w'.cell? ⟨w2.heap.size, 0, none⟩ = some (.int .i64 (op : Int)) ∧ w'.cell? ⟨w2.heap.size, 1, none⟩ = some (.int .i64 0) ∧ w'.cell? ⟨w2.heap.size, 2, none⟩ = some (.int .i64 0) ∧ w'.cell? ⟨w2.heap.size, 3, none⟩ = some (.int .i64 0) ∧ w'.cell? ⟨w2.heap.size, 4, none⟩ = some (.int .i64 0))) (by kernel_rfl) (by exact ⟨hbox, x0, x1, x2, x3, x4⟩) (fun hHeld => ?_); (refine wpAnyH_take (i := 0) (v := ?_) rfl (by kernel_rfl) (by kernel_rfl) (by kernel_rfl) (fun _ _ _ h => h) (Or.inl ⟨by rfl, ?_⟩) (by assumption) ?_; rotate_left 1; (focus (intro w hSw; (try dsimp only at hSw); go_simp; (try with_reducible rfl))); (try simp only [List.getElem_toArray, List.getElem_cons_zero, List.getElem_cons_succ, Act.put, List.setIfInBounds_toArray, List.set_cons_zero, List.set_cons_succ])); (refine wpAnyH_take (i := 1) (v := ?_) rfl (by kernel_rfl) (by kernel_rfl) (by kernel_rfl) (fun _ _ _ h => h) (Or.inl ⟨by rfl, ?_⟩) (by assumption) ?_; rotate_left 1; (focus (intro w hSw; (try dsimp only at hSw); go_simp; (try with_reducible rfl))); (try simp only [List.getElem_toArray, List.getElem_cons_zero, List.getElem_cons_succ, Act.put, List.setIfInBounds_toArray, List.set_cons_zero, List.set_cons_succ])); (refine wpAnyH_ready (rs := [2]) (by kernel_rfl) (by simp) ?_; refine AllReadyH.cons rfl (fun K hK => ?_) AllReadyH.nil; go_simp); (go_at_call 32; refine (HIX.out _).mono ?_; rintro e w6 ⟨rfl, hc6⟩); (refine hK.out _ _ (by exact (by obtain ⟨a, b, c, d, e, f, _⟩ := (HU.out.same ((Chg.of_drewN [] U 1).trans' hc6)).facts; exact ⟨a, b, c, d, e, f⟩)) (fun hHeld => ?_); clear hK K; (try simp only [List.getElem_toArray, List.getElem_cons_zero, List.getElem_cons_succ, Act.put, List.setIfInBounds_toArray, List.set_cons_zero, List.set_cons_succ])); (refine wpAnyH_ready (rs := [3]) (by kernel_rfl) (by simp) ?_; refine AllReadyH.cons rfl (fun K hK => ?_) AllReadyH.nil; go_simp); (go_at_call 48; refine (sure_gone ((HU.out.same ((Chg.of_drewN [] U 1).trans' hc6)).rd) _ g1).mono ?_; rintro e w7 ⟨rfl, hc7⟩; unfold gaveUp; exact ⟨rfl, .inr ⟨HGN.out g1, rfl, (HU.out.same (((Chg.of_drewN [] U 1).trans' hc6).trans' hc7)).chg⟩⟩))
set_option maxHeartbeats 8000000 in
set_option maxRecDepth 100000 in
theorem dinstr_0001 (h : DIn w b l ao cap q op v c n p1 h1 b1 p2 h2 b2 p3 h3 b3 p4 h4 b4 ib false false false true) : Calls Try.prog 87 #[.agg #[.pointer (some ⟨b, 0, none⟩)]] w (DV insV w b l ao cap (dIns l q)) := by
  obtain ⟨hO, hl, ho, hv, hc, hT1, hT2, hT3, hT4, hX', HI, HN, HG, HGN, hgood⟩ := h
  have hbl := blk_lt hO.rd.blk
  have zo : wrap64 (op : Int) = (op : Int) := IntWalk.wrap64_in _ (by omega)
  have zv : wrap64 (v : Int) = (v : Int) := IntWalk.wrap64_in _ (by omega)
  have zc : wrap64 (c : Int) = (c : Int) := IntWalk.wrap64_in _ (by omega)
  have hz15 := and15 v hv
  have HT1 := hid hT1
  clear hT1
  have hR0 := (hO.keep ((((Chg.refl [] w).alloc (.cells #[.pointer (some ⟨b, 0, none⟩)] 89))).alloc (.cells #[.int .i64 0, .int .i64 0, .int .i64 0, .int .i64 0, .int .i64 0] 61))).rd
  simp only [if_true, if_false, Bool.false_eq_true, Prod.mk.injEq, RS.mk.injEq] at hT2 hT3 hT4 hX'
  obtain ⟨rfl, rfl, rfl, rfl⟩ := hT2
  obtain ⟨rfl, rfl, rfl, rfl⟩ := hT3
  have HT4 := hid hT4
  clear hT4
  have HIX : Hid (∀ u : World, Calls Try.prog 32 #[.agg #[.int .i64 (op : Int), .int .i64 0, .int .i64 0, .int .i64 0, .int .i64 n]] u fun e w' => e = .returned (.bool ib) ∧ Chg [] u w') := hid (by have h := HI.out; rw [← hX'] at h; exact h)
  have HRX : Hid (insV (insOf (op, 0, 0, n)) = .agg #[.int .i64 (op : Int), .int .i64 0, .int .i64 0, .int .i64 0, .int .i64 n]) := hid (by rw [← hX']; rfl)
  clear HI hX'
  go_enter Try.func87, Try.ntmps87
  go_wp2_with (go_at_call 105; refine (take_u8_calls hR0 (by omega)).mono ?_; rw [HT1.out]; rintro e w2 ⟨rfl, hR, hc2⟩; refine halt (fun X hX => ?_))
  rw [hX.out]; clear hX
  have hIS := IS.start hO hc2 hR (.int .i64 (op : Int))
  obtain ⟨hbox, x0, x1, x2, x3, x4, f1, f2, f3, f4, n1, n2⟩ := hIS.facts
  have HIS := hid hIS
  clear hIS hR hc2
  go_wp2_with (first
      | (go_at_call 22; refine (HN.out _).mono ?_; rintro e w' ⟨rfl, rfl⟩)
      | (go_at_call 49; refine (rsigned_calls HIS.out.rd (by omega)).mono ?_; rw [HT4.out]; rintro e w5 ⟨rfl, hR5, hc5⟩; have hIS5 := HIS.out.take hc5 hR5; obtain ⟨hbox, x0, x1, x2, x3, x4, f1, f2, f3, f4, n1, n2⟩ := hIS5.facts; have HIS5 := hid hIS5; clear hIS5 hR5 hc5))
  have hU := (HIS5.out.set4 (.int .i64 n))
  obtain ⟨U, hUe⟩ : ∃ U : World, U = (w5.setCell ⟨w2.heap.size, 4, none⟩ (.int .i64 n)) := ⟨_, rfl⟩
  rw [← hUe] at hU ⊢
  clear hUe hbox x0 x1 x2 x3 x4 f1 f2 f3 f4 n1 n2
  obtain ⟨hbox, x0, x1, x2, x3, x4, f1, f2, f3, f4, n1, n2⟩ := hU.facts
  have HU := hid hU
  clear hU
  rcases hgood with ⟨g1, g2⟩ | g1
  · subst g1 g2
    (refine wp_region_held_drew (S := (fun w' => w'.cell? ⟨w.heap.size, 0, none⟩ = some (.pointer (some ⟨b, 0, none⟩)) ∧ w'.cell? ⟨w2.heap.size, 0, none⟩ = some (.int .i64 (op : Int)) ∧ w'.cell? ⟨w2.heap.size, 1, none⟩ = some (.int .i64 0) ∧ w'.cell? ⟨w2.heap.size, 2, none⟩ = some (.int .i64 0) ∧ w'.cell? ⟨w2.heap.size, 3, none⟩ = some (.int .i64 0) ∧ w'.cell? ⟨w2.heap.size, 4, none⟩ = some (.int .i64 n))) (by kernel_rfl) (by exact ⟨hbox, x0, x1, x2, x3, x4⟩) (fun hHeld => ?_); (refine wpAnyH_take (i := 0) (v := ?_) rfl (by kernel_rfl) (by kernel_rfl) (by kernel_rfl) (fun _ _ _ h => h) (Or.inl ⟨by rfl, ?_⟩) (by assumption) ?_; rotate_left 1; (focus (intro w hSw; (try dsimp only at hSw); go_simp; (try with_reducible rfl))); (try simp only [List.getElem_toArray, List.getElem_cons_zero, List.getElem_cons_succ, Act.put, List.setIfInBounds_toArray, List.set_cons_zero, List.set_cons_succ])); (refine wpAnyH_take (i := 1) (v := ?_) rfl (by kernel_rfl) (by kernel_rfl) (by kernel_rfl) (fun _ _ _ h => h) (Or.inl ⟨by rfl, ?_⟩) (by assumption) ?_; rotate_left 1; (focus (intro w hSw; (try dsimp only at hSw); go_simp; (try with_reducible rfl))); (try simp only [List.getElem_toArray, List.getElem_cons_zero, List.getElem_cons_succ, Act.put, List.setIfInBounds_toArray, List.set_cons_zero, List.set_cons_succ])); (refine wpAnyH_ready (rs := [2]) (by kernel_rfl) (by simp) ?_; refine AllReadyH.cons rfl (fun K hK => ?_) AllReadyH.nil; go_simp); (go_at_call 32; refine (HIX.out _).mono ?_; rintro e w6 ⟨rfl, hc6⟩); (refine hK.out _ _ (by exact (by obtain ⟨a, b, c, d, e, f, _⟩ := (HU.out.same ((Chg.of_drewN [] U 1).trans' hc6)).facts; exact ⟨a, b, c, d, e, f⟩)) (fun hHeld => ?_); clear hK K; (try simp only [List.getElem_toArray, List.getElem_cons_zero, List.getElem_cons_succ, Act.put, List.setIfInBounds_toArray, List.set_cons_zero, List.set_cons_succ])); (refine wpAnyH_ready (rs := [3]) (by kernel_rfl) (by simp) ?_; refine AllReadyH.cons rfl (fun K hK => ?_) AllReadyH.nil; go_simp); (go_at_call 48; refine (sure_ok ((HU.out.same ((Chg.of_drewN [] U 1).trans' hc6)).rd)).mono ?_; rintro e w7 ⟨rfl, hc7⟩); (refine hK.out _ _ (by exact (by obtain ⟨a, b, c, d, e, f, _⟩ := (HU.out.same (((Chg.of_drewN [] U 1).trans' hc6).trans' hc7)).facts; exact ⟨a, b, c, d, e, f⟩)) (fun hHeld => ?_); clear hK K; (try simp only [List.getElem_toArray, List.getElem_cons_zero, List.getElem_cons_succ, Act.put, List.setIfInBounds_toArray, List.set_cons_zero, List.set_cons_succ])); refine wpAnyH_done (by kernel_rfl) ?_ _)
    all_goals
      have hU7 := HU.out.same (((Chg.of_drewN [] U 1).trans' hc6).trans' hc7)
      obtain ⟨y0, y1, y2, y3, y4, r0, r1, r2, r3, r4, q0, q1, q2, q3, q4⟩ := hU7.outs
      have HU7 := hid hU7
      clear hU7 hbox x0 x1 x2 x3 x4 f1 f2 f3 f4
      go_wp2
      exact bodyPost_ret (v := .agg #[.int .i64 (op : Int), .int .i64 0, .int .i64 0, .int .i64 0, .int .i64 n]) (by simp [results, Try.results87, go_sem, y0, y1, y2, y3, y4, r0, r1, r2, r3, r4]) rfl (HU7.out.done (HG.out (by simp) (by simp)) HRX.out)
  · (refine wp_region_held_drew (S := (fun w' => w'.cell? ⟨w.heap.size, 0, none⟩ = some (.pointer (some ⟨b, 0, none⟩)) ∧ w'.cell? ⟨w2.heap.size, 0, none⟩ = some (.int .i64 (op : Int)) ∧ w'.cell? ⟨w2.heap.size, 1, none⟩ = some (.int .i64 0) ∧ w'.cell? ⟨w2.heap.size, 2, none⟩ = some (.int .i64 0) ∧ w'.cell? ⟨w2.heap.size, 3, none⟩ = some (.int .i64 0) ∧ w'.cell? ⟨w2.heap.size, 4, none⟩ = some (.int .i64 n))) (by kernel_rfl) (by exact ⟨hbox, x0, x1, x2, x3, x4⟩) (fun hHeld => ?_); (refine wpAnyH_take (i := 0) (v := ?_) rfl (by kernel_rfl) (by kernel_rfl) (by kernel_rfl) (fun _ _ _ h => h) (Or.inl ⟨by rfl, ?_⟩) (by assumption) ?_; rotate_left 1; (focus (intro w hSw; (try dsimp only at hSw); go_simp; (try with_reducible rfl))); (try simp only [List.getElem_toArray, List.getElem_cons_zero, List.getElem_cons_succ, Act.put, List.setIfInBounds_toArray, List.set_cons_zero, List.set_cons_succ])); (refine wpAnyH_take (i := 1) (v := ?_) rfl (by kernel_rfl) (by kernel_rfl) (by kernel_rfl) (fun _ _ _ h => h) (Or.inl ⟨by rfl, ?_⟩) (by assumption) ?_; rotate_left 1; (focus (intro w hSw; (try dsimp only at hSw); go_simp; (try with_reducible rfl))); (try simp only [List.getElem_toArray, List.getElem_cons_zero, List.getElem_cons_succ, Act.put, List.setIfInBounds_toArray, List.set_cons_zero, List.set_cons_succ])); (refine wpAnyH_ready (rs := [2]) (by kernel_rfl) (by simp) ?_; refine AllReadyH.cons rfl (fun K hK => ?_) AllReadyH.nil; go_simp); (go_at_call 32; refine (HIX.out _).mono ?_; rintro e w6 ⟨rfl, hc6⟩); (refine hK.out _ _ (by exact (by obtain ⟨a, b, c, d, e, f, _⟩ := (HU.out.same ((Chg.of_drewN [] U 1).trans' hc6)).facts; exact ⟨a, b, c, d, e, f⟩)) (fun hHeld => ?_); clear hK K; (try simp only [List.getElem_toArray, List.getElem_cons_zero, List.getElem_cons_succ, Act.put, List.setIfInBounds_toArray, List.set_cons_zero, List.set_cons_succ])); (refine wpAnyH_ready (rs := [3]) (by kernel_rfl) (by simp) ?_; refine AllReadyH.cons rfl (fun K hK => ?_) AllReadyH.nil; go_simp); (go_at_call 48; refine (sure_gone ((HU.out.same ((Chg.of_drewN [] U 1).trans' hc6)).rd) _ g1).mono ?_; rintro e w7 ⟨rfl, hc7⟩; unfold gaveUp; exact ⟨rfl, .inr ⟨HGN.out g1, rfl, (HU.out.same (((Chg.of_drewN [] U 1).trans' hc6).trans' hc7)).chg⟩⟩))
set_option maxHeartbeats 8000000 in
set_option maxRecDepth 100000 in
theorem dinstr_0010 (h : DIn w b l ao cap q op v c n p1 h1 b1 p2 h2 b2 p3 h3 b3 p4 h4 b4 ib false false true false) : Calls Try.prog 87 #[.agg #[.pointer (some ⟨b, 0, none⟩)]] w (DV insV w b l ao cap (dIns l q)) := by
  obtain ⟨hO, hl, ho, hv, hc, hT1, hT2, hT3, hT4, hX', HI, HN, HG, HGN, hgood⟩ := h
  have hbl := blk_lt hO.rd.blk
  have zo : wrap64 (op : Int) = (op : Int) := IntWalk.wrap64_in _ (by omega)
  have zv : wrap64 (v : Int) = (v : Int) := IntWalk.wrap64_in _ (by omega)
  have zc : wrap64 (c : Int) = (c : Int) := IntWalk.wrap64_in _ (by omega)
  have hz15 := and15 v hv
  have HT1 := hid hT1
  clear hT1
  have hR0 := (hO.keep ((((Chg.refl [] w).alloc (.cells #[.pointer (some ⟨b, 0, none⟩)] 89))).alloc (.cells #[.int .i64 0, .int .i64 0, .int .i64 0, .int .i64 0, .int .i64 0] 61))).rd
  simp only [if_true, if_false, Bool.false_eq_true, Prod.mk.injEq, RS.mk.injEq] at hT2 hT3 hT4 hX'
  obtain ⟨rfl, rfl, rfl, rfl⟩ := hT2
  have HT3 := hid hT3
  obtain ⟨rfl, rfl, rfl, rfl⟩ := hT4
  clear hT3
  have HIX : Hid (∀ u : World, Calls Try.prog 32 #[.agg #[.int .i64 (op : Int), .int .i64 0, .int .i64 0, .int .i64 (c : Int), .int .i64 0]] u fun e w' => e = .returned (.bool ib) ∧ Chg [] u w') := hid (by have h := HI.out; rw [← hX'] at h; exact h)
  have HRX : Hid (insV (insOf (op, 0, c, 0)) = .agg #[.int .i64 (op : Int), .int .i64 0, .int .i64 0, .int .i64 (c : Int), .int .i64 0]) := hid (by rw [← hX']; rfl)
  clear HI hX'
  go_enter Try.func87, Try.ntmps87
  go_wp2_with (go_at_call 105; refine (take_u8_calls hR0 (by omega)).mono ?_; rw [HT1.out]; rintro e w2 ⟨rfl, hR, hc2⟩; refine halt (fun X hX => ?_))
  rw [hX.out]; clear hX
  have hIS := IS.start hO hc2 hR (.int .i64 (op : Int))
  obtain ⟨hbox, x0, x1, x2, x3, x4, f1, f2, f3, f4, n1, n2⟩ := hIS.facts
  have HIS := hid hIS
  clear hIS hR hc2
  go_wp2_with (first
      | (go_at_call 22; refine (HN.out _).mono ?_; rintro e w' ⟨rfl, rfl⟩)
      | (go_at_call 105; refine (take_u8_calls HIS.out.rd (by omega)).mono ?_; rw [HT3.out]; rintro e w4 ⟨rfl, hR4, hc4⟩; have hIS4 := HIS.out.take hc4 hR4; obtain ⟨hbox, x0, x1, x2, x3, x4, f1, f2, f3, f4, n1, n2⟩ := hIS4.facts; have HIS4 := hid hIS4; clear hIS4 hR4 hc4))
  have hU := (HIS4.out.set3 (.int .i64 (c : Int)))
  obtain ⟨U, hUe⟩ : ∃ U : World, U = (w4.setCell ⟨w2.heap.size, 3, none⟩ (.int .i64 (c : Int))) := ⟨_, rfl⟩
  rw [← hUe] at hU ⊢
  clear hUe hbox x0 x1 x2 x3 x4 f1 f2 f3 f4 n1 n2
  obtain ⟨hbox, x0, x1, x2, x3, x4, f1, f2, f3, f4, n1, n2⟩ := hU.facts
  have HU := hid hU
  clear hU
  rcases hgood with ⟨g1, g2⟩ | g1
  · subst g1 g2
    (refine wp_region_held_drew (S := (fun w' => w'.cell? ⟨w.heap.size, 0, none⟩ = some (.pointer (some ⟨b, 0, none⟩)) ∧ w'.cell? ⟨w2.heap.size, 0, none⟩ = some (.int .i64 (op : Int)) ∧ w'.cell? ⟨w2.heap.size, 1, none⟩ = some (.int .i64 0) ∧ w'.cell? ⟨w2.heap.size, 2, none⟩ = some (.int .i64 0) ∧ w'.cell? ⟨w2.heap.size, 3, none⟩ = some (.int .i64 (c : Int)) ∧ w'.cell? ⟨w2.heap.size, 4, none⟩ = some (.int .i64 0))) (by kernel_rfl) (by exact ⟨hbox, x0, x1, x2, x3, x4⟩) (fun hHeld => ?_); (refine wpAnyH_take (i := 0) (v := ?_) rfl (by kernel_rfl) (by kernel_rfl) (by kernel_rfl) (fun _ _ _ h => h) (Or.inl ⟨by rfl, ?_⟩) (by assumption) ?_; rotate_left 1; (focus (intro w hSw; (try dsimp only at hSw); go_simp; (try with_reducible rfl))); (try simp only [List.getElem_toArray, List.getElem_cons_zero, List.getElem_cons_succ, Act.put, List.setIfInBounds_toArray, List.set_cons_zero, List.set_cons_succ])); (refine wpAnyH_take (i := 1) (v := ?_) rfl (by kernel_rfl) (by kernel_rfl) (by kernel_rfl) (fun _ _ _ h => h) (Or.inl ⟨by rfl, ?_⟩) (by assumption) ?_; rotate_left 1; (focus (intro w hSw; (try dsimp only at hSw); go_simp; (try with_reducible rfl))); (try simp only [List.getElem_toArray, List.getElem_cons_zero, List.getElem_cons_succ, Act.put, List.setIfInBounds_toArray, List.set_cons_zero, List.set_cons_succ])); (refine wpAnyH_ready (rs := [2]) (by kernel_rfl) (by simp) ?_; refine AllReadyH.cons rfl (fun K hK => ?_) AllReadyH.nil; go_simp); (go_at_call 32; refine (HIX.out _).mono ?_; rintro e w6 ⟨rfl, hc6⟩); (refine hK.out _ _ (by exact (by obtain ⟨a, b, c, d, e, f, _⟩ := (HU.out.same ((Chg.of_drewN [] U 1).trans' hc6)).facts; exact ⟨a, b, c, d, e, f⟩)) (fun hHeld => ?_); clear hK K; (try simp only [List.getElem_toArray, List.getElem_cons_zero, List.getElem_cons_succ, Act.put, List.setIfInBounds_toArray, List.set_cons_zero, List.set_cons_succ])); (refine wpAnyH_ready (rs := [3]) (by kernel_rfl) (by simp) ?_; refine AllReadyH.cons rfl (fun K hK => ?_) AllReadyH.nil; go_simp); (go_at_call 48; refine (sure_ok ((HU.out.same ((Chg.of_drewN [] U 1).trans' hc6)).rd)).mono ?_; rintro e w7 ⟨rfl, hc7⟩); (refine hK.out _ _ (by exact (by obtain ⟨a, b, c, d, e, f, _⟩ := (HU.out.same (((Chg.of_drewN [] U 1).trans' hc6).trans' hc7)).facts; exact ⟨a, b, c, d, e, f⟩)) (fun hHeld => ?_); clear hK K; (try simp only [List.getElem_toArray, List.getElem_cons_zero, List.getElem_cons_succ, Act.put, List.setIfInBounds_toArray, List.set_cons_zero, List.set_cons_succ])); refine wpAnyH_done (by kernel_rfl) ?_ _)
    all_goals
      have hU7 := HU.out.same (((Chg.of_drewN [] U 1).trans' hc6).trans' hc7)
      obtain ⟨y0, y1, y2, y3, y4, r0, r1, r2, r3, r4, q0, q1, q2, q3, q4⟩ := hU7.outs
      have HU7 := hid hU7
      clear hU7 hbox x0 x1 x2 x3 x4 f1 f2 f3 f4
      go_wp2
      exact bodyPost_ret (v := .agg #[.int .i64 (op : Int), .int .i64 0, .int .i64 0, .int .i64 (c : Int), .int .i64 0]) (by simp [results, Try.results87, go_sem, y0, y1, y2, y3, y4, r0, r1, r2, r3, r4]) rfl (HU7.out.done (HG.out (by simp) (by simp)) HRX.out)
  · (refine wp_region_held_drew (S := (fun w' => w'.cell? ⟨w.heap.size, 0, none⟩ = some (.pointer (some ⟨b, 0, none⟩)) ∧ w'.cell? ⟨w2.heap.size, 0, none⟩ = some (.int .i64 (op : Int)) ∧ w'.cell? ⟨w2.heap.size, 1, none⟩ = some (.int .i64 0) ∧ w'.cell? ⟨w2.heap.size, 2, none⟩ = some (.int .i64 0) ∧ w'.cell? ⟨w2.heap.size, 3, none⟩ = some (.int .i64 (c : Int)) ∧ w'.cell? ⟨w2.heap.size, 4, none⟩ = some (.int .i64 0))) (by kernel_rfl) (by exact ⟨hbox, x0, x1, x2, x3, x4⟩) (fun hHeld => ?_); (refine wpAnyH_take (i := 0) (v := ?_) rfl (by kernel_rfl) (by kernel_rfl) (by kernel_rfl) (fun _ _ _ h => h) (Or.inl ⟨by rfl, ?_⟩) (by assumption) ?_; rotate_left 1; (focus (intro w hSw; (try dsimp only at hSw); go_simp; (try with_reducible rfl))); (try simp only [List.getElem_toArray, List.getElem_cons_zero, List.getElem_cons_succ, Act.put, List.setIfInBounds_toArray, List.set_cons_zero, List.set_cons_succ])); (refine wpAnyH_take (i := 1) (v := ?_) rfl (by kernel_rfl) (by kernel_rfl) (by kernel_rfl) (fun _ _ _ h => h) (Or.inl ⟨by rfl, ?_⟩) (by assumption) ?_; rotate_left 1; (focus (intro w hSw; (try dsimp only at hSw); go_simp; (try with_reducible rfl))); (try simp only [List.getElem_toArray, List.getElem_cons_zero, List.getElem_cons_succ, Act.put, List.setIfInBounds_toArray, List.set_cons_zero, List.set_cons_succ])); (refine wpAnyH_ready (rs := [2]) (by kernel_rfl) (by simp) ?_; refine AllReadyH.cons rfl (fun K hK => ?_) AllReadyH.nil; go_simp); (go_at_call 32; refine (HIX.out _).mono ?_; rintro e w6 ⟨rfl, hc6⟩); (refine hK.out _ _ (by exact (by obtain ⟨a, b, c, d, e, f, _⟩ := (HU.out.same ((Chg.of_drewN [] U 1).trans' hc6)).facts; exact ⟨a, b, c, d, e, f⟩)) (fun hHeld => ?_); clear hK K; (try simp only [List.getElem_toArray, List.getElem_cons_zero, List.getElem_cons_succ, Act.put, List.setIfInBounds_toArray, List.set_cons_zero, List.set_cons_succ])); (refine wpAnyH_ready (rs := [3]) (by kernel_rfl) (by simp) ?_; refine AllReadyH.cons rfl (fun K hK => ?_) AllReadyH.nil; go_simp); (go_at_call 48; refine (sure_gone ((HU.out.same ((Chg.of_drewN [] U 1).trans' hc6)).rd) _ g1).mono ?_; rintro e w7 ⟨rfl, hc7⟩; unfold gaveUp; exact ⟨rfl, .inr ⟨HGN.out g1, rfl, (HU.out.same (((Chg.of_drewN [] U 1).trans' hc6).trans' hc7)).chg⟩⟩))
set_option maxHeartbeats 8000000 in
set_option maxRecDepth 100000 in
theorem dinstr_0011 (h : DIn w b l ao cap q op v c n p1 h1 b1 p2 h2 b2 p3 h3 b3 p4 h4 b4 ib false false true true) : Calls Try.prog 87 #[.agg #[.pointer (some ⟨b, 0, none⟩)]] w (DV insV w b l ao cap (dIns l q)) := by
  obtain ⟨hO, hl, ho, hv, hc, hT1, hT2, hT3, hT4, hX', HI, HN, HG, HGN, hgood⟩ := h
  have hbl := blk_lt hO.rd.blk
  have zo : wrap64 (op : Int) = (op : Int) := IntWalk.wrap64_in _ (by omega)
  have zv : wrap64 (v : Int) = (v : Int) := IntWalk.wrap64_in _ (by omega)
  have zc : wrap64 (c : Int) = (c : Int) := IntWalk.wrap64_in _ (by omega)
  have hz15 := and15 v hv
  have HT1 := hid hT1
  clear hT1
  have hR0 := (hO.keep ((((Chg.refl [] w).alloc (.cells #[.pointer (some ⟨b, 0, none⟩)] 89))).alloc (.cells #[.int .i64 0, .int .i64 0, .int .i64 0, .int .i64 0, .int .i64 0] 61))).rd
  simp only [if_true, if_false, Bool.false_eq_true, Prod.mk.injEq, RS.mk.injEq] at hT2 hT3 hT4 hX'
  obtain ⟨rfl, rfl, rfl, rfl⟩ := hT2
  have HT3 := hid hT3
  have HT4 := hid hT4
  clear hT3 hT4
  have HIX : Hid (∀ u : World, Calls Try.prog 32 #[.agg #[.int .i64 (op : Int), .int .i64 0, .int .i64 0, .int .i64 (c : Int), .int .i64 n]] u fun e w' => e = .returned (.bool ib) ∧ Chg [] u w') := hid (by have h := HI.out; rw [← hX'] at h; exact h)
  have HRX : Hid (insV (insOf (op, 0, c, n)) = .agg #[.int .i64 (op : Int), .int .i64 0, .int .i64 0, .int .i64 (c : Int), .int .i64 n]) := hid (by rw [← hX']; rfl)
  clear HI hX'
  go_enter Try.func87, Try.ntmps87
  go_wp2_with (go_at_call 105; refine (take_u8_calls hR0 (by omega)).mono ?_; rw [HT1.out]; rintro e w2 ⟨rfl, hR, hc2⟩; refine halt (fun X hX => ?_))
  rw [hX.out]; clear hX
  have hIS := IS.start hO hc2 hR (.int .i64 (op : Int))
  obtain ⟨hbox, x0, x1, x2, x3, x4, f1, f2, f3, f4, n1, n2⟩ := hIS.facts
  have HIS := hid hIS
  clear hIS hR hc2
  go_wp2_with (first
      | (go_at_call 22; refine (HN.out _).mono ?_; rintro e w' ⟨rfl, rfl⟩)
      | (go_at_call 105; refine (take_u8_calls HIS.out.rd (by omega)).mono ?_; rw [HT3.out]; rintro e w4 ⟨rfl, hR4, hc4⟩; have hIS4 := HIS.out.take hc4 hR4; obtain ⟨hbox, x0, x1, x2, x3, x4, f1, f2, f3, f4, n1, n2⟩ := hIS4.facts; have HIS4 := hid hIS4; clear hIS4 hR4 hc4)
      | (go_at_call 49; refine (rsigned_calls (HIS4.out.set3 (.int .i64 (c : Int))).rd (by omega)).mono ?_; rw [HT4.out]; rintro e w5 ⟨rfl, hR5, hc5⟩; have hIS5 := (HIS4.out.set3 (.int .i64 (c : Int))).take hc5 hR5; obtain ⟨hbox, x0, x1, x2, x3, x4, f1, f2, f3, f4, n1, n2⟩ := hIS5.facts; have HIS5 := hid hIS5; clear hIS5 hR5 hc5))
  have hU := (HIS5.out.set4 (.int .i64 n))
  obtain ⟨U, hUe⟩ : ∃ U : World, U = (w5.setCell ⟨w2.heap.size, 4, none⟩ (.int .i64 n)) := ⟨_, rfl⟩
  rw [← hUe] at hU ⊢
  clear hUe hbox x0 x1 x2 x3 x4 f1 f2 f3 f4 n1 n2
  obtain ⟨hbox, x0, x1, x2, x3, x4, f1, f2, f3, f4, n1, n2⟩ := hU.facts
  have HU := hid hU
  clear hU
  rcases hgood with ⟨g1, g2⟩ | g1
  · subst g1 g2
    (refine wp_region_held_drew (S := (fun w' => w'.cell? ⟨w.heap.size, 0, none⟩ = some (.pointer (some ⟨b, 0, none⟩)) ∧ w'.cell? ⟨w2.heap.size, 0, none⟩ = some (.int .i64 (op : Int)) ∧ w'.cell? ⟨w2.heap.size, 1, none⟩ = some (.int .i64 0) ∧ w'.cell? ⟨w2.heap.size, 2, none⟩ = some (.int .i64 0) ∧ w'.cell? ⟨w2.heap.size, 3, none⟩ = some (.int .i64 (c : Int)) ∧ w'.cell? ⟨w2.heap.size, 4, none⟩ = some (.int .i64 n))) (by kernel_rfl) (by exact ⟨hbox, x0, x1, x2, x3, x4⟩) (fun hHeld => ?_); (refine wpAnyH_take (i := 0) (v := ?_) rfl (by kernel_rfl) (by kernel_rfl) (by kernel_rfl) (fun _ _ _ h => h) (Or.inl ⟨by rfl, ?_⟩) (by assumption) ?_; rotate_left 1; (focus (intro w hSw; (try dsimp only at hSw); go_simp; (try with_reducible rfl))); (try simp only [List.getElem_toArray, List.getElem_cons_zero, List.getElem_cons_succ, Act.put, List.setIfInBounds_toArray, List.set_cons_zero, List.set_cons_succ])); (refine wpAnyH_take (i := 1) (v := ?_) rfl (by kernel_rfl) (by kernel_rfl) (by kernel_rfl) (fun _ _ _ h => h) (Or.inl ⟨by rfl, ?_⟩) (by assumption) ?_; rotate_left 1; (focus (intro w hSw; (try dsimp only at hSw); go_simp; (try with_reducible rfl))); (try simp only [List.getElem_toArray, List.getElem_cons_zero, List.getElem_cons_succ, Act.put, List.setIfInBounds_toArray, List.set_cons_zero, List.set_cons_succ])); (refine wpAnyH_ready (rs := [2]) (by kernel_rfl) (by simp) ?_; refine AllReadyH.cons rfl (fun K hK => ?_) AllReadyH.nil; go_simp); (go_at_call 32; refine (HIX.out _).mono ?_; rintro e w6 ⟨rfl, hc6⟩); (refine hK.out _ _ (by exact (by obtain ⟨a, b, c, d, e, f, _⟩ := (HU.out.same ((Chg.of_drewN [] U 1).trans' hc6)).facts; exact ⟨a, b, c, d, e, f⟩)) (fun hHeld => ?_); clear hK K; (try simp only [List.getElem_toArray, List.getElem_cons_zero, List.getElem_cons_succ, Act.put, List.setIfInBounds_toArray, List.set_cons_zero, List.set_cons_succ])); (refine wpAnyH_ready (rs := [3]) (by kernel_rfl) (by simp) ?_; refine AllReadyH.cons rfl (fun K hK => ?_) AllReadyH.nil; go_simp); (go_at_call 48; refine (sure_ok ((HU.out.same ((Chg.of_drewN [] U 1).trans' hc6)).rd)).mono ?_; rintro e w7 ⟨rfl, hc7⟩); (refine hK.out _ _ (by exact (by obtain ⟨a, b, c, d, e, f, _⟩ := (HU.out.same (((Chg.of_drewN [] U 1).trans' hc6).trans' hc7)).facts; exact ⟨a, b, c, d, e, f⟩)) (fun hHeld => ?_); clear hK K; (try simp only [List.getElem_toArray, List.getElem_cons_zero, List.getElem_cons_succ, Act.put, List.setIfInBounds_toArray, List.set_cons_zero, List.set_cons_succ])); refine wpAnyH_done (by kernel_rfl) ?_ _)
    all_goals
      have hU7 := HU.out.same (((Chg.of_drewN [] U 1).trans' hc6).trans' hc7)
      obtain ⟨y0, y1, y2, y3, y4, r0, r1, r2, r3, r4, q0, q1, q2, q3, q4⟩ := hU7.outs
      have HU7 := hid hU7
      clear hU7 hbox x0 x1 x2 x3 x4 f1 f2 f3 f4
      go_wp2
      exact bodyPost_ret (v := .agg #[.int .i64 (op : Int), .int .i64 0, .int .i64 0, .int .i64 (c : Int), .int .i64 n]) (by simp [results, Try.results87, go_sem, y0, y1, y2, y3, y4, r0, r1, r2, r3, r4]) rfl (HU7.out.done (HG.out (by simp) (by simp)) HRX.out)
  · (refine wp_region_held_drew (S := (fun w' => w'.cell? ⟨w.heap.size, 0, none⟩ = some (.pointer (some ⟨b, 0, none⟩)) ∧ w'.cell? ⟨w2.heap.size, 0, none⟩ = some (.int .i64 (op : Int)) ∧ w'.cell? ⟨w2.heap.size, 1, none⟩ = some (.int .i64 0) ∧ w'.cell? ⟨w2.heap.size, 2, none⟩ = some (.int .i64 0) ∧ w'.cell? ⟨w2.heap.size, 3, none⟩ = some (.int .i64 (c : Int)) ∧ w'.cell? ⟨w2.heap.size, 4, none⟩ = some (.int .i64 n))) (by kernel_rfl) (by exact ⟨hbox, x0, x1, x2, x3, x4⟩) (fun hHeld => ?_); (refine wpAnyH_take (i := 0) (v := ?_) rfl (by kernel_rfl) (by kernel_rfl) (by kernel_rfl) (fun _ _ _ h => h) (Or.inl ⟨by rfl, ?_⟩) (by assumption) ?_; rotate_left 1; (focus (intro w hSw; (try dsimp only at hSw); go_simp; (try with_reducible rfl))); (try simp only [List.getElem_toArray, List.getElem_cons_zero, List.getElem_cons_succ, Act.put, List.setIfInBounds_toArray, List.set_cons_zero, List.set_cons_succ])); (refine wpAnyH_take (i := 1) (v := ?_) rfl (by kernel_rfl) (by kernel_rfl) (by kernel_rfl) (fun _ _ _ h => h) (Or.inl ⟨by rfl, ?_⟩) (by assumption) ?_; rotate_left 1; (focus (intro w hSw; (try dsimp only at hSw); go_simp; (try with_reducible rfl))); (try simp only [List.getElem_toArray, List.getElem_cons_zero, List.getElem_cons_succ, Act.put, List.setIfInBounds_toArray, List.set_cons_zero, List.set_cons_succ])); (refine wpAnyH_ready (rs := [2]) (by kernel_rfl) (by simp) ?_; refine AllReadyH.cons rfl (fun K hK => ?_) AllReadyH.nil; go_simp); (go_at_call 32; refine (HIX.out _).mono ?_; rintro e w6 ⟨rfl, hc6⟩); (refine hK.out _ _ (by exact (by obtain ⟨a, b, c, d, e, f, _⟩ := (HU.out.same ((Chg.of_drewN [] U 1).trans' hc6)).facts; exact ⟨a, b, c, d, e, f⟩)) (fun hHeld => ?_); clear hK K; (try simp only [List.getElem_toArray, List.getElem_cons_zero, List.getElem_cons_succ, Act.put, List.setIfInBounds_toArray, List.set_cons_zero, List.set_cons_succ])); (refine wpAnyH_ready (rs := [3]) (by kernel_rfl) (by simp) ?_; refine AllReadyH.cons rfl (fun K hK => ?_) AllReadyH.nil; go_simp); (go_at_call 48; refine (sure_gone ((HU.out.same ((Chg.of_drewN [] U 1).trans' hc6)).rd) _ g1).mono ?_; rintro e w7 ⟨rfl, hc7⟩; unfold gaveUp; exact ⟨rfl, .inr ⟨HGN.out g1, rfl, (HU.out.same (((Chg.of_drewN [] U 1).trans' hc6).trans' hc7)).chg⟩⟩))
end
end Go.Proofs.Ytbikekgljabalaa
