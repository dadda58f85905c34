/- Walks of the trace layer's reference: an event's line. -/
import Derived.Test.YtbghkodcfedebaaGreatDoorTxa
import Derived.Deep.RegionHeld3
set_option linter.unusedVariables false
set_option linter.unusedSectionVars false
set_option linter.unusedSimpArgs false
namespace Go.Proofs.YtbghkodcfedebaaGreatDoor
open Go.RowKit Go.AB
set_option linter.unusedSimpArgs false
set_option linter.unusedVariables false
set_option linter.unusedSectionVars false
theorem bA_append (a b : List UInt8) : bA a ++ bA b = bA (a ++ b) := bA_eq (by rw [ByteArray.data_append]; simp [bA])
theorem rwords_calls (w : World) : Calls Tryz.prog 71 #[] w (WordsP w) := by
  have HV : Hid (∀ (t : TypeId) i (h : i < 11), (w.alloc (.cells (wordTab.map fun l => Value.string (bA l)).toArray t)).cell? ⟨w.heap.size, i, none⟩ = some (.string (bA (wordTab[i]'h)))) := hid fun t i h => by
    rw [blk_cell (heap_alloc_new w _) i]
    have h2 : i < wordTab.length := h
    simp [List.getD, h2]
    rfl
  have HC := hid fun o => (Chg.refl [] w).alloc o
  go_enter Tryz.func71, Tryz.ntmps71
  go_wp2
  go_ret
  exact ⟨_, rfl, Nat.le_refl _, HC.out _, fun i h => HV.out _ i h⟩
set_option maxHeartbeats 8000000 in
set_option maxRecDepth 100000 in
theorem rline_calls (x : Ev) (hx : plainE x = true) (w : World) (hv : VarsT w) : Calls Tryz.prog 43 #[evV x] w fun e w' => e = .returned (.string (bA (lineE x))) ∧ Chg [] w w' := by
  obtain ⟨k, t, o⟩ := x
  obtain ⟨h1, h2, h3, _⟩ := plainE_out hx
  simp only at h1 h2 h3
  obtain ⟨i, rfl⟩ : ∃ i : Nat, k = (i : Int) + 1 := ⟨(k - 1).toNat, by omega⟩
  have hi : i < 11 := by omega
  have hwe : wordTab[i]'hi = wordE ((i : Int) + 1) := by
    unfold wordE
    rw [show ((i : Int) + 1 - 1).toNat = i from by omega]
    rw [List.getD_eq_getElem?_getD, List.getElem?_eq_getElem (show i < wordTab.length from hi)]
    rfl
  obtain ⟨W, hW⟩ : ∃ W, wordE ((i : Int) + 1) = W := ⟨_, rfl⟩
  obtain ⟨B, hB⟩ : ∃ B, w.heap.size = B := ⟨_, rfl⟩
  have hbx : (w.alloc (.cells #[.int .i64 ((i : Int) + 1), .int .i64 t, .int .i64 o] 28)).heap[B]? = some (.cells #[.int .i64 ((i : Int) + 1), .int .i64 t, .int .i64 o] 28 (0, 0)) := by rw [← hB]; exact heap_alloc_new w _
  have hcA := (Chg.refl [] w).alloc (.cells #[.int .i64 ((i : Int) + 1), .int .i64 t, .int .i64 o] 28)
  have hvA := hv.keep hcA
  have HCA := hid hcA
  unfold evV
  simp only
  clear hcA
  go_enter Tryz.func43, Tryz.ntmps43
  go_upto_region 1 with fail
  generalize w.alloc (.cells #[.int .i64 ((i : Int) + 1), .int .i64 t, .int .i64 o] 28) = wA at hbx hvA HCA ⊢
  have x0 : wA.cell? ⟨B, 0, none⟩ = some (.int .i64 ((i : Int) + 1)) := (blk_cell hbx 0).trans rfl
  have x1 : wA.cell? ⟨B, 1, none⟩ = some (.int .i64 t) := (blk_cell hbx 1).trans rfl
  have HBX := hid hbx
  have HV := hid hvA
  have e1 : (i : Int) + 1 - 1 = (i : Int) := by omega
  have e4 : wrap64 ((i : Int) + 1 - 1) = (i : Int) := by rw [e1]; exact IntWalk.wrap64_in _ (by omega)
  have e5 : IntKind.i64.wrap (i : Int) = (i : Int) := by rw [IntKind.wrap_i64]; omega
  have e2 : (i : Int) < 11 := by omega
  have e3 : (0 : Int) ≤ (i : Int) := by omega
  rw [hW] at hwe
  have HWE := hid hwe
  have HL : Hid (lineE ⟨(i : Int) + 1, t, o⟩ = W ++ [32] ++ Lib.itoa t ++ (if (i : Int) + 1 = 11 then [] else [32] ++ Lib.itoa o) ++ [10]) := hid (by rw [← hW]; rfl)
  have HRO := hid (And.intro h2 h3)
  have hsh := line_short hx
  simp only at hsh
  rw [hW] at hsh
  have hit := itoa_len h2.1 h2.2
  have hio := itoa_len h3.1 h3.2
  have s1 : ¬ (9223372036854775807 < (bA W).size + 1) := by rw [bA_size]; omega
  have a1 : bA W ++ ⟨#[32]⟩ = bA (W ++ [32]) := bA_append W [32]
  have a2 : bA (W ++ [32]) ++ bA (Lib.itoa t) = bA (W ++ [32] ++ Lib.itoa t) := bA_append _ _
  have s2 : ¬ (9223372036854775807 < (bA (W ++ [32])).size + (bA (Lib.itoa t)).size) := by rw [bA_size, bA_size, List.length_append, List.length_cons, List.length_nil]; omega
  have HS := hid (And.intro hsh (And.intro hit hio))
  clear hbx hx hB hwe hW h2 h3 h1 hvA hv hsh hit hio
  have HW := hid rwords_calls
  have HI := hid fun W (hc : Chg [] wA W) => itoaT t (by have := HRO.out.1; omega) (by have := HRO.out.1; omega) W (HV.out.keep hc)
  (refine wp_region_held_drew (S := (fun w' => w'.cell? ⟨B, 0, none⟩ = some (.int .i64 ((i : Int) + 1)) ∧ w'.cell? ⟨B, 1, none⟩ = some (.int .i64 t))) (by kernel_rfl) (by exact ⟨x0, x1⟩) (fun hHeld => ?_); (refine wpAnyH_take (i := 1) (v := ?_) rfl (by kernel_rfl) (by kernel_rfl) (by kernel_rfl) (fun _ _ _ h => h) (Or.inl ⟨by rfl, ?_⟩) (by assumption) ?_; rotate_left 1; (focus (intro w hSw; (try dsimp only at hSw); go_simp; (try with_reducible rfl))); (try simp only [List.getElem_toArray, List.getElem_cons_zero, List.getElem_cons_succ, Act.put, List.setIfInBounds_toArray, List.set_cons_zero, List.set_cons_succ])); (refine wpAnyH_take (i := 2) (v := ?_) rfl (by kernel_rfl) (by kernel_rfl) (by kernel_rfl) (fun _ _ _ h => h) (Or.inl ⟨by rfl, ?_⟩) (by assumption) ?_; rotate_left 1; (focus (intro w hSw; (try dsimp only at hSw); go_simp; (try with_reducible rfl))); (try simp only [List.getElem_toArray, List.getElem_cons_zero, List.getElem_cons_succ, Act.put, List.setIfInBounds_toArray, List.set_cons_zero, List.set_cons_succ])); (refine wpAnyH_take (i := 3) (v := ?_) rfl (by kernel_rfl) (by kernel_rfl) (by kernel_rfl) (fun _ _ _ h => h) (Or.inl ⟨by rfl, ?_⟩) (by assumption) ?_; rotate_left 1; (focus (intro w hSw; (try dsimp only at hSw); go_simp; (try with_reducible rfl))); (try simp only [List.getElem_toArray, List.getElem_cons_zero, List.getElem_cons_succ, Act.put, List.setIfInBounds_toArray, List.set_cons_zero, List.set_cons_succ])); (refine wpAnyH_take (i := 7) (v := ?_) rfl (by kernel_rfl) (by kernel_rfl) (by kernel_rfl) (fun _ _ _ h => h) (Or.inl ⟨by rfl, ?_⟩) (by assumption) ?_; rotate_left 1; (focus (intro w hSw; (try dsimp only at hSw); go_simp; (try with_reducible rfl))); (try simp only [List.getElem_toArray, List.getElem_cons_zero, List.getElem_cons_succ, Act.put, List.setIfInBounds_toArray, List.set_cons_zero, List.set_cons_succ])); (refine wpAnyH_take (i := 8) (v := ?_) rfl (by kernel_rfl) (by kernel_rfl) (by kernel_rfl) (fun _ _ _ h => h) (Or.inl ⟨by rfl, ?_⟩) (by assumption) ?_; rotate_left 1; (focus (intro w hSw; (try dsimp only at hSw); go_simp; (try with_reducible rfl))); (try simp only [List.getElem_toArray, List.getElem_cons_zero, List.getElem_cons_succ, Act.put, List.setIfInBounds_toArray, List.set_cons_zero, List.set_cons_succ])); (refine wpAnyH_ready (rs := [0]) (by kernel_rfl) (by simp) ?_; refine AllReadyH.cons rfl (fun K hK => ?_) AllReadyH.nil; go_simp; go_at_call 71; refine (HW.out _).mono ?_; rintro e w1 ⟨wb, rfl, hge, hc1, hcell⟩; have hcX : Chg [] wA w1 := (Chg.refl [] wA).drew.trans' hc1; have hy0 := hcX.cell x0 (by simp); have hy1 := hcX.cell x1 (by simp); have c1 := hcell i hi; rw [HWE.out] at c1; have HCX := hid hcX; clear hcell hc1 hcX; (refine hK.out _ _ (by exact ⟨hy0, hy1⟩) (fun hHeld => ?_); clear hK K; (try simp only [List.getElem_toArray, List.getElem_cons_zero, List.getElem_cons_succ, Act.put, List.setIfInBounds_toArray, List.set_cons_zero, List.set_cons_succ]))); ((refine wpAnyH_ready (rs := [4, 9]) (by kernel_rfl) (by simp) ?_; refine AllReadyH.cons rfl (fun K hK => ?_) (AllReadyH.cons rfl (fun K hK => ?_) (AllReadyH.nil))); (focus (go_simp; (refine hK.out _ _ (by exact ⟨by assumption, by assumption⟩) (fun hHeld => ?_); clear hK K; (try simp only [List.getElem_toArray, List.getElem_cons_zero, List.getElem_cons_succ, Act.put, List.setIfInBounds_toArray, List.set_cons_zero, List.set_cons_succ])); ((refine wpAnyH_ready (rs := [5, 9]) (by kernel_rfl) (by simp) ?_; refine AllReadyH.cons rfl (fun K hK => ?_) (AllReadyH.cons rfl (fun K hK => ?_) (AllReadyH.nil))); (focus (go_simp; (refine hK.out _ _ (by exact ⟨by assumption, by assumption⟩) (fun hHeld => ?_); clear hK K; (try simp only [List.getElem_toArray, List.getElem_cons_zero, List.getElem_cons_succ, Act.put, List.setIfInBounds_toArray, List.set_cons_zero, List.set_cons_succ])); (refine wpAnyH_take (i := 6) (v := ?_) rfl (by kernel_rfl) (by kernel_rfl) (by kernel_rfl) (fun _ _ _ h => h) (Or.inl ⟨by rfl, ?_⟩) (by assumption) ?_; rotate_left 1; (focus (intro w hSw; (try dsimp only at hSw); go_simp; (try with_reducible rfl))); (try simp only [List.getElem_toArray, List.getElem_cons_zero, List.getElem_cons_succ, Act.put, List.setIfInBounds_toArray, List.set_cons_zero, List.set_cons_succ])); ((refine wpAnyH_ready (rs := [9]) (by kernel_rfl) (by simp) ?_; refine AllReadyH.cons rfl (fun K hK => ?_) (AllReadyH.nil)); (focus (go_simp; go_at_call 70; refine (HI.out _ HCX.out).mono ?_; rintro e w2 ⟨rfl, hc2⟩; have hcI := HCX.out.trans' hc2; have c2 := hc2.cell c1 (by simp); have hz0 := hcI.cell x0 (by simp); have hz1 := hcI.cell x1 (by simp); have HCI := hid hcI; clear hcI hc2; (refine hK.out _ _ (by exact ⟨hz0, hz1⟩) (fun hHeld => ?_); clear hK K; (try simp only [List.getElem_toArray, List.getElem_cons_zero, List.getElem_cons_succ, Act.put, List.setIfInBounds_toArray, List.set_cons_zero, List.set_cons_succ]))))))); rotate_left 1; (focus (go_simp; go_at_call 70; refine (HI.out _ HCX.out).mono ?_; rintro e w2 ⟨rfl, hc2⟩; have hcI := HCX.out.trans' hc2; have c2 := hc2.cell c1 (by simp); have hz0 := hcI.cell x0 (by simp); have hz1 := hcI.cell x1 (by simp); have HCI := hid hcI; clear hcI hc2; (refine hK.out _ _ (by exact ⟨hz0, hz1⟩) (fun hHeld => ?_); clear hK K; (try simp only [List.getElem_toArray, List.getElem_cons_zero, List.getElem_cons_succ, Act.put, List.setIfInBounds_toArray, List.set_cons_zero, List.set_cons_succ])); ((refine wpAnyH_ready (rs := [5]) (by kernel_rfl) (by simp) ?_; refine AllReadyH.cons rfl (fun K hK => ?_) (AllReadyH.nil)); (focus (go_simp; (refine hK.out _ _ (by exact ⟨by assumption, by assumption⟩) (fun hHeld => ?_); clear hK K; (try simp only [List.getElem_toArray, List.getElem_cons_zero, List.getElem_cons_succ, Act.put, List.setIfInBounds_toArray, List.set_cons_zero, List.set_cons_succ])); (refine wpAnyH_take (i := 6) (v := ?_) rfl (by kernel_rfl) (by kernel_rfl) (by kernel_rfl) (fun _ _ _ h => h) (Or.inl ⟨by rfl, ?_⟩) (by assumption) ?_; rotate_left 1; (focus (intro w hSw; (try dsimp only at hSw); go_simp; (try with_reducible rfl))); (try simp only [List.getElem_toArray, List.getElem_cons_zero, List.getElem_cons_succ, Act.put, List.setIfInBounds_toArray, List.set_cons_zero, List.set_cons_succ]))))))); rotate_left 1))); rotate_left 2; (focus (go_simp; go_at_call 70; refine (HI.out _ HCX.out).mono ?_; rintro e w2 ⟨rfl, hc2⟩; have hcI := HCX.out.trans' hc2; have c2 := hc2.cell c1 (by simp); have hz0 := hcI.cell x0 (by simp); have hz1 := hcI.cell x1 (by simp); have HCI := hid hcI; clear hcI hc2; (refine hK.out _ _ (by exact ⟨hz0, hz1⟩) (fun hHeld => ?_); clear hK K; (try simp only [List.getElem_toArray, List.getElem_cons_zero, List.getElem_cons_succ, Act.put, List.setIfInBounds_toArray, List.set_cons_zero, List.set_cons_succ])); ((refine wpAnyH_ready (rs := [4]) (by kernel_rfl) (by simp) ?_; refine AllReadyH.cons rfl (fun K hK => ?_) (AllReadyH.nil)); (focus (go_simp; (refine hK.out _ _ (by exact ⟨by assumption, by assumption⟩) (fun hHeld => ?_); clear hK K; (try simp only [List.getElem_toArray, List.getElem_cons_zero, List.getElem_cons_succ, Act.put, List.setIfInBounds_toArray, List.set_cons_zero, List.set_cons_succ])); ((refine wpAnyH_ready (rs := [5]) (by kernel_rfl) (by simp) ?_; refine AllReadyH.cons rfl (fun K hK => ?_) (AllReadyH.nil)); (focus (go_simp; (refine hK.out _ _ (by exact ⟨by assumption, by assumption⟩) (fun hHeld => ?_); clear hK K; (try simp only [List.getElem_toArray, List.getElem_cons_zero, List.getElem_cons_succ, Act.put, List.setIfInBounds_toArray, List.set_cons_zero, List.set_cons_succ])); (refine wpAnyH_take (i := 6) (v := ?_) rfl (by kernel_rfl) (by kernel_rfl) (by kernel_rfl) (fun _ _ _ h => h) (Or.inl ⟨by rfl, ?_⟩) (by assumption) ?_; rotate_left 1; (focus (intro w hSw; (try dsimp only at hSw); go_simp; (try with_reducible rfl))); (try simp only [List.getElem_toArray, List.getElem_cons_zero, List.getElem_cons_succ, Act.put, List.setIfInBounds_toArray, List.set_cons_zero, List.set_cons_succ])))))))))); rotate_left 1); (all_goals ((refine wpAnyH_take (i := 10) (v := ?_) rfl (by kernel_rfl) (by kernel_rfl) (by kernel_rfl) (fun _ _ _ h => h) (Or.inl ⟨by rfl, ?_⟩) (by assumption) ?_; rotate_left 1; (focus (intro w hSw; (try dsimp only at hSw); go_simp; (try with_reducible rfl))); (try simp only [List.getElem_toArray, List.getElem_cons_zero, List.getElem_cons_succ, Act.put, List.setIfInBounds_toArray, List.set_cons_zero, List.set_cons_succ])); (refine wpAnyH_take (i := 11) (v := ?_) rfl (by kernel_rfl) (by kernel_rfl) (by kernel_rfl) (fun _ _ _ h => h) (Or.inl ⟨by rfl, ?_⟩) (by assumption) ?_; rotate_left 1; (focus (intro w hSw; (try dsimp only at hSw); go_simp; (try with_reducible rfl))); (try simp only [List.getElem_toArray, List.getElem_cons_zero, List.getElem_cons_succ, Act.put, List.setIfInBounds_toArray, List.set_cons_zero, List.set_cons_succ])); refine wpAnyH_done (by kernel_rfl) ?_ _)))
  all_goals
    go_upto_region 2 with fail
    have hul : (W ++ 32 :: Lib.itoa t).length ≤ 12 := by
      have h := HS.out
      rw [List.length_append, List.length_cons]
      omega
    have hol := HS.out.2.2
    have HL2 : Hid (lineE ⟨(i : Int) + 1, t, o⟩ = (W ++ 32 :: Lib.itoa t) ++ (if (i : Int) + 1 = 11 then [] else [32] ++ Lib.itoa o) ++ [10]) := hid (by rw [HL.out]; simp)
    obtain ⟨U, hU⟩ : ∃ U, W ++ 32 :: Lib.itoa t = U := ⟨_, rfl⟩
    rw [hU] at hul HL2 ⊢
    have z0 := (blk_cell (HCI.out.heap HBX.out (by simp)) 0).trans rfl
    have z2 := (blk_cell (HCI.out.heap HBX.out (by simp)) 2).trans rfl
    have HI2 := hid (itoaT o (by have := HRO.out.2; omega) (by have := HRO.out.2; omega) w2 (HV.out.keep HCI.out))
    clear hU HL HI HW s1 a1 a2 s2 hHeld c1 c2 x0 x1 hy0 hy1 hz0 hz1 e4 e1 e2 e3
    by_cases h11 : (i : Int) + 1 = 11
    · have q : ((i : Int) + 1 != 11) = false := by simp [h11]
      rw [if_pos h11, List.append_nil] at HL2
      have s3 : ¬ (9223372036854775807 < (bA U).size + 1) := by rw [bA_size]; omega
      have a3 : bA U ++ ⟨#[10]⟩ = bA (U ++ [10]) := bA_append U [10]
      clear hul hol h11
      go_wp2_with fail
      go_ret
      exact ⟨by rw [HL2.out]; rfl, HCA.out.trans' HCI.out⟩
    · have q : ((i : Int) + 1 != 11) = true := by simpa using h11
      rw [if_neg h11] at HL2
      have s3 : ¬ (9223372036854775807 < (bA U).size + 1) := by rw [bA_size]; omega
      have a3 : bA U ++ ⟨#[32]⟩ = bA (U ++ [32]) := bA_append U [32]
      have s4 : ¬ (9223372036854775807 < (bA (U ++ [32])).size + (bA (Lib.itoa o)).size) := by rw [bA_size, bA_size, List.length_append, List.length_cons, List.length_nil]; omega
      have a4 : bA (U ++ [32]) ++ bA (Lib.itoa o) = bA (U ++ 32 :: Lib.itoa o) := by rw [bA_append]; simp
      have s5 : ¬ (9223372036854775807 < (bA (U ++ 32 :: Lib.itoa o)).size + 1) := by rw [bA_size, List.length_append, List.length_cons]; omega
      have a5 : bA (U ++ 32 :: Lib.itoa o) ++ ⟨#[10]⟩ = bA (U ++ 32 :: (Lib.itoa o ++ [10])) := by rw [show (⟨#[10]⟩ : ByteArray) = bA [10] from rfl, bA_append]; simp
      have HE : Hid (lineE ⟨(i : Int) + 1, t, o⟩ = U ++ 32 :: (Lib.itoa o ++ [10])) := hid (by rw [HL2.out]; simp)
      clear hul hol h11 HL2
      go_wp2_with (go_at_call 70; refine HI2.out.mono ?_; rintro e w3 ⟨rfl, hc3⟩; refine halt (fun XX hXX => ?_))
      have HC3 := hid (HCI.out.trans' hc3)
      clear hc3 HI2
      rw [hXX.out]; clear hXX XX
      go_wp2_with fail
      go_ret
      exact ⟨by rw [HE.out]; rfl, HCA.out.trans' HC3.out⟩
end Go.Proofs.YtbghkodcfedebaaGreatDoor
