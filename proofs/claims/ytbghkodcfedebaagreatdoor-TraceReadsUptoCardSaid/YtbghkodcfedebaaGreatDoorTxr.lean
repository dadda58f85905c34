/- Walks of the trace layer's reference: a line read. (Printed by gen_rread.py.) -/
import Derived.Test.YtbghkodcfedebaaGreatDoorTxq
import Derived.Test.YtbghkodcfedebaaGreatDoorTxn
set_option linter.unusedVariables false
set_option linter.unusedSectionVars false
set_option linter.unusedSimpArgs false
namespace Go.Proofs.YtbghkodcfedebaaGreatDoor
open Go.RowKit Go.AB
set_option linter.unusedSimpArgs false
set_option linter.unusedVariables false
set_option linter.unusedSectionVars false
theorem rread_end {w W : World} {s : List UInt8} {k t o : Int} {P : Bool} {R : Nat} {tmps : Array Value} (hP : plainE ⟨k, t, o⟩ = P) (hr : readE s = chkE ⟨k, t, o⟩) (hW : W.heap[R]? = some (.cells #[.int .i64 k, .int .i64 t, .int .i64 o] 28 (0, 0))) (hC : Chg [] w W)
    (h2 : tmps[2]?.getD undef = .pointer (some ⟨R, 0, none⟩) := by rfl) (h3 : tmps[3]?.getD undef = .bool P := by rfl) :
    bodyPost Tryz.prog Tryz.f52 (fun e w' => EvtP s e ∧ Chg [] w w') .ret { tmps := tmps, defers := [] } W := by
  have c0 : W.cell? ⟨R, 0, none⟩ = some (.int .i64 k) := (blk_cell hW 0).trans rfl
  have c1 : W.cell? ⟨R, 1, none⟩ = some (.int .i64 t) := (blk_cell hW 1).trans rfl
  have c2 : W.cell? ⟨R, 2, none⟩ = some (.int .i64 o) := (blk_cell hW 2).trans rfl
  refine bodyPost_ret (v := .tuple #[.agg #[.int .i64 k, .int .i64 t, .int .i64 o], .bool P]) (by simp [results, Tryz.results52, go_sem, h2, h3, c0, c1, c2]) rfl ⟨⟨⟨k, t, o⟩, P, rfl, hid ?_⟩, hC⟩
  unfold chkE at hr
  rw [hP] at hr
  cases P with
  | true => exact .inl ⟨rfl, hr⟩
  | false => exact .inr ⟨rfl, hr⟩
theorem rread_no {w W : World} {s : List UInt8} {R : Nat} {tmps : Array Value} (hr : readE s = none) (hW : W.heap[R]? = some (.cells #[.int .i64 0, .int .i64 0, .int .i64 0] 28 (0, 0))) (hC : Chg [] w W)
    (h2 : tmps[2]?.getD undef = .pointer (some ⟨R, 0, none⟩) := by rfl) (h3 : tmps[3]?.getD undef = .bool false := by rfl) :
    bodyPost Tryz.prog Tryz.f52 (fun e w' => EvtP s e ∧ Chg [] w w') .ret { tmps := tmps, defers := [] } W := by
  have c0 : W.cell? ⟨R, 0, none⟩ = some (.int .i64 0) := (blk_cell hW 0).trans rfl
  have c1 : W.cell? ⟨R, 1, none⟩ = some (.int .i64 0) := (blk_cell hW 1).trans rfl
  have c2 : W.cell? ⟨R, 2, none⟩ = some (.int .i64 0) := (blk_cell hW 2).trans rfl
  exact bodyPost_ret (v := .tuple #[.agg #[.int .i64 0, .int .i64 0, .int .i64 0], .bool false]) (by simp [results, Tryz.results52, go_sem, h2, h3, c0, c1, c2]) rfl ⟨⟨⟨0, 0, 0⟩, false, rfl, hid (.inr ⟨rfl, hr⟩)⟩, hC⟩
set_option maxHeartbeats 16000000 in
set_option maxRecDepth 100000 in
theorem rread_calls (t : ByteArray) (s : List UInt8) (hs : t.data.toList = s) (hn : s.length ≤ 16777216) (w : World) : Calls Tryz.prog 52 #[.string t] w fun e w' => EvtP s e ∧ Chg [] w w' := by
  obtain ⟨ps, hps⟩ : ∃ ps, splitE s = ps := ⟨_, rfl⟩
  have hne : 0 < ps.length := by rw [← hps]; exact List.length_pos_iff.2 (splitE_ne s)
  have hcn : ps.length ≤ 16777217 := by rw [← hps]; have := splitE_count s; omega
  obtain ⟨n, hln⟩ : ∃ n, ps.length = n := ⟨_, rfl⟩
  rw [hln] at hne hcn
  have HPC := hid (rpieces_calls t s hs hn)
  rw [hps] at HPC
  have HPS := hid hps
  have HN := hid hln
  have HWD := hid rwords_calls
  have HNU := hid rnumber_calls
  have hrx0 := heap_alloc_new w (.cells #[.int .i64 0, .int .i64 0, .int .i64 0] 28)
  have hc0 := (Chg.refl [] w).alloc (.cells #[.int .i64 0, .int .i64 0, .int .i64 0] 28)
  obtain ⟨R, hR⟩ : ∃ R, w.heap.size = R := ⟨_, rfl⟩
  have HRW : Hid (w.heap.size ≤ R) := hid (by omega)
  rw [hR] at hrx0
  have HR0 := hid hrx0
  have HC0 := hid hc0
  clear hps hln hs hn hrx0 hc0
  go_enter Tryz.func52, Tryz.ntmps52
  go_upto_region 1 with fail
  clear hR
  go_upto_region 3 with (first
    | (go_at_call 87; refine (HPC.out _).mono ?_; rintro e w1 ⟨v1, rfl, ao, cap, r, m, hm, rfl, hr1, hf1, hc1⟩; rw [HN.out] at hm; subst hm; have HR1 := hid hr1; have HC1 := hid (HC0.out.trans' hc1); have HRX1 := hid (hc1.heap HR0.out (by simp)); clear hr1 hf1 hc1)
    | (go_at_call 71; refine (HWD.out _).mono ?_; rintro e w2 ⟨wb, rfl, hge, hc2, hcell⟩; have HR2 := hid (HR1.out.keep hc2 (by simp)); have HC2 := hid (HC1.out.trans' hc2); have HRX2 := hid (hc2.heap HRX1.out (by simp)); have HCL := hid hcell; clear hge hc2 hcell))
  clear HPC HWD HC0 HR0 HR1 HC1 HRX1
  obtain ⟨g, hg1, rfl, hncap⟩ := Row.slice HR2.out hne
  subst hg1
  have HPX : Hid (∀ i, i < n → w2.cell? ⟨g, i, none⟩ = some (.string (bA (ps.getD i [])))) := hid fun i hi => by
    rw [(Row.cellk HR2.out).1 i (by omega), List.getD_eq_getElem?_getD, List.getElem?_map, List.getD_eq_getElem?_getD, List.getElem?_eq_getElem (by rw [HN.out]; exact hi)]
    rfl
  clear HR2
  obtain ⟨p0, hp0⟩ : ∃ p0, ps.getD 0 [] = p0 := ⟨_, rfl⟩
  have HP0 := hid hp0
  clear hp0
  go_wp2_with fail
  go_loopg [6] 11 (fun gk v6 wr => ∃ k : Nat, v6 = .int .i64 k ∧ Hid (gk + k = 11) ∧ Hid (∀ j, j < k → wordTab.getD j [] ≠ p0) ∧ Hid (Chg [] w2 wr))
  case atStart => exact ⟨0, rfl, hid (by omega), hid (by simp), hid (Chg.refl _ _)⟩
  case round =>
    obtain ⟨k, rfl, HG, HNE, HW⟩ := hrel
    by_cases hk : k < 11
    · have x0 := HW.out.cell (HPX.out 0 hne) (by simp)
      rw [HP0.out] at x0
      have y0 := HW.out.cell (HCL.out k hk) (by simp)
      have hwk : wordTab[k]'hk = wordTab.getD k [] := by
        rw [List.getD_eq_getElem?_getD, List.getElem?_eq_getElem (show k < wordTab.length from hk)]
        rfl
      rw [hwk] at y0
      have hne1 : (0 : Int) < (n : Int) := by omega
      have hk1 : (k : Int) < 11 := by omega
      obtain ⟨wk, hwk2⟩ : ∃ wk, wordTab.getD k [] = wk := ⟨_, rfl⟩
      rw [hwk2] at y0
      have HWK := hid hwk2
      clear hwk hwk2
      by_cases heq : wk = p0
      · have hidx : idxE p0 = k + 1 := by rw [← heq, ← HWK.out]; exact idx_word k hk
        subst heq
        have q1 : ((bA wk).toList == (bA wk).toList) = true := by rw [beq_bA]; exact decide_eq_true rfl
        have q2 : ((bA wk).toList != (bA wk).toList) = false := by rw [bne, q1]; rfl
        have HIX := hid hidx
        have HPN := hid (fun i (hi : i < n) => HW.out.cell (HPX.out i hi) (by simp))
        have HRXr := hid (HW.out.heap HRX2.out (by simp))
        have HWr := hid (HC2.out.trans' HW.out)
        clear hidx HPX HRX2 HW HCL HNE HC2
        go_upto_region 7 with (go_quiet (fail))
        have hal : wrap64 ((k : Int) + 1) = (k : Int) + 1 := IntWalk.wrap64_in _ (by omega)
        have hcd := Chg.of_drewN [] wr nq
        generalize wr.drewN nq = wd at hcd ⊢
        have HPD := hid (fun i (hi : i < n) => hcd.cell (HPN.out i hi) (by simp))
        have HRXd := hid (hcd.heap HRXr.out (by simp))
        have HWd := hid (HWr.out.trans' hcd)
        clear hcd HPN HRXr HWr x0 y0 q1 q2
        go_upto_region 8 with fail
        have hbx := heap_alloc_new wd (.cells #[.int .i64 ((k : Int) + 1), .int .i64 0, .int .i64 0] 28)
        have hc3 := (Chg.refl [] wd).alloc (.cells #[.int .i64 ((k : Int) + 1), .int .i64 0, .int .i64 0] 28)
        have hRE : R ≠ wd.heap.size := by
          have h1 := blk_lt HRXd.out
          omega
        have hEw : w.heap.size ≤ wd.heap.size := HWd.out.size
        generalize wd.alloc (.cells #[.int .i64 ((k : Int) + 1), .int .i64 0, .int .i64 0] 28) = w3 at hbx hc3 ⊢
        generalize wd.heap.size = E at hbx hRE hEw ⊢
        have HB3 := hid hbx
        have HC3 := hid (HWd.out.trans' hc3)
        have HN3 := hid (fun i (hi : i < n) => hc3.cell (HPD.out i hi) (by simp))
        have HRX3 := hid (hc3.heap HRXd.out (by simp))
        have HRE : Hid (R ≠ E ∧ w.heap.size ≤ R) := hid ⟨hRE, HRW.out⟩
        have HEW := hid hEw
        clear hbx hc3 hRE hEw hal HPD HRXd HWd
        have HKX : Hid ((k : Int) + 1 = (idxE wk : Int)) := hid (by rw [HIX.out]; push_cast; rfl)
        obtain ⟨K, hK⟩ : ∃ K : Int, (k : Int) + 1 = K := ⟨_, rfl⟩
        rw [hK] at HKX HB3
        have HKK := hid hK
        have hKr : 1 ≤ K ∧ K ≤ 11 := by omega
        clear hK
        have z0 : w3.cell? ⟨E, 0, none⟩ = some (.int .i64 K) := (blk_cell HB3.out 0).trans rfl
        have zf := fun i => blk_free HB3.out i
        try rw [HKK.out]
        by_cases h11 : K = 11
        · have q11 : (K == 11) = true := by simp [h11]
          have HI11 : Hid (idxE ((splitE s).getD 0 []) = 11) := hid (by rw [HPS.out, HP0.out]; have := HKX.out; omega)
          by_cases hl : n = 2
          · have qn : ((n : Int) != 2) = false := by simp; omega
            have hn1 : (1 : Int) < (n : Int) := by omega
            have l1 := HN3.out 1 (by omega)
            have z1 : w3.cell? ⟨E, 1, none⟩ = some (.int .i64 0) := (blk_cell HB3.out 1).trans rfl
            have hrd := read_ex (s := s) HI11.out (by rw [HPS.out, HN.out]; exact hl)
            rw [HPS.out] at hrd
            generalize ps.getD 1 [] = p1 at l1 hrd
            obtain ⟨T, hT⟩ : ∃ T, numR p1 = T := ⟨_, rfl⟩
            rw [hT] at hrd
            have HRD : Hid (readE s = chkE ⟨K, T, 0⟩) := hid (by rw [hrd, h11])
            have HT := hid hT
            clear hrd hT hl h11
            go_upto_region 16 with (go_at_call 88; refine (HNU.out (bA p1) p1 (by simp [bA]) _).mono ?_; rintro e w8 ⟨rfl, hw8⟩; subst hw8; rw [HT.out])
            have hwb := blk_set HB3.out 1 (.int .i64 T)
            have hrx := (Chg.refl [E] w3).setCell (p := ⟨E, 1, none⟩) (.inl (by simp)) (.int .i64 T)
            have hrx := hrx.heap HRX3.out (by simp; exact HRE.out.1)
            have hwc := HC3.out.setCell (p := ⟨E, 1, none⟩) (.inr HEW.out) (.int .i64 T)
            generalize w3.setCell ⟨E, 1, none⟩ (.int .i64 T) = w4 at hwb hrx hwc ⊢
            have e0 : w4.cell? ⟨E, 0, none⟩ = some (.int .i64 K) := (blk_cell hwb 0).trans rfl
            have e1 : w4.cell? ⟨E, 1, none⟩ = some (.int .i64 T) := (blk_cell hwb 1).trans rfl
            have e2 : w4.cell? ⟨E, 2, none⟩ = some (.int .i64 0) := (blk_cell hwb 2).trans rfl
            clear hwb z0 zf z1 l1 HB3 HC3 HN3 HRX3
            go_upto_region 16 with fail
            have hSall : ∀ W, Chg [R] w4 W → W.cell? ⟨E, 0, none⟩ = some (.int .i64 K) ∧ W.cell? ⟨E, 1, none⟩ = some (.int .i64 T) ∧ W.cell? ⟨E, 2, none⟩ = some (.int .i64 0) := fun W hc => ⟨hc.cell e0 (by simp; exact fun e => HRE.out.1 e.symm), hc.cell e1 (by simp; exact fun e => HRE.out.1 e.symm), hc.cell e2 (by simp; exact fun e => HRE.out.1 e.symm)⟩
            have HSA := hid hSall
            have HRX := hid hrx
            have HWC := hid hwc
            have HPL2 := hid fun W => rplain_calls ⟨K, T, 0⟩ W
            obtain ⟨P, hP⟩ : ∃ P, plainE ⟨K, T, 0⟩ = P := ⟨_, rfl⟩
            rw [hP] at HPL2
            have HPP := hid hP
            unfold evV at HPL2
            simp only at HPL2
            clear hSall hP hrx hwc
            (refine wp_region_held_drew (S := (fun w' => w'.cell? ⟨E, 0, none⟩ = some (.int .i64 K) ∧ w'.cell? ⟨E, 1, none⟩ = some (.int .i64 T) ∧ w'.cell? ⟨E, 2, none⟩ = some (.int .i64 0))) (by kernel_rfl) (by exact (HSA.out _ (Chg.refl [R] w4).drew)) (fun hHeld => ?_); (refine wpAnyH_take (i := 0) (v := ?_) rfl (by kernel_rfl) (by kernel_rfl) (by kernel_rfl) (fun _ _ _ h => h) (Or.inl ⟨by rfl, ?_⟩) (by assumption) ?_; rotate_left 1; (focus (intro w hSw; (try dsimp only at hSw); go_simp; (try with_reducible rfl))); (try simp only [List.getElem_toArray, List.getElem_cons_zero, List.getElem_cons_succ, Act.put, List.setIfInBounds_toArray, List.set_cons_zero, List.set_cons_succ])); (refine wpAnyH_take (i := 1) (v := ?_) rfl (by kernel_rfl) (by kernel_rfl) (by kernel_rfl) (fun _ _ _ h => h) (Or.inl ⟨by rfl, ?_⟩) (by assumption) ?_; rotate_left 1; (focus (intro w hSw; (try dsimp only at hSw); go_simp; (try with_reducible rfl))); (try simp only [List.getElem_toArray, List.getElem_cons_zero, List.getElem_cons_succ, Act.put, List.setIfInBounds_toArray, List.set_cons_zero, List.set_cons_succ])); (refine wpAnyH_ready (rs := [2]) (by kernel_rfl) (by simp) ?_; refine AllReadyH.cons rfl (fun K hK => ?_) AllReadyH.nil; go_simp; go_at_call 12; refine (HPL2.out _).mono ?_; rintro e w5 ⟨rfl, hc5⟩; have hc5' : Chg [] w4 w5 := ((Chg.refl [] w4).drew).trans' hc5; have HC5 := hid hc5'; have HB5 := hid (hc5'.heap HRX.out (by simp)); have r0 := (blk_cell HB5.out 0).trans rfl; have r1 := (blk_cell HB5.out 1).trans rfl; have r2 := (blk_cell HB5.out 2).trans rfl; have rf := (fun i => blk_free HB5.out i); have hs5 := HSA.out _ hc5'.nil; clear hc5 hc5'; (refine hK.out _ _ (by exact hs5) (fun hHeld => ?_); clear hK K; (try simp only [List.getElem_toArray, List.getElem_cons_zero, List.getElem_cons_succ, Act.put, List.setIfInBounds_toArray, List.set_cons_zero, List.set_cons_succ]))); (refine wpAnyH_ready (rs := [3]) (by kernel_rfl) (by simp) ?_; refine AllReadyH.cons rfl (fun K hK => ?_) AllReadyH.nil; go_simp; (refine hK.out _ _ (by exact (HSA.out _ (by repeat (first | with_reducible exact Chg.refl _ _ | with_reducible exact HC5.out.nil | with_reducible refine Chg.setCell ?_ (.inl (by simp)) _ | with_reducible refine Chg.drew ?_)))) (fun hHeld => ?_); clear hK K; (try simp only [List.getElem_toArray, List.getElem_cons_zero, List.getElem_cons_succ, Act.put, List.setIfInBounds_toArray, List.set_cons_zero, List.set_cons_succ]))); (refine wpAnyH_take (i := 4) (v := ?_) rfl (by kernel_rfl) (by kernel_rfl) (by kernel_rfl) (fun _ _ _ h => h) (Or.inl ⟨by rfl, ?_⟩) (by assumption) ?_; rotate_left 1; (focus (intro w hSw; (try dsimp only at hSw); go_simp; (try with_reducible rfl))); (try simp only [List.getElem_toArray, List.getElem_cons_zero, List.getElem_cons_succ, Act.put, List.setIfInBounds_toArray, List.set_cons_zero, List.set_cons_succ])); refine wpAnyH_done (by kernel_rfl) ?_ _)
            go_wp2_with fail
            have hRw := HRE.out.2
            refine rread_end HPP.out HRD.out (blk_set (blk_set (blk_set HB5.out 0 _) 1 _) 2 _) ?_
            exact ((((HWC.out.trans' HC5.out).setCell (p := ⟨R, 0, none⟩) (.inr hRw) _).setCell (p := ⟨R, 1, none⟩) (.inr hRw) _).setCell (p := ⟨R, 2, none⟩) (.inr hRw) _)
          · have qn : ((n : Int) != 2) = true := by simp; omega
            have hnone := readE_ex (s := s) HI11.out (by rw [HPS.out, HN.out]; exact hl)
            have hrx := HRX3.out
            have hwc := HC3.out
            clear HN3
            have HNO := hid hnone
            have r0 := (blk_cell hrx 0).trans rfl
            have r1 := (blk_cell hrx 1).trans rfl
            have r2 := (blk_cell hrx 2).trans rfl
            have rf := fun i => blk_free hrx i
            have HRX := hid hrx
            have HWC := hid hwc
            clear hrx hwc hnone
            go_wp2_with fail
            refine rread_no HNO.out (blk_set (blk_set (blk_set HRX.out 0 _) 1 _) 2 _) ?_
            exact (((HWC.out.setCell (p := ⟨R, 0, none⟩) (.inr HRE.out.2) _).setCell (p := ⟨R, 1, none⟩) (.inr HRE.out.2) _).setCell (p := ⟨R, 2, none⟩) (.inr HRE.out.2) _)
        · have q11 : (K == 11) = false := by simp [h11]
          have HI11 : Hid (idxE ((splitE s).getD 0 []) ≠ 11 ∧ idxE ((splitE s).getD 0 []) ≠ 0) := hid (by rw [HPS.out, HP0.out]; have := HKX.out; omega)
          by_cases hl : n = 3
          · have qn : ((n : Int) != 3) = false := by simp; omega
            have hn1 : (1 : Int) < (n : Int) := by omega
            have hn2 : (2 : Int) < (n : Int) := by omega
            have l1 := HN3.out 1 (by omega)
            have l2 := HN3.out 2 (by omega)
            have z1 : w3.cell? ⟨E, 1, none⟩ = some (.int .i64 0) := (blk_cell HB3.out 1).trans rfl
            have hrd := read_no (s := s) HI11.out.2 HI11.out.1 (by rw [HPS.out, HN.out]; exact hl)
            rw [HPS.out, HP0.out, ← HKX.out] at hrd
            generalize ps.getD 1 [] = p1 at l1 hrd
            generalize ps.getD 2 [] = p2 at l2 hrd
            obtain ⟨T, hT⟩ : ∃ T, numR p1 = T := ⟨_, rfl⟩
            obtain ⟨O, hO⟩ : ∃ O, numR p2 = O := ⟨_, rfl⟩
            rw [hT, hO] at hrd
            have HRD := hid hrd
            have HT := hid hT
            have HO := hid hO
            clear hrd hT hO hl
            go_upto_region 14 with (go_at_call 88; refine (HNU.out (bA p1) p1 (by simp [bA]) _).mono ?_; rintro e w8 ⟨rfl, hw8⟩; subst hw8; rw [HT.out])
            have hwb := blk_set HB3.out 1 (.int .i64 T)
            have hch := (Chg.refl [E] w3).setCell (p := ⟨E, 1, none⟩) (.inl (by simp)) (.int .i64 T)
            have hrx := hch.heap HRX3.out (by simp; exact HRE.out.1)
            have hgE : g ≠ E := fun e => by
              have h1 := HN3.out 0 hne
              rw [e, z0] at h1
              cases h1
            have l2' := hch.cell l2 (by simp; exact hgE)
            have hwc := HC3.out.setCell (p := ⟨E, 1, none⟩) (.inr HEW.out) (.int .i64 T)
            clear z0 zf z1 l1 l2 HB3 HC3 HN3 HRX3 hch
            generalize w3.setCell ⟨E, 1, none⟩ (.int .i64 T) = w5 at hwb hrx hwc l2' ⊢
            have HB5 := hid hwb
            have HR5 := hid hrx
            have HC5 := hid hwc
            have z2 : w5.cell? ⟨E, 2, none⟩ = some (.int .i64 0) := (blk_cell hwb 2).trans rfl
            have zf := fun i => blk_free HB5.out i
            clear hwb hrx hwc
            go_upto_region 16 with (go_at_call 88; refine (HNU.out (bA p2) p2 (by simp [bA]) _).mono ?_; rintro e w8 ⟨rfl, hw8⟩; subst hw8; rw [HO.out])
            have hwb := blk_set HB5.out 2 (.int .i64 O)
            have hch := (Chg.refl [E] w5).setCell (p := ⟨E, 2, none⟩) (.inl (by simp)) (.int .i64 O)
            have hrx := hch.heap HR5.out (by simp; exact HRE.out.1)
            have hwc := HC5.out.setCell (p := ⟨E, 2, none⟩) (.inr HEW.out) (.int .i64 O)
            clear zf z2 l2' HB5 HC5 HR5 hch
            generalize w5.setCell ⟨E, 2, none⟩ (.int .i64 O) = w4 at hwb hrx hwc ⊢
            have e0 : w4.cell? ⟨E, 0, none⟩ = some (.int .i64 K) := (blk_cell hwb 0).trans rfl
            have e1 : w4.cell? ⟨E, 1, none⟩ = some (.int .i64 T) := (blk_cell hwb 1).trans rfl
            have e2 : w4.cell? ⟨E, 2, none⟩ = some (.int .i64 O) := (blk_cell hwb 2).trans rfl
            clear hwb
            go_upto_region 16 with fail
            have hSall : ∀ W, Chg [R] w4 W → W.cell? ⟨E, 0, none⟩ = some (.int .i64 K) ∧ W.cell? ⟨E, 1, none⟩ = some (.int .i64 T) ∧ W.cell? ⟨E, 2, none⟩ = some (.int .i64 O) := fun W hc => ⟨hc.cell e0 (by simp; exact fun e => HRE.out.1 e.symm), hc.cell e1 (by simp; exact fun e => HRE.out.1 e.symm), hc.cell e2 (by simp; exact fun e => HRE.out.1 e.symm)⟩
            have HSA := hid hSall
            have HRX := hid hrx
            have HWC := hid hwc
            have HPL2 := hid fun W => rplain_calls ⟨K, T, O⟩ W
            obtain ⟨P, hP⟩ : ∃ P, plainE ⟨K, T, O⟩ = P := ⟨_, rfl⟩
            rw [hP] at HPL2
            have HPP := hid hP
            unfold evV at HPL2
            simp only at HPL2
            clear hSall hP hrx hwc
            (refine wp_region_held_drew (S := (fun w' => w'.cell? ⟨E, 0, none⟩ = some (.int .i64 K) ∧ w'.cell? ⟨E, 1, none⟩ = some (.int .i64 T) ∧ w'.cell? ⟨E, 2, none⟩ = some (.int .i64 O))) (by kernel_rfl) (by exact (HSA.out _ (Chg.refl [R] w4).drew)) (fun hHeld => ?_); (refine wpAnyH_take (i := 0) (v := ?_) rfl (by kernel_rfl) (by kernel_rfl) (by kernel_rfl) (fun _ _ _ h => h) (Or.inl ⟨by rfl, ?_⟩) (by assumption) ?_; rotate_left 1; (focus (intro w hSw; (try dsimp only at hSw); go_simp; (try with_reducible rfl))); (try simp only [List.getElem_toArray, List.getElem_cons_zero, List.getElem_cons_succ, Act.put, List.setIfInBounds_toArray, List.set_cons_zero, List.set_cons_succ])); (refine wpAnyH_take (i := 1) (v := ?_) rfl (by kernel_rfl) (by kernel_rfl) (by kernel_rfl) (fun _ _ _ h => h) (Or.inl ⟨by rfl, ?_⟩) (by assumption) ?_; rotate_left 1; (focus (intro w hSw; (try dsimp only at hSw); go_simp; (try with_reducible rfl))); (try simp only [List.getElem_toArray, List.getElem_cons_zero, List.getElem_cons_succ, Act.put, List.setIfInBounds_toArray, List.set_cons_zero, List.set_cons_succ])); (refine wpAnyH_ready (rs := [2]) (by kernel_rfl) (by simp) ?_; refine AllReadyH.cons rfl (fun K hK => ?_) AllReadyH.nil; go_simp; go_at_call 12; refine (HPL2.out _).mono ?_; rintro e w5 ⟨rfl, hc5⟩; have hc5' : Chg [] w4 w5 := ((Chg.refl [] w4).drew).trans' hc5; have HC5 := hid hc5'; have HB5 := hid (hc5'.heap HRX.out (by simp)); have r0 := (blk_cell HB5.out 0).trans rfl; have r1 := (blk_cell HB5.out 1).trans rfl; have r2 := (blk_cell HB5.out 2).trans rfl; have rf := (fun i => blk_free HB5.out i); have hs5 := HSA.out _ hc5'.nil; clear hc5 hc5'; (refine hK.out _ _ (by exact hs5) (fun hHeld => ?_); clear hK K; (try simp only [List.getElem_toArray, List.getElem_cons_zero, List.getElem_cons_succ, Act.put, List.setIfInBounds_toArray, List.set_cons_zero, List.set_cons_succ]))); (refine wpAnyH_ready (rs := [3]) (by kernel_rfl) (by simp) ?_; refine AllReadyH.cons rfl (fun K hK => ?_) AllReadyH.nil; go_simp; (refine hK.out _ _ (by exact (HSA.out _ (by repeat (first | with_reducible exact Chg.refl _ _ | with_reducible exact HC5.out.nil | with_reducible refine Chg.setCell ?_ (.inl (by simp)) _ | with_reducible refine Chg.drew ?_)))) (fun hHeld => ?_); clear hK K; (try simp only [List.getElem_toArray, List.getElem_cons_zero, List.getElem_cons_succ, Act.put, List.setIfInBounds_toArray, List.set_cons_zero, List.set_cons_succ]))); (refine wpAnyH_take (i := 4) (v := ?_) rfl (by kernel_rfl) (by kernel_rfl) (by kernel_rfl) (fun _ _ _ h => h) (Or.inl ⟨by rfl, ?_⟩) (by assumption) ?_; rotate_left 1; (focus (intro w hSw; (try dsimp only at hSw); go_simp; (try with_reducible rfl))); (try simp only [List.getElem_toArray, List.getElem_cons_zero, List.getElem_cons_succ, Act.put, List.setIfInBounds_toArray, List.set_cons_zero, List.set_cons_succ])); refine wpAnyH_done (by kernel_rfl) ?_ _)
            go_wp2_with fail
            have hRw := HRE.out.2
            refine rread_end HPP.out HRD.out (blk_set (blk_set (blk_set HB5.out 0 _) 1 _) 2 _) ?_
            exact ((((HWC.out.trans' HC5.out).setCell (p := ⟨R, 0, none⟩) (.inr hRw) _).setCell (p := ⟨R, 1, none⟩) (.inr hRw) _).setCell (p := ⟨R, 2, none⟩) (.inr hRw) _)
          · have qn : ((n : Int) != 3) = true := by simp; omega
            have hnone := readE_no (s := s) HI11.out.1 (by rw [HPS.out, HN.out]; exact hl)
            have hrx := HRX3.out
            have hwc := HC3.out
            clear HN3
            have HNO := hid hnone
            have r0 := (blk_cell hrx 0).trans rfl
            have r1 := (blk_cell hrx 1).trans rfl
            have r2 := (blk_cell hrx 2).trans rfl
            have rf := fun i => blk_free hrx i
            have HRX := hid hrx
            have HWC := hid hwc
            clear hrx hwc hnone
            go_wp2_with fail
            refine rread_no HNO.out (blk_set (blk_set (blk_set HRX.out 0 _) 1 _) 2 _) ?_
            exact (((HWC.out.setCell (p := ⟨R, 0, none⟩) (.inr HRE.out.2) _).setCell (p := ⟨R, 1, none⟩) (.inr HRE.out.2) _).setCell (p := ⟨R, 2, none⟩) (.inr HRE.out.2) _)
      · have q1 : ((bA p0).toList == (bA wk).toList) = false := by rw [beq_bA]; exact decide_eq_false (fun e => heq e.symm)
        have q2 : ((bA p0).toList != (bA wk).toList) = true := by rw [bne, q1]; rfl
        have HNE2 : Hid (∀ j, j < k + 1 → wordTab.getD j [] ≠ p0) := hid fun j hj => by
          rcases Nat.lt_or_ge j k with h | h
          · exact HNE.out j h
          · obtain rfl : j = k := by omega
            rw [HWK.out]
            exact heq
        clear heq
        go_wp2_with fail
        go_quiet (fail)
        go_wp2_with fail
        go_roundg (gk - 1)
        case measure => have := HG.out; omega
        case rel => exact ⟨k + 1, by go_num, hid (by have := HG.out; omega), HNE2, hid (HW.out.trans' (Chg.of_drewN _ _ _))⟩
    · have hnone : readE s = none := by
        have hi0 : idxE p0 = 0 := by
          rcases idx_at p0 with h | ⟨h1, h2, h3⟩
          · exact h.1
          · exact absurd h3 (HNE.out _ (by omega))
        exact readE_zero (by rw [HPS.out, HP0.out]; exact hi0)
      have hrx := HW.out.heap HRX2.out (by simp)
      have hwc := HC2.out.trans' HW.out
      have HRE : Hid (True ∧ w.heap.size ≤ R) := hid ⟨trivial, HRW.out⟩
      clear HPX HRX2 HCL HNE
      have HNO := hid hnone
      have r0 := (blk_cell hrx 0).trans rfl
      have r1 := (blk_cell hrx 1).trans rfl
      have r2 := (blk_cell hrx 2).trans rfl
      have rf := fun i => blk_free hrx i
      have HRX := hid hrx
      have HWC := hid hwc
      clear hrx hwc hnone
      go_wp2_with fail
      refine rread_no HNO.out (blk_set (blk_set (blk_set HRX.out 0 _) 1 _) 2 _) ?_
      exact (((HWC.out.setCell (p := ⟨R, 0, none⟩) (.inr HRE.out.2) _).setCell (p := ⟨R, 1, none⟩) (.inr HRE.out.2) _).setCell (p := ⟨R, 2, none⟩) (.inr HRE.out.2) _)
end Go.Proofs.YtbghkodcfedebaaGreatDoor
