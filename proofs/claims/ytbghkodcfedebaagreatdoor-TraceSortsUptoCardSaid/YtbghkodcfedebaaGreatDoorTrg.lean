/- Walks of the trace layer: a line read, the walk. -/
import Derived.Test.YtbghkodcfedebaaGreatDoorTrf
namespace Go.Proofs.YtbghkodcfedebaaGreatDoor
open Go.RowKit Go.AB
set_option linter.unusedSimpArgs false
set_option linter.unusedVariables false
set_option linter.unusedSectionVars false

/-- What event answers. -/
def EvtP (s : List UInt8) (e : Ending) : Prop := ∃ (x : Ev) (ok : Bool), e = .returned (.tuple #[evV x, .bool ok]) ∧ Hid ((ok = true ∧ readE s = some x) ∨ (ok = false ∧ readE s = none))
set_option maxHeartbeats 8000000 in
set_option maxRecDepth 100000 in
theorem event_calls (s : List UInt8) (hs : s.length ≤ 16777216) (w : World) (hv : VarsT w) : Calls Tryz.prog 51 #[.string (bA s)] w fun e w' => EvtP s e ∧ Chg [] w w' := by
  obtain ⟨ps, hps⟩ : ∃ ps, splitE s = ps := ⟨_, rfl⟩
  have hne : 0 < ps.length := by rw [← hps]; exact List.length_pos_iff.2 (splitE_ne s)
  have hcn : ps.length ≤ 16777217 := by rw [← hps]; have := splitE_count s; omega
  have hpl : ∀ i, (ps.getD i []).length ≤ 16777216 := fun i => by
    rw [List.getD_eq_getElem?_getD]
    cases h : ps[i]? with
    | none => simp
    | some x =>
      have := splitE_len s x (by rw [hps]; exact List.mem_of_getElem? h)
      simp only [Option.getD_some]
      omega
  obtain ⟨n, hn⟩ : ∃ n, ps.length = n := ⟨_, rfl⟩
  have HV := hid hv
  have HSP := hid fun W (hc : Chg [] w W) => splitT s (by omega) W (hv.keep hc)
  rw [hps] at HSP
  have HPS := hid hps
  have HPL := hid hpl
  have HN := hid hn
  rw [hn] at hne hcn
  obtain ⟨R, hR⟩ : ∃ R, w.heap.size = R := ⟨_, rfl⟩
  have HRB := hid (heap_alloc_new w (.cells #[.int .i64 0, .int .i64 0, .int .i64 0] 28))
  have HC0 := hid ((Chg.refl [] w).alloc (.cells #[.int .i64 0, .int .i64 0, .int .i64 0] 28))
  rw [hR] at HRB
  clear hv hps hpl hn
  go_enter Tryz.func51, Tryz.ntmps51
  go_upto_region 2 with (go_at_call 84; refine (HSP.out _ HC0.out).mono ?_; rintro e w1 ⟨L, rfl, hge, hc1, hcell⟩; refine halt (fun XX hXX => ?_); rw [HN.out] at hXX; have HC1 := hid hc1; have HCL := hid hcell; clear hge hc1 hcell; rw [hXX.out]; clear hXX XX)
  have l0 : w1.cell? ⟨L, 0, none⟩ = some (.string (bA (ps.getD 0 []))) := by
    have h := HCL.out 0 (by rw [HN.out]; exact hne)
    rw [h, List.getD_eq_getElem?_getD, List.getElem?_eq_getElem (by rw [HN.out]; exact hne)]
    rfl
  obtain ⟨p0, hp0⟩ : ∃ p0, ps.getD 0 [] = p0 := ⟨_, rfl⟩
  rw [hp0] at l0
  have HP0 := hid hp0
  obtain ⟨k, hk⟩ : ∃ k, idxE p0 = k := ⟨_, rfl⟩
  have hk11 : k ≤ 11 := by rcases idx_at p0 with h | h <;> omega
  have HK := hid hk
  have HW := hid fun W (hc : Chg [] w1 W) => words_calls W (HV.out.keep ((HC0.out.trans' HC1.out).trans' hc))
  have HIX := hid fun W wb (h : ∀ i (hi : i < 11), World.cell? W ⟨wb, i, none⟩ = some (.string (bA (wordTab[i]'hi)))) => indexT h p0
  rw [hk] at HIX
  have e1 : (k : Int) - 1 + 1 = (k : Int) := by omega
  have e2 : IntKind.i64.wrap (k : Int) = (k : Int) := by rw [IntKind.wrap_i64]; omega
  have e3 : wrap64 (k : Int) = (k : Int) := IntWalk.wrap64_in _ (by omega)
  have HRW := hid hR
  clear hp0 hk hR
  go_cut [5] (fun v5 wx => ∃ E, v5 = .pointer (some ⟨E, 0, none⟩) ∧ Hid (wx.heap[E]? = some (.cells #[.int .i64 k, .int .i64 0, .int .i64 0] 28 (0, 0)) ∧ Chg [] w1 wx ∧ w1.heap.size ≤ E))
  case first =>
    (refine wp_region_held_drew (S := (fun w' => w'.cell? ⟨L, 0, none⟩ = some (.string (bA p0)))) (by kernel_rfl) (by exact l0) (fun hHeld => ?_); (refine wpAnyH_take (i := 1) (v := ?_) rfl (by kernel_rfl) (by kernel_rfl) (by kernel_rfl) (fun _ _ _ h => h) (Or.inl ⟨by rfl, ?_⟩) (by assumption) ?_; rotate_left 1; (focus (intro w hSw; (try dsimp only at hSw); go_simp; (try with_reducible rfl))); (try simp only [List.getElem_toArray, List.getElem_cons_zero, List.getElem_cons_succ, Act.put, List.setIfInBounds_toArray, List.set_cons_zero, List.set_cons_succ])); (refine wpAnyH_take (i := 2) (v := ?_) rfl (by kernel_rfl) (by kernel_rfl) (by kernel_rfl) (fun _ _ _ h => h) (Or.inl ⟨by rfl, ?_⟩) (by assumption) ?_; rotate_left 1; (focus (intro w hSw; (try dsimp only at hSw); go_simp; (try with_reducible rfl))); (try simp only [List.getElem_toArray, List.getElem_cons_zero, List.getElem_cons_succ, Act.put, List.setIfInBounds_toArray, List.set_cons_zero, List.set_cons_succ])); (refine wpAnyH_take (i := 3) (v := ?_) rfl (by kernel_rfl) (by kernel_rfl) (by kernel_rfl) (fun _ _ _ h => h) (Or.inl ⟨by rfl, ?_⟩) (by assumption) ?_; rotate_left 1; (focus (intro w hSw; (try dsimp only at hSw); go_simp; (try with_reducible rfl))); (try simp only [List.getElem_toArray, List.getElem_cons_zero, List.getElem_cons_succ, Act.put, List.setIfInBounds_toArray, List.set_cons_zero, List.set_cons_succ])); (refine wpAnyH_ready (rs := [0, 7]) (by kernel_rfl) (by simp) ?_; refine AllReadyH.cons rfl (fun K hK => ?_) (AllReadyH.cons rfl (fun K hK => ?_) AllReadyH.nil); rotate_left 1); (focus (go_simp; (refine hK.out _ _ (by exact (by first | exact m1 _ | exact ((Chg.refl [] w1).drew.alloc _).cell l0 (by simp))) (fun hHeld => ?_); clear hK K; (try simp only [List.getElem_toArray, List.getElem_cons_zero, List.getElem_cons_succ, Act.put, List.setIfInBounds_toArray, List.set_cons_zero, List.set_cons_succ])); (refine wpAnyH_ready (rs := [0]) (by kernel_rfl) (by simp) ?_; refine AllReadyH.cons rfl (fun K hK => ?_) AllReadyH.nil; go_simp; go_at_call 68; refine (HW.out _ (by first | exact (Chg.refl [] w1).drew | exact (Chg.refl [] w1).drew.alloc _)).mono ?_; rintro e w2 ⟨wb, rfl, hgb, hc2, hcl2⟩; have hcX : Chg [] w1 w2 := (by first | exact (Chg.refl [] w1).drew.trans' hc2 | exact ((Chg.refl [] w1).drew.alloc _).trans' hc2); have HC2 := hid hcX; have HCE := hid hcl2; have hsz := hcX.size; have m0 := hcX.cell l0 (by simp); have m1 := fun o => (hcX.alloc o).cell l0 (by simp); (try have z0 := hc2.heap (heap_alloc_new _ _) (by simp)); (try have z1 := (blk_cell z0 0).trans rfl); (try have z2 := (blk_cell z0 1).trans rfl); (try have z3 := (blk_cell z0 2).trans rfl); (try have zf := fun i => blk_free z0 i); clear hcl2 hc2 hcX; (refine hK.out _ _ (by exact m0) (fun hHeld => ?_); clear hK K; (try simp only [List.getElem_toArray, List.getElem_cons_zero, List.getElem_cons_succ, Act.put, List.setIfInBounds_toArray, List.set_cons_zero, List.set_cons_succ]))); (refine wpAnyH_ready (rs := [4]) (by kernel_rfl) (by simp) ?_; refine AllReadyH.cons rfl (fun K hK => ?_) AllReadyH.nil; go_simp; go_at_call 85; refine (HIX.out _ _ (by first | exact HCE.out | exact fun i hi => ((Chg.refl [] _).alloc _).cell (HCE.out i hi) (by simp))).mono ?_; rintro e w3 ⟨rfl, rfl⟩; (refine hK.out _ _ (by exact (by first | exact m0 | exact m1 _)) (fun hHeld => ?_); clear hK K; (try simp only [List.getElem_toArray, List.getElem_cons_zero, List.getElem_cons_succ, Act.put, List.setIfInBounds_toArray, List.set_cons_zero, List.set_cons_succ]))); (refine wpAnyH_take (i := 5) (v := ?_) rfl (by kernel_rfl) (by kernel_rfl) (by kernel_rfl) (fun _ _ _ h => h) (Or.inl ⟨by rfl, ?_⟩) (by assumption) ?_; rotate_left 1; (focus (intro w hSw; (try dsimp only at hSw); go_simp; (try with_reducible rfl))); (try simp only [List.getElem_toArray, List.getElem_cons_zero, List.getElem_cons_succ, Act.put, List.setIfInBounds_toArray, List.set_cons_zero, List.set_cons_succ])); (refine wpAnyH_take (i := 6) (v := ?_) rfl (by kernel_rfl) (by kernel_rfl) (by kernel_rfl) (fun _ _ _ h => h) (Or.inl ⟨by rfl, ?_⟩) (by assumption) ?_; rotate_left 1; (focus (intro w hSw; (try dsimp only at hSw); go_simp; (try with_reducible rfl))); (try simp only [List.getElem_toArray, List.getElem_cons_zero, List.getElem_cons_succ, Act.put, List.setIfInBounds_toArray, List.set_cons_zero, List.set_cons_succ])))); rotate_left 1; (focus (go_simp; go_at_call 68; refine (HW.out _ (by first | exact (Chg.refl [] w1).drew | exact (Chg.refl [] w1).drew.alloc _)).mono ?_; rintro e w2 ⟨wb, rfl, hgb, hc2, hcl2⟩; have hcX : Chg [] w1 w2 := (by first | exact (Chg.refl [] w1).drew.trans' hc2 | exact ((Chg.refl [] w1).drew.alloc _).trans' hc2); have HC2 := hid hcX; have HCE := hid hcl2; have hsz := hcX.size; have m0 := hcX.cell l0 (by simp); have m1 := fun o => (hcX.alloc o).cell l0 (by simp); (try have z0 := hc2.heap (heap_alloc_new _ _) (by simp)); (try have z1 := (blk_cell z0 0).trans rfl); (try have z2 := (blk_cell z0 1).trans rfl); (try have z3 := (blk_cell z0 2).trans rfl); (try have zf := fun i => blk_free z0 i); clear hcl2 hc2 hcX; (refine hK.out _ _ (by exact m0) (fun hHeld => ?_); clear hK K; (try simp only [List.getElem_toArray, List.getElem_cons_zero, List.getElem_cons_succ, Act.put, List.setIfInBounds_toArray, List.set_cons_zero, List.set_cons_succ])); (refine wpAnyH_ready (rs := [4, 7]) (by kernel_rfl) (by simp) ?_; refine AllReadyH.cons rfl (fun K hK => ?_) (AllReadyH.cons rfl (fun K hK => ?_) AllReadyH.nil); rotate_left 1); (focus (go_simp; (refine hK.out _ _ (by exact (by first | exact m1 _ | exact ((Chg.refl [] w1).drew.alloc _).cell l0 (by simp))) (fun hHeld => ?_); clear hK K; (try simp only [List.getElem_toArray, List.getElem_cons_zero, List.getElem_cons_succ, Act.put, List.setIfInBounds_toArray, List.set_cons_zero, List.set_cons_succ])); (refine wpAnyH_ready (rs := [4]) (by kernel_rfl) (by simp) ?_; refine AllReadyH.cons rfl (fun K hK => ?_) AllReadyH.nil; go_simp; go_at_call 85; refine (HIX.out _ _ (by first | exact HCE.out | exact fun i hi => ((Chg.refl [] _).alloc _).cell (HCE.out i hi) (by simp))).mono ?_; rintro e w3 ⟨rfl, rfl⟩; (refine hK.out _ _ (by exact (by first | exact m0 | exact m1 _)) (fun hHeld => ?_); clear hK K; (try simp only [List.getElem_toArray, List.getElem_cons_zero, List.getElem_cons_succ, Act.put, List.setIfInBounds_toArray, List.set_cons_zero, List.set_cons_succ]))); (refine wpAnyH_take (i := 5) (v := ?_) rfl (by kernel_rfl) (by kernel_rfl) (by kernel_rfl) (fun _ _ _ h => h) (Or.inl ⟨by rfl, ?_⟩) (by assumption) ?_; rotate_left 1; (focus (intro w hSw; (try dsimp only at hSw); go_simp; (try with_reducible rfl))); (try simp only [List.getElem_toArray, List.getElem_cons_zero, List.getElem_cons_succ, Act.put, List.setIfInBounds_toArray, List.set_cons_zero, List.set_cons_succ])); (refine wpAnyH_take (i := 6) (v := ?_) rfl (by kernel_rfl) (by kernel_rfl) (by kernel_rfl) (fun _ _ _ h => h) (Or.inl ⟨by rfl, ?_⟩) (by assumption) ?_; rotate_left 1; (focus (intro w hSw; (try dsimp only at hSw); go_simp; (try with_reducible rfl))); (try simp only [List.getElem_toArray, List.getElem_cons_zero, List.getElem_cons_succ, Act.put, List.setIfInBounds_toArray, List.set_cons_zero, List.set_cons_succ])))); rotate_left 1; (focus (go_simp; go_at_call 85; refine (HIX.out _ _ (by first | exact HCE.out | exact fun i hi => ((Chg.refl [] _).alloc _).cell (HCE.out i hi) (by simp))).mono ?_; rintro e w3 ⟨rfl, rfl⟩; (refine hK.out _ _ (by exact (by first | exact m0 | exact m1 _)) (fun hHeld => ?_); clear hK K; (try simp only [List.getElem_toArray, List.getElem_cons_zero, List.getElem_cons_succ, Act.put, List.setIfInBounds_toArray, List.set_cons_zero, List.set_cons_succ])); (refine wpAnyH_take (i := 5) (v := ?_) rfl (by kernel_rfl) (by kernel_rfl) (by kernel_rfl) (fun _ _ _ h => h) (Or.inl ⟨by rfl, ?_⟩) (by assumption) ?_; rotate_left 1; (focus (intro w hSw; (try dsimp only at hSw); go_simp; (try with_reducible rfl))); (try simp only [List.getElem_toArray, List.getElem_cons_zero, List.getElem_cons_succ, Act.put, List.setIfInBounds_toArray, List.set_cons_zero, List.set_cons_succ])); (refine wpAnyH_take (i := 6) (v := ?_) rfl (by kernel_rfl) (by kernel_rfl) (by kernel_rfl) (fun _ _ _ h => h) (Or.inl ⟨by rfl, ?_⟩) (by assumption) ?_; rotate_left 1; (focus (intro w hSw; (try dsimp only at hSw); go_simp; (try with_reducible rfl))); (try simp only [List.getElem_toArray, List.getElem_cons_zero, List.getElem_cons_succ, Act.put, List.setIfInBounds_toArray, List.set_cons_zero, List.set_cons_succ])); (refine wpAnyH_ready (rs := [7]) (by kernel_rfl) (by simp) ?_; refine AllReadyH.cons rfl (fun K hK => ?_) AllReadyH.nil; go_simp; (refine hK.out _ _ (by exact (by first | exact m1 _ | exact ((Chg.refl [] w1).drew.alloc _).cell l0 (by simp))) (fun hHeld => ?_); clear hK K; (try simp only [List.getElem_toArray, List.getElem_cons_zero, List.getElem_cons_succ, Act.put, List.setIfInBounds_toArray, List.set_cons_zero, List.set_cons_succ]))))))); (all_goals ((refine wpAnyH_ready (rs := [8]) (by kernel_rfl) (by simp) ?_; refine AllReadyH.cons rfl (fun K hK => ?_) AllReadyH.nil; go_simp; (refine hK.out _ _ (by exact ((show Chg [] w1 _ from (by repeat (first | with_reducible exact Chg.refl _ _ | with_reducible exact HC2.out | with_reducible refine Chg.setCell ?_ (by first | exact .inr (Nat.le_refl _) | (refine .inr ?_; first | omega | (simp; done) | (simp; omega)) | (refine .inl ?_; simp; done)) _ | with_reducible refine Chg.drewN ?_ _ | with_reducible refine Chg.drew ?_ | with_reducible refine Chg.alloc ?_ _))).cell l0 (by simp))) (fun hHeld => ?_); clear hK K; (try simp only [List.getElem_toArray, List.getElem_cons_zero, List.getElem_cons_succ, Act.put, List.setIfInBounds_toArray, List.set_cons_zero, List.set_cons_succ]))); refine wpAnyH_done (by kernel_rfl) ?_ _)))
    all_goals
      go_wp2_with fail
      go_meet
      refine ⟨_, rfl, hid ⟨?_, ?_, ?_⟩⟩
      · first | exact heap_alloc_new _ _ | exact blk_set z0 0 _ | exact blk_set (blk_set (blk_set z0 0 _) 1 _) 2 _
      · exact (by repeat (first | with_reducible exact Chg.refl _ _ | with_reducible exact HC2.out | with_reducible refine Chg.setCell ?_ (by first | exact .inr (Nat.le_refl _) | (refine .inr ?_; first | omega | (simp; done) | (simp; omega)) | (refine .inl ?_; simp; done)) _ | with_reducible refine Chg.drewN ?_ _ | with_reducible refine Chg.drew ?_ | with_reducible refine Chg.alloc ?_ _))
      · first | exact hsz | exact Nat.le_refl _
  case rest =>
  obtain ⟨E, rfl, hE⟩ := hcut
  obtain ⟨w2, rfl⟩ : ∃ x, x = wc := ⟨_, rfl⟩
  have HE := hid hE.out.1
  have HC2 := hid hE.out.2.1
  have hE1 := hE.out.2.2
  have hLl : L < w1.heap.size := by
    rcases Nat.lt_or_ge L w1.heap.size with h | h
    · exact h
    · exfalso
      unfold World.cell? at l0
      rw [Array.getElem?_eq_none h] at l0
      simp at l0
  have hEL : Hid (L ≠ E ∧ E < w2.heap.size ∧ R < w1.heap.size ∧ R = w.heap.size ∧ w.heap.size ≤ w1.heap.size ∧ w1.heap.size ≤ w2.heap.size) := hid ⟨by omega, blk_lt HE.out, Nat.lt_of_lt_of_le (blk_lt HRB.out) HC1.out.size, HRW.out.symm, (HC0.out.trans' HC1.out).size, HC2.out.size⟩
  have HEL := hid hE1
  have x0 : w2.cell? ⟨E, 0, none⟩ = some (.int .i64 k) := (blk_cell HE.out 0).trans rfl
  clear hE hE1 hLl l0 HW HIX e1 e2 e3 HSP
  go_upto_region 3 with fail
  go_cut [6] (fun v6 wx => ∃ ok, v6 = .bool ok ∧ Hid (EvR s 0 0 0 ok) ∧ wx = w2)
  case first =>
    have HS := ev_start s
    rw [HPS.out, HN.out, HP0.out, HK.out] at HS
    have hc5 : (k = 0 ∧ ((k : Int) != 0) = false) ∨ (k = 11 ∧ n = 2) ∨ (k = 11 ∧ n ≠ 2 ∧ ((n : Int) == 2) = false) ∨ (((k : Int) != 0) = true ∧ ((k : Int) == 11) = false ∧ ((k : Int) != 11) = true ∧ k ≠ 0 ∧ k ≠ 11 ∧ n = 2) ∨
        (((k : Int) != 0) = true ∧ ((k : Int) == 11) = false ∧ ((k : Int) != 11) = true ∧ k ≠ 0 ∧ k ≠ 11 ∧ n = 3) ∨ (((k : Int) != 0) = true ∧ ((k : Int) == 11) = false ∧ ((k : Int) != 11) = true ∧ k ≠ 0 ∧ k ≠ 11 ∧ ((n : Int) == 2) = false ∧ ((n : Int) == 3) = false ∧ n ≠ 2 ∧ n ≠ 3) := by
      by_cases a : k = 0
      · exact .inl ⟨a, by simp [a]⟩
      · by_cases b : k = 11
        · by_cases c : n = 2
          · exact .inr (.inl ⟨b, c⟩)
          · exact .inr (.inr (.inl ⟨b, c, by simp; omega⟩))
        · have a' : ((k : Int) != 0) = true := by simp; omega
          have b' : ((k : Int) == 11) = false := by simp; omega
          have b2 : ((k : Int) != 11) = true := by simp; omega
          by_cases c : n = 2
          · exact .inr (.inr (.inr (.inl ⟨a', b', b2, a, b, c⟩)))
          · by_cases d : n = 3
            · exact .inr (.inr (.inr (.inr (.inl ⟨a', b', b2, a, b, d⟩))))
            · exact .inr (.inr (.inr (.inr (.inr ⟨a', b', b2, a, b, by simp; omega, by simp; omega, c, d⟩))))
    have HH := hid HS
    clear HS
    rcases hc5 with ⟨a, a1⟩ | ⟨a, b⟩ | ⟨a, b, b1⟩ | ⟨q1, q2, q3, a, b, c⟩ | ⟨q1, q2, q3, a, b, c⟩ | ⟨q1, q2, q3, a, b, q4, q5, c, d⟩
    · go_wp2_with fail
      go_meet
      exact ⟨false, rfl, hid (by have := HH.out; simpa [a] using this), rfl⟩
    · subst a b
      go_wp2_with fail
      go_meet
      exact ⟨true, rfl, hid (by have := HH.out; simpa using this), rfl⟩
    · subst a
      go_wp2_with fail
      go_meet
      exact ⟨false, rfl, hid (by have := HH.out; simpa [b] using this), rfl⟩
    · subst c
      go_wp2_with fail
      go_meet
      exact ⟨false, rfl, hid (by have := HH.out; simpa [a, b] using this), rfl⟩
    · subst c
      go_wp2_with fail
      go_meet
      exact ⟨true, rfl, hid (by have := HH.out; simpa [a, b] using this), rfl⟩
    · go_wp2_with fail
      go_meet
      exact ⟨false, rfl, hid (by have := HH.out; simpa [a, b, c, d] using this), rfl⟩
  case rest =>
  obtain ⟨ok0, rfl, HOK, hw2⟩ := hcut
  obtain rfl := hw2
  clear x0
  obtain ⟨w2, rfl⟩ : ∃ x, x = wc := ⟨_, rfl⟩
  have HCW2 := hid ((HC0.out.trans' HC1.out).trans' HC2.out)
  go_upto_region 5 with fail
  have hq := heap_alloc_new w2 (.cells #[.pointer (some ⟨E, 1, none⟩), .pointer (some ⟨E, 2, none⟩)] 142)
  have hc3 := (Chg.refl [] w2).alloc (.cells #[.pointer (some ⟨E, 1, none⟩), .pointer (some ⟨E, 2, none⟩)] 142)
  generalize w2.alloc (.cells #[.pointer (some ⟨E, 1, none⟩), .pointer (some ⟨E, 2, none⟩)] 142) = w3 at hq hc3 ⊢
  have hQE : w2.heap.size ≠ E := by have := HEL.out; have := hEL.out.2.1; omega
  generalize w2.heap.size = Q at hq hQE ⊢
  have HQ := hid hq
  have HC3 := hid hc3
  have HQE := hid hQE
  clear hq hc3 hQE
  go_loopg [6, 43] 2 (fun gk v6 v43 wr => ∃ (j : Nat) (ok : Bool) (t o : Int), v6 = .bool ok ∧ v43 = .int .i64 j ∧ Hid (gk + j = 2) ∧ Hid (EvR s j t o ok) ∧ Hid (wr.heap[E]? = some (.cells #[.int .i64 k, .int .i64 t, .int .i64 o] 28 (0, 0)) ∧ Chg [E] w3 wr ∧ Chg [] w wr))
  case atStart => exact ⟨0, ok0, 0, 0, rfl, rfl, hid (by omega), HOK, hid ⟨HC3.out.heap HE.out (by simp), Chg.refl _ _, HCW2.out.trans' HC3.out⟩⟩
  case round =>
    obtain ⟨j, ok, t, o, rfl, rfl, HG, HR, HS⟩ := hrel
    by_cases hj : j < 2
    · have q0 := HS.out.2.1.heap HQ.out (by simp; exact fun e => HQE.out e)
      cases ok with
      | false =>
        have HR2 := hid (ev_skip HR.out (.inl rfl))
        rcases (by omega : j = 0 ∨ j = 1) with rfl | rfl
        · have y0 : wr.cell? ⟨Q, 0, none⟩ = some (.pointer (some ⟨E, 1, none⟩)) := (blk_cell q0 0).trans rfl
          clear q0
          go_wp2_with fail
          go_roundg (gk - 1)
          case measure => have := HG.out; omega
          case rel => exact ⟨1, false, t, o, rfl, rfl, hid (by have := HG.out; omega), HR2, HS⟩
        · have y0 : wr.cell? ⟨Q, 1, none⟩ = some (.pointer (some ⟨E, 2, none⟩)) := (blk_cell q0 1).trans rfl
          clear q0
          go_wp2_with fail
          go_roundg (gk - 1)
          case measure => have := HG.out; omega
          case rel => exact ⟨2, false, t, o, rfl, rfl, hid (by have := HG.out; omega), HR2, HS⟩
      | true =>
        by_cases hjn : j + 1 < n
        · have hl := HCL.out (j + 1) (by rw [HN.out]; exact hjn)
          have hgd : ps.getD (j + 1) [] = ps[j + 1]'(by rw [HN.out]; exact hjn) := by
            rw [List.getD_eq_getElem?_getD, List.getElem?_eq_getElem (by rw [HN.out]; exact hjn)]
            rfl
          have hnum := number_calls (ps.getD (j + 1) []) (HPL.out _) wr (HV.out.keep HS.out.2.2)
          have hgood := fun v => ev_good (v := v) HR.out hj (by rw [HPS.out, HN.out]; exact hjn)
          have hbad := fun t' o' => ev_bad (t' := t') (o' := o') HR.out hj (by rw [HPS.out, HN.out]; exact hjn)
          rw [HPS.out] at hgood hbad
          have hly : wr.cell? ⟨L, j + 1, none⟩ = some (.string (bA (ps.getD (j + 1) []))) := by
            rw [hgd, ← hl]
            have h1 : w3.cell? ⟨L, j + 1, none⟩ = w1.cell? ⟨L, j + 1, none⟩ := by rw [hl]; exact (HC2.out.trans' HC3.out).cell hl (by simp)
            rw [hl] at h1 ⊢
            exact HS.out.2.1.cell h1 (by simp; exact hEL.out.1)
          generalize ps.getD (j + 1) [] = p at hnum hgood hbad hly
          have HNU := hid hnum
          have HGD := hid hgood
          have HBD := hid hbad
          have hbx := HS.out.1
          clear hl hgd hnum hgood hbad
          have post : ∀ (W : World) (i : Nat) (v : Int), i = 1 ∨ i = 2 → Chg [] wr W → ((W.setCell ⟨E, i, none⟩ (.int .i64 v)).heap[E]? = some (.cells #[.int .i64 k, .int .i64 (if i = 1 then v else t), .int .i64 (if i = 2 then v else o)] 28 (0, 0)) ∧ Chg [E] w3 (W.setCell ⟨E, i, none⟩ (.int .i64 v)) ∧ Chg [] w (W.setCell ⟨E, i, none⟩ (.int .i64 v))) := fun W i v hi hc => by
            refine ⟨?_, (HS.out.2.1.trans' hc.nil).setCell (p := ⟨E, i, none⟩) (.inl (by simp)) _, (HS.out.2.2.trans' hc).setCell (p := ⟨E, i, none⟩) (.inr (show w.heap.size ≤ E from by have := HEL.out; have := hEL.out; omega)) _⟩
            rcases hi with rfl | rfl
            · exact blk_set (hc.heap hbx (by simp)) 1 _
            · exact blk_set (hc.heap hbx (by simp)) 2 _
          have HPO := hid post
          clear post
          rcases (by omega : j = 0 ∨ j = 1) with rfl | rfl
          · have y0 : wr.cell? ⟨Q, 0, none⟩ = some (.pointer (some ⟨E, 1, none⟩)) := (blk_cell q0 0).trans rfl
            have hn1 : (1 : Int) < (n : Int) := by omega
            have hn2 : decide ((1 : Int) < (n : Int)) = true := decide_eq_true hn1
            clear q0
            go_wp2_with (go_at_call 86; refine HNU.out.mono ?_; rintro e w4 ⟨⟨v, ok2, rfl, hv⟩, hc4⟩; have hb4 := hc4.heap hbx (by simp); have b1 := (blk_cell hb4 1).trans rfl; have f1 := blk_free hb4 1; clear hb4)
            go_roundg (gk - 1)
            case measure => have := HG.out; omega
            case rel =>
              refine ⟨1, ok2, v, o, rfl, rfl, hid (by have := HG.out; omega), ?_, hid (HPO.out w4 1 v (.inl rfl) hc4)⟩
              rcases hv.out with ⟨rfl, h⟩ | ⟨rfl, h⟩
              · exact hid (HGD.out v h)
              · exact hid (HBD.out v o h)
          · have y0 : wr.cell? ⟨Q, 1, none⟩ = some (.pointer (some ⟨E, 2, none⟩)) := (blk_cell q0 1).trans rfl
            have hn1 : (2 : Int) < (n : Int) := by omega
            have hn2 : decide ((2 : Int) < (n : Int)) = true := decide_eq_true hn1
            clear q0
            go_wp2_with (go_at_call 86; refine HNU.out.mono ?_; rintro e w4 ⟨⟨v, ok2, rfl, hv⟩, hc4⟩; have hb4 := hc4.heap hbx (by simp); have b1 := (blk_cell hb4 2).trans rfl; have f1 := blk_free hb4 2; clear hb4)
            go_roundg (gk - 1)
            case measure => have := HG.out; omega
            case rel =>
              refine ⟨2, ok2, t, v, rfl, rfl, hid (by have := HG.out; omega), ?_, hid (HPO.out w4 2 v (.inr rfl) hc4)⟩
              rcases hv.out with ⟨rfl, h⟩ | ⟨rfl, h⟩
              · exact hid (HGD.out v h)
              · exact hid (HBD.out t v h)
        · have HR2 := hid (ev_skip HR.out (.inr (by rw [HPS.out, HN.out]; omega)))
          rcases (by omega : j = 0 ∨ j = 1) with rfl | rfl
          · have y0 : wr.cell? ⟨Q, 0, none⟩ = some (.pointer (some ⟨E, 1, none⟩)) := (blk_cell q0 0).trans rfl
            have hn2 : decide ((1 : Int) < (n : Int)) = false := decide_eq_false (by omega)
            clear q0
            go_wp2_with fail
            go_roundg (gk - 1)
            case measure => have := HG.out; omega
            case rel => exact ⟨1, true, t, o, rfl, rfl, hid (by have := HG.out; omega), HR2, HS⟩
          · have y0 : wr.cell? ⟨Q, 1, none⟩ = some (.pointer (some ⟨E, 2, none⟩)) := (blk_cell q0 1).trans rfl
            have hn2 : decide ((2 : Int) < (n : Int)) = false := decide_eq_false (by omega)
            clear q0
            go_wp2_with fail
            go_roundg (gk - 1)
            case measure => have := HG.out; omega
            case rel => exact ⟨2, true, t, o, rfl, rfl, hid (by have := HG.out; omega), HR2, HS⟩
    · obtain rfl : j = 2 := by have := HG.out; omega
      have x0 : wr.cell? ⟨E, 0, none⟩ = some (.int .i64 k) := (blk_cell HS.out.1 0).trans rfl
      have x1 : wr.cell? ⟨E, 1, none⟩ = some (.int .i64 t) := (blk_cell HS.out.1 1).trans rfl
      have x2 : wr.cell? ⟨E, 2, none⟩ = some (.int .i64 o) := (blk_cell HS.out.1 2).trans rfl
      go_upto_region 10 with fail
      have hrb := HS.out.2.1.heap (HC3.out.heap (HC2.out.heap (HC1.out.heap HRB.out (by simp)) (by simp)) (by simp)) (by simp; have := HEL.out; have := hEL.out; omega)
      have hRE : R ≠ E := by have := HEL.out; have := hEL.out; omega
      have hRw : w.heap.size ≤ R := by have := hEL.out; omega
      have HRX := hid hrb
      have hSall : ∀ W, Chg [R] wr W → W.cell? ⟨E, 0, none⟩ = some (.int .i64 k) ∧ W.cell? ⟨E, 1, none⟩ = some (.int .i64 t) ∧ W.cell? ⟨E, 2, none⟩ = some (.int .i64 o) := fun W hc => ⟨hc.cell x0 (by simp; exact fun e => hRE e.symm), hc.cell x1 (by simp; exact fun e => hRE e.symm), hc.cell x2 (by simp; exact fun e => hRE e.symm)⟩
      have HSA := hid hSall
      clear hSall hrb
      cases ok with
      | false =>
        have HF := hid (ev_end_bad HR.out)
        have r0 := (blk_cell HRX.out 0).trans rfl
        have r1 := (blk_cell HRX.out 1).trans rfl
        have r2 := (blk_cell HRX.out 2).trans rfl
        have rf := fun i => blk_free HRX.out i
        (refine wp_region_held_drew (S := (fun w' => w'.cell? ⟨E, 0, none⟩ = some (.int .i64 k) ∧ w'.cell? ⟨E, 1, none⟩ = some (.int .i64 t) ∧ w'.cell? ⟨E, 2, none⟩ = some (.int .i64 o))) (by kernel_rfl) (by exact (HSA.out _ (Chg.refl [R] wr).drew)) (fun hHeld => ?_); (refine wpAnyH_take (i := 0) (v := ?_) rfl (by kernel_rfl) (by kernel_rfl) (by kernel_rfl) (fun _ _ _ h => h) (Or.inl ⟨by rfl, ?_⟩) (by assumption) ?_; rotate_left 1; (focus (intro w hSw; (try dsimp only at hSw); go_simp; (try with_reducible rfl))); (try simp only [List.getElem_toArray, List.getElem_cons_zero, List.getElem_cons_succ, Act.put, List.setIfInBounds_toArray, List.set_cons_zero, List.set_cons_succ])); (refine wpAnyH_take (i := 1) (v := ?_) rfl (by kernel_rfl) (by kernel_rfl) (by kernel_rfl) (fun _ _ _ h => h) (Or.inl ⟨by rfl, ?_⟩) (by assumption) ?_; rotate_left 1; (focus (intro w hSw; (try dsimp only at hSw); go_simp; (try with_reducible rfl))); (try simp only [List.getElem_toArray, List.getElem_cons_zero, List.getElem_cons_succ, Act.put, List.setIfInBounds_toArray, List.set_cons_zero, List.set_cons_succ])); (refine wpAnyH_take (i := 2) (v := ?_) rfl (by kernel_rfl) (by kernel_rfl) (by kernel_rfl) (fun _ _ _ h => h) (Or.inl ⟨by rfl, ?_⟩) (by assumption) ?_; rotate_left 1; (focus (intro w hSw; (try dsimp only at hSw); go_simp; (try with_reducible rfl))); (try simp only [List.getElem_toArray, List.getElem_cons_zero, List.getElem_cons_succ, Act.put, List.setIfInBounds_toArray, List.set_cons_zero, List.set_cons_succ])); (refine wpAnyH_take (i := 3) (v := undef) rfl (by kernel_rfl) (by kernel_rfl) (by kernel_rfl) (fun _ _ _ h => h) (Or.inr ⟨by rfl, rfl⟩) (by assumption) ?_; (try simp only [List.getElem_toArray, List.getElem_cons_zero, List.getElem_cons_succ, Act.put, List.setIfInBounds_toArray, List.set_cons_zero, List.set_cons_succ])); (refine wpAnyH_take (i := 4) (v := undef) rfl (by kernel_rfl) (by kernel_rfl) (by kernel_rfl) (fun _ _ _ h => h) (Or.inr ⟨by rfl, rfl⟩) (by assumption) ?_; (try simp only [List.getElem_toArray, List.getElem_cons_zero, List.getElem_cons_succ, Act.put, List.setIfInBounds_toArray, List.set_cons_zero, List.set_cons_succ])); (refine wpAnyH_take (i := 5) (v := ?_) rfl (by kernel_rfl) (by kernel_rfl) (by kernel_rfl) (fun _ _ _ h => h) (Or.inl ⟨by rfl, ?_⟩) (by assumption) ?_; rotate_left 1; (focus (intro w hSw; (try dsimp only at hSw); go_simp; (try with_reducible rfl))); (try simp only [List.getElem_toArray, List.getElem_cons_zero, List.getElem_cons_succ, Act.put, List.setIfInBounds_toArray, List.set_cons_zero, List.set_cons_succ])); (refine wpAnyH_ready (rs := [6]) (by kernel_rfl) (by simp) ?_; refine AllReadyH.cons rfl (fun K hK => ?_) AllReadyH.nil; go_simp; (refine hK.out _ _ (by exact (HSA.out _ (by repeat (first | with_reducible exact Chg.refl _ _ | with_reducible refine Chg.setCell ?_ (.inl (by simp)) _ | with_reducible refine Chg.drew ?_)))) (fun hHeld => ?_); clear hK K; (try simp only [List.getElem_toArray, List.getElem_cons_zero, List.getElem_cons_succ, Act.put, List.setIfInBounds_toArray, List.set_cons_zero, List.set_cons_succ]))); (refine wpAnyH_take (i := 7) (v := ?_) rfl (by kernel_rfl) (by kernel_rfl) (by kernel_rfl) (fun _ _ _ h => h) (Or.inl ⟨by rfl, ?_⟩) (by assumption) ?_; rotate_left 1; (focus (intro w hSw; (try dsimp only at hSw); go_simp; (try with_reducible rfl))); (try simp only [List.getElem_toArray, List.getElem_cons_zero, List.getElem_cons_succ, Act.put, List.setIfInBounds_toArray, List.set_cons_zero, List.set_cons_succ])); refine wpAnyH_done (by kernel_rfl) ?_ _)
        go_wp2_with fail
        have hW : ((((wr.setCell ⟨R, 0, none⟩ (.int .i64 k)).setCell ⟨R, 1, none⟩ (.int .i64 t)).setCell ⟨R, 2, none⟩ (.int .i64 o)).drew).heap[R]? = some (.cells #[.int .i64 k, .int .i64 t, .int .i64 o] 28 (0, 0)) := blk_set (blk_set (blk_set HRX.out 0 _) 1 _) 2 _
        have hCW : Chg [] w ((((wr.setCell ⟨R, 0, none⟩ (.int .i64 k)).setCell ⟨R, 1, none⟩ (.int .i64 t)).setCell ⟨R, 2, none⟩ (.int .i64 o)).drew) := ((((HS.out.2.2.setCell (p := ⟨R, 0, none⟩) (.inr hRw) _).setCell (p := ⟨R, 1, none⟩) (.inr hRw) _).setCell (p := ⟨R, 2, none⟩) (.inr hRw) _).drew)
        clear hHeld r0 r1 r2 rf
        generalize (((wr.setCell ⟨R, 0, none⟩ (.int .i64 k)).setCell ⟨R, 1, none⟩ (.int .i64 t)).setCell ⟨R, 2, none⟩ (.int .i64 o)).drew = W at hW hCW ⊢
        have c0 : W.cell? ⟨R, 0, none⟩ = some (.int .i64 k) := (blk_cell hW 0).trans rfl
        have c1 : W.cell? ⟨R, 1, none⟩ = some (.int .i64 t) := (blk_cell hW 1).trans rfl
        have c2 : W.cell? ⟨R, 2, none⟩ = some (.int .i64 o) := (blk_cell hW 2).trans rfl
        exact bodyPost_ret (v := .tuple #[.agg #[.int .i64 k, .int .i64 t, .int .i64 o], .bool false]) (by simp [results, Tryz.results51, go_sem, c0, c1, c2]) rfl ⟨⟨⟨k, t, o⟩, false, rfl, hid (.inr ⟨rfl, HF.out⟩)⟩, hCW⟩
      | true =>
        have hre := ev_end HR.out
        rw [HPS.out, HP0.out, HK.out] at hre
        have HRE := hid hre
        have HPL2 := hid fun W => plain_calls ⟨k, t, o⟩ W
        obtain ⟨P, hP⟩ : ∃ P, plainE ⟨k, t, o⟩ = P := ⟨_, rfl⟩
        rw [hP] at HPL2
        have HPP := hid hP
        unfold evV at HPL2
        simp only at HPL2
        clear hre hP HG HR
        (refine wp_region_held_drew (S := (fun w' => w'.cell? ⟨E, 0, none⟩ = some (.int .i64 k) ∧ w'.cell? ⟨E, 1, none⟩ = some (.int .i64 t) ∧ w'.cell? ⟨E, 2, none⟩ = some (.int .i64 o))) (by kernel_rfl) (by exact (HSA.out _ (Chg.refl [R] wr).drew)) (fun hHeld => ?_); (refine wpAnyH_take (i := 0) (v := ?_) rfl (by kernel_rfl) (by kernel_rfl) (by kernel_rfl) (fun _ _ _ h => h) (Or.inl ⟨by rfl, ?_⟩) (by assumption) ?_; rotate_left 1; (focus (intro w hSw; (try dsimp only at hSw); go_simp; (try with_reducible rfl))); (try simp only [List.getElem_toArray, List.getElem_cons_zero, List.getElem_cons_succ, Act.put, List.setIfInBounds_toArray, List.set_cons_zero, List.set_cons_succ])); (refine wpAnyH_take (i := 1) (v := ?_) rfl (by kernel_rfl) (by kernel_rfl) (by kernel_rfl) (fun _ _ _ h => h) (Or.inl ⟨by rfl, ?_⟩) (by assumption) ?_; rotate_left 1; (focus (intro w hSw; (try dsimp only at hSw); go_simp; (try with_reducible rfl))); (try simp only [List.getElem_toArray, List.getElem_cons_zero, List.getElem_cons_succ, Act.put, List.setIfInBounds_toArray, List.set_cons_zero, List.set_cons_succ])); (refine wpAnyH_take (i := 2) (v := ?_) rfl (by kernel_rfl) (by kernel_rfl) (by kernel_rfl) (fun _ _ _ h => h) (Or.inl ⟨by rfl, ?_⟩) (by assumption) ?_; rotate_left 1; (focus (intro w hSw; (try dsimp only at hSw); go_simp; (try with_reducible rfl))); (try simp only [List.getElem_toArray, List.getElem_cons_zero, List.getElem_cons_succ, Act.put, List.setIfInBounds_toArray, List.set_cons_zero, List.set_cons_succ])); (refine wpAnyH_take (i := 3) (v := ?_) rfl (by kernel_rfl) (by kernel_rfl) (by kernel_rfl) (fun _ _ _ h => h) (Or.inl ⟨by rfl, ?_⟩) (by assumption) ?_; rotate_left 1; (focus (intro w hSw; (try dsimp only at hSw); go_simp; (try with_reducible rfl))); (try simp only [List.getElem_toArray, List.getElem_cons_zero, List.getElem_cons_succ, Act.put, List.setIfInBounds_toArray, List.set_cons_zero, List.set_cons_succ])); (refine wpAnyH_ready (rs := [4]) (by kernel_rfl) (by simp) ?_; refine AllReadyH.cons rfl (fun K hK => ?_) AllReadyH.nil; go_simp; go_at_call 11; refine (HPL2.out _).mono ?_; rintro e w5 ⟨rfl, hc5⟩; have hc5' : Chg [] wr w5 := ((Chg.refl [] wr).drew).trans' hc5; have HC5 := hid hc5'; have HB5 := hid (hc5'.heap HRX.out (by simp)); have r0 := (blk_cell HB5.out 0).trans rfl; have r1 := (blk_cell HB5.out 1).trans rfl; have r2 := (blk_cell HB5.out 2).trans rfl; have rf := (fun i => blk_free HB5.out i); have hs5 := HSA.out _ hc5'.nil; clear hc5 hc5'; (refine hK.out _ _ (by exact hs5) (fun hHeld => ?_); clear hK K; (try simp only [List.getElem_toArray, List.getElem_cons_zero, List.getElem_cons_succ, Act.put, List.setIfInBounds_toArray, List.set_cons_zero, List.set_cons_succ]))); (refine wpAnyH_take (i := 5) (v := ?_) rfl (by kernel_rfl) (by kernel_rfl) (by kernel_rfl) (fun _ _ _ h => h) (Or.inl ⟨by rfl, ?_⟩) (by assumption) ?_; rotate_left 1; (focus (intro w hSw; (try dsimp only at hSw); go_simp; (try with_reducible rfl))); (try simp only [List.getElem_toArray, List.getElem_cons_zero, List.getElem_cons_succ, Act.put, List.setIfInBounds_toArray, List.set_cons_zero, List.set_cons_succ])); (refine wpAnyH_ready (rs := [6]) (by kernel_rfl) (by simp) ?_; refine AllReadyH.cons rfl (fun K hK => ?_) AllReadyH.nil; go_simp; (refine hK.out _ _ (by exact (HSA.out _ (by repeat (first | with_reducible exact Chg.refl _ _ | with_reducible exact HC5.out.nil | with_reducible refine Chg.setCell ?_ (.inl (by simp)) _ | with_reducible refine Chg.drew ?_)))) (fun hHeld => ?_); clear hK K; (try simp only [List.getElem_toArray, List.getElem_cons_zero, List.getElem_cons_succ, Act.put, List.setIfInBounds_toArray, List.set_cons_zero, List.set_cons_succ]))); (refine wpAnyH_take (i := 7) (v := ?_) rfl (by kernel_rfl) (by kernel_rfl) (by kernel_rfl) (fun _ _ _ h => h) (Or.inl ⟨by rfl, ?_⟩) (by assumption) ?_; rotate_left 1; (focus (intro w hSw; (try dsimp only at hSw); go_simp; (try with_reducible rfl))); (try simp only [List.getElem_toArray, List.getElem_cons_zero, List.getElem_cons_succ, Act.put, List.setIfInBounds_toArray, List.set_cons_zero, List.set_cons_succ])); refine wpAnyH_done (by kernel_rfl) ?_ _)
        go_wp2_with fail
        have hW : (((w5.setCell ⟨R, 0, none⟩ (.int .i64 k)).setCell ⟨R, 1, none⟩ (.int .i64 t)).setCell ⟨R, 2, none⟩ (.int .i64 o)).heap[R]? = some (.cells #[.int .i64 k, .int .i64 t, .int .i64 o] 28 (0, 0)) := blk_set (blk_set (blk_set HB5.out 0 _) 1 _) 2 _
        have hCW : Chg [] w (((w5.setCell ⟨R, 0, none⟩ (.int .i64 k)).setCell ⟨R, 1, none⟩ (.int .i64 t)).setCell ⟨R, 2, none⟩ (.int .i64 o)) := ((((HS.out.2.2.trans' HC5.out).setCell (p := ⟨R, 0, none⟩) (.inr hRw) _).setCell (p := ⟨R, 1, none⟩) (.inr hRw) _).setCell (p := ⟨R, 2, none⟩) (.inr hRw) _)
        clear hHeld r0 r1 r2 rf
        generalize ((w5.setCell ⟨R, 0, none⟩ (.int .i64 k)).setCell ⟨R, 1, none⟩ (.int .i64 t)).setCell ⟨R, 2, none⟩ (.int .i64 o) = W at hW hCW ⊢
        have c0 : W.cell? ⟨R, 0, none⟩ = some (.int .i64 k) := (blk_cell hW 0).trans rfl
        have c1 : W.cell? ⟨R, 1, none⟩ = some (.int .i64 t) := (blk_cell hW 1).trans rfl
        have c2 : W.cell? ⟨R, 2, none⟩ = some (.int .i64 o) := (blk_cell hW 2).trans rfl
        refine bodyPost_ret (v := .tuple #[.agg #[.int .i64 k, .int .i64 t, .int .i64 o], .bool P]) (by simp [results, Tryz.results51, go_sem, c0, c1, c2]) rfl ⟨⟨⟨k, t, o⟩, P, rfl, hid ?_⟩, hCW⟩
        have h1 := HRE.out
        unfold chkE at h1
        rw [HPP.out] at h1
        cases P with
        | true => exact .inl ⟨rfl, h1⟩
        | false => exact .inr ⟨rfl, h1⟩
end Go.Proofs.YtbghkodcfedebaaGreatDoor
