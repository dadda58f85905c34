/- Walks of the trace layer: events apart. -/
import Derived.Test.YtbghkodcfedebaaGreatDoorTyd
import Derived.Test.YtbghkodcfedebaaGreatDoorTrk
import Derived.Maps.RangeWalk
set_option linter.unusedVariables false
set_option linter.unusedSectionVars false
set_option linter.unusedSimpArgs false
namespace Go.Proofs.YtbghkodcfedebaaGreatDoor
open Go.RowKit Go.AB
set_option linter.unusedSimpArgs false
set_option linter.unusedVariables false
set_option linter.unusedSectionVars false
theorem zero_ofT {e : TypeId} {z : Value} {s n : Nat} (h : (Tryz.prog.info? e).map (fun i => (i.zero, i.size, i.bytes)) = some (some z, s, n)) (w : World) : (zeroValue e).run Tryz.prog w = .ok z w := by
  cases hi : Tryz.prog.info? e with
  | none => rw [hi] at h; cases h
  | some i =>
    rw [hi] at h
    simp only [Option.map_some, Option.some.injEq, Prod.mk.injEq] at h
    simp [zeroValue, typeInfo, hi, h.1]
theorem key_thr : KeyOk Tryz.prog 3 Int (Value.int .i64) := key_int Tryz.underlying3
/-- What Apart answers: the threads, and the events of each, all in new memory. -/
def ApP (w : World) (l : List Ev) (e : Ending) (w' : World) : Prop :=
  ∃ (T : List Int) (os : List OL) (n : Nat) (aT : Option Addr) (cT : Nat) (rT : Option Nat) (aP : Option Addr) (cP : Nat) (rP : Option Nat), e = .returned (.tuple #[.slice aT n cT, .slice aP n cP]) ∧ T.length = n ∧ os.length = n ∧ ThrOf l T ∧
    (∀ j o, os[j]? = some o → o.n = (ofT (T.getD j 0) l).length ∧ o.xs = (ofT (T.getD j 0) l).flatMap evC) ∧ Hp [] w w' (.row 3 1 (.slice aT n cT) rT n (T.map intV) :: cE aP n cP rP (os.map OL.v) :: os.map itE)
set_option maxHeartbeats 16000000 in
set_option maxRecDepth 100000 in
theorem apart_calls {v : Value} (l : List Ev) (w : World) (hl : Lst evC 3 w v l) (hn : l.length ≤ 16777216) : Calls Tryz.prog 26 #[v] w (ApP w l) := by
  obtain ⟨ao, cap, rfl, -⟩ := hl.len
  obtain ⟨n, hln⟩ : ∃ n, l.length = n := ⟨_, rfl⟩
  rw [hln] at hl hn ⊢
  have HL := hid hl
  have HN := hid hln
  have h0 := (Hp.start (S0 := []) w (by simp)).box (.map #[] 0)
  clear hl hln
  have hmm := fun W => @run_makeMap Tryz.prog W
  go_enter Tryz.func26, Tryz.ntmps26
  go_upto_region 3 with fail
  generalize w.alloc (.map #[] 0) = w1 at h0 ⊢
  generalize w.heap.size = M at h0 ⊢
  have H0 := hid h0
  clear h0
  go_loopg [15] n (fun gk v15 wr => ∃ (i : Nat) (ps : List (Int × OL)) (es : Array MapEntry) (clock : Nat), v15 = .int .i64 i ∧ Hid (gk + i = n) ∧ Hid (ApS l i ps ∧ MapE es clock (mapV ps)) ∧ Hid (Hp [] w wr (.box M (.map es clock) :: ps.map itP)))
  case atStart => exact ⟨0, [], #[], 0, rfl, hid (by omega), hid ⟨ApS.start l, ⟨rfl, by simp, by simp, by simp [mapV]⟩⟩, H0⟩
  case round =>
    clear H0
    obtain ⟨i, ps, es, clock, rfl, HG, HA, HH⟩ := hrel
    by_cases hi : i < n
    · have hil : i < l.length := by rw [HN.out]; exact hi
      have hii : (i : Int) < (n : Int) := by omega
      obtain ⟨b1, o1, rfl, x0, x1, x2⟩ := ev_at (HL.out.keep HH.out.chg) hil
      obtain ⟨oo, hlk, hrow, hon, hoM, hstep⟩ := aps_step hil HA.out.1 HA.out.2 HH.out
      generalize l[i] = X at x0 x1 x2 hlk hstep
      obtain ⟨k, t, o⟩ := X
      simp only at x0 x1 x2 hlk
      have HMG : Hid (MapG wr M (mapV ps)) := hid ⟨es, clock, HH.out.get (i := 0) rfl, HA.out.2⟩
      have hMl := HMG.out.toF.lt
      have HLK : Hid (∀ W, Chg [] wr W → (Instr.lookup 112 (.map (some M)) (.int .i64 t) false).run Tryz.prog W = .ok oo.v W) := hid fun W hc => by
        have h1 := ((HMG.out.keep hc (by simp)).toF).lookup key_thr Tryz.underlying112 (zero_ofT info_sE W) t false
        rw [h1, if_neg (by simp)]
        exact congrArg (fun v => Result.ok v W) hlk
      have HST := hid hstep
      have HRW := hid hrow
      have HON := hid hon
      have HOM := hid hoM
      clear hlk hrow hstep hoM hil hon
      go_upto_region 5 with fail
      have hbx := heap_alloc_new wr (.cells #[.int .i64 k, .int .i64 t, .int .i64 o] 28)
      have hc2 := (Chg.refl [] wr).alloc (.cells #[.int .i64 k, .int .i64 t, .int .i64 o] 28)
      have hEr : oo.r ≠ some wr.heap.size := fun e => by have := HRW.out.lt _ e; omega
      have hEM : M ≠ wr.heap.size := by omega
      generalize wr.alloc (.cells #[.int .i64 k, .int .i64 t, .int .i64 o] 28) = w2 at hbx hc2 ⊢
      generalize wr.heap.size = E at hbx hEr hEM ⊢
      have HC2 := hid hc2
      have HBX := hid hbx
      have HEM := hid (And.intro hEr hEM)
      have hlk1 := HLK.out w2.drew hc2.drew
      have hlk2 := fun ob => HLK.out (w2.drew.alloc ob) (hc2.drew.alloc ob)
      have hlk3 := fun ob => HLK.out ((w2.alloc ob).drew) ((hc2.alloc ob).drew)
      have HSA : Hid (∀ (W : World) S, Chg S w2 W → E ∉ S → W.cell? ⟨E, 0, none⟩ = some (.int .i64 k) ∧ W.cell? ⟨E, 1, none⟩ = some (.int .i64 t) ∧ W.cell? ⟨E, 2, none⟩ = some (.int .i64 o)) := hid fun W S hc hE => ⟨(blk_cell (hc.heap HBX.out hE) 0).trans rfl, (blk_cell (hc.heap HBX.out hE) 1).trans rfl, (blk_cell (hc.heap HBX.out hE) 2).trans rfl⟩
      have hon2 : oo.n ≤ 16777216 := by have := HON.out; omega
      clear hbx hc2 hEr hEM x0 x1 x2
      unfold OL.v at hlk1 hlk2 hlk3
      (refine wp_region_held_drew (S := (fun w' => w'.cell? ⟨E, 0, none⟩ = some (.int .i64 k) ∧ w'.cell? ⟨E, 1, none⟩ = some (.int .i64 t) ∧ w'.cell? ⟨E, 2, none⟩ = some (.int .i64 o))) (by kernel_rfl) (by exact (HSA.out _ [] (Chg.refl [] w2).drew (by simp))) (fun hHeld => ?_); (refine wpAnyH_take (i := 0) (v := ?_) rfl (by kernel_rfl) (by kernel_rfl) (by kernel_rfl) (fun _ _ _ h => h) (Or.inl ⟨by rfl, ?_⟩) (by assumption) ?_; rotate_left 1; (focus (intro w hSw; (try dsimp only at hSw); go_simp; (try with_reducible rfl))); (try simp only [List.getElem_toArray, List.getElem_cons_zero, List.getElem_cons_succ, Act.put, List.setIfInBounds_toArray, List.set_cons_zero, List.set_cons_succ])); (refine wpAnyH_take (i := 1) (v := ?_) rfl (by kernel_rfl) (by kernel_rfl) (by kernel_rfl) (fun _ _ _ h => h) (Or.inl ⟨by rfl, ?_⟩) (by assumption) ?_; rotate_left 1; (focus (intro w hSw; (try dsimp only at hSw); go_simp; (try with_reducible rfl))); (try simp only [List.getElem_toArray, List.getElem_cons_zero, List.getElem_cons_succ, Act.put, List.setIfInBounds_toArray, List.set_cons_zero, List.set_cons_succ])); (refine wpAnyH_take (i := 2) (v := ?_) rfl (by kernel_rfl) (by kernel_rfl) (by kernel_rfl) (fun _ _ _ h => h) (Or.inl ⟨by rfl, ?_⟩) (by assumption) ?_; rotate_left 1; (focus (intro w hSw; (try dsimp only at hSw); go_simp; (try with_reducible rfl))); (try simp only [List.getElem_toArray, List.getElem_cons_zero, List.getElem_cons_succ, Act.put, List.setIfInBounds_toArray, List.set_cons_zero, List.set_cons_succ])); (refine wpAnyH_take (i := 3) (v := ?_) rfl (by kernel_rfl) (by kernel_rfl) (by kernel_rfl) (fun _ _ _ h => h) (Or.inl ⟨by rfl, ?_⟩) (by assumption) ?_; rotate_left 1; (focus (intro w hSw; (try dsimp only at hSw); go_simp; (try with_reducible rfl))); (try simp only [List.getElem_toArray, List.getElem_cons_zero, List.getElem_cons_succ, Act.put, List.setIfInBounds_toArray, List.set_cons_zero, List.set_cons_succ])); (refine wpAnyH_take (i := 4) (v := ?_) rfl (by kernel_rfl) (by kernel_rfl) (by kernel_rfl) (fun _ _ _ h => h) (Or.inl ⟨by rfl, ?_⟩) (by assumption) ?_; rotate_left 1; (focus (intro w hSw; (try dsimp only at hSw); go_simp; (try with_reducible rfl))); (try simp only [List.getElem_toArray, List.getElem_cons_zero, List.getElem_cons_succ, Act.put, List.setIfInBounds_toArray, List.set_cons_zero, List.set_cons_succ])); (refine wpAnyH_take (i := 5) (v := ?_) rfl (by kernel_rfl) (by kernel_rfl) (by kernel_rfl) (fun _ _ _ h => h) (Or.inl ⟨by rfl, ?_⟩) (by assumption) ?_; rotate_left 1; (focus (intro w hSw; (try dsimp only at hSw); go_simp; (try with_reducible rfl))); (try simp only [List.getElem_toArray, List.getElem_cons_zero, List.getElem_cons_succ, Act.put, List.setIfInBounds_toArray, List.set_cons_zero, List.set_cons_succ])); (refine wpAnyH_take (i := 7) (v := ?_) rfl (by kernel_rfl) (by kernel_rfl) (by kernel_rfl) (fun _ _ _ h => h) (Or.inl ⟨by rfl, ?_⟩) (by assumption) ?_; rotate_left 1; (focus (intro w hSw; (try dsimp only at hSw); go_simp; (try with_reducible rfl))); (try simp only [List.getElem_toArray, List.getElem_cons_zero, List.getElem_cons_succ, Act.put, List.setIfInBounds_toArray, List.set_cons_zero, List.set_cons_succ])); (refine wpAnyH_ready (rs := [6, 8]) (by kernel_rfl) (by simp) ?_; refine AllReadyH.cons rfl (fun K hK => ?_) (AllReadyH.cons rfl (fun K hK => ?_) AllReadyH.nil)); (focus (go_simp; (refine hK.out _ _ (by exact (HSA.out _ [] (by repeat (first | with_reducible exact Chg.refl _ _ | with_reducible refine Chg.drew ?_ | with_reducible refine Chg.alloc ?_ _)) (by simp))) (fun hHeld => ?_); clear hK K; (try simp only [List.getElem_toArray, List.getElem_cons_zero, List.getElem_cons_succ, Act.put, List.setIfInBounds_toArray, List.set_cons_zero, List.set_cons_succ])); (refine wpAnyH_ready (rs := [8]) (by kernel_rfl) (by simp) ?_; refine AllReadyH.cons rfl (fun K hK => ?_) AllReadyH.nil; go_simp; (refine hK.out _ _ (by exact (HSA.out _ [] (by repeat (first | with_reducible exact Chg.refl _ _ | with_reducible refine Chg.drew ?_ | with_reducible refine Chg.alloc ?_ _)) (by simp))) (fun hHeld => ?_); clear hK K; (try simp only [List.getElem_toArray, List.getElem_cons_zero, List.getElem_cons_succ, Act.put, List.setIfInBounds_toArray, List.set_cons_zero, List.set_cons_succ]))))); rotate_left 1; (focus (go_simp; (refine hK.out _ _ (by exact (HSA.out _ [] (by repeat (first | with_reducible exact Chg.refl _ _ | with_reducible refine Chg.drew ?_ | with_reducible refine Chg.alloc ?_ _)) (by simp))) (fun hHeld => ?_); clear hK K; (try simp only [List.getElem_toArray, List.getElem_cons_zero, List.getElem_cons_succ, Act.put, List.setIfInBounds_toArray, List.set_cons_zero, List.set_cons_succ])); (refine wpAnyH_ready (rs := [6]) (by kernel_rfl) (by simp) ?_; refine AllReadyH.cons rfl (fun K hK => ?_) AllReadyH.nil; go_simp; (refine hK.out _ _ (by exact (HSA.out _ [] (by repeat (first | with_reducible exact Chg.refl _ _ | with_reducible refine Chg.drew ?_ | with_reducible refine Chg.alloc ?_ _)) (by simp))) (fun hHeld => ?_); clear hK K; (try simp only [List.getElem_toArray, List.getElem_cons_zero, List.getElem_cons_succ, Act.put, List.setIfInBounds_toArray, List.set_cons_zero, List.set_cons_succ]))))); (all_goals ((refine wpAnyH_ready (rs := [9]) (by kernel_rfl) (by simp) ?_; refine AllReadyH.cons rfl (fun K hK => ?_) AllReadyH.nil; refine step_grew rfl _ _ 22 rfl elem_ev rfl (HRW.out.keep (S := []) (by repeat (first | with_reducible exact HC2.out | with_reducible refine Chg.drew ?_ | with_reducible refine Chg.alloc ?_ _)) (by simp)) rfl (View.struct _ [.int .i64 k, .int .i64 t, .int .i64 o] 28 rfl) (by simp [Value.oneCell']) (by unfold maxLen; omega) (by omega) (fun ao' cap' r' w4 hr4 hg4 => ?_); obtain ⟨ps', hA', hV', hH'⟩ := HST.out _ _ _ _ _ (by repeat (first | with_reducible exact HC2.out | with_reducible refine Chg.drew ?_ | with_reducible refine Chg.alloc ?_ _)) hr4 hg4; have HG4 := hid hg4; have HP4 := hid (And.intro hA' (And.intro hV' hH')); have hs4 := (HSA.out _ _ ((show Chg [] w2 _ from (by repeat (first | with_reducible exact Chg.refl _ _ | with_reducible refine Chg.drew ?_ | with_reducible refine Chg.alloc ?_ _))).nil.trans' HG4.out.chg) (by have := HEM.out.1; simpa using this)); (refine hK.out _ _ (by exact hs4) (fun hHeld => ?_); clear hK K; (try simp only [List.getElem_toArray, List.getElem_cons_zero, List.getElem_cons_succ, Act.put, List.setIfInBounds_toArray, List.set_cons_zero, List.set_cons_succ]))); (refine wpAnyH_ready (rs := [10]) (by kernel_rfl) (by simp) ?_; refine AllReadyH.cons rfl (fun K hK => ?_) AllReadyH.nil; refine step_mapG rfl _ _ _ 112 rfl key_thr Tryz.underlying112 rfl (HMG.out.keep ((show Chg [] wr _ from (by repeat (first | with_reducible exact HC2.out | with_reducible refine Chg.drew ?_ | with_reducible refine Chg.alloc ?_ _))).nil.trans' HG4.out.chg) (by have := HOM.out; simpa using this)) t rfl rfl (fun w5 hm5 hc5 => ?_); (refine hK.out _ _ (by exact ⟨hc5.cell hs4.1 (by have := HEM.out.2; simp; exact fun e => this e.symm), hc5.cell hs4.2.1 (by have := HEM.out.2; simp; exact fun e => this e.symm), hc5.cell hs4.2.2 (by have := HEM.out.2; simp; exact fun e => this e.symm)⟩) (fun hHeld => ?_); clear hK K; (try simp only [List.getElem_toArray, List.getElem_cons_zero, List.getElem_cons_succ, Act.put, List.setIfInBounds_toArray, List.set_cons_zero, List.set_cons_succ]))); refine wpAnyH_done (by kernel_rfl) ?_ _)))
      all_goals
        obtain ⟨es', clock', hmap, hE'⟩ := hm5
        have hH5 : Hp [] w w5 (.box M (.map es' clock') :: ps'.map itP) := HP4.out.2.2.set (i := 0) rfl (.box M (.map es' clock')) hc5 (by simp [It.blk]) hmap (fun g hg => .inl hg) rfl
        have hE5 : MapE es' clock' (mapV ps') := by rw [HP4.out.2.1]; exact hE'
        have HH5 := hid (And.intro HP4.out.1 (And.intro hE5 hH5))
        clear hHeld hH5 hE5 hE' hmap hc5 hs4 hlk1 hlk2 hlk3
        go_wp2_with fail
        go_roundg (gk - 1)
        case measure => have := HG.out; omega
        case rel => exact ⟨i + 1, ps', es', clock', by go_num, hid (by have := HG.out; omega), hid ⟨HH5.out.1, HH5.out.2.1⟩, hid HH5.out.2.2⟩
    · have hin : i = n := by have := HG.out; omega
      have hii : ¬ (i : Int) < (n : Int) := by omega
      have HAP : Hid (ApS l n ps ∧ MapE es clock (mapV ps)) := hid (by rw [← hin]; exact HA.out)
      have HMG : Hid (MapG wr M (mapV ps)) := hid ⟨es, clock, HH.out.get (i := 0) rfl, HA.out.2⟩
      obtain ⟨cn, hcn⟩ : ∃ cn, ps.length = cn := ⟨_, rfl⟩
      have HCN := hid hcn
      have hcnn : cn ≤ n := by
        have h1 := aps_count HA.out.1
        have := HG.out
        omega
      clear hin HA hcn HG
      obtain ⟨wq, rfl⟩ : ∃ wq : World, wq = wr := ⟨_, rfl⟩
      go_wp2_with (at_range; refine wpList_rangeG rfl _ 112 rfl Tryz.underlying112 rfl HMG.out (fun w2 hit hc2 => halt (fun XX hXX => ?_)))
      obtain ⟨R, hR⟩ : ∃ R, wq.heap.size = R := ⟨_, rfl⟩
      rw [hR] at hit hXX
      have hh2 : ∃ since seen c0, Hp [] w w2 (.row 3 1 (.slice none 0 0) none 0 ([].map intV) :: .box R (.mapIter (some M) since seen c0) :: .box M (.map es clock) :: ps.map itP) := by
        obtain ⟨es2, clock2, since, seen, c0, h1, h2, h3, h4⟩ := hit
        refine ⟨since, seen, c0, (((HH.out.same hc2).cons (.box R (.mapIter (some M) since seen c0)) h3 (fun g hg => ?_)).nil 3 1)⟩
        simp only [It.blk, Option.some.injEq] at hg
        exact HH.out.newer (by omega)
      have HI2 := hid hit
      have HH2 := hid hh2
      clear hit hh2 hc2 HMG HH hR
      rw [hXX.out]; clear hXX XX
      go_wp2_with fail
      go_frame
      go_loopg [7] cn (fun gk v7 wr => ∃ (C : List Int) (m : Nat) (aC : Option Addr) (cC : Nat) (rC : Option Nat), v7 = .slice aC m cC ∧ Hid (gk + m = cn ∧ C.length = m) ∧ Hid (ItG wr M R (mapV ps) C) ∧ Hid (∃ since seen c0, Hp [] w wr (.row 3 1 (.slice aC m cC) rC m (C.map intV) :: .box R (.mapIter (some M) since seen c0) :: .box M (.map es clock) :: ps.map itP)))
      case atStart => exact ⟨[], 0, none, 0, none, rfl, hid ⟨by omega, rfl⟩, HI2, HH2⟩
      case round =>
        clear HI2 HH2
        obtain ⟨C, m, aC, cC, rC, rfl, HG, HI, HH⟩ := hrel
        have hmc : m ≤ cn := by have := HG.out; omega
        go_wp2_with (at_next; refine wpList_nextG rfl _ rfl rfl HI.out (fun hd => halt (fun XX hXX => ?_)) (fun x v w5 hm hx hi hc hen => halt (fun XX hXX => ?_)))
        · have hfin := thr_final HN.out HAP.out.1 HI.out.nodup.1 (fun c hc => by rw [← mapV_fst]; exact HI.out.nodup.2 c hc) hd
          have hmE : m = cn := by
            have h1 := hfin.2.1
            rw [HCN.out] at h1
            have := HG.out.2
            omega
          obtain ⟨T, hT⟩ : ∃ T, srt C = T := ⟨_, rfl⟩
          rw [hT] at hfin
          have hTl : T.length = m := by
            rw [← hT, (srt_perm C).length_eq]
            exact HG.out.2
          have HT := hid hT
          have HFIN := hid hfin
          have HTL := hid hTl
          have hm20 : m ≤ 16777216 := by omega
          have HSO : Hid (Calls Tryz.prog 62 #[.slice aC m cC] wr fun e w' => e = .returned (.tuple #[]) ∧ Chg rC.toList wr w' ∧ Row w' 3 1 (.slice aC m cC) rC m (T.map intV)) := hid (by
            obtain ⟨since, seen, c0, hh⟩ := HH.out
            have h := sort_calls (hh.rowAt (i := 0) rfl) (by omega)
            rw [← HT.out]
            exact h)
          clear hfin hTl hT hd hmE
          rw [hXX.out]; clear hXX XX
          obtain ⟨wq, rfl⟩ : ∃ wq : World, wq = wr := ⟨_, rfl⟩
          obtain ⟨gq, rfl⟩ : ∃ gq, gq = gk := ⟨_, rfl⟩
          go_upto_region 15 with (go_at_call 62; refine HSO.out.mono ?_; rintro e w5 ⟨rfl, hc5, hr5⟩; have HH5 : Hid (∃ since seen c0, Hp [] w w5 (cE none 0 0 none [] :: .row 3 1 (.slice aC m cC) rC m (T.map intV) :: .box R (.mapIter (some M) since seen c0) :: .box M (.map es clock) :: ps.map itP)) := hid (by
            obtain ⟨since, seen, c0, hh⟩ := HH.out
            exact ⟨since, seen, c0, (hh.set (i := 0) rfl (.row 3 1 (.slice aC m cC) rC m (T.map intV)) hc5 (by simp [It.blk]) hr5 (fun g hg => .inl hg) rfl).nil 22 1⟩); clear hc5 hr5)
          clear HSO HH HI HG
          go_loopg [9, 44] m (fun gk v9 v44 wr => ∃ (j : Nat) (aP : Option Addr) (cP : Nat) (rP : Option Nat), v9 = .slice aP j cP ∧ v44 = .int .i64 j ∧ Hid (gk + j = m) ∧ Hid (∃ since seen c0, Hp [] w wr (cE aP j cP rP ((T.take j).map (fun t => (olOf ps t).v)) :: .row 3 1 (.slice aC m cC) rC m (T.map intV) :: .box R (.mapIter (some M) since seen c0) :: .box M (.map es clock) :: ps.map itP)))
          case atStart => exact ⟨0, none, 0, none, rfl, rfl, hid (by omega), HH5⟩
          case round =>
            clear HH5
            obtain ⟨j, aP, cP, rP, rfl, rfl, HG, HH⟩ := hrel
            by_cases hj : j < m
            · have hji : (j : Int) < (m : Int) := by omega
              have hjT : j < T.length := by rw [HTL.out]; exact hj
              obtain ⟨hm1, hm2, hm3⟩ := HFIN.out.2.2.2 j hjT
              obtain ⟨t, ht⟩ : ∃ t, T[j] = t := ⟨_, rfl⟩
              rw [ht] at hm1 hm2 hm3
              obtain ⟨oo, hoo⟩ : ∃ oo, olOf ps t = oo := ⟨_, rfl⟩
              have hlook : lookK (mapV ps) t = some oo.v := by
                obtain ⟨p, hp, rfl⟩ := List.mem_map.1 hm1
                rw [olOf_mem HAP.out.1.nd hp] at hoo
                subst hoo
                obtain ⟨since, seen, c0, hh⟩ := HH.out
                exact MapG.look (w := wr) (b := M) ⟨es, clock, hh.get (i := 3) rfl, HAP.out.2⟩ (p := (p.1, p.2.v)) (List.mem_map.2 ⟨p, hp, rfl⟩)
              have hcell : ∃ gT, aC = some ⟨gT, 0, none⟩ ∧ wr.cell? ⟨gT, j, none⟩ = some (.int .i64 t) ∧ (Instr.lookup 112 (.map (some M)) (.int .i64 t) false).run Tryz.prog wr = .ok oo.v wr := by
                obtain ⟨since, seen, c0, hh⟩ := HH.out
                obtain ⟨gT, hgT, haT, _⟩ := Row.slice (hh.rowAt (i := 1) rfl) (by omega)
                refine ⟨gT, haT, ?_, ?_⟩
                · have h1 := hh.rowAt (i := 1) rfl
                  rw [hgT] at h1
                  rw [(Row.cellk h1).1 j (by omega), List.getD_eq_getElem?_getD, List.getElem?_map, List.getElem?_eq_getElem hjT, ht]
                  rfl
                · have hg : MapG wr M (mapV ps) := ⟨es, clock, hh.get (i := 3) rfl, HAP.out.2⟩
                  have h1 := hg.toF.lookup key_thr Tryz.underlying112 (zero_ofT info_sE wr) t false
                  rw [h1, if_neg (by simp), hlook]
                  rfl
              obtain ⟨gT, rfl, hc1, hlk⟩ := hcell
              have HOO := hid hoo
              have HTJ := hid ht
              have hrow : Row wr 22 1 (.slice aP j cP) rP j ((T.take j).map (fun t => (olOf ps t).v)) := by
                obtain ⟨since, seen, c0, hh⟩ := HH.out
                exact hh.rowAt (i := 0) rfl
              have HROW := hid hrow
              unfold OL.v at hlk
              clear hm1 hm2 hm3 ht hoo hlook hrow
              go_wp2_with (at_builtin; refine wpList_grew rfl _ _ 52 rfl elem_lE rfl (HROW.out.keep ((Chg.refl [] wr).alloc _) (by simp)) rfl (View.one _ _ _) (by simp [Value.oneCell']) (by unfold maxLen; omega) (by omega) (fun ao6 cap6 r6 w6 hr6 hg6 => halt (fun XX hXX => ?_)))
              have h6 : ∃ since seen c0, Hp [] w w6 (cE ao6 (j + 1) cap6 r6 ((T.take (j + 1)).map (fun t => (olOf ps t).v)) :: .row 3 1 (.slice (some ⟨gT, 0, none⟩) m cC) rC m (T.map intV) :: .box R (.mapIter (some M) since seen c0) :: .box M (.map es clock) :: ps.map itP) := by
                obtain ⟨since, seen, c0, hh⟩ := HH.out
                have he : (T.take (j + 1)).map (fun t => (olOf ps t).v) = (T.take j).map (fun t => (olOf ps t).v) ++ [oo.v] := by
                  rw [List.take_succ_eq_append_getElem (by rw [HTL.out]; exact hj), List.map_append, HTJ.out, List.map_cons, HOO.out]
                  rfl
                exact ⟨since, seen, c0, hh.grow 0 rfl ((Chg.refl [] wr).alloc _) (by rw [he]; exact hr6) hg6.chg hg6.fresh rfl⟩
              have HH6 := hid h6
              clear h6 hr6 hg6 HROW HH hlk hc1
              rw [hXX.out]; clear hXX XX
              go_wp2_with fail
              go_roundg (gk - 1)
              case measure => have := HG.out; omega
              case rel => exact ⟨j + 1, ao6, cap6, r6, by first | rfl | go_num, by go_num, hid (by have := HG.out; omega), HH6⟩
            · have hjm : j = m := by have := HG.out; omega
              have hji : ¬ (j : Int) < (m : Int) := by omega
              have hfin : ∃ os : List OL, os.length = m ∧ (∀ i o, os[i]? = some o → o.n = (ofT (T.getD i 0) l).length ∧ o.xs = (ofT (T.getD i 0) l).flatMap evC) ∧ Hp [] w wr (.row 3 1 (.slice aC m cC) rC m (T.map intV) :: cE aP m cP rP (os.map OL.v) :: os.map itE) := by
                obtain ⟨since, seen, c0, hh⟩ := HH.out
                rw [hjm, List.take_of_length_le (by rw [HTL.out]; exact Nat.le_refl _)] at hh
                refine ⟨T.map (olOf ps), by rw [List.length_map, HTL.out], fun i o hio => ?_, ?_⟩
                · rw [List.getElem?_map] at hio
                  cases hTi : T[i]? with
                  | none => rw [hTi] at hio; cases hio
                  | some t =>
                    rw [hTi] at hio
                    simp only [Option.map_some, Option.some.injEq] at hio
                    subst hio
                    obtain ⟨hi1, hi2⟩ := List.getElem?_eq_some_iff.1 hTi
                    have h5 := (HFIN.out.2.2.2 i hi1).2
                    rw [hi2] at h5
                    rw [List.getD_eq_getElem?_getD, hTi]
                    exact h5
                · have hp : (T.map (olOf ps)).map itE = T.map (fun t => itE (olOf ps t)) := by rw [List.map_map]; rfl
                  have hv : (T.map (olOf ps)).map OL.v = T.map (fun t => (olOf ps t).v) := by rw [List.map_map]; rfl
                  rw [hp, hv]
                  have h8 := hh.sub (I' := cE aP m cP rP (T.map (fun t => (olOf ps t).v)) :: .row 3 1 (.slice aC m cC) rC m (T.map intV) :: ps.map itP) (((List.Sublist.refl _).cons _).cons _ |>.cons_cons _ |>.cons_cons _)
                  exact (h8.perm (((HFIN.out.2.2.1).symm.cons _).cons _)).perm (List.Perm.swap _ _ _)
              have HF := hid hfin
              clear hfin HH
              subst hjm
              go_wp2
              first | go_ret2 | go_ret3 | go_ret
              obtain ⟨os, h1, h2, h3⟩ := HF.out
              exact ⟨T, os, _, _, _, _, _, _, _, rfl, HTL.out, h1, HFIN.out.1, h2, h3⟩
        · obtain ⟨since, seen, c0, hh⟩ := HH.out
          have hh5 : ∃ since seen c0, Hp [] w w5 (.row 3 1 (.slice aC m cC) rC m (C.map intV) :: .box R (.mapIter (some M) since seen c0) :: .box M (.map es clock) :: ps.map itP) := by
            obtain ⟨es2, clock2, since2, seen2, c2, h1, h2, h3, h4⟩ := hi
            exact ⟨since2, seen2, c2, hh.set (i := 1) rfl (.box R (.mapIter (some M) since2 seen2 c2)) hc (by simp [It.blk]) h3 (fun g hg => .inl hg) rfl⟩
          have hml : m < cn := by
            have h1 := hi.nodup
            have h2 := nodup_len h1.1 h1.2
            rw [mapV_fst, List.length_map, HCN.out, List.length_append] at h2
            have := HG.out.2
            simp only [List.length_cons, List.length_nil] at h2
            omega
          have HH5 := hid hh5
          have HI5 := hid hi
          clear hh5 hi hc hh HH hx hm
          rw [hXX.out]; clear hXX XX
          have hrow : Row w5 3 1 (.slice aC m cC) rC m (C.map intV) := by
            obtain ⟨since, seen, c0, hh⟩ := HH5.out
            exact hh.rowAt (i := 0) rfl
          have HROW := hid hrow
          clear hrow
          go_wp2_with (at_builtin; refine wpList_grew rfl _ _ 54 rfl elem_int rfl (HROW.out.keep ((Chg.refl [] w5).alloc _) (by simp)) rfl (View.one _ _ _) (by simp [Value.oneCell']) (by unfold maxLen; omega) (by omega) (fun ao6 cap6 r6 w6 hr6 hg6 => halt (fun XX hXX => ?_)))
          have h6 : (∃ since seen c0, Hp [] w w6 (.row 3 1 (.slice ao6 (m + 1) cap6) r6 (m + 1) ((C ++ [x]).map intV) :: .box R (.mapIter (some M) since seen c0) :: .box M (.map es clock) :: ps.map itP)) ∧ ItG w6 M R (mapV ps) (C ++ [x]) := by
            obtain ⟨since, seen, c0, hh⟩ := HH5.out
            have hMr : rC ≠ some M := hh.ne (i := 2) (j := 0) rfl rfl (by omega) rfl
            have hRr : rC ≠ some R := hh.ne (i := 1) (j := 0) rfl rfl (by omega) rfl
            refine ⟨⟨since, seen, c0, hh.grow 0 rfl ((Chg.refl [] w5).alloc _) (by rw [List.map_append]; exact hr6) hg6.chg hg6.fresh rfl⟩, (HI5.out.keep ((Chg.refl [] w5).alloc _) (by simp) (by simp)).keep hg6.chg (by simpa using hMr) (by simpa using hRr)⟩
          have HH6 := hid h6
          clear h6 hr6 hg6 HROW HH5 HI5 hen
          rw [hXX.out]; clear hXX XX
          go_wp2_with fail
          go_roundg (gk - 1)
          case measure => have := HG.out; omega
          case rel => exact ⟨C ++ [x], m + 1, ao6, cap6, r6, by first | rfl | go_num, hid ⟨by have := HG.out; omega, by rw [List.length_append, HG.out.2]; rfl⟩, hid HH6.out.2, hid HH6.out.1⟩
end Go.Proofs.YtbghkodcfedebaaGreatDoor
