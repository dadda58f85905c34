/- Walks of the code layer: a program read, the walk. -/
import Derived.Test.YtbikekgljabalaaM07
import Derived.WalkMore
import Derived.Deep.LoopGhost
import Derived.Deep.DeepCutAuto
namespace Go.Proofs.Ytbikekgljabalaa
open Go.RowKit Go.AB
set_option linter.unusedSimpArgs false
set_option linter.unusedVariables false
set_option linter.unusedSectionVars false

theorem info_str : (Try.prog.info? 9).map (fun i => (i.zero, i.size, i.bytes)) = some (some (.string ⟨#[]⟩), 1, 16) := by kernel_rfl
theorem elem_str : ElemOk Try.prog 24 9 1 16 := .of Try.underlying24 info_str rfl (by decide)
theorem info_bar : (Try.prog.info? 55).map (fun i => (i.zero, i.size, i.bytes)) = some (some (.agg #[.string ⟨#[]⟩, .int .i64 0]), 2, 24) := by kernel_rfl
theorem elem_bar : ElemOk Try.prog 25 55 2 24 := .of Try.underlying25 info_bar rfl (by decide)
theorem info_thr : (Try.prog.info? 59).map (fun i => (i.zero, i.size, i.bytes)) = some (some (.agg #[.string ⟨#[]⟩, .slice none 0 0, .slice none 0 0]), 3, 64) := by kernel_rfl
theorem elem_thr : ElemOk Try.prog 26 59 3 64 := .of Try.underlying26 info_thr rfl (by decide)

theorem thr_more {V : World → Prop} {A : World → Prop} {t : ThrD} {vc vp : Value} {rc rp : Option Nat} {ts : List ThrV}
    (h : ∀ u, V u → A u ∧ ∀ x ∈ ts, Lst insC 5 u x.code x.t.code ∧ Lst plcC 2 u x.places x.t.places) (u : World)
    (hu : Row u 63 2 vp rp t.places.length (t.places.flatMap plcC) ∧ Row u 61 5 vc rc t.code.length (t.code.flatMap insC) ∧ V u) :
    A u ∧ ∀ x ∈ ts ++ [(⟨t, vc, vp⟩ : ThrV)], Lst insC 5 u x.code x.t.code ∧ Lst plcC 2 u x.places x.t.places := by
  obtain ⟨b1, b2⟩ := h u hu.2.2
  refine ⟨b1, fun x hx => ?_⟩
  rcases List.mem_append.1 hx with h | h
  · exact b2 x h
  · rw [List.mem_singleton] at h
    subst h
    exact ⟨hu.2.1.view, hu.1.view⟩
set_option maxHeartbeats 8000000 in
set_option maxRecDepth 100000 in
theorem decode_body (v : Value) (L : List UInt8) (w : World) (hv : Bytes w v L) (hl : L.length ≤ 16777216) (hc : (openB L).2.2 = 0) (hk : (openB L).1 = 1) :
    Calls Try.prog 18 #[v] w (DecPost w (decD (dBody (openB L).2.1))) := by
  have hmf : ∀ (fn : Fn) (first cap : Array Value) (w : World), (Instr.makeFunc fn first cap).run Try.prog w = .ok (.func fn first cap) w := fun _ _ _ _ => rfl
  have h2 := ((Chg.refl [] w).alloc (.cells #[.slice none 0 0, .slice none 0 0, .slice none 0 0, .slice none 0 0, .slice none 0 0] 28)).alloc (.cells #[.int .i64 0] 34)
  obtain ⟨k, bd, c, ho⟩ : ∃ k bd c, openB L = (k, bd, c) := ⟨_, _, _, rfl⟩
  have hbdl : bd.length ≤ 16777216 := by have := openB_len L; rw [ho] at this; exact Nat.le_trans this hl
  have hop := open_calls v L _ (hv.keep h2 (by simp)) hl
  rw [ho] at hop hc hk ⊢
  simp only at hc hk ⊢
  subst hc hk
  have HO := hid hop
  clear hop ho
  obtain ⟨D, hD⟩ : ∃ D, decD (dBody bd) = D := ⟨_, rfl⟩
  rw [hD]
  have HD := hid hD
  clear hD
  go_enter_defers Try.func18, Try.ntmps18
  go_wp2_with (go_at_call 42; refine (HO.out).mono ?_; rintro e w1 ⟨l', ao, cap, r, rfl, hr1, hf1, hc1, HL1⟩; refine halt (fun X hX => ?_))
  rw [hX.out]; clear hX
  obtain ⟨hp1, he1, hC1⟩ := dec_start hc1
  obtain ⟨P, hP⟩ : ∃ P, w.heap.size = P := ⟨_, rfl⟩
  have hPl : w.heap.size ≤ P := by omega
  rw [hP] at hp1 he1 ⊢
  obtain ⟨c0, c1, c2, c3, c4, f0, f1, f2, f3, f4, d0, g0⟩ := cells56 hp1 he1
  have hNR := newReader_calls (.slice ao l'.length cap) l' (w1.setCell ⟨P + 1, 0, none⟩ (.int .i64 0)) (hr1.view.keep (S := [P + 1]) ((Chg.refl [P + 1] w1).setCell (p := ⟨P + 1, 0, none⟩) (.inl (by simp)) _) (fun g hg hm => by
    have h := (hf1 g (hr1.blk.symm.trans hg)).resolve_left (by simp)
    simp at h hm
    omega)) (by rw [HL1.out]; omega)
  have HNR := hid hNR
  have HU := hid (And.intro hp1 (And.intro he1 hC1))
  clear hNR hp1 he1 hC1 hc1 hf1 hr1 h2 hv HO hP
  go_wp2_with (go_at_call 44; refine (HNR.out).mono ?_; rintro e w2 ⟨b, lb, aor, capr, rfl, hR2, hb2, hg2, hc2, HLb⟩; refine halt (fun X hX => ?_))
  rw [hX.out]; clear hX
  have hPI := PI.start hPl HU.out.1 HU.out.2.1 HU.out.2.2 hc2 hR2 hb2 hg2
  have hlb : lb = bd := HLb.out.trans HL1.out
  subst hlb
  have HPI := hid hPI
  clear hPI hR2 hb2 hg2 hc2 HNR HU c0 c1 c2 c3 c4 f0 f1 f2 f3 f4 d0 g0
  go_wp2_with fail
  obtain ⟨wq, hwq⟩ : ∃ x : World, x = (w2.alloc (.cells #[.pointer (some ⟨b, 0, none⟩)] 89)) := ⟨_, rfl⟩
  obtain ⟨tb, htb⟩ : ∃ x, w2.heap.size = x := ⟨_, rfl⟩
  obtain ⟨N, hN⟩ : ∃ x, tb + 1 = x := ⟨_, rfl⟩
  rw [← hwq] at HPI ⊢
  rw [htb, hN] at HPI
  rw [htb]
  clear hwq htb hN hPl
  have y0 := HPI.out.tb0
  rcases q1 : dList 4096 lb (dVar lb) 0 with _ | ⟨vars, p1⟩
  · have HV := hid (vars_no (HPI.out.same (Chg.of_drewN [] wq 1)).ok hbdl q1)
    have HDn := hid (HD.out.symm.trans (decD_none (dB1 q1)))
    clear q1 HD
    (refine wp_region_held_drew (S := (fun w' => w'.cell? ⟨tb, 0, none⟩ = some (.pointer (some ⟨b, 0, none⟩)))) (by kernel_rfl) (by exact y0) (fun hHeld => ?_); (refine wpAnyH_take (i := 0) (v := ?_) rfl (by kernel_rfl) (by kernel_rfl) (by kernel_rfl) (fun c a w h => door_take (by decide) (by decide) c a w h) (Or.inl ⟨by rfl, ?_⟩) (by assumption) ?_; rotate_left 1; (focus (intro w hSw; (try dsimp only at hSw); go_simp; (try with_reducible rfl))); (try simp only [List.getElem_toArray, List.getElem_cons_zero, List.getElem_cons_succ, Act.put, List.setIfInBounds_toArray, List.set_cons_zero, List.set_cons_succ])); (refine wpAnyH_take (i := 2) (v := ?_) rfl (by kernel_rfl) (by kernel_rfl) (by kernel_rfl) (fun c a w h => door_take (by decide) (by decide) c a w h) (Or.inl ⟨by rfl, ?_⟩) (by assumption) ?_; rotate_left 1; (focus (intro w hSw; (try dsimp only at hSw); go_simp; (try with_reducible rfl))); (try simp only [List.getElem_toArray, List.getElem_cons_zero, List.getElem_cons_succ, Act.put, List.setIfInBounds_toArray, List.set_cons_zero, List.set_cons_succ])); (refine wpAnyH_ready (rs := [1]) (by kernel_rfl) (by simp) ?_; refine AllReadyH.cons rfl (fun K hK => ?_) AllReadyH.nil; go_simp); (go_at_call 45; refine (HV.out).mono ?_; rintro e w5 ⟨rfl, hc5⟩; unfold gaveUp; exact door_bad ((HPI.out.same (Chg.of_drewN [] wq 1)).gone hc5) HDn.out rfl rfl))
  rcases q2 : dList 4096 lb (dVar lb) p1 with _ | ⟨vols, p2⟩
  · have HV := hid (vars_ok (HPI.out.same (Chg.of_drewN [] wq 1)).ok hbdl q1)
    have HV2 := hid (fun u (hO : Ok u b lb aor capr p1) => vars_no hO hbdl q2)
    have HDn := hid (HD.out.symm.trans (decD_none (dB2 q1 q2)))
    clear q1 q2 HD
    (refine wp_region_held_drew (S := (fun w' => w'.cell? ⟨tb, 0, none⟩ = some (.pointer (some ⟨b, 0, none⟩)))) (by kernel_rfl) (by exact y0) (fun hHeld => ?_); (refine wpAnyH_take (i := 0) (v := ?_) rfl (by kernel_rfl) (by kernel_rfl) (by kernel_rfl) (fun c a w h => door_take (by decide) (by decide) c a w h) (Or.inl ⟨by rfl, ?_⟩) (by assumption) ?_; rotate_left 1; (focus (intro w hSw; (try dsimp only at hSw); go_simp; (try with_reducible rfl))); (try simp only [List.getElem_toArray, List.getElem_cons_zero, List.getElem_cons_succ, Act.put, List.setIfInBounds_toArray, List.set_cons_zero, List.set_cons_succ])); (refine wpAnyH_take (i := 2) (v := ?_) rfl (by kernel_rfl) (by kernel_rfl) (by kernel_rfl) (fun c a w h => door_take (by decide) (by decide) c a w h) (Or.inl ⟨by rfl, ?_⟩) (by assumption) ?_; rotate_left 1; (focus (intro w hSw; (try dsimp only at hSw); go_simp; (try with_reducible rfl))); (try simp only [List.getElem_toArray, List.getElem_cons_zero, List.getElem_cons_succ, Act.put, List.setIfInBounds_toArray, List.set_cons_zero, List.set_cons_succ])); (refine wpAnyH_ready (rs := [1]) (by kernel_rfl) (by simp) ?_; refine AllReadyH.cons rfl (fun K hK => ?_) AllReadyH.nil; go_simp); (go_at_call 45; refine (HV.out).mono ?_; rintro e w5 ⟨av, cv, rv, rfl, hr5, hf5, hO5, hc5⟩); (refine hK.out _ _ (by exact ((HPI.out.same (Chg.of_drewN [] wq 1)).take hc5 hO5.rd).tb0) (fun hHeld => ?_); clear hK K; (try simp only [List.getElem_toArray, List.getElem_cons_zero, List.getElem_cons_succ, Act.put, List.setIfInBounds_toArray, List.set_cons_zero, List.set_cons_succ])); (refine wpAnyH_take (i := 4) (v := ?_) rfl (by kernel_rfl) (by kernel_rfl) (by kernel_rfl) (fun c a w h => door_take (by decide) (by decide) c a w h) (Or.inl ⟨by rfl, ?_⟩) (by assumption) ?_; rotate_left 1; (focus (intro w hSw; (try dsimp only at hSw); go_simp; (try with_reducible rfl))); (try simp only [List.getElem_toArray, List.getElem_cons_zero, List.getElem_cons_succ, Act.put, List.setIfInBounds_toArray, List.set_cons_zero, List.set_cons_succ])); (refine wpAnyH_ready (rs := [3]) (by kernel_rfl) (by simp) ?_; refine AllReadyH.cons rfl (fun K hK => ?_) AllReadyH.nil; go_simp); (go_at_call 45; refine (HV2.out _ hO5).mono ?_; rintro e w6 ⟨rfl, hc6⟩; unfold gaveUp; exact door_bad (((HPI.out.same (Chg.of_drewN [] wq 1)).take hc5 hO5.rd).gone hc6) HDn.out rfl rfl))
  have HV := hid (vars_ok (HPI.out.same (Chg.of_drewN [] wq 1)).ok hbdl q1)
  have HV2 := hid (fun u (hO : Ok u b lb aor capr p1) => vars_ok hO hbdl q2)
  have HQ1 := hid q1
  have HQ2 := hid q2
  clear q1 q2
  go_cut [6] from 24 to 29 (fun v6 wx => v6 = .pointer (some ⟨tb, 0, none⟩) ∧ Hid (∃ (v0 v1 : Value) (F : List Nat) (V : World → Prop), PI w wx N P tb b lb aor capr p2 0 0 #[v0, v1, .slice none 0 0, .slice none 0 0, .slice none 0 0] F V ∧ ∀ u, V u → Lst varC 2 u v0 vars ∧ Lst varC 2 u v1 vols))
  case first =>
    refine wp_region_noPanic ?_
    go_region_law (first
      | (go_simp; go_at_call 45; refine (HV.out).mono ?_; rintro e w5 ⟨av, cv, rv, rfl, hr5, hf5, hO5, hc5⟩; have hk5 := ((HPI.out.same (Chg.of_drewN [] wq 1)).take hc5 hO5.rd).row hr5 (fun g hg => Nat.le_trans (HPI.out.same (Chg.of_drewN [] wq 1)).hN ((hf5 g hg).resolve_left (by simp))); have y5 := hk5.tb0)
      | (go_simp; go_at_call 45; refine (HV2.out _ hk5.ok).mono ?_; rintro e w6 ⟨aw, cw, rw', rfl, hr6, hf6, hO6, hc6⟩; have hk6 := (hk5.take hc6 hO6.rd).row hr6 (fun g hg => Nat.le_trans hk5.hN ((hf6 g hg).resolve_left (by simp))); obtain ⟨z0, z1, z2, z3, z4, e0, e1, e2, e3, e4, d0, g0⟩ := hk6.cells))
    all_goals
      refine NoPanic.normal ?_
      go_wp2_with fail
      go_meet
      exact ⟨rfl, hid ⟨_, _, _, _, (hk6.set 0 _).set 1 _, fun u hu => ⟨hu.2.1.view, hu.1.view⟩⟩⟩
  case rest =>
  obtain ⟨rfl, hcut⟩ := hcut
  obtain ⟨v0, v1, F, V, hk6, hV⟩ := hcut.out
  have HV6 := hid hV
  have y6 := hk6.tb0
  have HK6 := hid hk6
  clear hcut HPI y0 HV HV2 hk6 hV
  rcases k3 : dCnt 4096 lb p2 with _ | ⟨n3, p30⟩
  · have HDn := hid (HD.out.symm.trans (decD_none (dB3 HQ1.out HQ2.out (dList_none k3))))
    have HC := hid (count_bad 4096 (by omega) HK6.out.ok hbdl k3)
    clear k3
    go_wp2_with (go_at_call 46; refine (HC.out).mono ?_; rintro e w7 ⟨rfl, hc7⟩; unfold gaveUp)
    exact door_bad (HK6.out.gone hc7) HDn.out rfl rfl
  have HC := hid (count_ok 4096 (by omega) HK6.out.ok hbdl k3)
  have hn3 : n3 ≤ 4096 := dCnt_le HK6.out.rd.ok k3
  have HL3 := hid (dList_some (d := dLock lb) k3)
  clear k3
  go_wp2_with (go_at_call 46; refine (HC.out).mono ?_; rintro e w7 ⟨rfl, hO7, hc7⟩)
  have hk7 := HK6.out.take hc7 hO7.rd
  have HK7 := hid hk7
  clear hk7 hO7 hc7 HC HK6 y6
  go_loopg [32] n3 (fun gk vi wr => ∃ (j q : Nat) (xs : List ByteArray) (r : Option Nat) (al : Option Addr) (cl : Nat), j + gk = n3 ∧ vi = .int .i64 j ∧
    Hid (PI w wr N P tb b lb aor capr q 0 0 #[v0, v1, .slice al j cl, .slice none 0 0, .slice none 0 0] F V ∧ Row wr 9 1 (.slice al j cl) r j (xs.flatMap strC) ∧ ∀ g, r = some g → N ≤ g ∧ g ∉ F) ∧ Hid (LQ (dLock lb) n3 p30 j q xs))
  case atStart => exact ⟨0, p30, [], none, none, 0, by omega, rfl, hid ⟨HK7.out, Row.nil _ _ _, (fun g hg => by cases hg)⟩, hid (LQ.start _ _ _)⟩
  case round =>
    clear HK7
    obtain ⟨j, q, xs, r, al, cl, hj, rfl, HI, HP⟩ := hrel
    by_cases hlt : j < n3
    · have zl : (j : Int) < (n3 : Int) := by omega
      have hj4 : j ≤ 4096 := by omega
      obtain ⟨nm, p31, h31, b31, hT⟩ : ∃ o p h b, rText 24 lb ⟨q, 0, 0⟩ = (o, ⟨p, h, b⟩) := ⟨_, _, _, _, rfl⟩
      have hNM := fun u (hu : Chg [] wr u) => name_calls (HI.out.1.same hu).rd hbdl
      rw [hT] at hNM
      have HNM := hid hNM
      have HT := hid hT
      have y0 := HI.out.1.tb0
      obtain ⟨z0, z1, z2, z3, z4, e0, e1, e2, e3, e4, d0, g0⟩ := HI.out.1.cells
      clear hNM hT
      go_upto_region 11 with fail
      go_cut [32] from 32 to 43 (fun vi wx => vi = .int .i64 j ∧ Hid (∃ (r' : Option Nat) (al' : Option Addr) (cl' : Nat), PI w wx N P tb b lb aor capr p31 h31 b31 #[v0, v1, .slice al' (j + 1) cl', .slice none 0 0, .slice none 0 0] F V ∧ Row wx 9 1 (.slice al' (j + 1) cl') r' (j + 1) (xs.flatMap strC ++ strC ⟨nm.toArray⟩) ∧ ∀ g, r' = some g → N ≤ g ∧ g ∉ F))
      case first =>
        refine wp_region_noPanic ?_
        go_region_law (first
          | (refine step_app rfl _ _ 24 rfl elem_str rfl (((HI.out.2.1.keep (Chg.of_drewN [] wr 1) (by simp)).keep hc8 (fun g hg hm => by have := (HI.out.2.2 g hg).1; have := hbN; simp at hm; omega)).keep ((Chg.refl [] _).alloc _) (by simp)) rfl (View.one _ _ _) (by simp [Value.oneCell']) (by unfold maxLen; omega) (by omega) (fun ao' cap' r' w9 hr9 hc9 hf9 => ?_); obtain ⟨kA, kB, rowB, hrB⟩ := (hk8.same ((Chg.refl [] _).alloc _)).put (i := 2) HI.out.2.2 hr9 hc9 hf9; obtain ⟨t0, t1, t2, t3, t4, s0, s1, s2, s3, s4, _, _⟩ := kA.cells)
          | (go_simp; go_at_call 47; refine (HNM.out _ (Chg.of_drewN [] wr _)).mono ?_; rintro e w8 ⟨rfl, hR8, hc8⟩; unfold strB; have hk8 := (HI.out.1.same (Chg.of_drewN [] wr 1)).take hc8 hR8; have y8 := hk8.tb0; obtain ⟨x0, x1, x2, x3, x4, _⟩ := hk8.cells; have x2o := fun o => (hk8.same ((Chg.refl [] _).alloc o)).cells.2.2.1; have hbN := hk8.bl.1))
        all_goals
          refine NoPanic.normal ?_
          go_wp2_with fail
          go_meet
          exact ⟨rfl, hid ⟨_, _, _, kB, rowB, hrB⟩⟩
      case rest =>
      obtain ⟨rfl, hcut⟩ := hcut
      obtain ⟨r2, al2, cl2, hk9, hrow9, hr9⟩ := hcut.out
      have y9 := hk9.tb0
      have HK9 := hid (And.intro hk9 (And.intro hrow9 hr9))
      clear hcut hk9 hrow9 hr9 y0 z0 z1 z2 z3 z4 e0 e1 e2 e3 e4 d0 g0 HNM
      by_cases hb31 : b31 = 0
      · subst hb31
        have hh31 : h31 = 0 := by have h := (rText_wh (m := 24) (L := lb) (s := ⟨q, 0, 0⟩) (by rw [HT.out])).1; rw [HT.out] at h; exact h
        subst hh31
        have hdl : dLock lb q = some (⟨nm.toArray⟩, p31) := by unfold dLock sureP; rw [HT.out]; rfl
        have HP2 := hid (HP.out.step hlt hdl)
        have hfl : xs.flatMap strC ++ strC ⟨nm.toArray⟩ = (xs ++ [(⟨nm.toArray⟩ : ByteArray)]).flatMap strC := by simp
        have HFL := hid hfl
        clear hdl hfl
        go_wp2_with (go_at_call 48; refine (sure_ok HK9.out.1.rd).mono ?_; rintro e w10 ⟨rfl, hc10⟩)
        have hk10 := HK9.out.1.same hc10
        have hrow10 := HK9.out.2.1.keep hc10 (by simp)
        rw [HFL.out] at hrow10
        have HK10 := hid (And.intro hk10 (And.intro hrow10 HK9.out.2.2))
        clear hk10 hrow10 hc10 HK9 y9
        go_roundg (gk - 1)
        case measure => omega
        case rel => exact ⟨j + 1, p31, xs ++ [⟨nm.toArray⟩], r2, al2, cl2, by omega, by go_num, HK10, HP2⟩
      · have hdl : dLock lb q = none := by unfold dLock sureP; rw [HT.out, if_neg (fun h => hb31 h.1)]; rfl
        have HDn := hid (HD.out.symm.trans (decD_none (dB3 HQ1.out HQ2.out (HL3.out.trans (HP.out.stop hlt hdl)))))
        clear hdl
        go_wp2_with (go_at_call 48; refine (sure_bad HK9.out.1.rd hb31 _).mono ?_; rintro e w10 ⟨rfl, hc10⟩; unfold gaveUp)
        exact door_bad (HK9.out.1.gone hc10.nil) HDn.out rfl rfl
    · obtain rfl : n3 = j := by omega
      obtain ⟨locks, hlk⟩ : ∃ x, xs = x := ⟨_, rfl⟩
      subst hlk
      have HQ3 := hid (HL3.out.trans HP.out.done)
      have hk11 := HI.out.1.row HI.out.2.1 (fun g hg => (HI.out.2.2 g hg).1)
      have hll := HP.out.len
      have HV11 : Hid (∀ u, (Row u 9 1 (.slice al n3 cl) r n3 (xs.flatMap strC) ∧ V u) → Lst varC 2 u v0 vars ∧ Lst varC 2 u v1 vols ∧ Lst strC 1 u (.slice al n3 cl) xs) := hid (fun u hu => ⟨(HV6.out u hu.2).1, (HV6.out u hu.2).2, by unfold Lst; rw [hll]; exact hu.1.view⟩)
      obtain ⟨F3, hF3⟩ : ∃ x, r.toList ++ F = x := ⟨_, rfl⟩
      obtain ⟨V3, hV3⟩ : ∃ x, (fun u => Row u 9 1 (.slice al n3 cl) r n3 (xs.flatMap strC) ∧ V u) = x := ⟨_, rfl⟩
      obtain ⟨v2, hv2⟩ : ∃ x, Value.slice al n3 cl = x := ⟨_, rfl⟩
      have HV12 : Hid (∀ u, V3 u → Lst varC 2 u v0 vars ∧ Lst varC 2 u v1 vols ∧ Lst strC 1 u v2 xs) := hid (by rw [← hV3, ← hv2]; exact HV11.out)
      rw [hF3, hV3, hv2] at hk11
      obtain ⟨wo, hwo⟩ : ∃ x : World, wr = x := ⟨_, rfl⟩
      rw [hwo] at hk11 ⊢
      have y11 := hk11.tb0
      have HK11 := hid hk11
      clear hk11 hF3 hV3 hv2 hwo HV11 HI HP HL3 hll HV6
      obtain ⟨p3, rfl⟩ : ∃ x, x = q := ⟨_, rfl⟩
      obtain ⟨locks, rfl⟩ : ∃ x, x = xs := ⟨_, rfl⟩
      clear hlt
      rcases k4 : dCnt 4096 lb p3 with _ | ⟨n4, p40⟩
      · have HDn := hid (HD.out.symm.trans (decD_none (dB4 HQ1.out HQ2.out HQ3.out (dList_none k4))))
        have HC := hid (count_bad 4096 (by omega) HK11.out.ok hbdl k4)
        clear k4
        go_wp2_with (go_at_call 46; refine (HC.out).mono ?_; rintro e w7 ⟨rfl, hc7⟩; unfold gaveUp)
        exact door_bad (HK11.out.gone hc7) HDn.out rfl rfl
      have HC := hid (count_ok 4096 (by omega) HK11.out.ok hbdl k4)
      have hn4 : n4 ≤ 4096 := dCnt_le HK11.out.rd.ok k4
      have HL4 := hid (dList_some (d := dVar lb) k4)
      clear k4
      go_wp2_with (go_at_call 46; refine (HC.out).mono ?_; rintro e w7 ⟨rfl, hO7, hc7⟩)
      have hk7 := HK11.out.take hc7 hO7.rd
      have HK7 := hid hk7
      clear hk7 hO7 hc7 HC HK11 y11
      go_loopg [46] n4 (fun gk vi wr => ∃ (j q : Nat) (xs : List VarD) (r : Option Nat) (al : Option Addr) (cl : Nat), j + gk = n4 ∧ vi = .int .i64 j ∧
        Hid (PI w wr N P tb b lb aor capr q 0 0 #[v0, v1, v2, .slice al j cl, .slice none 0 0] F3 V3 ∧ Row wr 55 2 (.slice al j cl) r j (xs.flatMap varC) ∧ ∀ g, r = some g → N ≤ g ∧ g ∉ F3) ∧ Hid (LQ (dVar lb) n4 p40 j q xs))
      case atStart => exact ⟨0, p40, [], none, none, 0, by omega, rfl, hid ⟨HK7.out, Row.nil _ _ _, (fun g hg => by cases hg)⟩, hid (LQ.start _ _ _)⟩
      case round =>
        clear HK7
        obtain ⟨j, q, xs, r, al, cl, hj, rfl, HI, HP⟩ := hrel
        by_cases hlt : j < n4
        · have zl : (j : Int) < (n4 : Int) := by omega
          have hj4 : j ≤ 4096 := by omega
          obtain ⟨nm, p41, h41, b41, hT⟩ : ∃ o p h b, rText 24 lb ⟨q, 0, 0⟩ = (o, ⟨p, h, b⟩) := ⟨_, _, _, _, rfl⟩
          obtain ⟨fi, p42, h42, b42, hS⟩ : ∃ o p h b, rSigned lb ⟨p41, h41, b41⟩ = (o, ⟨p, h, b⟩) := ⟨_, _, _, _, rfl⟩
          have hPV : pVar lb ⟨q, 0, 0⟩ = ((nm, fi), ⟨p42, h42, b42⟩) := by unfold pVar; rw [hT]; simp only [hS]
          have hNM := fun u (hu : Chg [] wr u) => name_calls (HI.out.1.same hu).rd hbdl
          rw [hT] at hNM
          have HNM := hid hNM
          have HPV := hid hPV
          have HS := hid hS
          have y0 := HI.out.1.tb0
          obtain ⟨z0, z1, z2, z3, z4, e0, e1, e2, e3, e4, d0, g0⟩ := HI.out.1.cells
          clear hNM hT hS hPV
          go_upto_region 16 with fail
          go_cut [46] from 46 to 61 (fun vi wx => vi = .int .i64 j ∧ Hid (∃ (r' : Option Nat) (al' : Option Addr) (cl' : Nat), PI w wx N P tb b lb aor capr p42 h42 b42 #[v0, v1, v2, .slice al' (j + 1) cl', .slice none 0 0] F3 V3 ∧ Row wx 55 2 (.slice al' (j + 1) cl') r' (j + 1) (xs.flatMap varC ++ varC ⟨⟨nm.toArray⟩, fi⟩) ∧ ∀ g, r' = some g → N ≤ g ∧ g ∉ F3))
          case first =>
            refine wp_region_noPanic ?_
            go_region_law (first
              | (refine step_app rfl _ _ 25 rfl elem_bar rfl ((((HI.out.2.1.keep (Chg.of_drewN [] wr 1) (by simp)).keep hc8 (fun g hg hm => by have := (HI.out.2.2 g hg).1; have := hbN; simp at hm; omega)).keep hc9 (fun g hg hm => by have := (HI.out.2.2 g hg).1; have := hbN; simp at hm; omega)).keep ((Chg.refl [] _).alloc _) (by simp)) rfl (View.struct _ [.string ⟨nm.toArray⟩, .int .i64 fi] 55 rfl) (by simp [Value.oneCell']) (by unfold maxLen; omega) (by omega) (fun ao' cap' r' w10 hr10 hc10 hf10 => ?_); obtain ⟨kA, kB, rowB, hrB⟩ := (hk9.same ((Chg.refl [] _).alloc _)).put (i := 3) HI.out.2.2 hr10 hc10 hf10; obtain ⟨t0, t1, t2, t3, t4, s0, s1, s2, s3, s4, _, _⟩ := kA.cells)
              | (go_simp; go_at_call 47; refine (HNM.out _ (Chg.of_drewN [] wr _)).mono ?_; rintro e w8 ⟨rfl, hR8, hc8⟩; unfold strB; have hk8 := (HI.out.1.same (Chg.of_drewN [] wr 1)).take hc8 hR8; have y8 := hk8.tb0; obtain ⟨x0, x1, x2, x3, x4, _⟩ := hk8.cells; have hbN := hk8.bl.1)
              | (go_simp; go_at_call 49; refine (rsigned_calls hR8 (by omega)).mono ?_; rw [HS.out]; rintro e w9 ⟨rfl, hR9, hc9⟩; have hk9 := hk8.take hc9 hR9; have y9 := hk9.tb0; obtain ⟨x0', x1', x2', x3', x4', _⟩ := hk9.cells; have x3o := fun o => (hk9.same ((Chg.refl [] _).alloc o)).cells.2.2.2.1))
            all_goals
              refine NoPanic.normal ?_
              go_wp2_with fail
              go_meet
              exact ⟨rfl, hid ⟨_, _, _, kB, rowB, hrB⟩⟩
          case rest =>
          obtain ⟨rfl, hcut⟩ := hcut
          obtain ⟨r2, al2, cl2, hk9, hrow9, hr9⟩ := hcut.out
          have y9 := hk9.tb0
          have HK9 := hid (And.intro hk9 (And.intro hrow9 hr9))
          clear hcut hk9 hrow9 hr9 y0 z0 z1 z2 z3 z4 e0 e1 e2 e3 e4 d0 g0 HNM HS
          by_cases hb42 : b42 = 0
          · subst hb42
            have hh42 : h42 = 0 := by
              have hw := (((p_text (L := lb) (by omega)).pair (fun _ => p_signed)).fwd ⟨q, 0, 0⟩ HI.out.1.rd.ok (by show (pVar lb ⟨q, 0, 0⟩).2.bad = 0; rw [HPV.out])).1
              replace hw : (pVar lb ⟨q, 0, 0⟩).2.wh = 0 := hw
              rw [HPV.out] at hw
              exact hw
            subst hh42
            have hdl : dVar lb q = some (⟨⟨nm.toArray⟩, fi⟩, p42) := by unfold dVar sureP; rw [HPV.out]; rfl
            have HP2 := hid (HP.out.step hlt hdl)
            have hfl : xs.flatMap varC ++ varC ⟨⟨nm.toArray⟩, fi⟩ = (xs ++ [(⟨⟨nm.toArray⟩, fi⟩ : VarD)]).flatMap varC := by simp
            have HFL := hid hfl
            clear hdl hfl
            go_wp2_with (go_at_call 48; refine (sure_ok HK9.out.1.rd).mono ?_; rintro e w10 ⟨rfl, hc10⟩)
            have hk10 := HK9.out.1.same hc10
            have hrow10 := HK9.out.2.1.keep hc10 (by simp)
            rw [HFL.out] at hrow10
            have HK10 := hid (And.intro hk10 (And.intro hrow10 HK9.out.2.2))
            clear hk10 hrow10 hc10 HK9 y9
            go_roundg (gk - 1)
            case measure => omega
            case rel => exact ⟨j + 1, p42, xs ++ [⟨⟨nm.toArray⟩, fi⟩], r2, al2, cl2, by omega, by go_num, HK10, HP2⟩
          · have hdl : dVar lb q = none := by unfold dVar sureP; rw [HPV.out, if_neg (fun h => hb42 h.1)]; rfl
            have HDn := hid (HD.out.symm.trans (decD_none (dB4 HQ1.out HQ2.out HQ3.out (HL4.out.trans (HP.out.stop hlt hdl)))))
            clear hdl
            go_wp2_with (go_at_call 48; refine (sure_bad HK9.out.1.rd hb42 _).mono ?_; rintro e w10 ⟨rfl, hc10⟩; unfold gaveUp)
            exact door_bad (HK9.out.1.gone hc10.nil) HDn.out rfl rfl
        · obtain rfl : n4 = j := by omega
          have HQ4 := hid (HL4.out.trans HP.out.done)
          have hk11 := HI.out.1.row HI.out.2.1 (fun g hg => (HI.out.2.2 g hg).1)
          have hll := HP.out.len
          have HV13 : Hid (∀ u, (Row u 55 2 (.slice al n4 cl) r n4 (xs.flatMap varC) ∧ V3 u) → Lst varC 2 u v0 vars ∧ Lst varC 2 u v1 vols ∧ Lst strC 1 u v2 locks ∧ Lst varC 2 u (.slice al n4 cl) xs) := hid (fun u hu => ⟨(HV12.out u hu.2).1, (HV12.out u hu.2).2.1, (HV12.out u hu.2).2.2, by unfold Lst; rw [hll]; exact hu.1.view⟩)
          obtain ⟨F4, hF4⟩ : ∃ x, r.toList ++ F3 = x := ⟨_, rfl⟩
          obtain ⟨V4, hV4⟩ : ∃ x, (fun u => Row u 55 2 (.slice al n4 cl) r n4 (xs.flatMap varC) ∧ V3 u) = x := ⟨_, rfl⟩
          obtain ⟨v3, hv3⟩ : ∃ x, Value.slice al n4 cl = x := ⟨_, rfl⟩
          have HV14 : Hid (∀ u, V4 u → Lst varC 2 u v0 vars ∧ Lst varC 2 u v1 vols ∧ Lst strC 1 u v2 locks ∧ Lst varC 2 u v3 xs) := hid (by rw [← hV4, ← hv3]; exact HV13.out)
          rw [hF4, hV4, hv3] at hk11
          obtain ⟨wp, hwp⟩ : ∃ x : World, wr = x := ⟨_, rfl⟩
          rw [hwp] at hk11 ⊢
          have y11 := hk11.tb0
          have HK11 := hid hk11
          clear hk11 hF4 hV4 hv3 hwp HV13 HI HP HL4 hll HV12
          obtain ⟨p4, rfl⟩ : ∃ x, x = q := ⟨_, rfl⟩
          obtain ⟨bars, rfl⟩ : ∃ x, x = xs := ⟨_, rfl⟩
          clear hlt
          rcases k5 : dCnt 65535 lb p4 with _ | ⟨n5, p50⟩
          · have HDn := hid (HD.out.symm.trans (decD_none (dB5 HQ1.out HQ2.out HQ3.out HQ4.out (dList_none k5))))
            have HC := hid (count_bad 65535 (by omega) HK11.out.ok hbdl k5)
            clear k5
            go_wp2_with (go_at_call 46; refine (HC.out).mono ?_; rintro e w7 ⟨rfl, hc7⟩; unfold gaveUp)
            exact door_bad (HK11.out.gone hc7) HDn.out rfl rfl
          have HC := hid (count_ok 65535 (by omega) HK11.out.ok hbdl k5)
          have hn5 : n5 ≤ 65535 := dCnt_le HK11.out.rd.ok k5
          have HL5 := hid (dList_some (d := dThr lb) k5)
          clear k5
          go_wp2_with (go_at_call 46; refine (HC.out).mono ?_; rintro e w7 ⟨rfl, hO7, hc7⟩)
          have hk7 := HK11.out.take hc7 hO7.rd
          have HK7 := hid hk7
          clear hk7 hO7 hc7 HC HK11 y11
          go_loopg [64] n5 (fun gk vi wr => ∃ (j q : Nat) (ts : List ThrV) (r : Option Nat) (al : Option Addr) (cl : Nat) (F : List Nat) (V : World → Prop), j + gk = n5 ∧ vi = .int .i64 j ∧
            Hid (PI w wr N P tb b lb aor capr q 0 0 #[v0, v1, v2, v3, .slice al j cl] F V ∧ Row wr 59 3 (.slice al j cl) r j (ts.flatMap thrC) ∧ (∀ g, r = some g → N ≤ g ∧ g ∉ F) ∧
              ∀ u, V u → (Lst varC 2 u v0 vars ∧ Lst varC 2 u v1 vols ∧ Lst strC 1 u v2 locks ∧ Lst varC 2 u v3 bars) ∧ ∀ x ∈ ts, Lst insC 5 u x.code x.t.code ∧ Lst plcC 2 u x.places x.t.places) ∧ Hid (LQ (dThr lb) n5 p50 j q (ts.map ThrV.t)))
          case atStart => exact ⟨0, p50, [], none, none, 0, F4, V4, by omega, rfl, hid ⟨HK7.out, Row.nil _ _ _, (fun g hg => by cases hg), fun u hu => ⟨HV14.out u hu, fun x hx => by cases hx⟩⟩, hid (LQ.start _ _ _)⟩
          case round =>
            clear HK7 HV14
            obtain ⟨j, q, ts, r, al, cl, F, V, hj, rfl, HI, HP⟩ := hrel
            by_cases hlt : j < n5
            · have zl : (j : Int) < (n5 : Int) := by omega
              have hj4 : j ≤ 65535 := by omega
              have y0 := HI.out.1.tb0
              obtain ⟨z0, z1, z2, z3, z4, e0, e1, e2, e3, e4, d0, g0⟩ := HI.out.1.cells
              rcases hti : dThr lb q with _ | ⟨t, p51⟩
              · have HDn := hid (HD.out.symm.trans (decD_none (dB5 HQ1.out HQ2.out HQ3.out HQ4.out (HL5.out.trans (HP.out.stop hlt hti)))))
                have HT := hid (thread_no (HI.out.1.same (Chg.of_drewN [] wr 1)).ok hbdl hti)
                clear hti
                go_wp2_with fail
                (refine wp_region_held_drew (S := (fun w' => w'.cell? ⟨tb, 0, none⟩ = some (.pointer (some ⟨b, 0, none⟩)) ∧ w'.cell? ⟨P, 4, none⟩ = some (.slice al j cl))) (by kernel_rfl) (by exact ⟨y0, z4⟩) (fun hHeld => ?_); (refine wpAnyH_take (i := 0) (v := ?_) rfl (by kernel_rfl) (by kernel_rfl) (by kernel_rfl) (fun c a w h => door_take (by decide) (by decide) c a w h) (Or.inl ⟨by rfl, ?_⟩) (by assumption) ?_; rotate_left 1; (focus (intro w hSw; (try dsimp only at hSw); go_simp; (try with_reducible rfl))); (try simp only [List.getElem_toArray, List.getElem_cons_zero, List.getElem_cons_succ, Act.put, List.setIfInBounds_toArray, List.set_cons_zero, List.set_cons_succ])); (refine wpAnyH_take (i := 1) (v := ?_) rfl (by kernel_rfl) (by kernel_rfl) (by kernel_rfl) (fun c a w h => door_take (by decide) (by decide) c a w h) (Or.inl ⟨by rfl, ?_⟩) (by assumption) ?_; rotate_left 1; (focus (intro w hSw; (try dsimp only at hSw); go_simp; (try with_reducible rfl))); (try simp only [List.getElem_toArray, List.getElem_cons_zero, List.getElem_cons_succ, Act.put, List.setIfInBounds_toArray, List.set_cons_zero, List.set_cons_succ])); (refine wpAnyH_take (i := 2) (v := ?_) rfl (by kernel_rfl) (by kernel_rfl) (by kernel_rfl) (fun c a w h => door_take (by decide) (by decide) c a w h) (Or.inl ⟨by rfl, ?_⟩) (by assumption) ?_; rotate_left 1; (focus (intro w hSw; (try dsimp only at hSw); go_simp; (try with_reducible rfl))); (try simp only [List.getElem_toArray, List.getElem_cons_zero, List.getElem_cons_succ, Act.put, List.setIfInBounds_toArray, List.set_cons_zero, List.set_cons_succ])); (refine wpAnyH_ready (rs := [3]) (by kernel_rfl) (by simp) ?_; refine AllReadyH.cons rfl (fun K hK => ?_) AllReadyH.nil; go_simp); (go_at_call 50; refine (HT.out).mono ?_; rintro e w5 ⟨rfl, hc5⟩; unfold gaveUp; exact door_bad ((HI.out.1.same (Chg.of_drewN [] wr 1)).gone hc5) HDn.out rfl rfl))
              · have HT := hid (thread_ok (HI.out.1.same (Chg.of_drewN [] wr 1)).ok hbdl hti)
                have HTI := hid hti
                clear hti
                go_upto_region 21 with fail
                refine wp_region_noPanic ?_
                go_region_law (first
                  | (refine step_app rfl _ _ 26 rfl elem_thr rfl (((HI.out.2.1.keep (Chg.of_drewN [] wr 1) (by simp)).keep hc8 (fun g hg hm => by have := (HI.out.2.2.1 g hg).1; have := hbN; simp at hm; omega)).keep ((Chg.refl [] _).alloc _) (by simp)) rfl (View.struct _ [.string t.name, .slice ac t.code.length cc, .slice ap t.places.length cp] 59 rfl) (by simp [Value.oneCell']) (by unfold maxLen; omega) (by omega) (fun ao' cap' r' w9 hr9 hc9 hf9 => ?_); obtain ⟨kA, kB, rowB, hrB⟩ := (hk8.same ((Chg.refl [] _).alloc _)).put (i := 4) hrF hr9 hc9 hf9; obtain ⟨t0, t1, t2, t3, t4, s0, s1, s2, s3, s4, _, _⟩ := kA.cells)
                  | (go_simp; go_at_call 50; refine (HT.out).mono ?_; rintro e w8 ⟨ac, ap, cc, cp, rc, rp, rfl, hr8, hrp8, hf8, hfp8, hO8, hc8⟩; have hlr := HI.out.2.1.lt; have hk8 := (((HI.out.1.same (Chg.of_drewN [] wr 1)).take hc8 hO8.rd).row hr8 (fun g hg => Nat.le_trans HI.out.1.hN ((hf8 g hg).resolve_left (by simp)))).row hrp8 (fun g hg => Nat.le_trans HI.out.1.hN ((hfp8 g hg).resolve_left (by simp))); have hrF := rows_apart hlr HI.out.2.2.1 hf8 hfp8; have y8 := hk8.tb0; obtain ⟨x0, x1, x2, x3, x4, _⟩ := hk8.cells; have x4o := fun o => (hk8.same ((Chg.refl [] _).alloc o)).cells.2.2.2.2.1; have hbN := hk8.bl.1))
                all_goals
                  have HP2 := hid (HP.out.step hlt HTI.out)
                  have hfl : ts.flatMap thrC ++ [.string t.name, .slice ac t.code.length cc, .slice ap t.places.length cp] = (ts ++ [(⟨t, .slice ac t.code.length cc, .slice ap t.places.length cp⟩ : ThrV)]).flatMap thrC := by simp [thrC]
                  have hmp : (ts ++ [(⟨t, .slice ac t.code.length cc, .slice ap t.places.length cp⟩ : ThrV)]).map ThrV.t = ts.map ThrV.t ++ [t] := by simp
                  rw [hfl] at rowB
                  have hVn := fun u hu => thr_more (t := t) (vc := .slice ac t.code.length cc) (vp := .slice ap t.places.length cp) (rc := rc) (rp := rp) HI.out.2.2.2 u hu
                  have kB2 : PI w (w9.setCell ⟨P, 4, none⟩ (.slice ao' (j + 1) cap')) N P tb b lb aor capr p51 0 0 #[v0, v1, v2, v3, .slice ao' (j + 1) cap'] (rp.toList ++ (rc.toList ++ F)) (fun u => Row u 63 2 (.slice ap t.places.length cp) rp t.places.length (t.places.flatMap plcC) ∧ Row u 61 5 (.slice ac t.code.length cc) rc t.code.length (t.code.flatMap insC) ∧ V u) := kB
                  have HK9 := hid (And.intro kB2 (And.intro rowB (And.intro hrB hVn)))
                  have HMP := hid hmp
                  clear kA kB kB2 rowB hrB hVn y0 z0 z1 z2 z3 z4 e0 e1 e2 e3 e4 d0 g0 HT hfl hmp hk8 hrF hlr hc8 hr8 hrp8 hO8 hf8 hfp8 hr9 hc9 hf9 x0 x1 x2 x3 x4 x4o y8
                  refine NoPanic.normal ?_
                  go_wp2_with fail
                  go_roundg (gk - 1)
                  case measure => omega
                  case rel => exact ⟨j + 1, p51, ts ++ [(⟨t, .slice ac t.code.length cc, .slice ap t.places.length cp⟩ : ThrV)], r', ao', cap', (rp.toList ++ (rc.toList ++ F)), (fun u => Row u 63 2 (.slice ap t.places.length cp) rp t.places.length (t.places.flatMap plcC) ∧ Row u 61 5 (.slice ac t.code.length cc) rc t.code.length (t.code.flatMap insC) ∧ V u), by omega, by go_num, HK9, hid (by rw [HMP.out]; exact HP2.out)⟩
            · obtain rfl : n5 = j := by omega
              have HQ5 := hid (HL5.out.trans HP.out.done)
              have hk11 := HI.out.1.row HI.out.2.1 (fun g hg => (HI.out.2.2.1 g hg).1)
              have hll : ts.length = n5 := by have := HP.out.len; rwa [List.length_map] at this
              have HV15 : Hid (∀ u, (Row u 59 3 (.slice al n5 cl) r n5 (ts.flatMap thrC) ∧ V u) → PrgV u (.agg #[v0, v1, v2, v3, .slice al n5 cl]) ⟨vars, vols, locks, bars, ts.map ThrV.t⟩) := hid (fun u hu => by
                obtain ⟨⟨a1, a2, a3, a4⟩, a5⟩ := HI.out.2.2.2 u hu.2
                exact ⟨v0, v1, v2, v3, .slice al n5 cl, ts, rfl, a1, a2, a3, a4, by unfold Lst; rw [hll]; exact hu.1.view, rfl, a5⟩)
              obtain ⟨F5, hF5⟩ : ∃ x, r.toList ++ F = x := ⟨_, rfl⟩
              obtain ⟨V5, hV5⟩ : ∃ x, (fun u => Row u 59 3 (.slice al n5 cl) r n5 (ts.flatMap thrC) ∧ V u) = x := ⟨_, rfl⟩
              obtain ⟨thrs, hth⟩ : ∃ x, ts.map ThrV.t = x := ⟨_, rfl⟩
              rw [hth] at HV15 HQ5
              have HV16 : Hid (∀ u, V5 u → PrgV u (.agg #[v0, v1, v2, v3, .slice al n5 cl]) ⟨vars, vols, locks, bars, thrs⟩) := hid (by rw [← hV5]; exact HV15.out)
              rw [hF5, hV5] at hk11
              obtain ⟨wz, hwz⟩ : ∃ x : World, wr = x := ⟨_, rfl⟩
              rw [hwz] at hk11 ⊢
              obtain ⟨p5, rfl⟩ : ∃ x, x = q := ⟨_, rfl⟩
              have HSM := hid (small_of (by omega) (dPrg_all HQ1.out HQ2.out HQ3.out HQ4.out HQ5.out))
              have HDB := hid (dB6 HQ1.out HQ2.out HQ3.out HQ4.out HQ5.out)
              have y11 := hk11.tb0
              have HK11 := hid hk11
              clear hk11 hF5 hV5 hwz HV15 HI HP HL5 hll hlt hth
              have hPV := HV16.out wz HK11.out.hV
              obtain ⟨b0, b1, b2, b3, b4, tz, hbz, l0, l1, l2, l3, _⟩ := hPV.mk'
              simp only [Value.agg.injEq, Array.mk.injEq, List.cons.injEq, and_true] at hbz
              obtain ⟨rfl, rfl, rfl, rfl, hb4⟩ := hbz
              obtain ⟨a0, k0, rfl, _⟩ := l0.len
              obtain ⟨a1, k1, rfl, _⟩ := l1.len
              obtain ⟨a2, k2, rfl, _⟩ := l2.len
              obtain ⟨a3, k3, rfl, _⟩ := l3.len
              clear hPV l0 l1 l2 l3 hb4
              obtain ⟨z0, z1, z2, z3, z4, e0, e1, e2, e3, e4, d0, g0⟩ := HK11.out.cells
              by_cases hend : p5 = lb.length
              · have HE := hid (fun u (hu : Chg [] wz u) => end_calls (HK11.out.same hu).rd)
                rw [show rEnd lb ⟨p5, 0, 0⟩ = 0 from by unfold rEnd; rw [if_neg (by simp), if_neg (by simp only; omega)]] at HE
                have HPL := hid (fun u (hu : Chg [] wz u) => plain_calls _ HSM.out u (HV16.out u (HK11.out.same hu).hV))
                obtain ⟨ib, hib⟩ : ∃ x, prgB ⟨vars, vols, locks, bars, thrs⟩ = x := ⟨_, rfl⟩
                rw [hib] at HPL
                have HIB := hid hib
                have HEND := hid hend
                clear hib hend
                cases ib
                · have HDn := hid (HD.out.symm.trans (decD_none (HDB.out.trans (if_neg (fun h => by rw [HIB.out] at h; cases h.2)))))
                  go_wp2_with fail
                  (refine wp_region_held_drew (S := (fun w' => w'.cell? ⟨tb, 0, none⟩ = some (.pointer (some ⟨b, 0, none⟩)) ∧ w'.cell? ⟨P, 0, none⟩ = some (.slice a0 vars.length k0) ∧ w'.cell? ⟨P, 1, none⟩ = some (.slice a1 vols.length k1) ∧ w'.cell? ⟨P, 2, none⟩ = some (.slice a2 locks.length k2) ∧ w'.cell? ⟨P, 3, none⟩ = some (.slice a3 bars.length k3) ∧ w'.cell? ⟨P, 4, none⟩ = some (.slice al n5 cl))) (by kernel_rfl) (by exact ⟨y11, z0, z1, z2, z3, z4⟩) (fun hHeld => ?_); (refine wpAnyH_take (i := 0) (v := ?_) rfl (by kernel_rfl) (by kernel_rfl) (by kernel_rfl) (fun c a w h => door_take (by decide) (by decide) c a w h) (Or.inl ⟨by rfl, ?_⟩) (by assumption) ?_; rotate_left 1; (focus (intro w hSw; (try dsimp only at hSw); go_simp; (try with_reducible rfl))); (try simp only [List.getElem_toArray, List.getElem_cons_zero, List.getElem_cons_succ, Act.put, List.setIfInBounds_toArray, List.set_cons_zero, List.set_cons_succ])); (refine wpAnyH_take (i := 1) (v := ?_) rfl (by kernel_rfl) (by kernel_rfl) (by kernel_rfl) (fun c a w h => door_take (by decide) (by decide) c a w h) (Or.inl ⟨by rfl, ?_⟩) (by assumption) ?_; rotate_left 1; (focus (intro w hSw; (try dsimp only at hSw); go_simp; (try with_reducible rfl))); (try simp only [List.getElem_toArray, List.getElem_cons_zero, List.getElem_cons_succ, Act.put, List.setIfInBounds_toArray, List.set_cons_zero, List.set_cons_succ])); (refine wpAnyH_take (i := 2) (v := ?_) rfl (by kernel_rfl) (by kernel_rfl) (by kernel_rfl) (fun c a w h => door_take (by decide) (by decide) c a w h) (Or.inl ⟨by rfl, ?_⟩) (by assumption) ?_; rotate_left 1; (focus (intro w hSw; (try dsimp only at hSw); go_simp; (try with_reducible rfl))); (try simp only [List.getElem_toArray, List.getElem_cons_zero, List.getElem_cons_succ, Act.put, List.setIfInBounds_toArray, List.set_cons_zero, List.set_cons_succ])); (refine wpAnyH_ready (rs := [3]) (by kernel_rfl) (by simp) ?_; refine AllReadyH.cons rfl (fun K hK => ?_) AllReadyH.nil; go_simp); (go_at_call 51; refine (HE.out _ (Chg.of_drewN [] wz 1)).mono ?_; rintro e w5 ⟨rfl, hd5⟩); (refine hK.out _ _ (by exact (by obtain ⟨a, b, c, d, e, _⟩ := ((HK11.out.same (Chg.of_drewN [] wz 1)).same hd5.chg).cells; exact ⟨((HK11.out.same (Chg.of_drewN [] wz 1)).same hd5.chg).tb0, a, b, c, d, e⟩)) (fun hHeld => ?_); clear hK K; (try simp only [List.getElem_toArray, List.getElem_cons_zero, List.getElem_cons_succ, Act.put, List.setIfInBounds_toArray, List.set_cons_zero, List.set_cons_succ])); (refine wpAnyH_take (i := 4) (v := ?_) rfl (by kernel_rfl) (by kernel_rfl) (by kernel_rfl) (fun c a w h => door_take (by decide) (by decide) c a w h) (Or.inl ⟨by rfl, ?_⟩) (by assumption) ?_; rotate_left 1; (focus (intro w hSw; (try dsimp only at hSw); go_simp; (try with_reducible rfl))); (try simp only [List.getElem_toArray, List.getElem_cons_zero, List.getElem_cons_succ, Act.put, List.setIfInBounds_toArray, List.set_cons_zero, List.set_cons_succ])); (refine wpAnyH_take (i := 5) (v := ?_) rfl (by kernel_rfl) (by kernel_rfl) (by kernel_rfl) (fun c a w h => door_take (by decide) (by decide) c a w h) (Or.inl ⟨by rfl, ?_⟩) (by assumption) ?_; rotate_left 1; (focus (intro w hSw; (try dsimp only at hSw); go_simp; (try with_reducible rfl))); (try simp only [List.getElem_toArray, List.getElem_cons_zero, List.getElem_cons_succ, Act.put, List.setIfInBounds_toArray, List.set_cons_zero, List.set_cons_succ])); (refine wpAnyH_take (i := 6) (v := ?_) rfl (by kernel_rfl) (by kernel_rfl) (by kernel_rfl) (fun c a w h => door_take (by decide) (by decide) c a w h) (Or.inl ⟨by rfl, ?_⟩) (by assumption) ?_; rotate_left 1; (focus (intro w hSw; (try dsimp only at hSw); go_simp; (try with_reducible rfl))); (try simp only [List.getElem_toArray, List.getElem_cons_zero, List.getElem_cons_succ, Act.put, List.setIfInBounds_toArray, List.set_cons_zero, List.set_cons_succ])); (refine wpAnyH_ready (rs := [7]) (by kernel_rfl) (by simp) ?_; refine AllReadyH.cons rfl (fun K hK => ?_) AllReadyH.nil; go_simp); (go_at_call 12; refine (HPL.out _ ((Chg.of_drewN [] wz 1).trans' hd5.chg)).mono ?_; rintro e w6 ⟨rfl, hc6⟩); (refine hK.out _ _ (by exact (by obtain ⟨a, b, c, d, e, _⟩ := (((HK11.out.same (Chg.of_drewN [] wz 1)).same hd5.chg).same hc6).cells; exact ⟨(((HK11.out.same (Chg.of_drewN [] wz 1)).same hd5.chg).same hc6).tb0, a, b, c, d, e⟩)) (fun hHeld => ?_); clear hK K; (try simp only [List.getElem_toArray, List.getElem_cons_zero, List.getElem_cons_succ, Act.put, List.setIfInBounds_toArray, List.set_cons_zero, List.set_cons_succ])); (refine wpAnyH_take (i := 8) (v := ?_) rfl (by kernel_rfl) (by kernel_rfl) (by kernel_rfl) (fun c a w h => door_take (by decide) (by decide) c a w h) (Or.inl ⟨by rfl, ?_⟩) (by assumption) ?_; rotate_left 1; (focus (intro w hSw; (try dsimp only at hSw); go_simp; (try with_reducible rfl))); (try simp only [List.getElem_toArray, List.getElem_cons_zero, List.getElem_cons_succ, Act.put, List.setIfInBounds_toArray, List.set_cons_zero, List.set_cons_succ])); (refine wpAnyH_ready (rs := [9]) (by kernel_rfl) (by simp) ?_; refine AllReadyH.cons rfl (fun K hK => ?_) AllReadyH.nil; go_simp); (go_at_call 48; refine (sure_no (((HK11.out.same (Chg.of_drewN [] wz 1)).same hd5.chg).same hc6).rd).mono ?_; rintro e w7 ⟨rfl, hc7⟩; unfold gaveUp; exact door_bad ((((HK11.out.same (Chg.of_drewN [] wz 1)).same hd5.chg).same hc6).gone hc7.nil) HDn.out rfl rfl))
                · have HDs := hid (HD.out.symm.trans (decD_some (HDB.out.trans (if_pos ⟨HEND.out, HIB.out⟩))))
                  go_wp2_with fail
                  (refine wp_region_held_drew (S := (fun w' => w'.cell? ⟨tb, 0, none⟩ = some (.pointer (some ⟨b, 0, none⟩)) ∧ w'.cell? ⟨P, 0, none⟩ = some (.slice a0 vars.length k0) ∧ w'.cell? ⟨P, 1, none⟩ = some (.slice a1 vols.length k1) ∧ w'.cell? ⟨P, 2, none⟩ = some (.slice a2 locks.length k2) ∧ w'.cell? ⟨P, 3, none⟩ = some (.slice a3 bars.length k3) ∧ w'.cell? ⟨P, 4, none⟩ = some (.slice al n5 cl))) (by kernel_rfl) (by exact ⟨y11, z0, z1, z2, z3, z4⟩) (fun hHeld => ?_); (refine wpAnyH_take (i := 0) (v := ?_) rfl (by kernel_rfl) (by kernel_rfl) (by kernel_rfl) (fun c a w h => door_take (by decide) (by decide) c a w h) (Or.inl ⟨by rfl, ?_⟩) (by assumption) ?_; rotate_left 1; (focus (intro w hSw; (try dsimp only at hSw); go_simp; (try with_reducible rfl))); (try simp only [List.getElem_toArray, List.getElem_cons_zero, List.getElem_cons_succ, Act.put, List.setIfInBounds_toArray, List.set_cons_zero, List.set_cons_succ])); (refine wpAnyH_take (i := 1) (v := ?_) rfl (by kernel_rfl) (by kernel_rfl) (by kernel_rfl) (fun c a w h => door_take (by decide) (by decide) c a w h) (Or.inl ⟨by rfl, ?_⟩) (by assumption) ?_; rotate_left 1; (focus (intro w hSw; (try dsimp only at hSw); go_simp; (try with_reducible rfl))); (try simp only [List.getElem_toArray, List.getElem_cons_zero, List.getElem_cons_succ, Act.put, List.setIfInBounds_toArray, List.set_cons_zero, List.set_cons_succ])); (refine wpAnyH_take (i := 2) (v := ?_) rfl (by kernel_rfl) (by kernel_rfl) (by kernel_rfl) (fun c a w h => door_take (by decide) (by decide) c a w h) (Or.inl ⟨by rfl, ?_⟩) (by assumption) ?_; rotate_left 1; (focus (intro w hSw; (try dsimp only at hSw); go_simp; (try with_reducible rfl))); (try simp only [List.getElem_toArray, List.getElem_cons_zero, List.getElem_cons_succ, Act.put, List.setIfInBounds_toArray, List.set_cons_zero, List.set_cons_succ])); (refine wpAnyH_ready (rs := [3]) (by kernel_rfl) (by simp) ?_; refine AllReadyH.cons rfl (fun K hK => ?_) AllReadyH.nil; go_simp); (go_at_call 51; refine (HE.out _ (Chg.of_drewN [] wz 1)).mono ?_; rintro e w5 ⟨rfl, hd5⟩); (refine hK.out _ _ (by exact (by obtain ⟨a, b, c, d, e, _⟩ := ((HK11.out.same (Chg.of_drewN [] wz 1)).same hd5.chg).cells; exact ⟨((HK11.out.same (Chg.of_drewN [] wz 1)).same hd5.chg).tb0, a, b, c, d, e⟩)) (fun hHeld => ?_); clear hK K; (try simp only [List.getElem_toArray, List.getElem_cons_zero, List.getElem_cons_succ, Act.put, List.setIfInBounds_toArray, List.set_cons_zero, List.set_cons_succ])); (refine wpAnyH_take (i := 4) (v := ?_) rfl (by kernel_rfl) (by kernel_rfl) (by kernel_rfl) (fun c a w h => door_take (by decide) (by decide) c a w h) (Or.inl ⟨by rfl, ?_⟩) (by assumption) ?_; rotate_left 1; (focus (intro w hSw; (try dsimp only at hSw); go_simp; (try with_reducible rfl))); (try simp only [List.getElem_toArray, List.getElem_cons_zero, List.getElem_cons_succ, Act.put, List.setIfInBounds_toArray, List.set_cons_zero, List.set_cons_succ])); (refine wpAnyH_take (i := 5) (v := ?_) rfl (by kernel_rfl) (by kernel_rfl) (by kernel_rfl) (fun c a w h => door_take (by decide) (by decide) c a w h) (Or.inl ⟨by rfl, ?_⟩) (by assumption) ?_; rotate_left 1; (focus (intro w hSw; (try dsimp only at hSw); go_simp; (try with_reducible rfl))); (try simp only [List.getElem_toArray, List.getElem_cons_zero, List.getElem_cons_succ, Act.put, List.setIfInBounds_toArray, List.set_cons_zero, List.set_cons_succ])); (refine wpAnyH_take (i := 6) (v := ?_) rfl (by kernel_rfl) (by kernel_rfl) (by kernel_rfl) (fun c a w h => door_take (by decide) (by decide) c a w h) (Or.inl ⟨by rfl, ?_⟩) (by assumption) ?_; rotate_left 1; (focus (intro w hSw; (try dsimp only at hSw); go_simp; (try with_reducible rfl))); (try simp only [List.getElem_toArray, List.getElem_cons_zero, List.getElem_cons_succ, Act.put, List.setIfInBounds_toArray, List.set_cons_zero, List.set_cons_succ])); (refine wpAnyH_ready (rs := [7]) (by kernel_rfl) (by simp) ?_; refine AllReadyH.cons rfl (fun K hK => ?_) AllReadyH.nil; go_simp); (go_at_call 12; refine (HPL.out _ ((Chg.of_drewN [] wz 1).trans' hd5.chg)).mono ?_; rintro e w6 ⟨rfl, hc6⟩); (refine hK.out _ _ (by exact (by obtain ⟨a, b, c, d, e, _⟩ := (((HK11.out.same (Chg.of_drewN [] wz 1)).same hd5.chg).same hc6).cells; exact ⟨(((HK11.out.same (Chg.of_drewN [] wz 1)).same hd5.chg).same hc6).tb0, a, b, c, d, e⟩)) (fun hHeld => ?_); clear hK K; (try simp only [List.getElem_toArray, List.getElem_cons_zero, List.getElem_cons_succ, Act.put, List.setIfInBounds_toArray, List.set_cons_zero, List.set_cons_succ])); (refine wpAnyH_take (i := 8) (v := ?_) rfl (by kernel_rfl) (by kernel_rfl) (by kernel_rfl) (fun c a w h => door_take (by decide) (by decide) c a w h) (Or.inl ⟨by rfl, ?_⟩) (by assumption) ?_; rotate_left 1; (focus (intro w hSw; (try dsimp only at hSw); go_simp; (try with_reducible rfl))); (try simp only [List.getElem_toArray, List.getElem_cons_zero, List.getElem_cons_succ, Act.put, List.setIfInBounds_toArray, List.set_cons_zero, List.set_cons_succ])); (refine wpAnyH_ready (rs := [9]) (by kernel_rfl) (by simp) ?_; refine AllReadyH.cons rfl (fun K hK => ?_) AllReadyH.nil; go_simp); (go_at_call 48; refine (sure_ok (((HK11.out.same (Chg.of_drewN [] wz 1)).same hd5.chg).same hc6).rd).mono ?_; rintro e w7 ⟨rfl, hc7⟩); (refine hK.out _ _ (by exact (by obtain ⟨a, b, c, d, e, _⟩ := ((((HK11.out.same (Chg.of_drewN [] wz 1)).same hd5.chg).same hc6).same hc7).cells; exact ⟨((((HK11.out.same (Chg.of_drewN [] wz 1)).same hd5.chg).same hc6).same hc7).tb0, a, b, c, d, e⟩)) (fun hHeld => ?_); clear hK K; (try simp only [List.getElem_toArray, List.getElem_cons_zero, List.getElem_cons_succ, Act.put, List.setIfInBounds_toArray, List.set_cons_zero, List.set_cons_succ])); refine wpAnyH_done (by kernel_rfl) ?_ _)
                  have hk12 := (((HK11.out.same (Chg.of_drewN [] wz 1)).same hd5.chg).same hc6).same hc7
                  obtain ⟨f0, f1, f2, f3⟩ := hk12.final
                  have HF := hid (And.intro f0 (And.intro f1 (And.intro f2 f3)))
                  clear z0 z1 z2 z3 z4 e0 e1 e2 e3 e4 d0 g0 y11 f0 f1 f2 f3
                  obtain ⟨z0, z1, z2, z3, z4, e0, e1, e2, e3, e4, d0, g0⟩ := hk12.cells
                  have HK12 := hid hk12
                  clear hk12 hc7 hc6 hd5
                  go_wp2
                  exact door_good HF.out.1 HF.out.2.1 HF.out.2.2.1 HDs.out (HV16.out _ HF.out.2.2.2) rfl rfl
              · have hlt5 : p5 < lb.length := by have := HK11.out.rd.ok; omega
                have HE := hid (fun u (hu : Chg [] wz u) => end_calls (HK11.out.same hu).rd)
                rw [show rEnd lb ⟨p5, 0, 0⟩ = 13 from by unfold rEnd; rw [if_neg (by simp), if_pos (by simpa using hlt5)]] at HE
                have HDn := hid (HD.out.symm.trans (decD_none (HDB.out.trans (if_neg (fun h => hend h.1)))))
                clear hend hlt5
                go_wp2_with fail
                (refine wp_region_held_drew (S := (fun w' => w'.cell? ⟨tb, 0, none⟩ = some (.pointer (some ⟨b, 0, none⟩)) ∧ w'.cell? ⟨P, 0, none⟩ = some (.slice a0 vars.length k0) ∧ w'.cell? ⟨P, 1, none⟩ = some (.slice a1 vols.length k1) ∧ w'.cell? ⟨P, 2, none⟩ = some (.slice a2 locks.length k2) ∧ w'.cell? ⟨P, 3, none⟩ = some (.slice a3 bars.length k3) ∧ w'.cell? ⟨P, 4, none⟩ = some (.slice al n5 cl))) (by kernel_rfl) (by exact ⟨y11, z0, z1, z2, z3, z4⟩) (fun hHeld => ?_); (refine wpAnyH_take (i := 0) (v := ?_) rfl (by kernel_rfl) (by kernel_rfl) (by kernel_rfl) (fun c a w h => door_take (by decide) (by decide) c a w h) (Or.inl ⟨by rfl, ?_⟩) (by assumption) ?_; rotate_left 1; (focus (intro w hSw; (try dsimp only at hSw); go_simp; (try with_reducible rfl))); (try simp only [List.getElem_toArray, List.getElem_cons_zero, List.getElem_cons_succ, Act.put, List.setIfInBounds_toArray, List.set_cons_zero, List.set_cons_succ])); (refine wpAnyH_take (i := 1) (v := ?_) rfl (by kernel_rfl) (by kernel_rfl) (by kernel_rfl) (fun c a w h => door_take (by decide) (by decide) c a w h) (Or.inl ⟨by rfl, ?_⟩) (by assumption) ?_; rotate_left 1; (focus (intro w hSw; (try dsimp only at hSw); go_simp; (try with_reducible rfl))); (try simp only [List.getElem_toArray, List.getElem_cons_zero, List.getElem_cons_succ, Act.put, List.setIfInBounds_toArray, List.set_cons_zero, List.set_cons_succ])); (refine wpAnyH_take (i := 2) (v := ?_) rfl (by kernel_rfl) (by kernel_rfl) (by kernel_rfl) (fun c a w h => door_take (by decide) (by decide) c a w h) (Or.inl ⟨by rfl, ?_⟩) (by assumption) ?_; rotate_left 1; (focus (intro w hSw; (try dsimp only at hSw); go_simp; (try with_reducible rfl))); (try simp only [List.getElem_toArray, List.getElem_cons_zero, List.getElem_cons_succ, Act.put, List.setIfInBounds_toArray, List.set_cons_zero, List.set_cons_succ])); (refine wpAnyH_ready (rs := [3]) (by kernel_rfl) (by simp) ?_; refine AllReadyH.cons rfl (fun K hK => ?_) AllReadyH.nil; go_simp); (go_at_call 51; refine (HE.out _ (Chg.of_drewN [] wz 1)).mono ?_; rintro e w5 ⟨rfl, hd5⟩); (refine hK.out _ _ (by exact (by obtain ⟨a, b, c, d, e, _⟩ := ((HK11.out.same (Chg.of_drewN [] wz 1)).same hd5.chg).cells; exact ⟨((HK11.out.same (Chg.of_drewN [] wz 1)).same hd5.chg).tb0, a, b, c, d, e⟩)) (fun hHeld => ?_); clear hK K; (try simp only [List.getElem_toArray, List.getElem_cons_zero, List.getElem_cons_succ, Act.put, List.setIfInBounds_toArray, List.set_cons_zero, List.set_cons_succ])); (refine wpAnyH_take (i := 4) (v := ?_) rfl (by kernel_rfl) (by kernel_rfl) (by kernel_rfl) (fun c a w h => door_take (by decide) (by decide) c a w h) (Or.inl ⟨by rfl, ?_⟩) (by assumption) ?_; rotate_left 1; (focus (intro w hSw; (try dsimp only at hSw); go_simp; (try with_reducible rfl))); (try simp only [List.getElem_toArray, List.getElem_cons_zero, List.getElem_cons_succ, Act.put, List.setIfInBounds_toArray, List.set_cons_zero, List.set_cons_succ])); (refine wpAnyH_take (i := 5) (v := ?_) rfl (by kernel_rfl) (by kernel_rfl) (by kernel_rfl) (fun c a w h => door_take (by decide) (by decide) c a w h) (Or.inl ⟨by rfl, ?_⟩) (by assumption) ?_; rotate_left 1; (focus (intro w hSw; (try dsimp only at hSw); go_simp; (try with_reducible rfl))); (try simp only [List.getElem_toArray, List.getElem_cons_zero, List.getElem_cons_succ, Act.put, List.setIfInBounds_toArray, List.set_cons_zero, List.set_cons_succ])); (refine wpAnyH_take (i := 6) (v := undef) rfl (by kernel_rfl) (by kernel_rfl) (by kernel_rfl) (fun c a w h => door_take (by decide) (by decide) c a w h) (Or.inr ⟨by rfl, rfl⟩) (by assumption) ?_; (try simp only [List.getElem_toArray, List.getElem_cons_zero, List.getElem_cons_succ, Act.put, List.setIfInBounds_toArray, List.set_cons_zero, List.set_cons_succ])); (refine wpAnyH_take (i := 7) (v := undef) rfl (by kernel_rfl) (by kernel_rfl) (by kernel_rfl) (fun c a w h => door_take (by decide) (by decide) c a w h) (Or.inr ⟨by rfl, rfl⟩) (by assumption) ?_; (try simp only [List.getElem_toArray, List.getElem_cons_zero, List.getElem_cons_succ, Act.put, List.setIfInBounds_toArray, List.set_cons_zero, List.set_cons_succ])); (refine wpAnyH_take (i := 8) (v := ?_) rfl (by kernel_rfl) (by kernel_rfl) (by kernel_rfl) (fun c a w h => door_take (by decide) (by decide) c a w h) (Or.inl ⟨by rfl, ?_⟩) (by assumption) ?_; rotate_left 1; (focus (intro w hSw; (try dsimp only at hSw); go_simp; (try with_reducible rfl))); (try simp only [List.getElem_toArray, List.getElem_cons_zero, List.getElem_cons_succ, Act.put, List.setIfInBounds_toArray, List.set_cons_zero, List.set_cons_succ])); (refine wpAnyH_ready (rs := [9]) (by kernel_rfl) (by simp) ?_; refine AllReadyH.cons rfl (fun K hK => ?_) AllReadyH.nil; go_simp); (go_at_call 48; refine (sure_no ((HK11.out.same (Chg.of_drewN [] wz 1)).same hd5.chg).rd).mono ?_; rintro e w7 ⟨rfl, hc7⟩; unfold gaveUp; exact door_bad (((HK11.out.same (Chg.of_drewN [] wz 1)).same hd5.chg).gone hc7.nil) HDn.out rfl rfl))
end Go.Proofs.Ytbikekgljabalaa
