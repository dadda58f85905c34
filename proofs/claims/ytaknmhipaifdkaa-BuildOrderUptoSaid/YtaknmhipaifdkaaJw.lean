/- The law BuildOrder, walked. -/
import Derived.Test.YtaknmhipaifdkaaJt
import Derived.Test.YtaknmhipaifdkaaJp
namespace Go.Proofs.Ytaknmhipaifdkaa
open Go.RowKit Go.AB
set_option linter.unusedSimpArgs false
set_option linter.unusedVariables false
set_option linter.unusedSectionVars false

theorem small_dbl {u : UnD} {p : PrgD} (h : progD u = .ok p) (hu : SmallU u) (hi : ∀ k ∈ u.blocks, k.items.length ≤ 524288 ∧ ∀ x ∈ k.items, x.name.size ≤ 1048576) : SmallU ⟨sortD u.decls, u.blocks.map dbB⟩ := by
  obtain ⟨q, st, ts, h1, h2, h3, rfl⟩ := prog_parts h
  obtain ⟨hv, -⟩ := decls_ents u.decls [] ⟨by simp, by simp, fun s => by simp [kindF]⟩ h1
  rw [List.nil_append] at hv
  have hlen : ∀ (l : List ItD) (i : Nat), (dblGo i l).length ≤ 2 * l.length ∧ ∀ y ∈ dblGo i l, ∃ x ∈ l, y = x ∨ y = yItem x := by
    intro l
    induction l with
    | nil => intro i; exact ⟨by simp [dblGo], by simp [dblGo]⟩
    | cons x l ih =>
      intro i
      have ih := ih (i + 1)
      have hd : (dblAt i x).length ≤ 2 ∧ ∀ y ∈ dblAt i x, y = x ∨ y = yItem x := by
        unfold dblAt
        split
        · exact ⟨by simp, by simp⟩
        · split
          · exact ⟨by simp, by simp⟩
          · exact ⟨by simp, by simp⟩
      rw [dblGo]
      refine ⟨by simp only [List.length_append, List.length_cons]; omega, fun y hy => ?_⟩
      rcases List.mem_append.1 hy with hy | hy
      · exact ⟨x, List.mem_cons_self .., hd.2 y hy⟩
      · obtain ⟨z, hz, h2⟩ := ih.2 y hy
        exact ⟨z, List.mem_cons_of_mem _ hz, h2⟩
  refine ⟨by rw [(sort_perm hv.ok).length_eq]; exact hu.decls, by simpa using hu.blocks, fun d hd => hu.dn d (sort_mem d hd), fun k hk => ?_⟩
  obtain ⟨b, hb, rfl⟩ := List.mem_map.1 hk
  have h9 := hlen b.items 0
  have h8 := hi b hb
  refine ⟨(hu.bn b hb).1, ?_, fun y hy => ?_⟩
  · show (dblTo b.items b.items.length).length ≤ _
    rw [dblTo_all]
    omega
  · have hy : y ∈ dblGo 0 b.items := by rw [← dblTo_all]; exact hy
    obtain ⟨x, hx, rfl | rfl⟩ := h9.2 y hy
    · have := h8.2 y hx
      omega
    · have := h8.2 x hx
      show (yU ++ x.name).size ≤ _
      rw [yU_size]
      omega
/-- Blocks of which the first i are doubled. -/
def dbTo (ks : List BkD) (i : Nat) : List BkD := (ks.take i).map dbB ++ ks.drop i
theorem dbTo_succ (ks : List BkD) {i : Nat} (hi : i < ks.length) : (dbTo ks i).set i (dbB ks[i]) = dbTo ks (i + 1) := by
  unfold dbTo
  have h1 : ((ks.take i).map dbB).length = i := by simp; omega
  rw [List.set_append_right _ _ (by omega), h1, Nat.sub_self, List.drop_eq_getElem_cons hi, List.set_cons_zero, List.take_succ_eq_append_getElem hi, List.map_append, List.append_assoc]
  rfl

set_option maxHeartbeats 8000000 in
set_option maxRecDepth 100000 in
theorem order_walk {v : Value} {u : UnD} (w : World) (hv : UnV w v u) (hu : SmallU u) (hi : ∀ k ∈ u.blocks, k.items.length ≤ 524288 ∧ ∀ x ∈ k.items, x.name.size ≤ 1048576) : Calls Try.prog 4 #[v] w fun e w' => e = .returned (.bool true) ∧ Chg [] w w' := by
  obtain ⟨ad, D, cd, ab, L, cb, bs0, rfl, hub, -⟩ := unv_boxed hv
  have hc0 := (Chg.refl [] w).alloc (.cells #[.slice ad D cd, .slice ab L cb] 25)
  have hv0 := hv.keep hc0
  have u0 := hub.u0
  have u1 := hub.u1
  obtain ⟨wA, hwA⟩ : ∃ wA, w.alloc (.cells #[.slice ad D cd, .slice ab L cb] 25) = wA := ⟨_, rfl⟩
  rw [hwA] at hc0 hv0 u0 u1 hub
  have HC0 := hid hc0
  have HV := hid (fun W (h : Chg [] wA W) => hv0.keep h)
  have HB := hid (fun W (h : Chg [] wA W) => And.intro (h.cell u0 (by simp)) (h.cell u1 (by simp)))
  have HU := hid hu
  have HI := hid hi
  have HWK := hid (fun W => works_calls W)
  have HUB := hid (show ∀ W, Chg [] wA W → UB W w.heap.size ad D cd ab L cb u bs0 from fun W h => hub.keep h)
  clear hub hv hv0 hu hi hc0 u0 u1
  go_enter Try.func4, Try.ntmps4
  go_upto_region 1 with fail
  try rw [hwA]
  clear hwA
  go_wp2_with (go_at_call 7; refine halt (fun X hX => ?_))
  rw [hX.out]; clear hX
  refine (HWK.out _).mono ?_
  rintro e w1 ⟨rfl, hc1⟩
  have HC1 := hid hc1
  obtain ⟨u0, u1⟩ := HB.out _ hc1
  have HL1 := hid (lend_calls w1 (HV.out _ hc1) HU.out)
  clear hc1 HWK
  go_wp2_with (go_at_call 9; refine halt (fun X hX => ?_))
  rw [hX.out]; clear hX
  refine HL1.out.mono ?_
  rintro e w2 ⟨vd1, rd1, vt1, rt1, os1, rfl, hun1, hbk1⟩
  have hu1 := hun1.unV
  rw [hbk1] at hu1
  have HP1 := hid (program_calls (u := ⟨u.decls, u.blocks⟩) HU.out w2 hu1)
  have HC2 := hid (HC1.out.trans' hun1.hp.chg)
  clear hun1 hbk1 hu1 HL1
  go_wp2_with (go_at_call 8; refine halt (fun X hX => ?_))
  rw [hX.out]; clear hX
  refine HP1.out.mono ?_
  rintro e w3 (⟨f, hd, rfl, hc3⟩ | ⟨p, vp, hd, rfl, hpn, hc3⟩)
  · have hfc := prog_code hd
    have hne : (f.code != 0) = true := by simp; omega
    have hne2 : (f.code == 0) = false := by simp; omega
    have hne3 : decide (f.code = 0) = false := by simp; omega
    have HCF := hid (HC2.out.trans' hc3)
    simp only [noPrg]
    clear hd hc3 hfc
    go_wp2_with fail
    exact bodyPost_ret (v := .bool true) (by simp [results, Try.results4, go_sem]) rfl ⟨rfl, HC0.out.trans' ((HCF.out.alloc _).alloc _)⟩
  · have hcf := HC2.out.trans' hc3
    have HD := hid hd
    have HPN := hid hpn.now
    obtain ⟨pa0, pn0, pc0, pa1, pn1, pc1, pa2, pn2, pc2, pa3, pn3, pc3, pa4, pn4, pc4, rfl⟩ : ∃ (a0 : Option Addr) (n0 c0 : Nat) (a1 : Option Addr) (n1 c1 : Nat) (a2 : Option Addr) (n2 c2 : Nat) (a3 : Option Addr) (n3 c3 : Nat) (a4 : Option Addr) (n4 c4 : Nat), vp = .agg #[.slice a0 n0 c0, .slice a1 n1 c1, .slice a2 n2 c2, .slice a3 n3 c3, .slice a4 n4 c4] := by
      obtain ⟨v0, v1, v2, v3, v4, ts, rfl, l0, l1, l2, l3, l4, _⟩ := HPN.out
      obtain ⟨_, _, rfl, _⟩ := l0.len
      obtain ⟨_, _, rfl, _⟩ := l1.len
      obtain ⟨_, _, rfl, _⟩ := l2.len
      obtain ⟨_, _, rfl, _⟩ := l3.len
      obtain ⟨_, _, rfl, _⟩ := l4.len
      exact ⟨_, _, _, _, _, _, _, _, _, _, _, _, _, _, _, rfl⟩
    have hh3 := ((Hp.start (S0 := []) w3 (by simp)).box (.cells #[.slice pa0 pn0 pc0, .slice pa1 pn1 pc1, .slice pa2 pn2 pc2, .slice pa3 pn3 pc3, .slice pa4 pn4 pc4] 32)).box (.cells #[.int .i64 0, .int .i64 0, .int .i64 0] 37)
    simp only [World.size_alloc] at hh3
    obtain ⟨wB, hwB⟩ : ∃ wB, (w3.alloc (.cells #[.slice pa0 pn0 pc0, .slice pa1 pn1 pc1, .slice pa2 pn2 pc2, .slice pa3 pn3 pc3, .slice pa4 pn4 pc4] 32)).alloc (.cells #[.int .i64 0, .int .i64 0, .int .i64 0] 37) = wB := ⟨_, rfl⟩
    rw [hwB] at hh3
    have HWB := hid hwB
    have HB3 := hid hh3
    have HCB := hid (hcf.trans' hh3.chg)
    have HUBB := hid (fun W (h : Chg [] wB W) => HUB.out W (HCB.out.trans' h))
    have HL2 := hid (lend_calls wB (HV.out _ HCB.out) HU.out)
    have HSP := hid (prog_small HD.out HU.out)
    have hub := HUBB.out wB (Chg.refl _ _)
    have HLEN := hid (And.intro hub.dl hub.bl)
    have y0 := hub.u0
    have y1 := hub.u1
    clear hd hc3 hpn hcf hh3 hwB HP1 HC2 HC1 hub u0 u1
    go_upto_region 6 with fail
    rw [HWB.out]
    go_wp2_with (go_at_call 9; refine halt (fun X hX => ?_))
    rw [hX.out]; clear hX
    refine HL2.out.mono ?_
    rintro e w4 ⟨vd, rd, vt, rt, os, rfl, hun, hbk⟩
    have hol : os.length = L := by
      rw [← HLEN.out.2]
      have h1 := congrArg List.length hbk
      have h2 := congrArg List.length (HUBB.out wB (Chg.refl _ _)).nm
      simp only [blks, List.length_map] at h1 h2
      rw [h1, ← h2]
    have hj := hun.hp
    simp only [dRow, tRow, HLEN.out.1, hol] at hj
    obtain ⟨avd, cvd, rfl⟩ := (hj.rowAt (i := 0) rfl).shape
    obtain ⟨avt, cvt, rfl⟩ := (hj.rowAt (i := 1) rfl).shape
    have hj1 := hj.box (.cells #[.slice avd D cvd, .slice avt L cvt] 25)
    have HJ := hid hj1
    have HOS := hid (And.intro hbk hol)
    have v0 := hj1.cell (i := 0) rfl 0
    have v1 := hj1.cell (i := 0) rfl 1
    have vf := hj1.free (i := 0) rfl
    simp only [List.getElem?_toArray, List.getElem?_cons_zero, List.getElem?_cons_succ] at v0 v1
    clear hj hun hbk hol HL2 y0 y1
    go_upto_region 7 with fail
    obtain ⟨w5, hw5⟩ : ∃ w5, w4.alloc (.cells #[.slice avd D cvd, .slice avt L cvt] 25) = w5 := ⟨_, rfl⟩
    rw [hw5] at HJ hj1 v0 v1 vf
    obtain ⟨P, hP⟩ : ∃ P, w4.heap.size = P := ⟨_, rfl⟩
    rw [hP] at HJ hj1 v0 v1 vf
    rw [hw5, hP]
    have hls := (hj1.rowAt (i := 1) rfl).view
    have HSC := hid (sorted_calls w5 (ds := u.decls) (v := .slice avd D cvd) (by unfold Lst; rw [HLEN.out.1]; exact hls) (HU.out.decls))
    clear hw5 hP hls hj1
    go_wp2_with (go_at_call 14; refine halt (fun X hX => ?_))
    rw [hX.out]; clear hX
    refine HSC.out.mono ?_
    rintro e w6 ⟨vs, rs, rfl, hsr, hc6, hf6⟩
    obtain ⟨D2, hD2⟩ : ∃ D2, (sortD u.decls).length = D2 := ⟨_, rfl⟩
    rw [hD2] at hsr
    obtain ⟨sa, sc, rfl⟩ := hsr.shape
    have hH6 := HJ.out.fresh hc6 hsr hf6
    have v0 := hH6.cell (i := 1) rfl 0
    have vf := hH6.free (i := 1) rfl
    have hH7 := hH6.put 1 rfl 0 (.slice sa D2 sc) rfl
    simp only [List.set_cons_zero, List.set_cons_succ, List.setIfInBounds_toArray, List.getElem?_toArray, List.getElem?_cons_zero, List.getElem?_cons_succ] at hH7 v0
    have hH8 := hH7.perm ((List.Perm.swap _ _ _))
    have hH9 := hH8.sub (I' := .box P (.cells #[.slice sa D2 sc, .slice avt L cvt] 25) :: .row 52 5 (.slice sa D2 sc) rs D2 ((sortD u.decls).flatMap dcC) :: .row 48 4 (.slice avt L cvt) rt L (os.flatMap bkoC) :: os.map itRow) (.cons_cons _ (.cons_cons _ (.cons _ (.refl _))))
    have HH9 := hid hH9
    have HD2 := hid hD2
    clear hsr hc6 hf6 hH6 hH7 hH8 hH9 HSC HJ v1 hD2
    go_upto_region 9 with fail
    have hlL : L ≤ 1048576 := by
      have h1 := HU.out.blocks
      have h2 := congrArg List.length (HUBB.out wB (Chg.refl _ _)).nm
      rw [List.length_map, HLEN.out.2] at h2
      omega
    have HLB : Hid (u.blocks.length = L) := hid (by
      have h2 := congrArg List.length (HUBB.out wB (Chg.refl _ _)).nm
      rw [List.length_map, HLEN.out.2] at h2
      exact h2.symm)
    go_loopg [6] L (fun gk vi wr => ∃ (i : Nat) (zs : List BkO), gk + i = L ∧ vi = .int .i64 i ∧ Hid (zs.length = L ∧ blks zs = dbTo u.blocks i ∧ ∀ j, j < i → ∀ k, u.blocks[j]? = some k → ClearL k.items) ∧ Hid (Hp [] wB wr (.box P (.cells #[.slice sa D2 sc, .slice avt L cvt] 25) :: .row 52 5 (.slice sa D2 sc) rs D2 ((sortD u.decls).flatMap dcC) :: .row 48 4 (.slice avt L cvt) rt L (zs.flatMap bkoC) :: zs.map itRow)))
    case atStart => exact ⟨0, os, by omega, rfl, hid ⟨HOS.out.2, by rw [HOS.out.1]; rfl, fun j hj => absurd hj (Nat.not_lt_zero _)⟩, HH9⟩
    case round =>
      obtain ⟨i, zs, hgi, rfl, HZ, H⟩ := hrel
      have v1 := H.out.cell (i := 0) rfl 1
      simp only [List.getElem?_toArray, List.getElem?_cons_zero, List.getElem?_cons_succ] at v1
      by_cases hlt : i < L
      · have hub := HUBB.out wr H.out.chg
        have y1 := hub.u1
        have hbl : i < bs0.length := by rw [HLEN.out.2]; exact hlt
        obtain ⟨x, hx⟩ : ∃ x, bs0[i]'hbl = x := ⟨_, rfl⟩
        have hmx : x ∈ bs0 := by rw [← hx]; exact List.getElem_mem _
        have hxb : u.blocks[i]? = some x.b := by
          rw [← hub.nm, List.getElem?_map, List.getElem?_eq_getElem hbl, hx]
          rfl
        have hmb : x.b ∈ u.blocks := List.mem_of_getElem? hxb
        have hit := hub.it x hmx
        obtain ⟨ai, ci, hxi, _, _, _⟩ := hit.len
        obtain ⟨m, hm⟩ : ∃ m, x.b.items.length = m := ⟨_, rfl⟩
        obtain ⟨bi, oi, hai, x0, x1, x2, x3⟩ := blocks_at hub.bks (by rw [HLEN.out.2]; exact hlt) hx
        rw [hxi] at x1 hit
        have hcl := clear_calls (nm := x.b.name) (l1 := x.b.l) (l2 := x.b.c) wr hit (HU.out.bn x.b hmb).2.1 (HU.out.bn x.b hmb).2.2
        have hit0 : ∀ W, Chg [] wr W → Lst itC 10 W (.slice ai x.b.items.length ci) x.b.items := fun W h => hit.keep h
        have HIT := hid hit0
        rw [hm] at x1 hcl
        have HCL := hid hcl
        have HX := hid (And.intro hxb (And.intro hmb hm))
        subst hai
        clear hub hx hmx hxb hmb hit hxi hm hcl hbl hit0
        by_cases hc : ClearL x.b.items
        · rw [eqB_true hc] at HCL
          have HCC := hid hc
          clear hc
          go_wp2_with (go_at_call 15; refine halt (fun X hX => ?_))
          rw [hX.out]; clear hX
          refine HCL.out.mono ?_
          rintro e w7 ⟨rfl, hc7⟩
          have hH7 := H.out.same hc7
          have hub := HUBB.out w7 hH7.chg
          have y1 := hub.u1
          have hr7 := hH7.cell (i := 0) rfl 1
          simp only [List.getElem?_toArray, List.getElem?_cons_zero, List.getElem?_cons_succ] at hr7
          have x0 := hc7.cell x0 (by simp)
          have x1 := hc7.cell x1 (by simp)
          have x2 := hc7.cell x2 (by simp)
          have x3 := hc7.cell x3 (by simp)
          have hdb := fun W (h : Chg [] w7 W) => doubled_calls (nm := x.b.name) (l1 := x.b.l) (l2 := x.b.c) W (HIT.out W (hc7.trans' h)) (HU.out.bn x.b HX.out.2.1).2.1 (HU.out.bn x.b HX.out.2.1).2.2
          rw [HX.out.2.2] at hdb
          have HDB := hid hdb
          obtain ⟨g, rfl, rfl, hcv⟩ := (hH7.rowAt (i := 2) rfl).slice (by omega)
          have hgB : wB.heap.size ≤ g := hH7.lo _ (List.mem_cons_of_mem _ (List.mem_cons_of_mem _ (List.mem_cons_self ..))) g rfl
          have hgP : P ≠ g := fun e => hH7.ne (i := 0) (j := 2) rfl rfl (by decide) rfl (by rw [e]; rfl)
          have hgU : w.heap.size ≠ g := by
            have := World.block_lt_of_cell? _ _ (HUBB.out wB (Chg.refl _ _)).u0
            simp only at this
            omega
          have hgX : bi ≠ g := by
            obtain ⟨b9, o9, e9, q9, _⟩ := blocks_at (HUBB.out wB (Chg.refl _ _)).bks (i := i) (by rw [HLEN.out.2]; exact hlt) rfl
            simp only [Option.some.injEq, Addr.mk.injEq, and_true] at e9
            have := World.block_lt_of_cell? _ _ q9
            simp only at this
            omega
          have HH7 := hid hH7
          clear hc7 hub hH7 hdb v1 HCL
          obtain ⟨zi, hzi⟩ : ∃ zi, zs[i]'(by rw [HZ.out.1]; exact hlt) = zi := ⟨_, rfl⟩
          have hzb : zi.1.b = x.b := by
            have h1 := congrArg (fun l : List BkD => l[i]?) HZ.out.2.1
            simp only [blks, List.getElem?_map, List.getElem?_eq_getElem (show i < zs.length by rw [HZ.out.1]; exact hlt), hzi, Option.map_some] at h1
            have h2 : (dbTo u.blocks i)[i]? = u.blocks[i]? := by
              unfold dbTo
              have h3 : ((u.blocks.take i).map dbB).length = i := by
                have := HLB.out
                rw [List.length_map, List.length_take]
                omega
              rw [List.getElem?_append_right (by omega), h3, Nat.sub_self, List.getElem?_drop, Nat.add_zero]
            rw [h2, HX.out.1] at h1
            exact Option.some.inj h1
          have HZI := hid (And.intro hzi hzb)
          clear hzi hzb
          go_upto_region 13 with fail
          (refine wp_region_held_drew (S := (fun w' => w'.cell? ⟨P, 1, none⟩ = some (.slice (some ⟨g, 0, none⟩) L cvt) ∧ w'.cell? ⟨w.heap.size, 1, none⟩ = some (.slice (some ⟨bi, oi, none⟩) L cb) ∧ w'.cell? ⟨bi, oi + i * 4, none⟩ = some (.string x.b.name) ∧ w'.cell? ⟨bi, oi + i * 4 + 1, none⟩ = some (.slice ai m ci) ∧ w'.cell? ⟨bi, oi + i * 4 + 2, none⟩ = some (.int .i64 x.b.l) ∧ w'.cell? ⟨bi, oi + i * 4 + 3, none⟩ = some (.int .i64 x.b.c))) (by kernel_rfl) (by exact ⟨hr7, y1, x0, x1, x2, x3⟩) (fun hHeld => ?_); (refine wpAnyH_take (i := 0) (v := ?_) rfl (by kernel_rfl) (by kernel_rfl) (by kernel_rfl) (fun _ _ _ h => h) (Or.inl ⟨by rfl, ?_⟩) (by assumption) ?_; rotate_left 1; (focus (intro w hSw; (try dsimp only at hSw); go_simp; (try with_reducible rfl))); (try simp only [List.getElem_toArray, List.getElem_cons_zero, List.getElem_cons_succ, Act.put, List.setIfInBounds_toArray, List.set_cons_zero, List.set_cons_succ])); (refine wpAnyH_take (i := 1) (v := ?_) rfl (by kernel_rfl) (by kernel_rfl) (by kernel_rfl) (fun _ _ _ h => h) (Or.inl ⟨by rfl, ?_⟩) (by assumption) ?_; rotate_left 1; (focus (intro w hSw; (try dsimp only at hSw); go_simp; (try with_reducible rfl))); (try simp only [List.getElem_toArray, List.getElem_cons_zero, List.getElem_cons_succ, Act.put, List.setIfInBounds_toArray, List.set_cons_zero, List.set_cons_succ])); (refine wpAnyH_take (i := 2) (v := ?_) rfl (by kernel_rfl) (by kernel_rfl) (by kernel_rfl) (fun _ _ _ h => h) (Or.inl ⟨by rfl, ?_⟩) (by assumption) ?_; rotate_left 1; (focus (intro w hSw; (try dsimp only at hSw); go_simp; (try with_reducible rfl))); (try simp only [List.getElem_toArray, List.getElem_cons_zero, List.getElem_cons_succ, Act.put, List.setIfInBounds_toArray, List.set_cons_zero, List.set_cons_succ])); (refine wpAnyH_take (i := 3) (v := ?_) rfl (by kernel_rfl) (by kernel_rfl) (by kernel_rfl) (fun _ _ _ h => h) (Or.inl ⟨by rfl, ?_⟩) (by assumption) ?_; rotate_left 1; (focus (intro w hSw; (try dsimp only at hSw); go_simp; (try with_reducible rfl))); (try simp only [List.getElem_toArray, List.getElem_cons_zero, List.getElem_cons_succ, Act.put, List.setIfInBounds_toArray, List.set_cons_zero, List.set_cons_succ])); (refine wpAnyH_take (i := 4) (v := ?_) rfl (by kernel_rfl) (by kernel_rfl) (by kernel_rfl) (fun _ _ _ h => h) (Or.inl ⟨by rfl, ?_⟩) (by assumption) ?_; rotate_left 1; (focus (intro w hSw; (try dsimp only at hSw); go_simp; (try with_reducible rfl))); (try simp only [List.getElem_toArray, List.getElem_cons_zero, List.getElem_cons_succ, Act.put, List.setIfInBounds_toArray, List.set_cons_zero, List.set_cons_succ])); (refine wpAnyH_take (i := 5) (v := ?_) rfl (by kernel_rfl) (by kernel_rfl) (by kernel_rfl) (fun _ _ _ h => h) (Or.inl ⟨by rfl, ?_⟩) (by assumption) ?_; rotate_left 1; (focus (intro w hSw; (try dsimp only at hSw); go_simp; (try with_reducible rfl))); (try simp only [List.getElem_toArray, List.getElem_cons_zero, List.getElem_cons_succ, Act.put, List.setIfInBounds_toArray, List.set_cons_zero, List.set_cons_succ])); (refine wpAnyH_take (i := 6) (v := ?_) rfl (by kernel_rfl) (by kernel_rfl) (by kernel_rfl) (fun _ _ _ h => h) (Or.inl ⟨by rfl, ?_⟩) (by assumption) ?_; rotate_left 1; (focus (intro w hSw; (try dsimp only at hSw); go_simp; (try with_reducible rfl))); (try simp only [List.getElem_toArray, List.getElem_cons_zero, List.getElem_cons_succ, Act.put, List.setIfInBounds_toArray, List.set_cons_zero, List.set_cons_succ])); (refine wpAnyH_take (i := 7) (v := ?_) rfl (by kernel_rfl) (by kernel_rfl) (by kernel_rfl) (fun _ _ _ h => h) (Or.inl ⟨by rfl, ?_⟩) (by assumption) ?_; rotate_left 1; (focus (intro w hSw; (try dsimp only at hSw); go_simp; (try with_reducible rfl))); (try simp only [List.getElem_toArray, List.getElem_cons_zero, List.getElem_cons_succ, Act.put, List.setIfInBounds_toArray, List.set_cons_zero, List.set_cons_succ])); (refine wpAnyH_ready (rs := [8]) (by kernel_rfl) (by simp) ?_; refine AllReadyH.cons rfl (fun K hK => ?_) AllReadyH.nil; go_simp; go_at_call 16; refine (HDB.out _ (Chg.refl [] w7).drew).mono ?_; rintro e w8 ⟨v', r', rfl, hrow, hc8, hf8⟩; obtain ⟨n8, hn8⟩ : ∃ n8, (dblTo x.b.items m).length = n8 := ⟨_, rfl⟩; rw [hn8] at hrow; obtain ⟨a8, c8, rfl⟩ := hrow.shape; have HN8 := hid hn8; clear hn8; (refine hK.out _ _ (by exact (by exact ⟨hc8.cell hHeld.1 (by simp), hc8.cell hHeld.2.1 (by simp), hc8.cell hHeld.2.2.1 (by simp), hc8.cell hHeld.2.2.2.1 (by simp), hc8.cell hHeld.2.2.2.2.1 (by simp), hc8.cell hHeld.2.2.2.2.2 (by simp)⟩)) (fun hHeld => ?_); clear hK K; (try simp only [List.getElem_toArray, List.getElem_cons_zero, List.getElem_cons_succ, Act.put, List.setIfInBounds_toArray, List.set_cons_zero, List.set_cons_succ]))); (refine wpAnyH_take (i := 9) (v := ?_) rfl (by kernel_rfl) (by kernel_rfl) (by kernel_rfl) (fun _ _ _ h => h) (Or.inl ⟨by rfl, ?_⟩) (by assumption) ?_; rotate_left 1; (focus (intro w hSw; (try dsimp only at hSw); go_simp; (try with_reducible rfl))); (try simp only [List.getElem_toArray, List.getElem_cons_zero, List.getElem_cons_succ, Act.put, List.setIfInBounds_toArray, List.set_cons_zero, List.set_cons_succ])); (refine wpAnyH_ready (rs := [10]) (by kernel_rfl) (by simp) ?_; refine AllReadyH.cons rfl (fun K hK => ?_) AllReadyH.nil; go_simp; (have hc78 := (Chg.refl [] w7).drew.trans' hc8; have hH8 := HH7.out.same hc78; have r0 := Row.atf (f := bkoC) (k := 4) (fun x => bkC_len x.1) (hH8.rowAt (i := 2) rfl) HZ.out.1 (i := i) (by rw [HZ.out.1]; exact hlt) (j := 0) (by omega); have r1 := Row.atf (f := bkoC) (k := 4) (fun x => bkC_len x.1) (hH8.rowAt (i := 2) rfl) HZ.out.1 (i := i) (by rw [HZ.out.1]; exact hlt) (j := 1) (by omega); have r2 := Row.atf (f := bkoC) (k := 4) (fun x => bkC_len x.1) (hH8.rowAt (i := 2) rfl) HZ.out.1 (i := i) (by rw [HZ.out.1]; exact hlt) (j := 2) (by omega); have r3 := Row.atf (f := bkoC) (k := 4) (fun x => bkC_len x.1) (hH8.rowAt (i := 2) rfl) HZ.out.1 (i := i) (by rw [HZ.out.1]; exact hlt) (j := 3) (by omega); have gf8 := (Row.cellk (hH8.rowAt (i := 2) rfl)).2.1; simp only [Nat.add_zero] at r0; go_simp); (refine hK.out _ _ (by exact (by have h9 : Chg [g] w8 ((((w8.setCell ⟨g, i * 4, none⟩ (.string x.b.name)).setCell ⟨g, i * 4 + 1, none⟩ (.slice a8 n8 c8)).setCell ⟨g, i * 4 + 2, none⟩ (.int .i64 x.b.l)).setCell ⟨g, i * 4 + 3, none⟩ (.int .i64 x.b.c)) := ((((Chg.refl [g] w8).setCell (p := ⟨g, i * 4, none⟩) (.inl (by simp)) _).setCell (p := ⟨g, i * 4 + 1, none⟩) (.inl (by simp)) _).setCell (p := ⟨g, i * 4 + 2, none⟩) (.inl (by simp)) _).setCell (p := ⟨g, i * 4 + 3, none⟩) (.inl (by simp)) _; exact ⟨h9.cell hHeld.1 (by simpa using hgP), h9.cell hHeld.2.1 (by simpa using hgU), h9.cell hHeld.2.2.1 (by simpa using hgX), h9.cell hHeld.2.2.2.1 (by simpa using hgX), h9.cell hHeld.2.2.2.2.1 (by simpa using hgX), h9.cell hHeld.2.2.2.2.2 (by simpa using hgX)⟩)) (fun hHeld => ?_); clear hK K; (try simp only [List.getElem_toArray, List.getElem_cons_zero, List.getElem_cons_succ, Act.put, List.setIfInBounds_toArray, List.set_cons_zero, List.set_cons_succ]))); refine wpAnyH_done (by kernel_rfl) ?_ _)
          have hc78 := (Chg.refl [] w7).drew.trans' hc8
          obtain ⟨z, hz⟩ : ∃ z : BkO, z = (⟨dbB x.b, .slice a8 n8 c8⟩, r') := ⟨_, rfl⟩
          have hil : i < zs.length := by rw [HZ.out.1]; exact hlt
          have hI : (.box P (.cells #[.slice sa D2 sc, .slice (some ⟨g, 0, none⟩) L cvt] 25) :: .row 52 5 (.slice sa D2 sc) rs D2 ((sortD u.decls).flatMap dcC) :: .row 48 4 (.slice (some ⟨g, 0, none⟩) L cvt) (some g) L (zs.flatMap bkoC) :: zs.map itRow)[i + 3]? = some (itRow zi) := by
            show (zs.map itRow)[i]? = _
            rw [List.getElem?_map, List.getElem?_eq_getElem hil, HZI.out.1]
            rfl
          have hA := HH7.out.set hI (itRow z) (S := []) hc78 (by simp) (by
            rw [hz]
            show Row w8 55 10 (.slice a8 n8 c8) r' (dblTo x.b.items x.b.items.length).length ((dblTo x.b.items x.b.items.length).flatMap itC)
            rw [HX.out.2.2, HN8.out]
            exact hrow) (fun g' hg => by
              rw [hz] at hg
              have := (hf8 g' hg).resolve_left (by simp)
              exact .inr (by simpa using this)) rfl
          simp only [List.set_cons_succ] at hA
          have hB0 := hA.putf (f := bkoC) (k := 4) (fun x => bkC_len x.1) 2 rfl (i := i) hil zi (j := 0) (by omega) (u := .string x.b.name) (by rw [HZI.out.1]; show bkC zi.1 = _; rw [← HZI.out.2]; rfl) rfl
          simp only [List.set_cons_zero, List.set_cons_succ] at hB0
          have hB1 := hB0.putf (f := bkoC) (k := 4) (fun x => bkC_len x.1) 2 rfl (i := i) (by rw [List.length_set]; exact hil) z (j := 1) (by omega) (u := .slice a8 n8 c8) (by rw [List.getElem_set_self, hz]; show bkC (⟨dbB x.b, _⟩ : BkV) = (bkC zi.1).set 1 _; simp [bkC, dbB, HZI.out.2]) rfl
          simp only [List.set_cons_zero, List.set_cons_succ, List.set_set] at hB1
          have hB2 := hB1.putf (f := bkoC) (k := 4) (fun x => bkC_len x.1) 2 rfl (i := i) (by rw [List.length_set]; exact hil) z (j := 2) (by omega) (u := .int .i64 x.b.l) (by rw [List.getElem_set_self, hz]; rfl) rfl
          simp only [List.set_cons_zero, List.set_cons_succ, List.set_set] at hB2
          have hB3 := hB2.putf (f := bkoC) (k := 4) (fun x => bkC_len x.1) 2 rfl (i := i) (by rw [List.length_set]; exact hil) z (j := 3) (by omega) (u := .int .i64 x.b.c) (by rw [List.getElem_set_self, hz]; rfl) rfl
          simp only [List.set_cons_zero, List.set_cons_succ, List.set_set] at hB3
          rw [← List.map_set] at hB3
          have hzs : (zs.set i z).length = L ∧ blks (zs.set i z) = dbTo u.blocks (i + 1) ∧ ∀ j, j < i + 1 → ∀ k, u.blocks[j]? = some k → ClearL k.items := by
            refine ⟨by rw [List.length_set]; exact HZ.out.1, ?_, fun j hj k hk => ?_⟩
            · have hiu : i < u.blocks.length := by rw [HLB.out]; exact hlt
              have h1 := dbTo_succ u.blocks hiu
              have h2 : u.blocks[i] = x.b := by
                have h3 := HX.out.1
                rw [List.getElem?_eq_getElem hiu] at h3
                exact Option.some.inj h3
              rw [← h1, ← HZ.out.2.1, h2]
              simp only [blks, List.map_set, hz]
            · rcases Nat.lt_succ_iff_lt_or_eq.1 hj with hj | rfl
              · exact HZ.out.2.2 j hj k hk
              · rw [HX.out.1] at hk
                cases hk
                exact HCC.out
          have HB3X := hid hB3
          have HZS := hid hzs
          clear hA hB0 hB1 hB2 hB3 hI hz hzs hc78 hrow hc8 hf8 r0 r1 r2 r3 gf8 hHeld
          go_wp2_with fail
          go_roundg (gk - 1)
          case measure => omega
          case rel => exact ⟨i + 1, zs.set i z, by omega, by go_num, HZS, HB3X⟩
        · rw [eqB_false hc] at HCL
          clear hc
          go_wp2_with (go_at_call 15; refine halt (fun X hX => ?_))
          rw [hX.out]; clear hX
          refine HCL.out.mono ?_
          rintro e w7 ⟨rfl, hc7⟩
          have HC7 := hid (HC0.out.trans' (HCB.out.trans' (H.out.chg.trans' hc7)))
          clear hc7
          go_wp2_with fail
          exact bodyPost_ret (v := .bool true) (by simp [results, Try.results4, go_sem]) rfl ⟨rfl, HC7.out⟩
      · obtain rfl : i = L := by omega
        have hcl : ∀ k ∈ u.blocks, ClearL k.items := by
          intro k hk
          obtain ⟨j, hj, rfl⟩ := List.mem_iff_getElem.1 hk
          exact HZ.out.2.2 j (by rw [← HLB.out]; exact hj) _ (List.getElem?_eq_getElem hj)
        have hop := order_prog HD.out hcl
        have hzb : blks zs = u.blocks.map dbB := by
          rw [HZ.out.2.1]
          unfold dbTo
          rw [List.take_of_length_le (by rw [HLB.out]; exact Nat.le_refl _), List.drop_of_length_le (by rw [HLB.out]; exact Nat.le_refl _), List.append_nil]
        have hun2 : UnV wr (.agg #[.slice sa D2 sc, .slice avt i cvt]) ⟨sortD u.decls, u.blocks.map dbB⟩ := by
          have h1 : UnH wB wr (.slice sa D2 sc) rs (sortD u.decls) (.slice avt i cvt) rt zs := ⟨by
            unfold dRow tRow
            rw [HD2.out, HZ.out.1]
            exact H.out.sub (.cons _ (.refl _))⟩
          have h2 := h1.unV
          rw [hzb] at h2
          exact h2
        have v0 := H.out.cell (i := 0) rfl 0
        simp only [List.getElem?_toArray, List.getElem?_cons_zero, List.getElem?_cons_succ] at v0
        have HPC := hid (program_calls (u := ⟨sortD u.decls, u.blocks.map dbB⟩) (small_dbl HD.out HU.out HI.out) wr hun2)
        have HOP := hid hop
        clear hop hun2 hzb hcl
        go_wp2_with (go_at_call 8; refine halt (fun X hX => ?_))
        rw [hX.out]; clear hX
        refine HPC.out.mono ?_
        rintro e w6 (⟨f, hd, rfl, hc6⟩ | ⟨q, vq, hd, rfl, hqn, hc6⟩)
        · rw [HOP.out] at hd
          cases hd
        · rw [HOP.out] at hd
          cases hd
          have HQN := hid hqn.now
          obtain ⟨qa0, qn0, qc0, qa1, qn1, qc1, qa2, qn2, qc2, qa3, qn3, qc3, qa4, qn4, qc4, rfl⟩ : ∃ (a0 : Option Addr) (n0 c0 : Nat) (a1 : Option Addr) (n1 c1 : Nat) (a2 : Option Addr) (n2 c2 : Nat) (a3 : Option Addr) (n3 c3 : Nat) (a4 : Option Addr) (n4 c4 : Nat), vq = .agg #[.slice a0 n0 c0, .slice a1 n1 c1, .slice a2 n2 c2, .slice a3 n3 c3, .slice a4 n4 c4] := by
            obtain ⟨v0, v1, v2, v3, v4, ts, rfl, l0, l1, l2, l3, l4, _⟩ := HQN.out
            obtain ⟨_, _, rfl, _⟩ := l0.len
            obtain ⟨_, _, rfl, _⟩ := l1.len
            obtain ⟨_, _, rfl, _⟩ := l2.len
            obtain ⟨_, _, rfl, _⟩ := l3.len
            obtain ⟨_, _, rfl, _⟩ := l4.len
            exact ⟨_, _, _, _, _, _, _, _, _, _, _, _, _, _, _, rfl⟩
          have hh6 := ((HB3.out.same (H.out.chg.trans' hc6)).box (.cells #[.slice qa0 qn0 qc0, .slice qa1 qn1 qc1, .slice qa2 qn2 qc2, .slice qa3 qn3 qc3, .slice qa4 qn4 qc4] 32)).box (.cells #[.int .i64 0, .int .i64 0, .int .i64 0] 37)
          simp only [World.size_alloc] at hh6
          have hc66 := ((Chg.refl [] w6).alloc (.cells #[.slice qa0 qn0 qc0, .slice qa1 qn1 qc1, .slice qa2 qn2 qc2, .slice qa3 qn3 qc3, .slice qa4 qn4 qc4] 32)).alloc (.cells #[.int .i64 0, .int .i64 0, .int .i64 0] 37)
          obtain ⟨wF, hwF⟩ : ∃ wF, (w6.alloc (.cells #[.slice qa0 qn0 qc0, .slice qa1 qn1 qc1, .slice qa2 qn2 qc2, .slice qa3 qn3 qc3, .slice qa4 qn4 qc4] 32)).alloc (.cells #[.int .i64 0, .int .i64 0, .int .i64 0] 37) = wF := ⟨_, rfl⟩
          have HCE := hid (HC0.out.trans' (HCB.out.trans' (H.out.chg.trans' (hc6.trans' hc66))))
          have HQV := hid (HQN.out.keep hc66)
          rw [hwF] at hh6 HCE HQV
          have HPV := hid (HPN.out.keep hh6.chg)
          have g0 := hh6.cell (i := 0) rfl 0
          have q0 := hh6.cell (i := 1) rfl 0
          have q1 := hh6.cell (i := 1) rfl 1
          have q2 := hh6.cell (i := 1) rfl 2
          have q3 := hh6.cell (i := 1) rfl 3
          have q4 := hh6.cell (i := 1) rfl 4
          have p0 := hh6.cell (i := 3) rfl 0
          have p1 := hh6.cell (i := 3) rfl 1
          have p2 := hh6.cell (i := 3) rfl 2
          have p3 := hh6.cell (i := 3) rfl 3
          have p4 := hh6.cell (i := 3) rfl 4
          simp only [List.getElem?_toArray, List.getElem?_cons_zero, List.getElem?_cons_succ] at g0 q0 q1 q2 q3 q4 p0 p1 p2 p3 p4
          have HSC := hid ((same_calls p p HSP.out HSP.out wF HPV.out HQV.out).mono (R' := fun e w' => e = .returned (.bool true) ∧ Chg [] wF w') (fun e w' hh => ⟨by rw [hh.1, eqB_true rfl], hh.2⟩))
          have HWF := hid hwF
          clear hh6 hc6 hc66 hqn HPC hwF
          go_upto_region 15 with fail
          rw [HWF.out]
          go_wp2_with (go_at_call 12; refine halt (fun X hX => ?_))
          rw [hX.out]; clear hX
          refine HSC.out.mono ?_
          rintro e w9 ⟨rfl, hc9⟩
          go_wp2_with fail
          exact bodyPost_ret (v := .bool true) (by simp [results, Try.results4, go_sem]) rfl ⟨rfl, HCE.out.trans' hc9⟩
end Go.Proofs.Ytaknmhipaifdkaa
