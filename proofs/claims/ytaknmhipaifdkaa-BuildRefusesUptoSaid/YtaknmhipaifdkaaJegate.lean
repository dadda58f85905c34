/- Walks of the builder's laws: BuildRefuses, gate. -/
import Derived.Test.YtaknmhipaifdkaaJf
import Derived.Deep.CutBlock
set_option linter.unusedVariables false
set_option linter.unusedSectionVars false
namespace Go.Proofs.Ytaknmhipaifdkaa
open Go.RowKit Go.AB
set_option linter.unusedSimpArgs false
set_option linter.unusedVariables false
set_option linter.unusedSectionVars false

set_option maxHeartbeats 8000000 in
set_option maxRecDepth 100000 in
theorem refuses_gate {v : Value} {u : UnD} (w : World) (hv : UnV w v u) (hu : SmallU u) (a1 a2 m : Int) (hm : -9223372036854775808 ≤ m ∧ m ≤ 9223372036854775807) (hc : m.tmod 4 = 0) :
    Calls Try.prog 5 #[v, .agg #[.int .i64 a1, .int .i64 a2], .int .i64 m] w fun e w' => e = .returned (.bool true) ∧ Chg [] w w' := by
  obtain ⟨va, vb, bs0, rfl, hda, hbb, hbs, hit⟩ := hv
  obtain ⟨ad, cd, rfl, hdc, hdm, _⟩ := hda.len
  obtain ⟨ab, cb, rfl, hbc, hbm, _⟩ := hbb.len
  have hbl : bs0.length = u.blocks.length := by rw [← hbs, List.length_map]
  rw [hbl] at hbb hbc
  have hlb := hu.blocks
  have hld := hu.decls
  rw [hbl]
  have HV0 := hid (And.intro hda (And.intro hbb (And.intro hbs hit)))
  have HU := hid hu
  obtain ⟨L, hL⟩ : ∃ L, u.blocks.length = L := ⟨_, rfl⟩
  obtain ⟨D, hD⟩ : ∃ D, u.decls.length = D := ⟨_, rfl⟩
  rw [hL] at hlb hbc
  rw [hD] at hld hdc
  rw [hL, hD]
  have hh0 := ((Hp.start (S0 := []) w (by simp)).box (.cells #[.slice ad D cd, .slice ab L cb] 25)).box (.cells #[.int .i64 a1, .int .i64 a2] 35)
  simp only [World.size_alloc] at hh0
  have hv1 : UnV ((w.alloc (.cells #[.slice ad D cd, .slice ab L cb] 25)).alloc (.cells #[.int .i64 a1, .int .i64 a2] 35)) (.agg #[.slice ad D cd, .slice ab L cb]) u :=
    UnV.keep ⟨_, _, bs0, rfl, by rw [← hD]; exact hda, by have := hbb; rw [← hbl, hbl, hL] at this; have h2 : bs0.length = L := hbl.trans hL; rw [Lst, h2]; rw [Lst, h2] at this; exact this, hbs, hit⟩ hh0.chg
  have HH0 := hid hh0
  have HV1 := hid hv1
  have HLD := hid (And.intro hL hD)
  clear hh0 hv1 hda hbb hbs hit hbl hL hD hu
  go_enter Try.func5, Try.ntmps5
  go_upto_region 1 with fail
  have HWK := fun W => works_calls W
  have HWK' := hid HWK
  clear HWK
  go_wp2_with (go_at_call 7; refine halt (fun X hX => ?_))
  rw [hX.out]; clear hX
  refine (HWK'.out _).mono ?_
  rintro e w1 ⟨rfl, hc1⟩
  have HH1 := hid (HH0.out.same hc1)
  have HV1' := hid (HV1.out.keep hc1)
  have u0 := HH1.out.cell (i := 1) rfl 0
  have u1 := HH1.out.cell (i := 1) rfl 1
  have q0 := HH1.out.cell (i := 0) rfl 0
  have q1 := HH1.out.cell (i := 0) rfl 1
  simp only [List.getElem?_toArray, List.getElem?_cons_zero, List.getElem?_cons_succ] at u0 u1 q0 q1
  have HL1 := hid (lend_calls w1 HV1'.out HU.out)
  clear hc1 HWK' HV1
  go_wp2_with (go_at_call 9; refine halt (fun X hX => ?_))
  rw [hX.out]; clear hX
  refine HL1.out.mono ?_
  rintro e w2 ⟨vd1, rd1, vt1, rt1, os1, rfl, hun1, hbk1⟩
  have hu1 := hun1.unV
  rw [hbk1] at hu1
  have HP1 := hid (program_calls (u := ⟨u.decls, u.blocks⟩) HU.out w2 hu1)
  have HC2 := hid hun1.hp.chg
  clear hun1 hbk1 hu1 HL1
  go_wp2_with (go_at_call 8; refine halt (fun X hX => ?_))
  rw [hX.out]; clear hX
  refine HP1.out.mono ?_
  have hu0 : ∀ W, Chg [] w1 W → W.cell? ⟨w.heap.size, 0, none⟩ = some (.slice ad D cd) ∧ W.cell? ⟨w.heap.size, 1, none⟩ = some (.slice ab L cb) ∧ W.cell? ⟨w.heap.size + 1, 0, none⟩ = some (.int .i64 a1) ∧ W.cell? ⟨w.heap.size + 1, 1, none⟩ = some (.int .i64 a2) :=
    fun W h => ⟨h.cell u0 (by simp), h.cell u1 (by simp), h.cell q0 (by simp), h.cell q1 (by simp)⟩
  have HU0 := hid hu0
  clear hu0 u0 u1 q0 q1
  rintro e w3 (⟨f, hd, rfl, hc3⟩ | ⟨p, vp, hd, rfl, hpn, hc3⟩)
  · have hfc := prog_code hd
    have hne : (f.code != 0) = true := by simp; omega
    have hne2 : (f.code == 0) = false := by simp; omega
    have hne3 : decide (f.code = 0) = false := by simp; omega
    have HCF := hid (HC2.out.trans hc3 (by simp))
    simp only [noPrg]
    clear hd hc3 hfc
    go_wp2_with fail
    exact bodyPost_ret (v := .bool true) (by simp [results, Try.results5, go_sem]) rfl ⟨rfl, (((HH1.out.chg.trans HCF.out (by simp)).alloc _).alloc _)⟩
  · have hcf := HC2.out.trans hc3 (by simp)
    have HD := hid (And.intro hd hcf)
    obtain ⟨pa0, pn0, pc0, pa1, pn1, pc1, pa2, pn2, pc2, pa3, pn3, pc3, pa4, pn4, pc4, rfl⟩ : ∃ (a0 : Option Addr) (n0 c0 : Nat) (a1 : Option Addr) (n1 c1 : Nat) (a2 : Option Addr) (n2 c2 : Nat) (a3 : Option Addr) (n3 c3 : Nat) (a4 : Option Addr) (n4 c4 : Nat), vp = .agg #[.slice a0 n0 c0, .slice a1 n1 c1, .slice a2 n2 c2, .slice a3 n3 c3, .slice a4 n4 c4] := by
      obtain ⟨v0, v1, v2, v3, v4, ts, rfl, l0, l1, l2, l3, l4, _⟩ := hpn.now
      obtain ⟨_, _, rfl, _⟩ := l0.len
      obtain ⟨_, _, rfl, _⟩ := l1.len
      obtain ⟨_, _, rfl, _⟩ := l2.len
      obtain ⟨_, _, rfl, _⟩ := l3.len
      obtain ⟨_, _, rfl, _⟩ := l4.len
      exact ⟨_, _, _, _, _, _, _, _, _, _, _, _, _, _, _, rfl⟩
    clear hd hc3 hpn
    obtain ⟨y0, y1, y2, y3⟩ := HU0.out _ ((HD.out.2.alloc (.cells #[.slice pa0 pn0 pc0, .slice pa1 pn1 pc1, .slice pa2 pn2 pc2, .slice pa3 pn3 pc3, .slice pa4 pn4 pc4] 32)).alloc (.cells #[.int .i64 0, .int .i64 0, .int .i64 0] 37))
    by_cases hL0 : L = 0
    · have hL1 : ((L : Int) == 0) = true := by simp; omega
      have hL2 : decide ((L : Int) = 0) = true := by simp; omega
      clear hL0
      go_wp2_with fail
      exact bodyPost_ret (v := .bool true) (by simp [results, Try.results5, go_sem]) rfl ⟨rfl, (((HH1.out.chg.trans HD.out.2 (by simp)).alloc _).alloc _)⟩
    have hL1 : ((L : Int) == 0) = false := by simp; omega
    have hL2 : decide ((L : Int) = 0) = false := by simp; omega
    have hL3 : ((L : Int) != 0) = true := by simp; omega
    go_wp2_with (go_at_call 9; refine halt (fun X hX => ?_))
    rw [hX.out]; clear hX
    have HF1 := hid (HH1.out.same (((HD.out.2.alloc (.cells #[.slice pa0 pn0 pc0, .slice pa1 pn1 pc1, .slice pa2 pn2 pc2, .slice pa3 pn3 pc3, .slice pa4 pn4 pc4] 32)).alloc (.cells #[.int .i64 0, .int .i64 0, .int .i64 0] 37))))
    have HV3 := HV1'.out.keep (((HD.out.2.alloc (.cells #[.slice pa0 pn0 pc0, .slice pa1 pn1 pc1, .slice pa2 pn2 pc2, .slice pa3 pn3 pc3, .slice pa4 pn4 pc4] 32)).alloc (.cells #[.int .i64 0, .int .i64 0, .int .i64 0] 37)))
    refine (lend_calls _ HV3 HU.out).mono ?_
    clear HV3
    rintro e w4 ⟨vd, rd, vt, rt, os, rfl, hun, hbk⟩
    have hol : os.length = L := by rw [← HLD.out.1, ← hbk]; simp [blks]
    have hj := (HF1.out.join hun.hp).front2
    simp only [dRow, tRow, HLD.out.2, hol] at hj
    obtain ⟨g, ct, rfl, rfl, hct⟩ := (hj.rowAt (i := 3) rfl).some (by omega)
    obtain ⟨avd, cvd, rfl⟩ := (hj.rowAt (i := 2) rfl).shape
    have hj1 := hj.box (.cells #[.slice avd D cvd, .slice (some ⟨g, 0, none⟩) L ct] 25)
    have HJ1 := hid hj1
    have HOS := hid (And.intro hbk hol)
    have y0 := hj1.cell (i := 2) rfl 0
    have y1 := hj1.cell (i := 2) rfl 1
    simp only [List.getElem?_toArray, List.getElem?_cons_zero, List.getElem?_cons_succ] at y0 y1
    clear hj hj1 hun hbk hol HF1 HV1' HH1
    have hL4 : (L : Int) ≠ 0 := by omega
    go_upto_region 7 with fail
    obtain ⟨w5, hw5⟩ : ∃ w5, w4.alloc (.cells #[.slice avd D cvd, .slice (some ⟨g, 0, none⟩) L ct] 25) = w5 := ⟨_, rfl⟩
    rw [hw5] at HJ1 y0 y1
    have hs5 : w4.heap.size = w5.heap.size - 1 := by rw [← hw5]; simp
    rw [hw5]
    clear hw5 hs5
    go_quiet (fail)
    obtain ⟨k, hk, hke⟩ := idx_rem hm (by omega) hlb
    rw [hke]
    clear hke
    have HJ2 := hid (HJ1.out.same (Chg.of_drewN [] w5 nq))
    obtain ⟨w6, hw6⟩ : ∃ w6, w5.drewN nq = w6 := ⟨_, rfl⟩
    rw [hw6] at HJ2
    rw [hw6]
    clear hw6 HJ1 y0 y1
    obtain ⟨y, hy⟩ : ∃ y, os[k]'(by rw [HOS.out.2]; exact hk) = y := ⟨_, rfl⟩
    have hym : y ∈ os := by rw [← hy]; exact List.getElem_mem _
    have hyr : itRow y ∈ os.map itRow := List.mem_map.2 ⟨y, hym, rfl⟩
    have hyrow := HJ2.out.ok (itRow y) (by simp only [List.mem_cons]; exact .inr (.inr (.inr (.inr (.inr hyr)))))
    obtain ⟨ai, ci, hyi⟩ := Row.shape hyrow
    have hrt := HJ2.out.rowAt (i := 4) rfl
    obtain ⟨y0, y1, y2, y3⟩ := bko_at (by rw [HOS.out.2]; exact hrt) (by rw [HOS.out.2]; exact hk) hy
    rw [hyi] at y1
    have z1 := HJ2.out.cell (i := 0) rfl 1
    simp only [List.getElem?_toArray, List.getElem?_cons_zero, List.getElem?_cons_succ] at z1
    have HY := hid (And.intro hy (And.intro hym hyi))
    obtain ⟨I, hI⟩ : ∃ I, y.1.b.items.length = I := ⟨_, rfl⟩
    rw [hI] at y1
    have hIb : I ≤ 1048576 := by
      have hm2 : y.1.b ∈ u.blocks := by rw [← HOS.out.1]; exact List.mem_map.2 ⟨y, hym, rfl⟩
      have := (HU.out.bn _ hm2).2.1
      omega
    have HI := hid hI
    clear hy hym hyr hyrow hyi hrt hI
    obtain ⟨nm, hnm⟩ : ∃ nm, y.1.b.name = nm := ⟨_, rfl⟩
    obtain ⟨kl, hkl⟩ : ∃ kl, y.1.b.l = kl := ⟨_, rfl⟩
    obtain ⟨kc, hkc⟩ : ∃ kc, y.1.b.c = kc := ⟨_, rfl⟩
    rw [hnm] at y0
    rw [hkl] at y2
    rw [hkc] at y3
    have HN := hid (And.intro hnm (And.intro hkl hkc))
    clear hnm hkl hkc hm
    by_cases hI4 : 4000 ≤ I
    · go_wp2_with fail
      exact bodyPost_ret (v := .bool true) (by simp [results, Try.results5, go_sem]) rfl ⟨rfl, HJ2.out.chg.alloc _⟩
    · have hj3 := (HJ2.out.box (.cells #[.string nm, .slice ai I ci, .int .i64 kl, .int .i64 kc] 48)).box (.cells #[.int .i64 kl, .int .i64 kc] 35)
      simp only [World.size_alloc] at hj3
      have HJ3 := hid hj3
      clear hj3
      go_upto_region 13 with fail
      have HKB : Hid (k < u.blocks.length) := hid (by rw [HLD.out.1]; exact hk)
      have HYB : Hid (u.blocks[k]'(HKB.out) = y.1.b) := by
        refine hid ?_
        have h1 : (blks os)[k]'(by rw [HOS.out.1]; exact HKB.out) = y.1.b := by
          have h2 := HY.out.1
          simp only [blks, List.getElem_map]
          rw [h2]
        rw [← h1]
        congr 1
        exact HOS.out.1.symm
      have HPR := hid HD.out.1
      clear y0 y1 y2 y3 z1
      obtain ⟨rfl, rfl, rfl⟩ := HN.out
      obtain ⟨wS, hwS⟩ : ∃ wS, (w6.alloc (.cells #[.string y.1.b.name, .slice ai I ci, .int .i64 y.1.b.l, .int .i64 y.1.b.c] 48)).alloc (.cells #[.int .i64 y.1.b.l, .int .i64 y.1.b.c] 35) = wS := ⟨_, rfl⟩
      rw [hwS] at HJ3
      go_upto_block 0 with fail
      try rw [hwS]
      clear hwS
      go_cut [12] (fun vx wx => ∃ (code c1 c2 : Int) (aj : Option Addr) (J cj : Nat) (avd' : Option Addr) (D' cvd' : Nat) (rd' : Option Nat) (ds' : List DcD) (its' : List ItD) (X : It), vx = .int .i64 code ∧
        Hid (RF w wx a1 a2 w.heap.size (w.heap.size + 1) w4.heap.size w6.heap.size (w6.heap.size + 1) ad D cd ab L cb g ct u os k y code c1 c2 aj J cj avd' D' cvd' rd' ds' its' X))
      case first =>
        have b0 := HJ3.out.cell (i := 1) rfl 0
        have b1 := HJ3.out.cell (i := 1) rfl 1
        have b2 := HJ3.out.cell (i := 1) rfl 2
        have b3 := HJ3.out.cell (i := 1) rfl 3
        have bf := HJ3.out.free (i := 1) rfl
        have v0 := HJ3.out.cell (i := 2) rfl 0
        have v1 := HJ3.out.cell (i := 2) rfl 1
        have vf := HJ3.out.free (i := 2) rfl
        have q0 := HJ3.out.cell (i := 3) rfl 0
        have q1 := HJ3.out.cell (i := 3) rfl 1
        have pf := HJ3.out.free (i := 0) rfl
        have p0 := HJ3.out.cell (i := 0) rfl 0
        have p1 := HJ3.out.cell (i := 0) rfl 1
        have hvi : ∀ W, (∃ A, Hp [] w W (A ++ os.map itRow)) → View W 10 (.slice ai I ci) I (y.1.b.items.flatMap itC) := by
          rintro W ⟨A, hA⟩
          have h1 := Row.view (hA.ok (itRow y) (List.mem_append_right _ (List.mem_map.2 ⟨y, HY.out.2.1, rfl⟩)))
          rw [HY.out.2.2, HI.out] at h1
          exact h1
        have HVI := hid hvi
        clear hvi
        have t0 := HJ3.out.cell (i := 4) rfl 0
        have n1 : w6.heap.size + 1 ≠ w.heap.size + 1 := HJ3.out.ne (i := 0) (j := 3) rfl rfl (by decide) rfl ∘ fun h => by rw [h]; rfl
        simp only [List.getElem?_toArray, List.getElem?_cons_zero, List.getElem?_cons_succ] at b0 b1 b2 b3 v0 v1 q0 q1 t0 p0 p1
        have e0 : (m.tmod 4 == 0) = true := by simp; omega
        have e0d : decide (m.tmod 4 = 0) = true := by simp; omega
        clear hc
        by_cases hD4 : 4000 ≤ D
        · go_wp2_with fail
          exact bodyPost_ret (v := .bool true) (by simp [results, Try.results5, go_sem]) rfl ⟨rfl, HJ3.out.chg⟩
        · have v0' : ∀ o, (wS.alloc o).cell? ⟨w4.heap.size, 0, none⟩ = some (.slice avd D cvd) := fun o => (HJ3.out.same ((Chg.refl [] wS).alloc o)).cell (i := 2) rfl 0
          have hdv := (HJ3.out.rowAt (i := 5) rfl).view
          have hdone := one_dcls u.decls
          go_wp2_with (at_builtin; refine wpList_grew rfl _ _ 22 rfl elem_dcl rfl (Row.made wS 52 5 1 [.int .i64 4, .string y.1.b.name, .int .i64 0, .int .i64 a1, .int .i64 a2] rfl rfl (by simp [maxLen])) rfl (hdv.keep ((Chg.refl [] wS).alloc _) (by simp)) hdone (by unfold maxLen; omega) (by omega) (fun ao2 cap2 r2 w7 hr7 hg7 => halt (fun X hX => ?_)))
          rw [hX.out]; clear hX
          have hH7 := HJ3.out.fresh (((Chg.refl [] wS).alloc _).trans hg7.chg (fun x hx => .inr (by simp at hx; omega))) hr7 (fun g hg => (hg7.fresh g hg).elim (fun e => .inr (by simp at e; omega)) (fun h => .inr (by simp at h; omega)))
          have v0 := hH7.cell (i := 3) rfl 0
          have vf := hH7.free (i := 3) rfl
          have hH8 := hH7.put 3 rfl 0 (.slice ao2 (1 + D) cap2) rfl
          have HH8 := hid hH8
          simp only [List.getElem?_toArray, List.getElem?_cons_zero, List.getElem?_cons_succ] at v0
          clear hH7 hH8 hr7 hg7 hdv hdone v0'
          go_wp2_with fail
          go_meet
          refine ⟨90, y.1.b.l, y.1.b.c, ai, I, ci, ao2, 1 + D, cap2, r2, gateOf y.1.b.name a1 a2 :: u.decls, y.1.b.items, .row 55 10 (.slice none 0 0) none 0 [], rfl, hid ?_⟩
          have hA := ans_gate HU.out HPR.out HKB.out HYB.out (by rw [HLD.out.2]; exact hD4) a1 a2
          have h9 := (((HH8.out.sub (.cons_cons _ (.cons_cons _ (.cons_cons _ (.cons_cons _ (.cons_cons _ (.cons_cons _ (.cons _ (.refl _)))))))))).nil 55 10).rot7.rot5
          simp only [List.set_cons_zero, List.set_cons_succ, List.setIfInBounds_toArray] at h9
          exact ⟨h9, by simp [HLD.out.2]; omega, HI.out, .inr ⟨by rw [HY.out.2.2, HI.out], rfl⟩, hA.1, hA.2⟩
      case rest =>
        obtain ⟨code, c1, c2, aj, J, cj, avd', D', cvd', rd', ds', its', X, rfl, HR⟩ := hcut
        have b0 := HR.out.hp.cell (i := 1) rfl 0
        have b1 := HR.out.hp.cell (i := 1) rfl 1
        have b2 := HR.out.hp.cell (i := 1) rfl 2
        have b3 := HR.out.hp.cell (i := 1) rfl 3
        have t1 := HR.out.hp.cell (i := 2) rfl 1
        simp only [List.getElem?_toArray, List.getElem?_cons_zero, List.getElem?_cons_succ] at b0 b1 b2 b3 t1
        obtain ⟨y0, y1, y2, y3⟩ := bko_at (by rw [HOS.out.2]; exact HR.out.hp.rowAt (i := 6) rfl) (by rw [HOS.out.2]; exact hk) HY.out.1
        have gf := (Row.cellk (HR.out.hp.rowAt (i := 6) rfl)).2.1
        go_upto_region 32 with fail
        obtain ⟨bs', hg⟩ := RF.stored HR.out HOS.out.2 HOS.out.1 (by rw [HOS.out.2]; exact hk) HY.out.1
        obtain ⟨wA, hwA⟩ : ∃ wA, ((((wc.setCell ⟨g, k * 4, none⟩ (.string y.1.b.name)).setCell ⟨g, k * 4 + 1, none⟩ (.slice aj J cj)).setCell ⟨g, k * 4 + 2, none⟩ (.int .i64 y.1.b.l)).setCell ⟨g, k * 4 + 3, none⟩ (.int .i64 y.1.b.c)) = wA := ⟨_, rfl⟩
        rw [hwA] at hg
        rw [hwA]
        have HG := hid hg
        have HAN := hid (And.intro HR.out.ans HR.out.sm)
        have hL0 : bs0.length = L := by
          have h1 := congrArg List.length HV0.out.2.2.1
          rw [List.length_map, HLD.out.1] at h1
          exact h1
        have HBL := hid hL0
        have hbb : Lst bkC 4 w (.slice ab L cb) bs0 := by
          have h1 := HV0.out.2.1
          rw [HLD.out.1] at h1
          exact h1
        have HBB := hid hbb
        clear hwA b0 b1 b2 b3 t1 y0 y1 y2 y3 gf hg hL0 hbb HR HJ3 HJ2
        go_upto_region 33 with fail
        go_loopg [14] L (fun gk vi wr => ∃ i : Nat, gk + i = L ∧ vi = .int .i64 i ∧ Hid (∀ j, j < i → ∀ b, bs0[j]? = some b → ∀ x ∈ b.b.items, x.name ≠ nobody) ∧ Hid (Chg [] wA wr))
        case atStart => exact ⟨0, rfl, rfl, hid (fun j hj => absurd hj (Nat.not_lt_zero _)), hid (Chg.refl _ _)⟩
        case round =>
          obtain ⟨i, hgi, rfl, HNO, HC⟩ := hrel
          have u1 := (HG.out.keep HC.out).u1
          by_cases hlt : i < L
          · obtain ⟨x, hx⟩ : ∃ x, bs0[i]'(by rw [HBL.out]; exact hlt) = x := ⟨_, rfl⟩
            obtain ⟨bi, oi, hai, x0, x1, x2, x3⟩ := blocks_at HBB.out (by rw [HBL.out]; exact hlt) hx
            have hmx : x ∈ bs0 := by rw [← hx]; exact List.getElem_mem _
            have hit := HV0.out.2.2.2 x hmx
            obtain ⟨ai2, ci2, hxi, _, _, _⟩ := hit.len
            obtain ⟨n, hn⟩ : ∃ n, x.b.items.length = n := ⟨_, rfl⟩
            rw [hxi] at x1 hit
            rw [hn] at x1 hit
            have hnb : n ≤ 1048576 := by
              have := (HU.out.bn x.b (by rw [← HV0.out.2.2.1]; exact List.mem_map.2 ⟨x, hmx, rfl⟩)).2.1
              omega
            have HX := hid (And.intro hx hn)
            have HIT := hid hit
            have HX1 := hid x1
            subst hai
            clear hx hmx hit hxi hn x0 x2 x3 x1
            obtain ⟨go, hgo⟩ : ∃ go, go = gk := ⟨_, rfl⟩
            rw [← hgo] at hgi
            go_upto_region 36 with fail
            go_loopg [15] n (fun gj vj wr => ∃ j : Nat, gj + j = n ∧ vj = .int .i64 j ∧ Hid (∀ l, l < j → ∀ z, x.b.items[l]? = some z → z.name ≠ nobody) ∧ Hid (Chg [] wA wr))
            case atStart => exact ⟨0, rfl, rfl, hid (fun j hj => absurd hj (Nat.not_lt_zero _)), hid (HC.out)⟩
            case round =>
              subst hgo
              obtain ⟨j, hgj, rfl, HNJ, HC2⟩ := hrel
              have u1 := (HG.out.keep HC2.out).u1
              have x1 := (HG.out.chg.trans' HC2.out).cell HX1.out (by simp)
              by_cases hjn : j < n
              · obtain ⟨z, hz⟩ : ∃ z, x.b.items[j]'(by rw [HX.out.2]; exact hjn) = z := ⟨_, rfl⟩
                obtain ⟨bz, oz, haz, _, _, _, _, _, z5, _, _, _, _⟩ := items_at (HIT.out.keep (HG.out.chg.trans' HC2.out)) (by rw [HX.out.2]; exact hjn) hz
                subst haz
                have HZ := hid hz
                clear hz
                by_cases hzn : z.name = nobody
                · have hz1 : (z.name.toList == [110, 111, 98, 111, 100, 121, 95, 104, 97, 115, 95, 116, 104, 105, 115]) = true := by rw [nobody_eq, decide_eq_true hzn]
                  clear hzn
                  go_wp2_with fail
                  exact bodyPost_ret (v := .bool true) (by simp [results, Try.results5, go_sem]) rfl ⟨rfl, HG.out.chg.trans' HC2.out⟩
                · have hz1 : (z.name.toList == [110, 111, 98, 111, 100, 121, 95, 104, 97, 115, 95, 116, 104, 105, 115]) = false := by rw [nobody_eq, decide_eq_false hzn]
                  have HZN := hid hzn
                  clear hzn
                  go_wp2_with fail
                  go_roundg (gk - 1)
                  case measure => omega
                  case rel =>
                    refine ⟨j + 1, by omega, by go_num, hid (fun l hl q hq => ?_), HC2⟩
                    rcases Nat.lt_succ_iff_lt_or_eq.1 hl with hl | rfl
                    · exact HNJ.out l hl q hq
                    · rw [List.getElem?_eq_getElem (by rw [HX.out.2]; exact hjn), HZ.out] at hq
                      simp only [Option.some.injEq] at hq
                      subst hq
                      exact HZN.out
              · obtain rfl : j = n := by omega
                go_wp2_with fail
                go_roundg (go - 1)
                case measure => omega
                case rel =>
                  refine ⟨i + 1, by omega, by go_num, hid (fun l hl q hq => ?_), HC2⟩
                  rcases Nat.lt_succ_iff_lt_or_eq.1 hl with hl | rfl
                  · exact HNO.out l hl q hq
                  · rw [List.getElem?_eq_getElem (by rw [HBL.out]; exact hlt), HX.out.1] at hq
                    simp only [Option.some.injEq] at hq
                    subst hq
                    intro z hz
                    obtain ⟨m, hm, rfl⟩ := List.mem_iff_getElem.1 hz
                    exact HNJ.out m (by rw [← HX.out.2]; exact hm) _ (List.getElem?_eq_getElem hm)
          · obtain rfl : i = L := by omega
            have hno : ∀ x ∈ y.1.b.items, x.name ≠ nobody := by
              have h1 : y.1.b ∈ u.blocks := by rw [← HYB.out]; exact List.getElem_mem _
              rw [← HV0.out.2.2.1] at h1
              obtain ⟨b, hb, hbe⟩ := List.mem_map.1 h1
              obtain ⟨m, hm, rfl⟩ := List.mem_iff_getElem.1 hb
              rw [← hbe]
              exact HNO.out m (by rw [← HBL.out]; exact hm) _ (List.getElem?_eq_getElem hm)
            have HN2 := hid hno
            have HG2 := hid (HG.out.keep HC.out)
            clear hno HNO
            obtain ⟨wB, hwB⟩ : ∃ wB, wB = wr := ⟨_, rfl⟩
            rw [← hwB] at HG2
            go_upto_region 42 with fail
            go_loopg [16, 17] i (fun gk vt vi wr => ∃ (l T : Nat), gk + l = i ∧ vi = .int .i64 l ∧ vt = .int .i64 T ∧ Hid (lens ((u.blocks.set k (y.1.b.put its')).take l) = T) ∧ Hid (Chg [] wB wr))
            case atStart => exact ⟨0, 0, by omega, rfl, rfl, hid (by simp [lens]), hid (by rw [hwB]; exact Chg.refl _ _)⟩
            case round =>
              obtain ⟨l, T, hgl, rfl, rfl, HT, HC3⟩ := hrel
              have v1 := (HG2.out.keep HC3.out).v1
              have htb : T ≤ l * 1048576 := by
                have h1 := lens_le ((u.blocks.set k (y.1.b.put its')).take l) (fun b hb => (HAN.out.2.bn b (List.mem_of_mem_take hb)).2.1)
                rw [HT.out] at h1
                exact Nat.le_trans h1 (Nat.mul_le_mul_right _ (List.length_take_le ..))
              have hNM : bs'.map BkV.b = u.blocks.set k (y.1.b.put its') := HG2.out.nm
              have NM := hid hNM
              clear hNM
              by_cases hlt : l < i
              · obtain ⟨x, hx⟩ : ∃ x, bs'[l]'(by rw [HG2.out.bl]; exact hlt) = x := ⟨_, rfl⟩
                have hbl2 : l < (u.blocks.set k (y.1.b.put its')).length := by rw [← NM.out, List.length_map, HG2.out.bl]; exact hlt
                have hmx : x ∈ bs' := by rw [← hx]; exact List.getElem_mem _
                have hxb : (u.blocks.set k (y.1.b.put its'))[l] = x.b := by
                  have h1 : (bs'.map BkV.b)[l]'(by rw [NM.out]; exact hbl2) = x.b := by rw [List.getElem_map, hx]
                  rw [← h1]
                  congr 1
                  exact NM.out.symm
                obtain ⟨bi, oi, hai, _, x1, _, _⟩ := blocks_at (HG2.out.keep HC3.out).bs (by rw [HG2.out.bl]; exact hlt) hx
                obtain ⟨ai2, ci2, hxi, _, _, _⟩ := ((HG2.out.keep HC3.out).it x hmx).len
                obtain ⟨n, hn⟩ : ∃ n, x.b.items.length = n := ⟨_, rfl⟩
                have hnb : n ≤ 1048576 := by
                  have := (HAN.out.2.bn x.b (by rw [← hxb]; exact List.getElem_mem _)).2.1
                  omega
                have hT2 := lens_take _ hbl2
                rw [hxb, HT.out, hn] at hT2
                have HT2 := hid hT2
                rw [hxi, hn] at x1
                simp only [Option.some.injEq, Addr.mk.injEq, and_true] at hai
                obtain ⟨rfl, rfl⟩ := hai
                simp only [Nat.zero_add] at x1
                clear hx hmx hxi hn hT2 hxb hbl2
                go_wp2_with fail
                go_roundg (gk - 1)
                case measure => omega
                case rel => exact ⟨l + 1, T + n, by omega, by go_num, by go_num, HT2, HC3⟩
              · obtain rfl : l = i := by omega
                have hTT : lens (u.blocks.set k (y.1.b.put its')) = T := by
                  rw [← HT.out, List.take_of_length_le]
                  rw [← NM.out, List.length_map, HG2.out.bl]
                  exact Nat.le_refl _
                have HT3 := hid hTT
                clear hTT
                go_upto_region 45 with fail
                have hg3 := HG2.out.keep HC3.out
                have v0 := hg3.v0
                have HG3 := hid hg3
                have hans := HAN.out.1 HN2.out
                rw [HT3.out] at hans
                have HPC := hid (program_calls HAN.out.2 wr hg3.unV)
                clear hg3
                by_cases hTT : 260000 ≤ T
                · have ht : decide ((260000 : Int) ≤ (T : Int)) = true := decide_eq_true (by omega)
                  clear hans hTT htb
                  go_wp2_with fail
                  exact bodyPost_ret (v := .bool true) (by simp [results, Try.results5, go_sem]) rfl ⟨rfl, HG3.out.chg⟩
                · have ht : decide ((260000 : Int) ≤ (T : Int)) = false := decide_eq_false (by omega)
                  have HA := hid (hans (by omega))
                  clear hans hTT htb
                  go_wp2_with (go_at_call 8; refine halt (fun X hX => ?_))
                  rw [hX.out]; clear hX
                  refine HPC.out.mono ?_
                  rintro e w8 (⟨f, hd, rfl, hc8⟩ | ⟨p', vp', hd, rfl, _, hc8⟩)
                  · rw [HA.out] at hd
                    cases hd
                    simp only [noPrg]
                    have hg8 := HG3.out.keep ((hc8.alloc (.cells #[.slice none 0 0, .slice none 0 0, .slice none 0 0, .slice none 0 0, .slice none 0 0] 32)).alloc (.cells #[.int .i64 code, .int .i64 c1, .int .i64 c2] 37))
                    have q0 := hg8.q0
                    have q1 := hg8.q1
                    have HG8 := hid hg8
                    clear hg8
                    go_wp2_with fail
                    exact bodyPost_ret (v := .bool true) (by simp [results, Try.results5, go_sem]) rfl ⟨rfl, HG8.out.chg⟩
                  · rw [HA.out] at hd
                    cases hd
end Go.Proofs.Ytaknmhipaifdkaa
