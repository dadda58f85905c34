/- Walks of the parser's laws: copied: a unit in new memory, a mark behind each list. -/
import Derived.Test.YtmahcabidggmeaaGreatDoorVpy
set_option linter.unusedVariables false
set_option linter.unusedSectionVars false
set_option linter.unusedSimpArgs false
namespace Go.AB
open Go.RowKit
theorem Row.pre {w : World} {e k : Nat} {ao : Option Addr} {N cap : Nat} {r : Option Nat} {xs ys : List Value} (h : Row w e k (.slice ao N cap) r N (xs ++ ys)) {n : Nat} (hn : n ≤ N) (hx : xs.length = n * k) : Row w e k (.slice ao n cap) r n xs := by
  obtain ⟨⟨hl, ho⟩, hr⟩ := h
  have hr' : Value.ownBlock (.slice ao n cap) = r := by rw [← hr]; cases ao <;> rfl
  rcases ho with ⟨hv, hN⟩ | ⟨g, cap', cur, hv, hb, hg, h0, hm, hs, ht⟩
  · refine ⟨⟨hx, .inl ?_⟩, hr'⟩
    simp only [Value.slice.injEq] at hv
    obtain ⟨rfl, rfl, rfl⟩ := hv
    obtain rfl : n = 0 := by omega
    exact ⟨rfl, rfl⟩
  · refine ⟨⟨hx, .inr ⟨g, cap', cur, ?_, hb, hg, by omega, hm, hs, ?_⟩⟩, hr'⟩
    · simp only [Value.slice.injEq, true_and] at hv ⊢
      exact hv
    · have h2 : xs = (xs ++ ys).take (n * k) := by rw [← hx, List.take_left]
      rw [h2, ← ht, List.take_take, Nat.min_eq_left (Nat.mul_le_mul_right k hn)]
theorem one_flat {α : Type} {f : α → List Value} (hf : ∀ x, ∀ u ∈ f x, u.oneCell' = true) (l : List α) : ∀ u ∈ l.flatMap f, u.oneCell' = true := by
  intro u hu
  obtain ⟨x, _, hx⟩ := List.mem_flatMap.1 hu
  exact hf x u hx
theorem Hp.back2 {S0 : List Nat} {w0 w : World} {a b : It} {M : List It} (h : Hp S0 w0 w (a :: b :: M)) : Hp S0 w0 w (b :: a :: M) := h.perm (List.Perm.swap b a M)
theorem Hp.toEnd {S0 : List Nat} {w0 w : World} {a : It} {M : List It} (h : Hp S0 w0 w (a :: M)) : Hp S0 w0 w (M ++ [a]) := h.perm (List.perm_append_comm (l₁ := [a]) (l₂ := M))
def mkD : DcD := ⟨0, ⟨#[]⟩, 77, 0, 0⟩
def mkI : ItD := ⟨0, 0, 0, 0, 77, ⟨#[]⟩, 0, 0, 0, 0⟩
def mkB : List Value := [.string ⟨#[55, 55]⟩, .slice none 0 0, .int .i64 0, .int .i64 0]
end Go.AB
namespace Go.Proofs.YtmahcabidggmeaaGreatDoor
open Go.RowKit Go.AB
set_option linter.unusedSimpArgs false
set_option linter.unusedVariables false
set_option linter.unusedSectionVars false

def itRowM (x : BlO) : It := .row 53 10 (.slice x.ao (x.b.items.length + 1) x.cap) x.r (x.b.items.length + 1) (x.b.items.flatMap itC ++ itC mkI)
def cpD (ds : List DcD) (q : RQ) : It := .row 47 5 (.slice q.a0 (ds.length + 1) q.c0) q.r0 (ds.length + 1) (ds.flatMap dcC ++ dcC mkD)
def cpB (q : RQ) : It := .row 50 4 (.slice q.a1 (q.bs.length + 1) q.c1) q.r1 (q.bs.length + 1) (q.bs.flatMap blC ++ mkB)
def cpI (ds : List DcD) (q : RQ) : List It := cpD ds q :: cpB q :: q.bs.map itRowM
/-- A unit's copy, a mark behind each list. -/
def CpH (w w' : World) (v : Value) (u : UnD) : Prop := ∃ q : RQ, q.bks = u.blocks ∧ v = .agg #[.slice q.a0 u.decls.length q.c0, .slice q.a1 q.bs.length q.c1] ∧ Hp [] w w' (cpI u.decls q)
theorem CpH.unV {w w' : World} {v : Value} {u : UnD} (h : CpH w w' v u) : UnV w' v u := by
  obtain ⟨q, hq, rfl, hp⟩ := h
  refine ⟨_, _, q.bs.map fun x => ⟨x.b, x.v⟩, rfl, ((hp.rowAt (i := 0) rfl).pre (by omega) (flat_len dcC_len _)).view, ?_, by rw [← hq, List.map_map]; rfl, fun x hx => ?_⟩
  · have h1 := ((hp.rowAt (i := 1) rfl).pre (n := q.bs.length) (by omega) (flat_len blC_len _)).view
    have h2 : q.bs.flatMap blC = (q.bs.map fun x => (⟨x.b, x.v⟩ : BkV)).flatMap bkC := by rw [List.flatMap_map]; rfl
    rw [h2] at h1
    simpa [Lst] using h1
  · obtain ⟨y, hy, rfl⟩ := List.mem_map.1 hx
    have hm : itRowM y ∈ cpI u.decls q := by unfold cpI; simp only [List.mem_cons, List.mem_map]; exact .inr (.inr ⟨y, hy, rfl⟩)
    have hr : (itRowM y).ok w' := hp.ok _ hm
    exact (Row.pre hr (by omega) (flat_len itC_len _)).view
theorem CpH.chg {w w' : World} {v : Value} {u : UnD} (h : CpH w w' v u) : Chg [] w w' := by obtain ⟨q, _, _, hp⟩ := h; exact hp.chg

set_option maxHeartbeats 16000000 in
set_option maxRecDepth 100000 in
theorem copied_calls {v : Value} (u : UnD) (hu : SmallN u) (w : World) (hvu : UnV w v u) : Calls Tryz.prog 10 #[v] w fun e w' => ∃ v', e = .returned v' ∧ CpH w w' v' u := by
  obtain ⟨va0, va1, ts, rfl, l0, l1, hts, hit⟩ := id hvu
  obtain ⟨a0, c0, rfl, hc0, _⟩ := l0.len
  obtain ⟨a1, c1, rfl, hc1, _⟩ := l1.len
  have hd := hu.dl
  have hb := hu.bl
  have hlt : ts.length = u.blocks.length := by rw [← hts, List.length_map]
  rw [← hlt] at hb
  obtain ⟨n0, hn0⟩ : ∃ n, u.decls.length = n := ⟨_, rfl⟩
  obtain ⟨n1, hn1⟩ : ∃ n, ts.length = n := ⟨_, rfl⟩
  have l0' : View w 5 (.slice a0 n0 c0) n0 (u.decls.flatMap dcC) := by rw [← hn0]; exact l0
  rw [hn0] at hd hc0 ⊢
  rw [hn1] at hb hc1 ⊢
  have hone := one_flat one_dcl u.decls
  have HD := hid (And.intro l0' (And.intro hone (flat_len dcC_len u.decls)))
  rw [hn1] at l1
  have HB := hid (And.intro l1 (And.intro hts hit))
  have HU := hid hu
  have HN := hid (And.intro hn0 hn1)
  have hb0 := ((Hp.start (S0 := []) w (by simp)).box (.cells #[.slice a0 n0 c0, .slice a1 n1 c1] 25)).box (.cells #[.slice none 0 0, .slice none 0 0] 25)
  simp only [World.size_alloc] at hb0
  obtain ⟨wA, hwA⟩ : ∃ wA, (w.alloc (.cells #[.slice a0 n0 c0, .slice a1 n1 c1] 25)).alloc (.cells #[.slice none 0 0, .slice none 0 0] 25) = wA := ⟨_, rfl⟩
  rw [hwA] at hb0
  have H0 := hid hb0
  obtain ⟨P, hP⟩ : ∃ P, w.heap.size = P := ⟨_, rfl⟩
  rw [hP] at H0
  have u0 := H0.out.cell (i := 1) rfl 0
  simp only [List.getElem?_toArray, List.getElem?_cons_zero, List.getElem?_cons_succ] at u0
  clear hvu l0 l1 hts hit hu hn0 hn1 hone l0' hlt hb0
  go_enter Tryz.func10, Tryz.ntmps10
  go_upto_region 1 with fail
  try rw [hwA]
  try rw [hP]
  clear hwA hP
  have hvw := HD.out.1.keep (H0.out.chg) (by simp)
  have ho0 := HD.out.2.1
  go_wp2_with (at_builtin; refine wpList_grew rfl _ _ 22 rfl elem_dcl rfl (Row.nil wA _ 5) rfl hvw ho0 (by unfold maxLen; omega) (by omega) (fun ao1 cap1 r1 w1 hr1 hg1 => halt (fun X hX => ?_)))
  rw [hX.out]; clear hX
  simp only [Nat.zero_add, List.nil_append] at hr1 ⊢
  have HC1 := hid (show Chg [] wA w1 from hg1.chg)
  have HF1 := hid hg1.fresh
  clear hg1 hvw ho0 u0
  go_wp2_with (at_builtin; refine wpList_grew rfl _ _ 22 rfl elem_dcl rfl (hr1.keep ((Chg.refl [] _).alloc _) (by simp)) rfl (View.struct w1 [.int .i64 0, .string _, .int .i64 77, .int .i64 0, .int .i64 0] 47 rfl) (by simp [Value.oneCell']) (by unfold maxLen; omega) (by omega) (fun ao0 cap0 r0 w2 hr2 hg2 => halt (fun X hX => ?_)))
  rw [hX.out]; clear hX
  have hC2 : Chg [] wA w2 := HC1.out.trans (((Chg.refl [] w1).alloc _).nil.trans' hg2.chg) (fun x hx => by have := HF1.out x (by simpa using hx); exact .inr (this.resolve_left (by simp)))
  have hF2 : Fresh wA none r0 := HF1.out.trans (by have := HC1.out.size; simpa using Nat.le_succ_of_le this) hg2.fresh
  have H2 := hid (H0.out.fresh hC2 hr2 hF2)
  have hcap0 := hr2.cap
  have HCAP := hid hcap0
  clear hr1 hr2 hg2 hC2 hF2 HC1 HF1 hcap0
  go_upto_region 4 with fail
  go_loopg [4, 5] n1 (fun gk v4 v5 wr => ∃ (i : Nat) (zs : List BlO) (ao : Option Addr) (cap : Nat) (r : Option Nat), gk + i = n1 ∧ v5 = .int .i64 i ∧ v4 = .slice ao i cap ∧ Hid (zs.length = i ∧ zs.map BlO.b = (ts.take i).map BkV.b) ∧ Hid (Hp [] w wr (.box P (.cells #[.slice a0 n0 c0, .slice a1 n1 c1] 25) :: .box (P + 1) (.cells #[.slice none 0 0, .slice none 0 0] 25) :: .row 47 5 (.slice ao0 (n0 + 1) cap0) r0 (n0 + 1) (u.decls.flatMap dcC ++ dcC mkD) :: .row 50 4 (.slice ao i cap) r i (zs.flatMap blC) :: zs.map itRowM)))
  case atStart =>
    refine ⟨0, [], none, 0, none, by omega, rfl, rfl, hid ⟨rfl, rfl⟩, hid ?_⟩
    have h := (H2.out.nil 50 4).perm (List.reverse_perm _).symm
    simp only [List.reverse_cons, List.reverse_nil, List.nil_append, List.cons_append] at h
    exact h
  case round =>
    obtain ⟨i, zs, ao, cap, r, hgi, rfl, rfl, HZ, H⟩ := hrel
    have HG := hid hgi
    clear hgi
    have u1 := H.out.cell (i := 0) rfl 1
    simp only [List.getElem?_toArray, List.getElem?_cons_zero, List.getElem?_cons_succ] at u1
    by_cases hlt : i < n1
    · have hl1 : i < ts.length := by rw [HN.out.2]; exact hlt
      obtain ⟨b1, o1, e1, k1⟩ := (HB.out.1.keep H.out.chg).at bkC_len hl1 (by omega)
      have hi1 := HB.out.2.2 _ (List.getElem_mem hl1)
      have hil : ts[i].b.items.length ≤ 2097152 := HU.out.il _ (by rw [← HB.out.2.1]; exact List.mem_map.2 ⟨_, List.getElem_mem hl1, rfl⟩)
      obtain ⟨x, hx⟩ : ∃ x, ts[i] = x := ⟨_, rfl⟩
      rw [hx] at k1 hi1 hil
      have hone := one_flat one_itm x.b.items
      have hfl := flat_len itC_len x.b.items
      have HXT : Hid ((ts.take (i + 1)).map BkV.b = (ts.take i).map BkV.b ++ [x.b]) := hid (by rw [List.take_succ_eq_append_getElem hl1, List.map_append, hx]; rfl)
      clear hx
      obtain ⟨⟨nm, xi, l, c⟩, xv⟩ := x
      simp only at k1 hi1 hil hone hfl HXT
      obtain ⟨dx, kx, rfl, _⟩ := hi1.len
      obtain ⟨N, hN⟩ : ∃ N, xi.length = N := ⟨_, rfl⟩
      have hi1' : View w 10 (.slice dx N kx) N (xi.flatMap itC) := by rw [← hN]; exact hi1
      subst e1
      have x0 : wr.cell? ⟨b1, o1 + i * 4, none⟩ = some (.string nm) := k1 0 (by omega)
      have x1 : wr.cell? ⟨b1, o1 + i * 4 + 1, none⟩ = some (.slice dx N kx) := by rw [← hN]; exact k1 1 (by omega)
      have x2 : wr.cell? ⟨b1, o1 + i * 4 + 2, none⟩ = some (.int .i64 l) := k1 2 (by omega)
      have x3 : wr.cell? ⟨b1, o1 + i * 4 + 3, none⟩ = some (.int .i64 c) := k1 3 (by omega)
      rw [hN] at hil hfl
      have HI := hid (And.intro hi1' (And.intro hone (And.intro hfl hN)))
      clear k1 hi1 hi1' hone hfl hN hl1
      go_upto_region 7 with fail
      obtain ⟨wa, hwa⟩ : ∃ wa, wr.alloc (.cells #[.string nm, .slice dx N kx, .int .i64 l, .int .i64 c] 50) = wa := ⟨_, rfl⟩
      have hHa := H.out.box (.cells #[.string nm, .slice dx N kx, .int .i64 l, .int .i64 c] 50)
      rw [hwa] at hHa
      obtain ⟨A, hA⟩ : ∃ A, wr.heap.size = A := ⟨_, rfl⟩
      rw [hA] at hHa
      rw [hwa, hA]
      have HA := hid hHa
      have z1 := hHa.cell (i := 0) rfl 1
      simp only [List.getElem?_toArray, List.getElem?_cons_zero, List.getElem?_cons_succ] at z1
      clear hwa hA hHa x0 x1 x2 x3 u1 H
      have hvw := HI.out.1.keep (HA.out.chg) (by simp)
      have ho1 := HI.out.2.1
      go_wp2_with (at_builtin; refine wpList_grew rfl _ _ 48 rfl elem_itm rfl (Row.nil wa _ 10) rfl hvw ho1 (by unfold maxLen; omega) (by omega) (fun ao3 cap3 r3 w3 hr3 hg3 => halt (fun X hX => ?_)))
      rw [hX.out]; clear hX
      simp only [Nat.zero_add, List.nil_append] at hr3 ⊢
      have HC1 := hid (show Chg [] wa w3 from hg3.chg)
      have HF1 := hid hg3.fresh
      clear hg3 hvw ho1 z1
      go_wp2_with (at_builtin; refine wpList_grew rfl _ _ 48 rfl elem_itm rfl (hr3.keep ((Chg.refl [] _).alloc _) (by simp)) rfl (View.struct w3 [.int .i64 0, .int .i64 0, .int .i64 0, .int .i64 0, .int .i64 77, .string _, .int .i64 0, .int .i64 0, .int .i64 0, .int .i64 0] 53 rfl) (by simp [Value.oneCell']) (by unfold maxLen; omega) (by omega) (fun ao4 cap4 r4 w4 hr4 hg4 => halt (fun X hX => ?_)))
      rw [hX.out]; clear hX
      have hC2 : Chg [] wa w4 := HC1.out.trans (((Chg.refl [] w3).alloc _).nil.trans' hg4.chg) (fun x hx => by have := HF1.out x (by simpa using hx); exact .inr (this.resolve_left (by simp)))
      have hF2 : Fresh wa none r4 := HF1.out.trans (by have := HC1.out.size; simpa using Nat.le_succ_of_le this) hg4.fresh
      have hcap4 := hr4.cap
      have H4 := hid (HA.out.fresh hC2 hr4 hF2)
      clear hr3 hr4 hg4 hC2 hF2 HC1 HF1 HA
      have y1 := H4.out.cell (i := 1) rfl 1
      have yf := H4.out.free (i := 1) rfl
      simp only [List.getElem?_toArray, List.getElem?_cons_zero, List.getElem?_cons_succ] at y1
      have hb1 : (0 : Int) ≤ (N : Int) := by omega
      have hb2 : (N : Int) ≤ (cap4 : Int) := by omega
      have hP4 := H4.out.put 1 rfl 1 (.slice ao4 N cap4) rfl
      simp only [List.set_cons_zero, List.set_cons_succ, List.setIfInBounds_toArray] at hP4
      have HP4 := hid hP4
      clear hP4
      go_upto_region 9 with fail
      obtain ⟨w5, hw5⟩ : ∃ w5, w4.setCell ⟨A, 1, none⟩ (.slice ao4 N cap4) = w5 := ⟨_, rfl⟩
      rw [hw5] at HP4 ⊢
      clear hw5 y1 yf H4 hb1 hb2
      have q0 := HP4.out.cell (i := 1) rfl 0
      have q1 := HP4.out.cell (i := 1) rfl 1
      have q2 := HP4.out.cell (i := 1) rfl 2
      have q3 := HP4.out.cell (i := 1) rfl 3
      simp only [List.getElem?_toArray, List.getElem?_cons_zero, List.getElem?_cons_succ] at q0 q1 q2 q3
      have hrb := HP4.out.rowAt (i := 5) rfl
      go_wp2_with (at_builtin; refine wpList_grew rfl _ _ 23 rfl elem_blk rfl (hrb.keep ((Chg.refl [] _).alloc _) (by simp)) rfl (View.struct w5 [.string nm, .slice ao4 N cap4, .int .i64 l, .int .i64 c] 50 rfl) (by simp [Value.oneCell']) (by unfold maxLen; omega) (by omega) (fun ao6 cap6 r6 w6 hr6 hg6 => halt (fun X hX => ?_)))
      rw [hX.out]; clear hX
      have hH6 := HP4.out.grow 5 rfl ((Chg.refl [] w5).alloc _) hr6 hg6.chg hg6.fresh rfl
      have HH6 := hid hH6
      clear hH6 hr6 hg6 hrb q0 q1 q2 q3 HP4
      go_wp2_with fail
      go_roundg (gk - 1)
      case measure => have := HG.out; omega
      case rel =>
        refine ⟨i + 1, zs ++ [⟨⟨nm, xi, l, c⟩, ao4, cap4, r4⟩], ao6, cap6, r6, by have := HG.out; omega, by go_num, rfl, hid ⟨by rw [List.length_append, HZ.out.1]; rfl, ?_⟩, hid ?_⟩
        · rw [List.map_append, HZ.out.2, HXT.out]
          rfl
        · have h9 := HH6.out
          simp only [List.set_cons_zero, List.set_cons_succ] at h9
          have h8 := (h9.sub (.cons_cons _ (.cons _ (.refl _)))).toEnd
          simp only [List.cons_append] at h8
          have e1 : (zs ++ [(⟨⟨nm, xi, l, c⟩, ao4, cap4, r4⟩ : BlO)]).map itRowM = zs.map itRowM ++ [It.row 53 10 (.slice ao4 (N + 1) cap4) r4 (N + 1) (xi.flatMap itC ++ itC mkI)] := by
            rw [List.map_append, ← HI.out.2.2.2]
            rfl
          have e2 : (zs ++ [(⟨⟨nm, xi, l, c⟩, ao4, cap4, r4⟩ : BlO)]).flatMap blC = zs.flatMap blC ++ [.string nm, .slice ao4 N cap4, .int .i64 l, .int .i64 c] := by
            rw [List.flatMap_append, ← HI.out.2.2.2]
            rfl
          rw [e1, e2]
          exact h8
    · obtain rfl : i = n1 := by have := HG.out; omega
      have hrb := H.out.rowAt (i := 3) rfl
      go_upto_region 10 with fail
      clear u1
      go_wp2_with (at_builtin; refine wpList_grew rfl _ _ 23 rfl elem_blk rfl (hrb.keep ((Chg.refl [] _).alloc _) (by simp)) rfl (View.struct wr [.string _, .slice none 0 0, .int .i64 0, .int .i64 0] 50 rfl) (by simp [Value.oneCell']) (by unfold maxLen; omega) (by omega) (fun ao6 cap6 r6 w6 hr6 hg6 => halt (fun X hX => ?_)))
      rw [hX.out]; clear hX
      have hcap6 := hr6.cap
      have hH6 := H.out.grow 3 rfl ((Chg.refl [] wr).alloc _) hr6 hg6.chg hg6.fresh rfl
      simp only [List.set_cons_zero, List.set_cons_succ] at hH6
      have HH6 := hid hH6
      have hcap0 := HCAP.out
      clear hH6 hr6 hg6 hrb H
      go_upto_region 11 with fail
      have z0 := HH6.out.cell (i := 1) rfl 0
      have z1 := HH6.out.cell (i := 1) rfl 1
      have zf := HH6.out.free (i := 1) rfl
      simp only [List.getElem?_toArray, List.getElem?_cons_zero, List.getElem?_cons_succ] at z0 z1
      have hb1 : (0 : Int) ≤ (n0 : Int) := by omega
      have hb2 : (n0 : Int) ≤ (cap0 : Int) := by omega
      have hb3 : (0 : Int) ≤ (i : Int) := by omega
      have hb4 : (i : Int) ≤ (cap6 : Int) := by omega
      have q5 := (HH6.out.put 1 rfl 0 (.slice ao0 n0 cap0) rfl).put 1 rfl 1 (.slice ao6 i cap6) rfl
      simp only [List.set_cons_zero, List.set_cons_succ, List.setIfInBounds_toArray] at q5
      have HQ5 := hid q5
      clear q5
      go_region
      go_wp2
      obtain ⟨wC, hwC⟩ : ∃ wC, ((w6.setCell ⟨P + 1, 0, none⟩ (.slice ao0 n0 cap0)).setCell ⟨P + 1, 1, none⟩ (.slice ao6 i cap6)) = wC := ⟨_, rfl⟩
      rw [hwC] at HQ5
      try rw [hwC]
      clear hwC
      have d0 := HQ5.out.cell (i := 1) rfl 0
      have d1 := HQ5.out.cell (i := 1) rfl 1
      simp only [List.getElem?_toArray, List.getElem?_cons_zero, List.getElem?_cons_succ] at d0 d1
      have hzl : zs.length = i := HZ.out.1
      refine bodyPost_ret (v := .agg #[.slice ao0 n0 cap0, .slice ao6 i cap6]) (by simp [results, Tryz.results10, go_sem, d0, d1]) rfl ⟨_, rfl, ⟨0, 0, 0, ao0, cap0, r0, ao6, cap6, r6, zs⟩, ?_, ?_, ?_⟩
      · show zs.map BlO.b = u.blocks
        rw [HZ.out.2, List.take_of_length_le (by rw [HN.out.2]; exact Nat.le_refl _), HB.out.2.1]
      · simp only [HN.out.1, hzl]
      · have h9 := (HQ5.out.sub (.cons _ (.cons _ (.refl _)))).same (Chg.refl [] wC).drew
        show Hp [] w wC.drew (_ :: _ :: _)
        unfold cpD cpB
        simp only [HN.out.1, hzl]
        exact h9
end Go.Proofs.YtmahcabidggmeaaGreatDoor
