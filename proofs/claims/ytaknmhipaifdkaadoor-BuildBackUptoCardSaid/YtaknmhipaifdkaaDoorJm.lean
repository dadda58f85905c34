/- Walks of the builder's laws: code, copied: a program with lists of its own. (Printed by gen_copied.py.) -/
import Derived.Test.YtaknmhipaifdkaaDoorJl
import Derived.Test.YtaknmhipaifdkaaDoorJj
set_option linter.unusedSimpArgs false
set_option linter.unusedVariables false
set_option linter.unusedSectionVars false
namespace Go.AB
open Go.RowKit
theorem Hp.tail2 {S0 : List Nat} {w0 w : World} {a b : It} {M : List It} (h : Hp S0 w0 w (a :: b :: M)) : Hp S0 w0 w (M ++ [b, a]) :=
  h.perm ((List.Perm.swap b a M).trans (List.perm_append_comm (l₁ := [b, a]) (l₂ := M)))
end Go.AB
namespace Go.Proofs.YtaknmhipaifdkaaDoor
open Go.RowKit Go.AB
set_option linter.unusedSimpArgs false
set_option linter.unusedVariables false
set_option linter.unusedSectionVars false

theorem one_flat {α : Type} {f : α → List Value} (hf : ∀ x, ∀ u ∈ f x, u.oneCell' = true) (l : List α) : ∀ u ∈ l.flatMap f, u.oneCell' = true := by
  intro u hu
  obtain ⟨x, _, hx⟩ := List.mem_flatMap.1 hu
  exact hf x u hx
theorem one_varC (x : VarD) : ∀ u ∈ varC x, u.oneCell' = true := by intro u hu; simp only [varC, List.mem_cons, List.not_mem_nil, or_false] at hu; rcases hu with rfl | rfl <;> rfl
theorem one_strC (x : ByteArray) : ∀ u ∈ strC x, u.oneCell' = true := by intro u hu; simp only [strC, List.mem_cons, List.not_mem_nil, or_false] at hu; subst hu; rfl
theorem one_insC (x : InsD) : ∀ u ∈ insC x, u.oneCell' = true := by intro u hu; simp only [insC, List.mem_cons, List.not_mem_nil, or_false] at hu; rcases hu with rfl | rfl | rfl | rfl | rfl <;> rfl
theorem one_plcC (x : PlcD) : ∀ u ∈ plcC x, u.oneCell' = true := by intro u hu; simp only [plcC, List.mem_cons, List.not_mem_nil, or_false] at hu; rcases hu with rfl | rfl <;> rfl

set_option maxHeartbeats 4000000 in
set_option maxRecDepth 100000 in
theorem code_calls {v : Value} {l : List InsD} (w : World) (hv : Lst insC 5 w v l) (hl : l.length ≤ 1048576) : Calls Tryd.prog 23 #[v] w fun e w' => ∃ v' r, e = .returned v' ∧ Row w' 64 5 v' r l.length (l.flatMap insC) ∧ Chg [] w w' ∧ Fresh w none r := by
  obtain ⟨a, c, rfl, hlc, hcm, _⟩ := hv.len
  have hv1 : View w 5 (.slice a l.length c) l.length (l.flatMap insC) := hv
  have hone := one_flat one_insC l
  have HXS := hid (flat_len insC_len l)
  obtain ⟨xs, hxs⟩ : ∃ xs, l.flatMap insC = xs := ⟨_, rfl⟩
  rw [hxs] at hv1 hone HXS ⊢
  obtain ⟨n, hn⟩ : ∃ n, l.length = n := ⟨_, rfl⟩
  rw [hn] at hv1 hlc hl HXS ⊢
  clear hxs hv hn
  go_enter Tryd.func23, Tryd.ntmps23
  go_wp2_with (at_builtin; refine wpList_grew rfl _ _ 47 rfl elem_ins rfl (Row.nil w _ 5) rfl hv1 hone (by unfold maxLen; omega) (by omega) (fun ao1 cap1 r1 w1 hr1 hg1 => halt (fun X hX => ?_)))
  rw [hX.out]; clear hX
  simp only [Nat.zero_add, List.nil_append] at hr1 ⊢
  have HC1 := hid (show Chg [] w w1 from hg1.chg)
  have HF1 := hid hg1.fresh
  clear hg1
  go_wp2_with (at_builtin; refine wpList_grew rfl _ _ 47 rfl elem_ins rfl (hr1.keep ((Chg.refl [] _).alloc _) (by simp)) rfl (View.struct w1 [.int .i64 0, .int .i64 0, .int .i64 0, .int .i64 0, _] 64 rfl) (by simp [Value.oneCell']) (by unfold maxLen; omega) (by omega) (fun ao2 cap2 r2 w2 hr2 hg2 => halt (fun X hX => ?_)))
  rw [hX.out]; clear hX
  have hcap := hr2.cap
  have HR2 := hid (hr2.pre (n := n) (by omega) HXS.out)
  have HC2 := hid (HC1.out.trans (((Chg.refl [] w1).alloc _).nil.trans' hg2.chg) (fun x hx => by have := HF1.out x (by simpa using hx); exact .inr (this.resolve_left (by simp))))
  have HF2 := hid (HF1.out.trans (by have := HC1.out.size; simpa using Nat.le_succ_of_le this) hg2.fresh)
  have hb1 : (0 : Int) ≤ (n : Int) := by omega
  have hb2 : (n : Int) ≤ (cap2 : Int) := by omega
  clear hr1 hr2 hg2
  go_wp2_with fail
  exact bodyPost_ret (v := .slice ao2 n cap2) (by simp [results, Tryd.results23, go_sem]) rfl ⟨_, r2, rfl, HR2.out, HC2.out, HF2.out⟩

/-- A thread with lists of its own. -/
abbrev ThP := ThrV × Option Nat × Option Nat
def thRows (x : ThP) : List It := [.row 64 5 x.1.code x.2.1 x.1.t.code.length (x.1.t.code.flatMap insC), .row 35 2 x.1.places x.2.2 x.1.t.places.length (x.1.t.places.flatMap plcC)]
/-- A program in memory of its own. -/
def prgRows (p : PrgD) (v0 v1 v2 v3 v4 : Value) (r0 r1 r2 r3 r4 : Option Nat) (zs : List ThP) : List It :=
  .row 61 2 v0 r0 p.vars.length (p.vars.flatMap varC) :: .row 61 2 v1 r1 p.vols.length (p.vols.flatMap varC) :: .row 9 1 v2 r2 p.locks.length (p.locks.flatMap strC) :: .row 74 2 v3 r3 p.bars.length (p.bars.flatMap varC) ::
    .row 50 3 v4 r4 p.thrs.length ((zs.map Prod.fst).flatMap thrC) :: zs.flatMap thRows
structure PrgH (w0 w : World) (v : Value) (p : PrgD) : Prop where
  mk' : ∃ v0 v1 v2 v3 v4 r0 r1 r2 r3 r4 zs, v = .agg #[v0, v1, v2, v3, v4] ∧ Hp [] w0 w (prgRows p v0 v1 v2 v3 v4 r0 r1 r2 r3 r4 zs) ∧ zs.map (fun z => z.1.t) = p.thrs
theorem prg_lst {w0 w : World} {p : PrgD} {v0 v1 v2 v3 v4 : Value} {r0 r1 r2 r3 r4 : Option Nat} {zs : List ThP} (h : Hp [] w0 w (prgRows p v0 v1 v2 v3 v4 r0 r1 r2 r3 r4 zs)) (ht : zs.map (fun z => z.1.t) = p.thrs) : PrgV w (.agg #[v0, v1, v2, v3, v4]) p := by
  have hl : (zs.map Prod.fst).length = p.thrs.length := by rw [← ht]; simp
  refine ⟨v0, v1, v2, v3, v4, zs.map Prod.fst, rfl, (h.rowAt (i := 0) rfl).view, (h.rowAt (i := 1) rfl).view, (h.rowAt (i := 2) rfl).view, (h.rowAt (i := 3) rfl).view, ?_, ?_, fun x hx => ?_⟩
  · unfold Lst
    rw [hl]
    exact (h.rowAt (i := 4) rfl).view
  · rw [← ht, List.map_map]
    rfl
  · obtain ⟨z, hz, rfl⟩ := List.mem_map.1 hx
    have hm : ∀ y ∈ thRows z, y.ok w := fun y hy => h.ok y (by
      unfold prgRows
      simp only [List.mem_cons]
      exact .inr (.inr (.inr (.inr (.inr (List.mem_flatMap.2 ⟨z, hz, hy⟩))))))
    exact ⟨Row.view (hm _ (List.mem_cons_self ..)), Row.view (hm _ (List.mem_cons_of_mem _ (List.mem_cons_self ..)))⟩
theorem PrgH.prgV {w0 w : World} {v : Value} {p : PrgD} (h : PrgH w0 w v p) : PrgV w v p := by
  obtain ⟨v0, v1, v2, v3, v4, r0, r1, r2, r3, r4, zs, rfl, h1, h2⟩ := h
  exact prg_lst h1 h2
theorem thrs_at' {w : World} {ao : Option Addr} {n cap : Nat} {xs : List ThrV} (h : Lst thrC 3 w (.slice ao n cap) xs) {i : Nat} (hi : i < xs.length) {x : ThrV} (hx : xs[i] = x) : ∃ b off, ao = some ⟨b, off, none⟩ ∧
    w.cell? ⟨b, off + i * 3, none⟩ = some (.string x.t.name) ∧ w.cell? ⟨b, off + i * 3 + 1, none⟩ = some x.code ∧ w.cell? ⟨b, off + i * 3 + 2, none⟩ = some x.places := by
  subst hx
  obtain ⟨b, off, e, hc⟩ := h.at thrC_len hi (by omega)
  exact ⟨b, off, e, hc 0 (by omega), hc 1 (by omega), hc 2 (by omega)⟩

set_option maxHeartbeats 8000000 in
set_option maxRecDepth 100000 in
theorem copied_calls {v : Value} {p : PrgD} (w : World) (hv : PrgV w v p) (hp : SmallP p) : Calls Tryd.prog 13 #[v] w fun e w' => ∃ v', e = .returned v' ∧ PrgH w w' v' p := by
  obtain ⟨va0, va1, va2, va3, va4, ts, rfl, l0, l1, l2, l3, l4, hts, hth⟩ := hv
  have hs0 := hp.vars
  have hs1 := hp.vols
  have hs2 := hp.locks
  have hs3 := hp.bars
  have hs4 := hp.thrs
  have hlt : ts.length = p.thrs.length := by rw [← hts, List.length_map]
  have HTH := hid (And.intro hts (And.intro hth hlt))
  have HPN := hid hp.nthrs
  obtain ⟨p0, p1, p2, p3, pt⟩ := p
  simp only at *
  rw [← hlt] at hs4
  obtain ⟨a0, c0, rfl, hc0, _, _⟩ := l0.len
  obtain ⟨a1, c1, rfl, hc1, _, _⟩ := l1.len
  obtain ⟨a2, c2, rfl, hc2, _, _⟩ := l2.len
  obtain ⟨a3, c3, rfl, hc3, _, _⟩ := l3.len
  obtain ⟨a4, c4, rfl, hc4, _, _⟩ := l4.len
  have hone0 := one_flat one_varC p0
  have hone1 := one_flat one_varC p1
  have hone2 := one_flat one_strC p2
  have hone3 := one_flat one_varC p3
  have hone4 : ∀ u ∈ ts.flatMap thrC, u.oneCell' = true := by
    intro u hu
    obtain ⟨x, hx, hu⟩ := List.mem_flatMap.1 hu
    obtain ⟨_, _, e1, _⟩ := (hth x hx).1.len
    obtain ⟨_, _, e2, _⟩ := (hth x hx).2.len
    simp only [thrC, List.mem_cons, List.not_mem_nil, or_false] at hu
    rcases hu with rfl | rfl | rfl
    · rfl
    · rw [e1]; rfl
    · rw [e2]; rfl
  obtain ⟨n0, hn0⟩ : ∃ n, p0.length = n := ⟨_, rfl⟩
  have l0' : View w 2 (.slice a0 n0 c0) n0 (p0.flatMap varC) := by rw [← hn0]; exact l0
  rw [hn0] at hc0 hs0 ⊢
  obtain ⟨n1, hn1⟩ : ∃ n, p1.length = n := ⟨_, rfl⟩
  have l1' : View w 2 (.slice a1 n1 c1) n1 (p1.flatMap varC) := by rw [← hn1]; exact l1
  rw [hn1] at hc1 hs1 ⊢
  obtain ⟨n2, hn2⟩ : ∃ n, p2.length = n := ⟨_, rfl⟩
  have l2' : View w 1 (.slice a2 n2 c2) n2 (p2.flatMap strC) := by rw [← hn2]; exact l2
  rw [hn2] at hc2 hs2 ⊢
  obtain ⟨n3, hn3⟩ : ∃ n, p3.length = n := ⟨_, rfl⟩
  have l3' : View w 2 (.slice a3 n3 c3) n3 (p3.flatMap varC) := by rw [← hn3]; exact l3
  rw [hn3] at hc3 hs3 ⊢
  obtain ⟨n4, hn4⟩ : ∃ n, ts.length = n := ⟨_, rfl⟩
  have l4' : View w 3 (.slice a4 n4 c4) n4 (ts.flatMap thrC) := by rw [← hn4]; exact l4
  rw [hn4] at hc4 hs4 ⊢
  have HN := hid (And.intro hn0 (And.intro hn1 (And.intro hn2 (And.intro hn3 hn4))))
  have HONE := hid (And.intro hone0 (And.intro hone1 (And.intro hone2 (And.intro hone3 hone4))))
  have HV := hid (And.intro l0' (And.intro l1' (And.intro l2' (And.intro l3' l4'))))
  clear hone0 hone1 hone2 hone3 hone4 l0 l1 l2 l3 l4 l0' l1' l2' l3' l4' hn0 hn1 hn2 hn3 hn4 hts hth hlt hp
  have hb0 := ((Hp.start (S0 := []) w (by simp)).box (.cells #[.slice a0 n0 c0, .slice a1 n1 c1, .slice a2 n2 c2, .slice a3 n3 c3, .slice a4 n4 c4] 32)).box (.cells #[.slice none 0 0, .slice none 0 0, .slice none 0 0, .slice none 0 0, .slice none 0 0] 32)
  simp only [World.size_alloc] at hb0
  obtain ⟨wA, hwA⟩ : ∃ wA, (w.alloc (.cells #[.slice a0 n0 c0, .slice a1 n1 c1, .slice a2 n2 c2, .slice a3 n3 c3, .slice a4 n4 c4] 32)).alloc (.cells #[.slice none 0 0, .slice none 0 0, .slice none 0 0, .slice none 0 0, .slice none 0 0] 32) = wA := ⟨_, rfl⟩
  rw [hwA] at hb0
  have H0 := hid hb0
  have u0 := hb0.cell (i := 1) rfl 0
  have uf := hb0.free (i := 1) rfl
  simp only [List.getElem?_toArray, List.getElem?_cons_zero, List.getElem?_cons_succ] at u0
  have e0 : (w.alloc (.cells #[.slice a0 n0 c0, .slice a1 n1 c1, .slice a2 n2 c2, .slice a3 n3 c3, .slice a4 n4 c4] 32)).alloc (.cells #[.slice none 0 0, .slice none 0 0, .slice none 0 0, .slice none 0 0, .slice none 0 0] 32) = wA := hwA
  clear hb0
  go_enter Tryd.func13, Tryd.ntmps13
  go_upto_region 1 with fail
  clear hwA e0
  have hvw := HV.out.1
  have hv0 := hvw.keep (H0.out.chg) (by simp)
  have ho0 := HONE.out.1
  clear hvw
  go_wp2_with (at_builtin; refine wpList_grew rfl _ _ 27 rfl elem_var rfl (Row.nil wA _ 2) rfl hv0 ho0 (by unfold maxLen; omega) (by omega) (fun ao0 cap0 r0 wg0 hr0 hg0 => halt (fun X hX => ?_)))
  rw [hX.out]; clear hX
  simp only [Nat.zero_add, List.nil_append] at hr0 ⊢
  have hH0 := H0.out.fresh hg0.chg hr0 hg0.fresh
  have u0 := hH0.cell (i := 2) rfl 0
  have uf := hH0.free (i := 2) rfl
  simp only [List.getElem?_toArray, List.getElem?_cons_zero, List.getElem?_cons_succ] at u0
  have hP0 := hH0.put 2 rfl 0 (.slice ao0 n0 cap0) rfl
  simp only [List.set_cons_zero, List.set_cons_succ, List.setIfInBounds_toArray] at hP0
  have u1 := hP0.cell (i := 2) rfl 1
  simp only [List.getElem?_toArray, List.getElem?_cons_zero, List.getElem?_cons_succ] at u1
  have H1 := hid hP0
  clear hH0 hP0 hr0 hg0 hv0 ho0
  go_upto_region 2 with fail
  obtain ⟨w0', hw0⟩ : ∃ x, wg0.setCell ⟨w.heap.size, 0, none⟩ (.slice ao0 n0 cap0) = x := ⟨_, rfl⟩
  rw [hw0] at H1 u1
  try rw [hw0]
  clear hw0 u0 uf
  have hvw := HV.out.2.1
  have hv1 := hvw.keep (H1.out.chg) (by simp)
  have ho1 := HONE.out.2.1
  clear hvw
  go_wp2_with (at_builtin; refine wpList_grew rfl _ _ 27 rfl elem_var rfl (Row.nil w0' _ 2) rfl hv1 ho1 (by unfold maxLen; omega) (by omega) (fun ao1 cap1 r1 wg1 hr1 hg1 => halt (fun X hX => ?_)))
  rw [hX.out]; clear hX
  simp only [Nat.zero_add, List.nil_append] at hr1 ⊢
  have hH1 := H1.out.fresh hg1.chg hr1 hg1.fresh
  have u1 := hH1.cell (i := 3) rfl 1
  have uf := hH1.free (i := 3) rfl
  simp only [List.getElem?_toArray, List.getElem?_cons_zero, List.getElem?_cons_succ] at u1
  have hP1 := hH1.put 3 rfl 1 (.slice ao1 n1 cap1) rfl
  simp only [List.set_cons_zero, List.set_cons_succ, List.setIfInBounds_toArray] at hP1
  have u2 := hP1.cell (i := 3) rfl 2
  simp only [List.getElem?_toArray, List.getElem?_cons_zero, List.getElem?_cons_succ] at u2
  have H2 := hid hP1
  clear hH1 hP1 hr1 hg1 hv1 ho1
  go_upto_region 3 with fail
  obtain ⟨w1', hw1⟩ : ∃ x, wg1.setCell ⟨w.heap.size, 1, none⟩ (.slice ao1 n1 cap1) = x := ⟨_, rfl⟩
  rw [hw1] at H2 u2
  try rw [hw1]
  clear hw1 u1 uf
  have hvw := HV.out.2.2.1
  have hv2 := hvw.keep (H2.out.chg) (by simp)
  have ho2 := HONE.out.2.2.1
  clear hvw
  go_wp2_with (at_builtin; refine wpList_grew rfl _ _ 28 rfl elem_str rfl (Row.nil w1' _ 1) rfl hv2 ho2 (by unfold maxLen; omega) (by omega) (fun ao2 cap2 r2 wg2 hr2 hg2 => halt (fun X hX => ?_)))
  rw [hX.out]; clear hX
  simp only [Nat.zero_add, List.nil_append] at hr2 ⊢
  have hH2 := H2.out.fresh hg2.chg hr2 hg2.fresh
  have u2 := hH2.cell (i := 4) rfl 2
  have uf := hH2.free (i := 4) rfl
  simp only [List.getElem?_toArray, List.getElem?_cons_zero, List.getElem?_cons_succ] at u2
  have hP2 := hH2.put 4 rfl 2 (.slice ao2 n2 cap2) rfl
  simp only [List.set_cons_zero, List.set_cons_succ, List.setIfInBounds_toArray] at hP2
  have u3 := hP2.cell (i := 4) rfl 3
  simp only [List.getElem?_toArray, List.getElem?_cons_zero, List.getElem?_cons_succ] at u3
  have H3 := hid hP2
  clear hH2 hP2 hr2 hg2 hv2 ho2
  go_upto_region 4 with fail
  obtain ⟨w2', hw2⟩ : ∃ x, wg2.setCell ⟨w.heap.size, 2, none⟩ (.slice ao2 n2 cap2) = x := ⟨_, rfl⟩
  rw [hw2] at H3 u3
  try rw [hw2]
  clear hw2 u2 uf
  have hvw := HV.out.2.2.2.1
  have hv3 := hvw.keep (H3.out.chg) (by simp)
  have ho3 := HONE.out.2.2.2.1
  clear hvw
  go_wp2_with (at_builtin; refine wpList_grew rfl _ _ 29 rfl elem_bar rfl (Row.nil w2' _ 2) rfl hv3 ho3 (by unfold maxLen; omega) (by omega) (fun ao3 cap3 r3 wg3 hr3 hg3 => halt (fun X hX => ?_)))
  rw [hX.out]; clear hX
  simp only [Nat.zero_add, List.nil_append] at hr3 ⊢
  have hH3 := H3.out.fresh hg3.chg hr3 hg3.fresh
  have u3 := hH3.cell (i := 5) rfl 3
  have uf := hH3.free (i := 5) rfl
  simp only [List.getElem?_toArray, List.getElem?_cons_zero, List.getElem?_cons_succ] at u3
  have hP3 := hH3.put 5 rfl 3 (.slice ao3 n3 cap3) rfl
  simp only [List.set_cons_zero, List.set_cons_succ, List.setIfInBounds_toArray] at hP3
  have u4 := hP3.cell (i := 5) rfl 4
  simp only [List.getElem?_toArray, List.getElem?_cons_zero, List.getElem?_cons_succ] at u4
  have H4 := hid hP3
  clear hH3 hP3 hr3 hg3 hv3 ho3
  go_upto_region 5 with fail
  obtain ⟨w3', hw3⟩ : ∃ x, wg3.setCell ⟨w.heap.size, 3, none⟩ (.slice ao3 n3 cap3) = x := ⟨_, rfl⟩
  rw [hw3] at H4 u4
  try rw [hw3]
  clear hw3 u3 uf
  have hvw := HV.out.2.2.2.2
  have hv4 := hvw.keep (H4.out.chg) (by simp)
  have ho4 := HONE.out.2.2.2.2
  clear hvw
  go_wp2_with (at_builtin; refine wpList_grew rfl _ _ 30 rfl elem_thr rfl (Row.nil w3' _ 3) rfl hv4 ho4 (by unfold maxLen; omega) (by omega) (fun ao4 cap4 r4 wg4 hr4 hg4 => halt (fun X hX => ?_)))
  rw [hX.out]; clear hX
  simp only [Nat.zero_add, List.nil_append] at hr4 ⊢
  have hH4 := H4.out.fresh hg4.chg hr4 hg4.fresh
  have HJ := hid hH4
  clear hH4 hr4 hg4 hv4 ho4 u4
  have hR := HJ.out.perm (List.reverse_perm _).symm
  simp only [List.reverse_cons, List.reverse_nil, List.nil_append, List.cons_append] at hR
  have HR := hid hR
  clear hR HJ
  go_upto_region 7 with fail
  go_loopg [4] n4 (fun gk vi wr => ∃ (i : Nat) (zs : List ThP), gk + i = n4 ∧ vi = .int .i64 i ∧ Hid (zs.length = i ∧ zs.map (fun z => z.1.t) = (ts.take i).map ThrV.t) ∧ Hid (Hp [] w wr (.box w.heap.size (.cells #[.slice ao0 n0 cap0, .slice ao1 n1 cap1, .slice ao2 n2 cap2, .slice ao3 n3 cap3, .slice a4 n4 c4] 32) :: .box (w.heap.size + 1) (.cells #[.slice none 0 0, .slice none 0 0, .slice none 0 0, .slice none 0 0, .slice none 0 0] 32) :: .row 61 2 (.slice ao0 n0 cap0) r0 n0 (p0.flatMap varC) :: .row 61 2 (.slice ao1 n1 cap1) r1 n1 (p1.flatMap varC) :: .row 9 1 (.slice ao2 n2 cap2) r2 n2 (p2.flatMap strC) :: .row 74 2 (.slice ao3 n3 cap3) r3 n3 (p3.flatMap varC) :: .row 50 3 (.slice ao4 n4 cap4) r4 n4 ((zs.map Prod.fst ++ ts.drop i).flatMap thrC) :: zs.flatMap thRows)))
  case atStart => exact ⟨0, [], by omega, rfl, hid ⟨rfl, rfl⟩, HR⟩
  case round =>
    obtain ⟨i, zs, hgi, rfl, HZ, H⟩ := hrel
    by_cases hlt : i < n4
    · obtain ⟨g, rfl, rfl, hcv⟩ := (H.out.rowAt (i := 6) rfl).slice (by omega)
      have hit : i < ts.length := by rw [HN.out.2.2.2.2]; exact hlt
      obtain ⟨x, hx⟩ : ∃ x, ts[i]'hit = x := ⟨_, rfl⟩
      have hLl : (zs.map Prod.fst ++ ts.drop i).length = n4 := by
        rw [List.length_append, List.length_map, List.length_drop, HZ.out.1, HN.out.2.2.2.2]; omega
      have hLi : (zs.map Prod.fst ++ ts.drop i)[i]'(by rw [hLl]; exact hlt) = x := by
        rw [List.getElem_append_right (by rw [List.length_map, HZ.out.1]; exact Nat.le_refl _)]
        simp only [List.length_map, HZ.out.1, Nat.sub_self, List.getElem_drop, Nat.add_zero]
        exact hx
      have hmx : x ∈ ts := by rw [← hx]; exact List.getElem_mem _
      have hl := HTH.out.2.1 x hmx
      have hl1 := hl.1.keep H.out.chg
      obtain ⟨ac, kc, hxc, _⟩ := hl.1.len
      obtain ⟨apl, kp, hxp, hkp1, hkp2, _⟩ := hl.2.len
      have hsm := HPN.out x.t (by rw [← HTH.out.1]; exact List.mem_map.2 ⟨x, hmx, rfl⟩)
      have hcd := code_calls wr hl1 hsm.2.1
      have y1 := Row.atf thrC_len (H.out.rowAt (i := 6) rfl) hLl (i := i) (by rw [hLl]; exact hlt) (j := 1) (by omega)
      rw [hLi] at y1
      have x1 : wr.cell? ⟨g, i * 3 + 1, none⟩ = some (.slice ac x.t.code.length kc) := y1.trans (by rw [← hxc]; rfl)
      rw [hxc] at hcd
      have HCD := hid hcd
      have HX := hid (And.intro hx (And.intro hLl (And.intro hLi (And.intro hl (And.intro hxp hsm)))))
      have gf := (Row.cellk (H.out.rowAt (i := 6) rfl)).2.1
      clear hx hLi hmx hl hl1 hxc hxp hsm hcd y1
      go_wp2_with (go_at_call 23; refine halt (fun X hX => ?_))
      rw [hX.out]; clear hX
      refine HCD.out.mono ?_
      rintro e w2 ⟨v', r', rfl, hrow, hc2, hf2⟩
      obtain ⟨ac2, kc2, rfl⟩ := hrow.shape
      have hH1 := H.out.fresh hc2 hrow hf2
      have hH2 := hH1.putf thrC_len 7 rfl (i := i) (by rw [HX.out.2.1]; exact hlt) (⟨x.t, .slice ac2 x.t.code.length kc2, x.places⟩ : ThrV) (j := 1) (by omega) (u := .slice ac2 x.t.code.length kc2) (by rw [HX.out.2.2.1]; rfl) rfl
      simp only [List.set_cons_succ, List.set_cons_zero] at hH2
      have y0 := Row.atf thrC_len (hH1.rowAt (i := 7) rfl) HX.out.2.1 (i := i) (by rw [HX.out.2.1]; exact hlt) (j := 1) (by omega)
      have gf := (Row.cellk (hH1.rowAt (i := 7) rfl)).2.1
      have y2 := Row.atf thrC_len (hH2.rowAt (i := 7) rfl) (by rw [List.length_set]; exact HX.out.2.1) (i := i) (by rw [List.length_set, HX.out.2.1]; exact hlt) (j := 2) (by omega)
      rw [List.getElem_set_self] at y2
      have x2 : (w2.setCell ⟨g, i * 3 + 1, none⟩ (.slice ac2 x.t.code.length kc2)).cell? ⟨g, i * 3 + 2, none⟩ = some (.slice apl x.t.places.length kp) := y2.trans (by
        show some x.places = _
        rw [HX.out.2.2.2.2.1])
      have HH2 := hid hH2
      clear hH1 hH2 y2 hrow hc2 hf2 HCD x1
      go_upto_region 10 with fail
      obtain ⟨w3, hw3⟩ : ∃ w3, w2.setCell ⟨g, i * 3 + 1, none⟩ (.slice ac2 x.t.code.length kc2) = w3 := ⟨_, rfl⟩
      rw [hw3] at HH2 x2
      try rw [hw3]
      clear hw3 y0 gf
      have hpv : View w3 2 (.slice apl x.t.places.length kp) x.t.places.length (x.t.places.flatMap plcC) := by
        have h1 := HX.out.2.2.2.1.2.keep HH2.out.chg
        rw [HX.out.2.2.2.2.1] at h1
        exact h1
      have hpo := one_flat one_plcC x.t.places
      have hpb := HX.out.2.2.2.2.2.2.2
      go_wp2_with (at_builtin; refine wpList_grew rfl _ _ 48 rfl elem_plc rfl (Row.nil w3 _ 2) rfl hpv hpo (by unfold maxLen; omega) (by omega) (fun aop capp rp w4 hr4 hg4 => halt (fun X hX => ?_)))
      rw [hX.out]; clear hX
      simp only [Nat.zero_add, List.nil_append] at hr4 ⊢
      have hH3 := HH2.out.fresh hg4.chg hr4 hg4.fresh
      have hH4 := hH3.putf thrC_len 8 rfl (i := i) (by rw [List.length_set, HX.out.2.1]; exact hlt) (⟨x.t, .slice ac2 x.t.code.length kc2, .slice aop x.t.places.length capp⟩ : ThrV) (j := 2) (by omega) (u := .slice aop x.t.places.length capp) (by rw [List.getElem_set_self]; rfl) rfl
      simp only [List.set_cons_succ, List.set_cons_zero] at hH4
      have y0 := Row.atf thrC_len (hH3.rowAt (i := 8) rfl) (by rw [List.length_set]; exact HX.out.2.1) (i := i) (by rw [List.length_set, HX.out.2.1]; exact hlt) (j := 2) (by omega)
      have gf := (Row.cellk (hH3.rowAt (i := 8) rfl)).2.1
      have hH5 := hH4.tail2
      have HH5 := hid hH5
      clear hH3 hH4 hH5 hr4 hg4 hpv hpo x2 HH2 H HR
      go_wp2_with fail
      go_roundg (gk - 1)
      case measure => omega
      case rel =>
        refine ⟨i + 1, zs ++ [(⟨x.t, .slice ac2 x.t.code.length kc2, .slice aop x.t.places.length capp⟩, r', rp)], by omega, by go_num, hid ⟨by rw [List.length_append, HZ.out.1]; rfl, ?_⟩, hid ?_⟩
        · rw [List.map_append, HZ.out.2, List.take_succ_eq_append_getElem hit, List.map_append, HX.out.1]
          rfl
        · have h9 := HH5.out
          rw [List.set_set] at h9
          have e1 : (zs.map Prod.fst ++ ts.drop i).set i (⟨x.t, .slice ac2 x.t.code.length kc2, .slice aop x.t.places.length capp⟩ : ThrV) = (zs ++ [((⟨x.t, .slice ac2 x.t.code.length kc2, .slice aop x.t.places.length capp⟩ : ThrV), r', rp)]).map Prod.fst ++ ts.drop (i + 1) := by
            rw [List.set_append_right _ _ (by rw [List.length_map, HZ.out.1]; exact Nat.le_refl _), List.length_map, HZ.out.1, Nat.sub_self, List.drop_eq_getElem_cons hit, List.set_cons_zero]
            simp
          rw [e1] at h9
          have e2 : (zs ++ [((⟨x.t, .slice ac2 x.t.code.length kc2, .slice aop x.t.places.length capp⟩ : ThrV), r', rp)]).flatMap thRows = zs.flatMap thRows ++ [.row 64 5 (.slice ac2 x.t.code.length kc2) r' x.t.code.length (x.t.code.flatMap insC), .row 35 2 (.slice aop x.t.places.length capp) rp x.t.places.length (x.t.places.flatMap plcC)] := by
            rw [List.flatMap_append]
            rfl
          rw [e2]
          exact h9
    · obtain rfl : i = n4 := by omega
      have h1 := H.out
      rw [List.drop_of_length_le (by rw [HN.out.2.2.2.2]; exact Nat.le_refl _), List.append_nil] at h1
      have b4 := h1.cell (i := 0) rfl 4
      have bf := h1.free (i := 0) rfl
      have q1 := h1.put 0 rfl 4 (.slice ao4 i cap4) rfl
      simp only [List.set_cons_zero, List.set_cons_succ, List.setIfInBounds_toArray] at q1
      obtain ⟨wB, hwB⟩ : ∃ wB, wr.setCell ⟨w.heap.size, 4, none⟩ (.slice ao4 i cap4) = wB := ⟨_, rfl⟩
      rw [hwB] at q1
      simp only [List.getElem?_toArray, List.getElem?_cons_zero, List.getElem?_cons_succ] at b4
      have HQ := hid q1
      clear q1 h1
      go_upto_region 12 with fail
      try rw [hwB]
      clear hwB b4 bf
      have c0 := HQ.out.cell (i := 0) rfl 0
      have c1 := HQ.out.cell (i := 0) rfl 1
      have c2 := HQ.out.cell (i := 0) rfl 2
      have c3 := HQ.out.cell (i := 0) rfl 3
      have c4 := HQ.out.cell (i := 0) rfl 4
      have z0 := HQ.out.cell (i := 1) rfl 0
      have z1 := HQ.out.cell (i := 1) rfl 1
      have z2 := HQ.out.cell (i := 1) rfl 2
      have z3 := HQ.out.cell (i := 1) rfl 3
      have z4 := HQ.out.cell (i := 1) rfl 4
      have zf := HQ.out.free (i := 1) rfl
      simp only [List.getElem?_toArray, List.getElem?_cons_zero, List.getElem?_cons_succ] at c0 c1 c2 c3 c4 z0 z1 z2 z3 z4
      have q5 := ((((HQ.out.put 1 rfl 0 (.slice ao0 n0 cap0) rfl).put 1 rfl 1 (.slice ao1 n1 cap1) rfl).put 1 rfl 2 (.slice ao2 n2 cap2) rfl).put 1 rfl 3 (.slice ao3 n3 cap3) rfl).put 1 rfl 4 (.slice ao4 i cap4) rfl
      simp only [List.set_cons_zero, List.set_cons_succ, List.setIfInBounds_toArray] at q5
      have HQ5 := hid q5
      clear q5
      go_wp2_with fail
      obtain ⟨wC, hwC⟩ : ∃ wC, (((((wB.setCell ⟨w.heap.size + 1, 0, none⟩ (.slice ao0 n0 cap0)).setCell ⟨w.heap.size + 1, 1, none⟩ (.slice ao1 n1 cap1)).setCell ⟨w.heap.size + 1, 2, none⟩ (.slice ao2 n2 cap2)).setCell ⟨w.heap.size + 1, 3, none⟩ (.slice ao3 n3 cap3)).setCell ⟨w.heap.size + 1, 4, none⟩ (.slice ao4 i cap4)) = wC := ⟨_, rfl⟩
      rw [hwC] at HQ5
      try rw [hwC]
      clear hwC
      have d0 := HQ5.out.cell (i := 1) rfl 0
      have d1 := HQ5.out.cell (i := 1) rfl 1
      have d2 := HQ5.out.cell (i := 1) rfl 2
      have d3 := HQ5.out.cell (i := 1) rfl 3
      have d4 := HQ5.out.cell (i := 1) rfl 4
      simp only [List.getElem?_toArray, List.getElem?_cons_zero, List.getElem?_cons_succ] at d0 d1 d2 d3 d4
      refine bodyPost_ret (v := .agg #[.slice ao0 n0 cap0, .slice ao1 n1 cap1, .slice ao2 n2 cap2, .slice ao3 n3 cap3, .slice ao4 i cap4]) (by simp [results, Tryd.results13, go_sem, d0, d1, d2, d3, d4]) rfl ⟨_, rfl, ⟨_, _, _, _, _, r0, r1, r2, r3, r4, zs, rfl, ?_, ?_⟩⟩
      · have h9 := HQ5.out.sub (.cons _ (.cons _ (.refl _)))
        unfold prgRows
        have e4 : pt.length = i := by rw [← HTH.out.2.2, HN.out.2.2.2.2]
        simp only [HN.out.1, HN.out.2.1, HN.out.2.2.1, HN.out.2.2.2.1, e4]
        exact h9
      · show _ = pt
        rw [HZ.out.2, List.take_of_length_le (by rw [HN.out.2.2.2.2]; exact Nat.le_refl _), HTH.out.1]

end Go.Proofs.YtaknmhipaifdkaaDoor
