/- Walks of the builder's laws: lend, a unit with lists of its own. -/
import Derived.Test.YtaknmhipaifdkaaDoorJa
set_option linter.unusedSimpArgs false
set_option linter.unusedVariables false
set_option linter.unusedSectionVars false
namespace Go.AB
open Go.RowKit
theorem View.structAt (w : World) (cs : List Value) (t : TypeId) {k b : Nat} (hb : w.heap.size = b) (hk : cs.length = k) : View (w.alloc (.cells cs.toArray t)) k (.slice (some ⟨b, 0, none⟩) 1 1) 1 cs := by
  subst hb
  exact View.struct w cs t hk
theorem Hp.last {S0 : List Nat} {w0 w : World} {x y a b c d : It} {R : List It} (h : Hp S0 w0 w (x :: y :: a :: b :: c :: d :: R)) : Hp S0 w0 w (a :: b :: c :: d :: (R ++ [x])) :=
  (h.sub (I' := x :: a :: b :: c :: d :: R) (.cons_cons _ (.cons _ (.refl _)))).perm ((List.perm_append_singleton x (a :: b :: c :: d :: R)).symm)
end Go.AB
namespace Go.Proofs.YtaknmhipaifdkaaDoor
open Go.RowKit Go.AB
set_option linter.unusedSimpArgs false
set_option linter.unusedVariables false
set_option linter.unusedSectionVars false

theorem info_dcl : (Tryd.prog.info? 72).map (fun i => (i.zero, i.size, i.bytes)) = some (some (.agg #[.int .i64 0, .string ⟨#[]⟩, .int .i64 0, .int .i64 0, .int .i64 0]), 5, 48) := by kernel_rfl
theorem elem_dcl : ElemOk Tryd.prog 22 72 5 48 := .of Tryd.underlying22 info_dcl rfl (by decide)
theorem info_blk : (Tryd.prog.info? 56).map (fun i => (i.zero, i.size, i.bytes)) = some (some (.agg #[.string ⟨#[]⟩, .slice none 0 0, .int .i64 0, .int .i64 0]), 4, 56) := by kernel_rfl
theorem elem_blk : ElemOk Tryd.prog 23 56 4 56 := .of Tryd.underlying23 info_blk rfl (by decide)
theorem one_dcls (l : List DcD) : ∀ u ∈ l.flatMap dcC, u.oneCell' = true := by
  intro u hu
  obtain ⟨x, _, hx⟩ := List.mem_flatMap.1 hu
  simp only [dcC, List.mem_cons, List.not_mem_nil, or_false] at hx
  rcases hx with rfl | rfl | rfl | rfl | rfl <;> rfl
theorem dcls_len (l : List DcD) : (l.flatMap dcC).length = l.length * 5 := by
  induction l with
  | nil => rfl
  | cons x l ih => simp only [List.flatMap_cons, List.length_append, ih, dcC_len, List.length_cons]; omega
/-- A block with its Items in memory of their own. -/
abbrev BkO := BkV × Option Nat
def bkoC (x : BkO) : List Value := bkC x.1
theorem bkos_len (l : List BkO) : (l.flatMap bkoC).length = l.length * 4 := by
  induction l with
  | nil => rfl
  | cons x l ih => simp only [List.flatMap_cons, List.length_append, ih, bkoC, bkC_len, List.length_cons]; omega
def itRow (b : BkO) : It := .row 82 10 b.1.items b.2 b.1.b.items.length (b.1.b.items.flatMap itC)
def dRow (vd : Value) (rd : Option Nat) (ds : List DcD) : It := .row 72 5 vd rd ds.length (ds.flatMap dcC)
def tRow (vt : Value) (rt : Option Nat) (bs : List BkO) : It := .row 56 4 vt rt bs.length (bs.flatMap bkoC)
/-- A unit in memory of its own. -/
structure UnH (w0 w : World) (vd : Value) (rd : Option Nat) (ds : List DcD) (vt : Value) (rt : Option Nat) (bs : List BkO) : Prop where
  hp : Hp [] w0 w (dRow vd rd ds :: tRow vt rt bs :: bs.map itRow)
def blks (bs : List BkO) : List BkD := bs.map fun x => x.1.b
theorem UnH.unV {w0 w : World} {vd : Value} {rd : Option Nat} {ds : List DcD} {vt : Value} {rt : Option Nat} {bs : List BkO} (h : UnH w0 w vd rd ds vt rt bs) : UnV w (.agg #[vd, vt]) ⟨ds, blks bs⟩ := by
  refine ⟨vd, vt, bs.map Prod.fst, rfl, (h.hp.rowAt (i := 0) rfl).view, ?_, by simp [blks], fun x hx => ?_⟩
  · have h1 := (h.hp.rowAt (i := 1) rfl).view
    have h2 : bs.flatMap bkoC = (bs.map Prod.fst).flatMap bkC := by rw [List.flatMap_map]; rfl
    rw [h2] at h1
    simpa [Lst] using h1
  · obtain ⟨y, hy, rfl⟩ := List.mem_map.1 hx
    have hm : itRow y ∈ dRow vd rd ds :: tRow vt rt bs :: bs.map itRow := by simp; exact .inr (.inr ⟨y.1, y.2, hy, rfl⟩)
    exact Row.view (h.hp.ok _ hm)

set_option maxHeartbeats 8000000 in
set_option maxRecDepth 100000 in
theorem lend_calls {v : Value} {u : UnD} (w : World) (hv : UnV w v u) (hu : SmallU u) : Calls Tryd.prog 7 #[v] w fun e w' => ∃ vd rd vt rt bs, e = .returned (.agg #[vd, vt]) ∧ UnH w w' vd rd u.decls vt rt bs ∧ blks bs = u.blocks := by
  obtain ⟨va, vb, bs, rfl, hda, hbb, hbs, hit⟩ := hv
  obtain ⟨ds, ks⟩ := u
  obtain ⟨ad, cd, rfl, hdc, hdm, _⟩ := hda.len
  obtain ⟨ab, cb, rfl, hbc, hbm, _⟩ := hbb.len
  simp only at hda hbs ⊢
  subst hbs
  have hlb : bs.length ≤ 1048576 := by have := hu.blocks; simpa using this
  have hld : ds.length ≤ 1048576 := hu.decls
  have HU := hid hu
  have HBB := hid hbb
  have HIT := hid hit
  have hone := one_dcls ds
  have HXS := hid (dcls_len ds)
  obtain ⟨dl, hdl⟩ : ∃ dl, ds.length = dl := ⟨_, rfl⟩
  obtain ⟨w0, hw0⟩ : ∃ w0, ((w.alloc (.cells #[.slice ad dl cd, .slice ab bs.length cb] 25)).alloc (.cells #[.slice none 0 0, .slice none 0 0] 25)) = w0 := ⟨_, rfl⟩
  have hH0 : Hp [] w w0 [.box (w.heap.size + 1) (.cells #[.slice none 0 0, .slice none 0 0] 25), .box w.heap.size (.cells #[.slice ad dl cd, .slice ab bs.length cb] 25)] := by
    rw [← hw0]
    have h := ((Hp.start (S0 := []) w (by simp)).box (.cells #[.slice ad dl cd, .slice ab bs.length cb] 25)).box (.cells #[.slice none 0 0, .slice none 0 0] 25)
    simpa only [World.size_alloc] using h
  have hv1 : View w0 5 (.slice ad dl cd) dl (ds.flatMap dcC) := by
    have h := hda.keep hH0.chg
    rw [Lst, hdl] at h
    exact h
  rw [hdl] at HXS hdc hld
  obtain ⟨xs, hxs⟩ : ∃ xs, ds.flatMap dcC = xs := ⟨_, rfl⟩
  rw [hxs] at hv1 hone HXS
  have HDL := hid hdl
  have HXD := hid hxs
  have u0 := hH0.cell (i := 1) rfl 0
  have u1 := hH0.cell (i := 1) rfl 1
  simp only [List.getElem?_toArray, List.getElem?_cons_zero, List.getElem?_cons_succ] at u0 u1
  have HH0 := hid hH0
  clear hxs hda hbb hu hit hdl hH0
  have e0 : (w.alloc (.cells #[.slice ad ds.length cd, .slice ab bs.length cb] 25)).alloc (.cells #[.slice none 0 0, .slice none 0 0] 25) = w0 := by rw [HDL.out]; exact hw0
  rw [HDL.out]
  go_enter Tryd.func7, Tryd.ntmps7
  go_upto_region 1 with fail
  clear hw0 e0
  go_wp2_with (at_builtin; refine wpList_grew rfl _ _ 22 rfl elem_dcl rfl (Row.nil w0 _ 5) rfl hv1 hone (by unfold maxLen; omega) (by omega) (fun ao1 cap1 r1 w1 hr1 hg1 => halt (fun X hX => ?_)))
  rw [hX.out]; clear hX
  simp only [Nat.zero_add, List.nil_append] at hr1 ⊢
  have hH1 := (HH0.out.nil 56 4).fresh (hg1.chg) hr1 hg1.fresh
  have HH1 := hid hH1
  have u1' := hH1.cell (i := 3) rfl 1
  simp only [List.getElem?_toArray, List.getElem?_cons_zero, List.getElem?_cons_succ] at u1'
  clear hH1 hg1 hr1 u0 u1 hv1
  go_upto_region 4 with fail
  go_loopg [5, 4] bs.length (fun gk vi vt wr => ∃ (i : Nat) (at' : Option Addr) (ct : Nat) (rt : Option Nat) (os : List BkO), gk + i = bs.length ∧ vi = .int .i64 i ∧ vt = .slice at' i ct ∧ Hid (os.length = i ∧ blks os = (bs.map BkV.b).take i) ∧
    Hid (Hp [] w wr (.row 72 5 (.slice ao1 dl cap1) r1 dl xs :: .row 56 4 (.slice at' i ct) rt i (os.flatMap bkoC) :: .box (w.heap.size + 1) (.cells #[.slice none 0 0, .slice none 0 0] 25) :: .box w.heap.size (.cells #[.slice ad dl cd, .slice ab bs.length cb] 25) :: os.map itRow)))
  case atStart => exact ⟨0, none, 0, none, [], rfl, rfl, rfl, hid ⟨rfl, rfl⟩, hid HH1.out⟩
  case round =>
    obtain ⟨i, at', ct, rt, os, hgi, rfl, rfl, HO, H⟩ := hrel
    have hcw := H.out.chg
    have u1 := H.out.cell (i := 3) rfl 1
    simp only [List.getElem?_toArray, List.getElem?_cons_zero, List.getElem?_cons_succ] at u1
    by_cases hlt2 : i < bs.length
    · obtain ⟨x, hx⟩ : ∃ x, bs[i] = x := ⟨_, rfl⟩
      obtain ⟨bi, oi, hai, x0, x1, x2, x3⟩ := blocks_at (HBB.out.keep hcw) hlt2 hx
      have hmemx : x ∈ bs := by rw [← hx]; exact List.getElem_mem hlt2
      have hxn := HU.out.bn x.b (List.mem_map.2 ⟨x, hmemx, rfl⟩)
      have hxi0 := HIT.out x hmemx
      obtain ⟨ai2, ci2, hxi, _, _, _⟩ := hxi0.len
      rw [hxi] at x1 hxi0
      have hH2 := H.out.box (.cells #[.string x.b.name, .slice ai2 x.b.items.length ci2, .int .i64 x.b.l, .int .i64 x.b.c] 56)
      have hit2 := items_calls (wr.alloc (.cells #[.string x.b.name, .slice ai2 x.b.items.length ci2, .int .i64 x.b.l, .int .i64 x.b.c] 56)) (hxi0.keep hH2.chg) hxn.2.1
      have HIC := hid hit2
      have HH2 := hid hH2
      subst hai
      have HX := hid (And.intro hx hxi)
      clear hx hxi0 hxi hit2 hH2 hxn hcw
      go_wp2_with (go_at_call 18; refine halt (fun X hX => ?_))
      rw [hX.out]; clear hX
      refine HIC.out.mono ?_
      rintro e w2 ⟨v', r', rfl, hrow, hc2, hf2⟩
      have hH3 := HH2.out.fresh hc2 hrow hf2
      obtain ⟨ai3, ci3, rfl⟩ := hrow.shape
      have b0 := hH3.cell (i := 1) rfl 0
      have b1 := hH3.cell (i := 1) rfl 1
      have b2 := hH3.cell (i := 1) rfl 2
      have b3 := hH3.cell (i := 1) rfl 3
      simp only [List.getElem?_toArray, List.getElem?_cons_zero, List.getElem?_cons_succ] at b0 b1 b2 b3
      have bf := hH3.free (i := 1) rfl
      have HH3 := hid hH3
      have hH4 := hH3.put 1 rfl 1 (.slice ai3 x.b.items.length ci3) rfl
      have hrt := hH4.rowAt (i := 3) rfl
      have HH4 := hid hH4
      clear hH3 hH4 hc2 hf2 hrow HIC HH2 u1 x0 x1 x2 x3
      go_wp2_with (at_builtin; refine wpList_grew rfl _ _ 23 rfl elem_blk rfl (hrt.keep ((Chg.refl [] _).alloc _) (by simp)) rfl (View.structAt (w2.setCell ⟨wr.heap.size, 1, none⟩ (.slice ai3 x.b.items.length ci3)) [.string x.b.name, .slice ai3 x.b.items.length ci3, .int .i64 x.b.l, .int .i64 x.b.c] 56 (by simp) rfl) (by simp [Value.oneCell']) (by unfold maxLen; omega) (by omega) (fun ao2 cap2 r2 w4 hr4 hg4 => halt (fun X hX => ?_)))
      rw [hX.out]; clear hX
      have hH5 := HH4.out.grow 3 rfl ((Chg.refl [] _).alloc _) hr4 hg4.chg hg4.fresh rfl
      have HH5 := hid hH5
      clear hr4 hg4 hH5 hrt
      go_wp2_with fail
      go_roundg (gk - 1)
      case measure => omega
      case rel =>
        refine ⟨i + 1, ao2, cap2, r2, os ++ [(⟨x.b, .slice ai3 x.b.items.length ci3⟩, r')], by omega, by go_num, rfl, hid ⟨by simp [HO.out.1], ?_⟩, hid ?_⟩
        · rw [List.take_add_one, ← HO.out.2]
          simp [blks, hlt2, HX.out.1]
        · have h7 := HH5.out.last
          simpa only [List.flatMap_append, List.flatMap_cons, List.flatMap_nil, List.append_nil, bkoC, bkC, List.map_append, List.map_cons, List.map_nil, itRow] using h7
    · obtain rfl : i = bs.length := by omega
      have hos := HO.out
      have hbk : blks os = bs.map BkV.b := by rw [hos.2, List.take_of_length_le (by simp)]
      have HO2 := hid (And.intro hos.1 hbk)
      clear hos hbk hcw
      go_upto_region 10 with fail
      go_loopg [7, 3, 4] 70 (fun gk vi vd vt wr => ∃ (i : Nat) (ad' : Option Addr) (cd' : Nat) (rd : Option Nat) (at2 : Option Addr) (ct2 : Nat) (rt2 : Option Nat) (ys zs : List Value), gk + i = 70 ∧ vi = .int .i64 i ∧ vd = .slice ad' (dl + i) cd' ∧ vt = .slice at2 (bs.length + i) ct2 ∧
        Hid (Hp [] w wr (.row 72 5 (.slice ad' (dl + i) cd') rd (dl + i) (xs ++ ys) :: .row 56 4 (.slice at2 (bs.length + i) ct2) rt2 (bs.length + i) (os.flatMap bkoC ++ zs) :: .box (w.heap.size + 1) (.cells #[.slice none 0 0, .slice none 0 0] 25) :: .box w.heap.size (.cells #[.slice ad dl cd, .slice ab bs.length cb] 25) :: os.map itRow)))
      case atStart => exact ⟨0, _, _, _, _, _, _, [], [], rfl, rfl, rfl, rfl, hid (by simpa only [List.append_nil, Nat.add_zero] using H.out)⟩
      case round =>
        obtain ⟨i, ad', cd', rd, at2, ct2, rt2, ys, zs, hgi, rfl, rfl, rfl, H⟩ := hrel
        have hrd := H.out.rowAt (i := 0) rfl
        by_cases hi : i < 70
        · go_wp2_with (at_builtin; refine wpList_grew rfl _ _ 22 rfl elem_dcl rfl (hrd.keep ((Chg.refl [] _).alloc _) (by simp)) rfl (View.structAt _ [.int .i64 0, .string ⟨#[]⟩, _, .int .i64 0, .int .i64 0] 72 rfl rfl) (by simp [Value.oneCell']) (by unfold maxLen; omega) (by omega) (fun ao3 cap3 r3 w3 hr3 hg3 => halt (fun X hX => ?_)))
          rw [hX.out]; clear hX
          have hH5 := H.out.grow 0 rfl ((Chg.refl [] _).alloc _) hr3 hg3.chg hg3.fresh rfl
          have HH5 := hid hH5
          have hrt := hH5.rowAt (i := 1) rfl
          clear hr3 hg3 hH5 hrd
          go_wp2_with (at_builtin; refine wpList_grew rfl _ _ 23 rfl elem_blk rfl (hrt.keep ((Chg.refl [] _).alloc _) (by simp)) rfl (View.structAt _ [.string ⟨#[]⟩, .slice none 0 0, _, .int .i64 0] 56 rfl rfl) (by simp [Value.oneCell']) (by unfold maxLen; omega) (by omega) (fun ao4 cap4 r4 w4 hr4 hg4 => halt (fun X hX => ?_)))
          rw [hX.out]; clear hX
          have hH6 := HH5.out.grow 1 rfl ((Chg.refl [] _).alloc _) hr4 hg4.chg hg4.fresh rfl
          have HH6 := hid hH6
          clear hr4 hg4 hH6 hrt
          go_wp2_with fail
          go_roundg (gk - 1)
          case measure => omega
          case rel => exact ⟨i + 1, ao3, cap3, r3, ao4, cap4, r4, _, _, by omega, by go_num, by rw [Nat.add_assoc], by rw [Nat.add_assoc], hid (by simpa only [List.append_assoc, Nat.add_assoc, List.set_cons_zero, List.set_cons_succ] using HH6.out)⟩
        · obtain rfl : i = 70 := by omega
          have hrt := H.out.rowAt (i := 1) rfl
          have hcd := hrd.cap
          have hct := hrt.cap
          have u0 := H.out.cell (i := 3) rfl 0
          have u1 := H.out.cell (i := 3) rfl 1
          have f0 := H.out.free (i := 2) rfl 0
          have f1 := H.out.free (i := 2) rfl 1
          have r0 := H.out.cell (i := 2) rfl 0
          have r1 := H.out.cell (i := 2) rfl 1
          simp only [List.getElem?_toArray, List.getElem?_cons_zero, List.getElem?_cons_succ] at u0 u1 r0 r1
          go_upto_region 14 with fail
          have hp1 := H.out.put 2 rfl 0 (.slice ad' dl cd') rfl
          have hp2 := hp1.put 2 rfl 1 (.slice at2 bs.length ct2) rfl
          have HP2 := hid hp2
          have hne : w.heap.size ≠ w.heap.size + 1 := by omega
          have hne' : w.heap.size + 1 ≠ w.heap.size := by omega
          have HD0 := hid (hrd.pre (n := dl) (by omega) HXS.out)
          have HT0 := hid (hrt.pre (n := bs.length) (by omega) (by rw [bkos_len, HO2.out.1]))
          clear hp1 hp2 hrd hrt H
          have hd1 : (0 : Int) ≤ (dl : Int) := by omega
          have hd2 : (dl : Int) ≤ (cd' : Int) := by omega
          have hd3 : (bs.length : Int) ≤ (ct2 : Int) := by omega
          have hd4 : (0 : Int) ≤ (bs.length : Int) := by omega
          have hd5 : dl ≤ cd' := by omega
          have hd6 : bs.length ≤ ct2 := by omega
          clear hcd hct
          go_region
          have hf := HP2.out.same ((Chg.refl [] _).drew)
          have c0 := hf.cell (i := 2) rfl 0
          have c1 := hf.cell (i := 2) rfl 1
          simp only [List.set_cons_zero, List.set_cons_succ, List.getElem?_toArray, List.getElem?_cons_zero, List.getElem?_cons_succ, List.setIfInBounds_toArray] at c0 c1
          have hz1 := hf.set (i := 0) rfl (.row 72 5 (.slice ad' dl cd') rd dl xs) (S := []) (Chg.refl _ _) (by simp) ((hf.rowAt (i := 0) rfl).pre (by omega) HXS.out) (fun g hg => .inl hg) rfl
          have hz2 := hz1.set (i := 1) rfl (.row 56 4 (.slice at2 bs.length ct2) rt2 bs.length (os.flatMap bkoC)) (S := []) (Chg.refl _ _) (by simp) ((hz1.rowAt (i := 1) rfl).pre (by omega) (by rw [bkos_len, HO2.out.1])) (fun g hg => .inl hg) rfl
          have hz3 := hz2.sub (.cons_cons _ (.cons_cons _ (.cons _ (.cons _ (.refl _)))))
          have hz4 := hid hz3
          clear hz1 hz2 hz3
          obtain ⟨W, hW⟩ : ∃ W, (((wr.setCell ⟨w.heap.size + 1, 0, none⟩ (.slice ad' dl cd')).setCell ⟨w.heap.size + 1, 1, none⟩ (.slice at2 bs.length ct2)).drew) = W := ⟨_, rfl⟩
          rw [hW] at c0 c1 hz4
          simp only [hW]
          clear hW hf HP2
          have hz : UnH w W (.slice ad' dl cd') rd ds (.slice at2 bs.length ct2) rt2 os := ⟨by unfold dRow tRow; rw [HDL.out, HXD.out, HO2.out.1]; exact hz4.out⟩
          go_wp2_with fail
          exact bodyPost_ret (v := .agg #[.slice ad' dl cd', .slice at2 bs.length ct2]) (by simp [results, Tryd.results7, go_sem, c0, c1]) rfl ⟨_, rd, _, rt2, os, rfl, hz, HO2.out.2⟩
end Go.Proofs.YtaknmhipaifdkaaDoor
