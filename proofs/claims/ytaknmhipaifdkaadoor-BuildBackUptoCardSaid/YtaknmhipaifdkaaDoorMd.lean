/- Walks of the builder: Unit, a unit that says a program. (Printed by gen_bunit.py.) -/
import Derived.Test.YtaknmhipaifdkaaDoorMc
set_option linter.unusedSimpArgs false
set_option linter.unusedVariables false
set_option linter.unusedSectionVars false
namespace Go.Proofs.YtaknmhipaifdkaaDoor
open Go.RowKit Go.AB

/-- Small enough to have a unit. -/
structure UnitS (p : PrgD) : Prop where
  sm : SmallP p
  dl : (declsOf p).length ≤ 1048576
  cl : ∀ t ∈ p.thrs, t.code.length ≤ 524288
theorem name_small {p : PrgD} (h : SmallP p) {s n : Int} {nm : ByteArray} (hs : nameD p s n = some nm) : nm.size ≤ 1048576 := by
  unfold nameD at hs
  split at hs
  · cases hs
  · split at hs
    · obtain ⟨v, hv1, rfl⟩ := Option.map_eq_some_iff.1 hs
      exact h.nvars v (List.mem_of_getElem? hv1)
    · split at hs
      · obtain ⟨v, hv1, rfl⟩ := Option.map_eq_some_iff.1 hs
        exact h.nvols v (List.mem_of_getElem? hv1)
      · split at hs
        · exact h.nlocks nm (List.mem_of_getElem? hs)
        · split at hs
          · obtain ⟨v, hv1, rfl⟩ := Option.map_eq_some_iff.1 hs
            exact h.nbars v (List.mem_of_getElem? hv1)
          · split at hs
            · obtain ⟨t, ht1, rfl⟩ := Option.map_eq_some_iff.1 hs
              exact (h.nthrs t (List.mem_of_getElem? ht1)).1
            · cases hs
theorem lbl_size (code : List InsD) (hc : code.length ≤ 524288) {i : Nat} (hi : i ≤ 524288) : (lblS decS code i).size ≤ 21 := by
  show (pre1 108 (decS (lblN code i))).size ≤ 21
  rw [pre1_size]
  have h1 := @lblN_lt code i
  have := digs_len (u := lblN code i) (by omega)
  omega
theorem items_small {p : PrgD} (h : SmallP p) {code : List InsD} (hc : code.length ≤ 524288) (hr : inRange code) : ∀ (rs : List InsD) (i : Nat) (l : List ItD), (∀ x ∈ rs, x ∈ code) → i + rs.length ≤ 524288 → itemsGo decS p code i rs = some l → l.length ≤ 2 * rs.length ∧ ∀ y ∈ l, y.name.size ≤ 1048576
  | [], i, l, hm, hi, hl => by
    simp only [itemsGo, Option.some.injEq] at hl
    subst hl
    exact ⟨by simp, by simp⟩
  | x :: rs, i, l, hm, hi, hl => by
    simp only [List.length_cons] at hi
    unfold itemsGo at hl
    split at hl
    · cases hl
    · rename_i y hy
      split at hl
      · cases hl
      · rename_i l' hl'
        cases hl
        have ih := items_small h hc hr rs (i + 1) l' (fun z hz => hm z (List.mem_cons_of_mem _ hz)) (by omega) hl'
        have hyn : y.name.size ≤ 1048576 := by
          unfold itemD at hy
          split at hy
          · cases hy
          · split at hy
            · cases hy
              exact Nat.zero_le _
            · split at hy
              · rename_i h6
                cases hy
                have h2 := hr x (hm x (List.mem_cons_self ..)) h6
                have := lbl_size code hc (i := x.n.toNat) (by omega)
                simp only
                omega
              · split at hy
                · obtain ⟨s, hs, rfl⟩ := Option.map_eq_some_iff.1 hy
                  exact name_small h hs
                · split at hy
                  · cases hy
                    exact Nat.zero_le _
                  · cases hy
        have hln := lbl_size code hc (i := i) (by omega)
        by_cases ht : isTgt code i = true
        · rw [if_pos ht]
          refine ⟨by simp only [List.length_append, List.length_cons, List.length_nil]; omega, fun z hz => ?_⟩
          simp only [List.cons_append, List.nil_append, List.mem_cons] at hz
          rcases hz with rfl | rfl | hz
          · show (lblS decS code i).size ≤ _
            omega
          · exact hyn
          · exact ih.2 z hz
        · rw [if_neg ht]
          refine ⟨by simp only [List.length_append, List.length_cons, List.length_nil]; omega, fun z hz => ?_⟩
          simp only [List.cons_append, List.nil_append, List.mem_cons] at hz
          rcases hz with rfl | hz
          · exact hyn
          · exact ih.2 z hz
theorem blocks_small {p : PrgD} (h : UnitS p) : ∀ (rs : List ThrD) (ks : List BkD), (∀ t ∈ rs, t ∈ p.thrs) → blocksOf decS p rs = some ks → ∀ k ∈ ks, k.name.size ≤ 4294967296 ∧ k.items.length ≤ 1048576 ∧ ∀ x ∈ k.items, x.name.size ≤ 4294967296
  | [], ks, hm, hk => by
    simp only [blocksOf, Option.some.injEq] at hk
    subst hk
    intro k hk
    cases hk
  | t :: rs, ks, hm, hk => by
    unfold blocksOf at hk
    split at hk
    · cases hk
    · rename_i k hk1
      split at hk
      · cases hk
      · rename_i l hl
        cases hk
        have ih := blocks_small h rs l (fun z hz => hm z (List.mem_cons_of_mem _ hz)) hl
        have ht := hm t (List.mem_cons_self ..)
        intro k' hk'
        rcases List.mem_cons.1 hk' with rfl | hk'
        · unfold blockD at hk1
          split at hk1
          · rename_i hr
            obtain ⟨il, hil, rfl⟩ := Option.map_eq_some_iff.1 hk1
            have h1 := items_small h.sm (h.cl t ht) (eqB_prop hr) t.code 0 il (fun x hx => hx) (by have := h.cl t ht; omega) hil
            have h2 := h.cl t ht
            refine ⟨?_, ?_, fun x hx => ?_⟩
            · have := (h.sm.nthrs t ht).1
              simp only
              omega
            · simp only
              omega
            · have := h1.2 x hx
              omega
          · cases hk1
        · exact ih k' hk'
theorem unit_small {p : PrgD} (h : UnitS p) {ks : List BkD} (hk : blocksOf decS p p.thrs = some ks) : SmallU ⟨declsOf p, ks⟩ := by
  refine ⟨h.dl, ?_, fun d hd => ?_, blocks_small h p.thrs ks (fun t ht => ht) hk⟩
  · have := (blocks_names _ _ hk).2
    have h2 := h.sm.thrs
    simp only
    omega
  · unfold declsOf at hd
    simp only [List.mem_append, List.mem_map] at hd
    rcases hd with ((⟨v, hv, rfl⟩ | ⟨v, hv, rfl⟩) | ⟨v, hv, rfl⟩) | ⟨v, hv, rfl⟩
    · have := h.sm.nvars v hv
      show v.name.size ≤ _
      omega
    · have := h.sm.nvols v hv
      show v.name.size ≤ _
      omega
    · have := h.sm.nlocks v hv
      show v.size ≤ _
      omega
    · have := h.sm.nbars v hv
      show v.name.size ≤ _
      omega
/-- What Unit answers. -/
def UnitP (w : World) (o : Option UnD) (e : Ending) (w' : World) : Prop :=
  (o = none ∧ e = .returned (.tuple #[.agg #[.slice none 0 0, .slice none 0 0], .int .i64 4]) ∧ Chg [] w w') ∨
  ∃ u vd rd vt rt bs, o = some u ∧ e = .returned (.tuple #[.agg #[vd, vt], .int .i64 0]) ∧ UnH w w' vd rd u.decls vt rt bs ∧ blks bs = u.blocks

set_option maxHeartbeats 16000000 in
set_option maxRecDepth 100000 in
theorem unit_calls {v : Value} {p : PrgD} (w : World) (hv : PrgV w v p) (hs : UnitS p) (htab : Pow10 w) : Calls Tryd.prog 8 #[v] w (UnitP w (unitD decS p)) := by
  obtain ⟨x0, n0, c0, x1, n1, c1, x2, n2, c2, x3, n3, c3, x4, n4, c4, ts, rfl, hb⟩ := prgv_boxed hv
  obtain ⟨O, hO⟩ : ∃ O, unitD decS p = O := ⟨_, rfl⟩
  rw [hO]
  unfold unitD at hO
  have hdl := hs.dl
  have hdl2 : n0 + n1 + n2 + n3 ≤ 1048576 := by
    unfold declsOf at hdl
    simp only [List.length_append, List.length_map, hb.e0, hb.e1, hb.e2, hb.e3] at hdl
    omega
  have hn4 : n4 ≤ 1048576 := by
    have h1 := hs.sm.thrs
    rw [← hb.th, List.length_map, hb.e4] at h1
    exact h1
  have hn0 : n0 ≤ 1048576 := by omega
  have hn1 : n1 ≤ 1048576 := by omega
  have hn2 : n2 ≤ 1048576 := by omega
  have hn3 : n3 ≤ 1048576 := by omega
  have hp0 := (((Hp.start (S0 := []) w (by simp)).box (.cells #[.slice x0 n0 c0, .slice x1 n1 c1, .slice x2 n2 c2, .slice x3 n3 c3, .slice x4 n4 c4] 32)).box (.cells #[.slice none 0 0, .slice none 0 0] 25)).box (.cells #[.slice none 0 0, .slice none 0 0] 25)
  simp only [World.size_alloc] at hp0
  have HP0 := hid (hp0.nil 72 5)
  have hcb : Chg [] w (w.alloc (.cells #[.slice x0 n0 c0, .slice x1 n1 c1, .slice x2 n2 c2, .slice x3 n3 c3, .slice x4 n4 c4] 32)) := (Chg.refl [] w).alloc _
  have HB := hid (show ∀ W, Chg [] (w.alloc (.cells #[.slice x0 n0 c0, .slice x1 n1 c1, .slice x2 n2 c2, .slice x3 n3 c3, .slice x4 n4 c4] 32)) W → PB W w.heap.size x0 n0 c0 x1 n1 c1 x2 n2 c2 x3 n3 c3 x4 n4 c4 p ts from fun W h => hb.keep h)
  have HPV := hid (fun W (h : Chg [] w W) => hv.keep h)
  have HTAB := hid (fun W (h : Chg [] w W) => htab.keep h)
  have HS := hid hs
  have HO := hid hO
  have HLEN := hid (And.intro hb.e0 (And.intro hb.e1 (And.intro hb.e2 (And.intro hb.e3 (And.intro hb.e4 hb.th)))))
  obtain ⟨wp, hwp⟩ : ∃ wp, w.alloc (.cells #[.slice x0 n0 c0, .slice x1 n1 c1, .slice x2 n2 c2, .slice x3 n3 c3, .slice x4 n4 c4] 32) = wp := ⟨_, rfl⟩
  have HB0 := hid hb
  have hb0 := hb
  rw [hwp] at HB hb0
  have hcp : Chg [] wp ((wp.alloc (.cells #[.slice none 0 0, .slice none 0 0] 25)).alloc (.cells #[.slice none 0 0, .slice none 0 0] 25)) := ((Chg.refl [] wp).alloc _).alloc _
  rw [hwp] at HP0
  have HCP := hid hcp
  have HWP := hid hwp
  have hb1 := hb0.keep hcp
  have u0 := hb1.u0
  have hszp : wp.heap.size = w.heap.size + 1 := by rw [← hwp]; simp
  have HSZ := hid hszp
  clear hb hb0 hv hs htab hO hdl hp0 hcb hwp hcp hb1 hszp HB0
  go_enter Tryd.func8, Tryd.ntmps8
  go_upto_region 3 with fail
  try rw [HWP.out]
  clear u0
  go_loopg [22] n0 (fun gk vi wr => ∃ (k len : Nat) (ao : Option Addr) (cap : Nat) (r : Option Nat), gk + k = n0 ∧ vi = .int .i64 k ∧ len ≤ 0 + k ∧ Hid (((p.vars.take k).map varDc).length = len) ∧ Hid (Chg [] wp wr) ∧ Hid (Hp [] w wr (.row 72 5 (.slice ao len cap) r len (((p.vars.take k).map varDc).flatMap dcC) :: .box (w.heap.size + 1 + 1) (.cells #[.slice ao len cap, .slice none 0 0] 25) :: .box (w.heap.size + 1) (.cells #[.slice none 0 0, .slice none 0 0] 25) :: .box w.heap.size (.cells #[.slice x0 n0 c0, .slice x1 n1 c1, .slice x2 n2 c2, .slice x3 n3 c3, .slice x4 n4 c4] 32) :: [])))
  case atStart => exact ⟨0, 0, none, 0, none, by omega, rfl, by omega, hid (by simp), HCP, HP0⟩
  case round =>
    obtain ⟨k, len, ao, cap, r, hgk, rfl, hlen, HLN, HCW, H⟩ := hrel
    by_cases hk : k < n0
    · have hkl : k < p.vars.length := by rw [HLEN.out.1]; exact hk
      obtain ⟨x, hx⟩ : ∃ x, p.vars[k]'hkl = x := ⟨_, rfl⟩
      obtain ⟨b1, o1, e1, q1⟩ := ((HB.out wr HCW.out).l0).at varC_len hkl (by omega)
      rw [hx] at q1
      have z0 : wr.cell? ⟨b1, o1 + k * 2, none⟩ = some (.string x.name) := q1 0 (by omega)
      have z1 : wr.cell? ⟨b1, o1 + k * 2 + 1, none⟩ = some (.int .i64 x.first) := q1 1 (by omega)
      have HX := hid (show (p.vars.take (k + 1)).map varDc = (p.vars.take k).map varDc ++ [varDc x] from by rw [List.take_succ_eq_append_getElem hkl, hx, List.map_append]; rfl)
      subst e1
      clear q1 hx
      have hH1 := H.out.box (.cells #[.string x.name, .int .i64 x.first] 61)
      have v0 := hH1.cell (i := 2) rfl 0
      have w0 := hH1.cell (i := 0) rfl 0
      have w1 := hH1.cell (i := 0) rfl 1
      simp only [List.getElem?_toArray, List.getElem?_cons_zero, List.getElem?_cons_succ] at v0 w0 w1
      have HH1 := hid hH1
      have hcw2 : Chg [] wp (wr.alloc (.cells #[.string x.name, .int .i64 x.first] 61)) := HCW.out.alloc _
      go_upto_region 5 with fail
      obtain ⟨wD, hwD⟩ : ∃ y, wr.alloc (.cells #[.string x.name, .int .i64 x.first] 61) = y := ⟨_, rfl⟩
      rw [hwD] at HH1 hcw2 v0 w0 w1
      try rw [hwD]
      obtain ⟨bx, hbx⟩ : ∃ y, wr.heap.size = y := ⟨_, rfl⟩
      rw [hbx] at HH1 w0 w1
      try rw [hbx]
      clear hwD hbx z0 z1 hH1
      have HCW2 := hid hcw2
      have hrow := HH1.out.rowAt (i := 1) rfl
      clear hcw2
      go_wp2_with (at_builtin; refine wpList_grew rfl _ _ 22 rfl elem_dcl rfl (hrow.keep ((Chg.refl [] _).alloc _) (by simp)) rfl (View.structAt wD [.int .i64 1, .string x.name, .int .i64 x.first, .int .i64 0, .int .i64 0] 72 rfl rfl) (by simp [Value.oneCell']) (by unfold maxLen; omega) (by omega) (fun ao8 cap8 r8 w8 hr8 hg8 => halt (fun X hX => ?_)))
      rw [hX.out]; clear hX
      have hH8 := HH1.out.grow 1 rfl ((Chg.refl [] _).alloc _) hr8 hg8.chg hg8.fresh rfl
      have v8 := hH8.cell (i := 2) rfl 0
      have f8 := hH8.free (i := 2) rfl
      simp only [List.set_cons_zero, List.set_cons_succ, List.getElem?_toArray, List.getElem?_cons_zero, List.getElem?_cons_succ] at v8
      have hP8 := hH8.put 2 rfl 0 (.slice ao8 (len + 1) cap8) rfl
      simp only [List.set_cons_zero, List.set_cons_succ, List.setIfInBounds_toArray] at hP8
      have hcw8 : Chg [] wp (w8.setCell ⟨w.heap.size + 1 + 1, 0, none⟩ (.slice ao8 (len + 1) cap8)) := by
        refine Chg.setCell (HCW2.out.trans (((Chg.refl [] wD).alloc (.cells #[.int .i64 1, .string x.name, .int .i64 x.first, .int .i64 0, .int .i64 0] 72)).nil.trans' hg8.chg) (fun y hy => .inr ?_)) (.inr ?_) _
        · have h9 := HH1.out.lo _ (List.mem_of_getElem? (i := 1) rfl) y (by simpa [It.blk] using hy)
          have h7 := HH1.out.ne (i := 4) (j := 1) (g := w.heap.size) rfl rfl (by decide) rfl
          have h6 : y ≠ w.heap.size := fun e => h7 (by simpa [It.blk, e] using hy)
          rw [HSZ.out]; omega
        · rw [HSZ.out]; simp only; omega
      have HP8 := hid (hP8.sub (.cons _ (.refl _)))
      have HCW8 := hid hcw8
      clear hH8 hP8 hcw8 hrow hr8 hg8 v0 w0 w1
      go_wp2_with fail
      go_roundg (gk - 1)
      case measure => omega
      case rel =>
        refine ⟨k + 1, len + 1, ao8, cap8, r8, by omega, by go_num, by omega, hid ?_, HCW8, hid ?_⟩
        · rw [HX.out, List.length_append, HLN.out]; rfl
        · rw [HX.out, List.flatMap_append, List.flatMap_cons, List.flatMap_nil, List.append_nil]; exact HP8.out
    · obtain rfl : k = n0 := by omega
      have hta : p.vars.take k = p.vars := List.take_of_length_le (by rw [HLEN.out.1]; exact Nat.le_refl _)
      rw [hta] at H HLN
      have HHH := H
      clear H hta
      obtain ⟨n0, hq0⟩ : ∃ n, n = k := ⟨_, rfl⟩
      subst hq0
      have u1 := (HB.out _ HCW.out).u1
      go_upto_region 8 with fail
      clear u1
      go_loopg [40] n1 (fun gk vi wr => ∃ (k len : Nat) (ao : Option Addr) (cap : Nat) (r : Option Nat), gk + k = n1 ∧ vi = .int .i64 k ∧ len ≤ n0 + k ∧ Hid ((p.vars.map varDc ++ (p.vols.take k).map volDc).length = len) ∧ Hid (Chg [] wp wr) ∧ Hid (Hp [] w wr (.row 72 5 (.slice ao len cap) r len ((p.vars.map varDc ++ (p.vols.take k).map volDc).flatMap dcC) :: .box (w.heap.size + 1 + 1) (.cells #[.slice ao len cap, .slice none 0 0] 25) :: .box (w.heap.size + 1) (.cells #[.slice none 0 0, .slice none 0 0] 25) :: .box w.heap.size (.cells #[.slice x0 n0 c0, .slice x1 n1 c1, .slice x2 n2 c2, .slice x3 n3 c3, .slice x4 n4 c4] 32) :: [])))
      case atStart => exact ⟨0, len, ao, cap, r, by omega, rfl, by omega, hid (by have h9 := HLN.out; simpa using h9), HCW, hid (by have h9 := HHH.out; simpa only [List.take_zero, List.map_nil, List.append_nil] using h9)⟩
      case round =>
        obtain ⟨k, len, ao, cap, r, hgk, rfl, hlen, HLN, HCW, H⟩ := hrel
        by_cases hk : k < n1
        · have hkl : k < p.vols.length := by rw [HLEN.out.2.1]; exact hk
          obtain ⟨x, hx⟩ : ∃ x, p.vols[k]'hkl = x := ⟨_, rfl⟩
          obtain ⟨b1, o1, e1, q1⟩ := ((HB.out wr HCW.out).l1).at varC_len hkl (by omega)
          rw [hx] at q1
          have z0 : wr.cell? ⟨b1, o1 + k * 2, none⟩ = some (.string x.name) := q1 0 (by omega)
          have z1 : wr.cell? ⟨b1, o1 + k * 2 + 1, none⟩ = some (.int .i64 x.first) := q1 1 (by omega)
          have HX := hid (show (p.vols.take (k + 1)).map volDc = (p.vols.take k).map volDc ++ [volDc x] from by rw [List.take_succ_eq_append_getElem hkl, hx, List.map_append]; rfl)
          subst e1
          clear q1 hx
          have hH1 := H.out.box (.cells #[.string x.name, .int .i64 x.first] 61)
          have v0 := hH1.cell (i := 2) rfl 0
          have w0 := hH1.cell (i := 0) rfl 0
          have w1 := hH1.cell (i := 0) rfl 1
          simp only [List.getElem?_toArray, List.getElem?_cons_zero, List.getElem?_cons_succ] at v0 w0 w1
          have HH1 := hid hH1
          have hcw2 : Chg [] wp (wr.alloc (.cells #[.string x.name, .int .i64 x.first] 61)) := HCW.out.alloc _
          go_upto_region 10 with fail
          obtain ⟨wD, hwD⟩ : ∃ y, wr.alloc (.cells #[.string x.name, .int .i64 x.first] 61) = y := ⟨_, rfl⟩
          rw [hwD] at HH1 hcw2 v0 w0 w1
          try rw [hwD]
          obtain ⟨bx, hbx⟩ : ∃ y, wr.heap.size = y := ⟨_, rfl⟩
          rw [hbx] at HH1 w0 w1
          try rw [hbx]
          clear hwD hbx z0 z1 hH1
          have HCW2 := hid hcw2
          have hrow := HH1.out.rowAt (i := 1) rfl
          clear hcw2
          go_wp2_with (at_builtin; refine wpList_grew rfl _ _ 22 rfl elem_dcl rfl (hrow.keep ((Chg.refl [] _).alloc _) (by simp)) rfl (View.structAt wD [.int .i64 2, .string x.name, .int .i64 x.first, .int .i64 0, .int .i64 0] 72 rfl rfl) (by simp [Value.oneCell']) (by unfold maxLen; omega) (by omega) (fun ao8 cap8 r8 w8 hr8 hg8 => halt (fun X hX => ?_)))
          rw [hX.out]; clear hX
          have hH8 := HH1.out.grow 1 rfl ((Chg.refl [] _).alloc _) hr8 hg8.chg hg8.fresh rfl
          have v8 := hH8.cell (i := 2) rfl 0
          have f8 := hH8.free (i := 2) rfl
          simp only [List.set_cons_zero, List.set_cons_succ, List.getElem?_toArray, List.getElem?_cons_zero, List.getElem?_cons_succ] at v8
          have hP8 := hH8.put 2 rfl 0 (.slice ao8 (len + 1) cap8) rfl
          simp only [List.set_cons_zero, List.set_cons_succ, List.setIfInBounds_toArray] at hP8
          have hcw8 : Chg [] wp (w8.setCell ⟨w.heap.size + 1 + 1, 0, none⟩ (.slice ao8 (len + 1) cap8)) := by
            refine Chg.setCell (HCW2.out.trans (((Chg.refl [] wD).alloc (.cells #[.int .i64 2, .string x.name, .int .i64 x.first, .int .i64 0, .int .i64 0] 72)).nil.trans' hg8.chg) (fun y hy => .inr ?_)) (.inr ?_) _
            · have h9 := HH1.out.lo _ (List.mem_of_getElem? (i := 1) rfl) y (by simpa [It.blk] using hy)
              have h7 := HH1.out.ne (i := 4) (j := 1) (g := w.heap.size) rfl rfl (by decide) rfl
              have h6 : y ≠ w.heap.size := fun e => h7 (by simpa [It.blk, e] using hy)
              rw [HSZ.out]; omega
            · rw [HSZ.out]; simp only; omega
          have HP8 := hid (hP8.sub (.cons _ (.refl _)))
          have HCW8 := hid hcw8
          clear hH8 hP8 hcw8 hrow hr8 hg8 v0 w0 w1
          go_wp2_with fail
          go_roundg (gk - 1)
          case measure => omega
          case rel =>
            refine ⟨k + 1, len + 1, ao8, cap8, r8, by omega, by go_num, by omega, hid ?_, HCW8, hid ?_⟩
            · rw [HX.out, ← List.append_assoc, List.length_append, HLN.out]; rfl
            · rw [HX.out, ← List.append_assoc, List.flatMap_append, List.flatMap_cons, List.flatMap_nil, List.append_nil]; exact HP8.out
        · obtain rfl : k = n1 := by omega
          have hta : p.vols.take k = p.vols := List.take_of_length_le (by rw [HLEN.out.2.1]; exact Nat.le_refl _)
          rw [hta] at H HLN
          have HHH := H
          clear H hta
          obtain ⟨n1, hq1⟩ : ∃ n, n = k := ⟨_, rfl⟩
          subst hq1
          have u2 := (HB.out _ HCW.out).u2
          go_upto_region 13 with fail
          clear u2
          go_loopg [58] n2 (fun gk vi wr => ∃ (k len : Nat) (ao : Option Addr) (cap : Nat) (r : Option Nat), gk + k = n2 ∧ vi = .int .i64 k ∧ len ≤ n0 + n1 + k ∧ Hid ((p.vars.map varDc ++ p.vols.map volDc ++ (p.locks.take k).map lockDc).length = len) ∧ Hid (Chg [] wp wr) ∧ Hid (Hp [] w wr (.row 72 5 (.slice ao len cap) r len ((p.vars.map varDc ++ p.vols.map volDc ++ (p.locks.take k).map lockDc).flatMap dcC) :: .box (w.heap.size + 1 + 1) (.cells #[.slice ao len cap, .slice none 0 0] 25) :: .box (w.heap.size + 1) (.cells #[.slice none 0 0, .slice none 0 0] 25) :: .box w.heap.size (.cells #[.slice x0 n0 c0, .slice x1 n1 c1, .slice x2 n2 c2, .slice x3 n3 c3, .slice x4 n4 c4] 32) :: [])))
          case atStart => exact ⟨0, len, ao, cap, r, by omega, rfl, by omega, hid (by have h9 := HLN.out; simpa using h9), HCW, hid (by have h9 := HHH.out; simpa only [List.take_zero, List.map_nil, List.append_nil] using h9)⟩
          case round =>
            obtain ⟨k, len, ao, cap, r, hgk, rfl, hlen, HLN, HCW, H⟩ := hrel
            by_cases hk : k < n2
            · have hkl : k < p.locks.length := by rw [HLEN.out.2.2.1]; exact hk
              obtain ⟨x, hx⟩ : ∃ x, p.locks[k]'hkl = x := ⟨_, rfl⟩
              obtain ⟨b1, o1, e1, q1⟩ := ((HB.out wr HCW.out).l2).at strC_len hkl (by omega)
              rw [hx] at q1
              have z0 : wr.cell? ⟨b1, o1 + k, none⟩ = some (.string x) := by have h9 := q1 0 (by omega); rw [Nat.mul_one] at h9; exact h9
              have HX := hid (show (p.locks.take (k + 1)).map lockDc = (p.locks.take k).map lockDc ++ [lockDc x] from by rw [List.take_succ_eq_append_getElem hkl, hx, List.map_append]; rfl)
              subst e1
              clear q1 hx
              have v0 := H.out.cell (i := 1) rfl 0
              simp only [List.getElem?_toArray, List.getElem?_cons_zero, List.getElem?_cons_succ] at v0
              have HH1 := H
              have hcw2 : Chg [] wp wr := HCW.out
              obtain ⟨wD, hwD⟩ : ∃ y, y = wr := ⟨_, rfl⟩
              subst hwD
              have HCW2 := hid hcw2
              have hrow := HH1.out.rowAt (i := 0) rfl
              clear hcw2
              go_wp2_with (at_builtin; refine wpList_grew rfl _ _ 22 rfl elem_dcl rfl (hrow.keep ((Chg.refl [] _).alloc _) (by simp)) rfl (View.structAt wD [.int .i64 3, .string x, .int .i64 0, .int .i64 0, .int .i64 0] 72 rfl rfl) (by simp [Value.oneCell']) (by unfold maxLen; omega) (by omega) (fun ao8 cap8 r8 w8 hr8 hg8 => halt (fun X hX => ?_)))
              rw [hX.out]; clear hX
              have hH8 := HH1.out.grow 0 rfl ((Chg.refl [] _).alloc _) hr8 hg8.chg hg8.fresh rfl
              have v8 := hH8.cell (i := 1) rfl 0
              have f8 := hH8.free (i := 1) rfl
              simp only [List.set_cons_zero, List.set_cons_succ, List.getElem?_toArray, List.getElem?_cons_zero, List.getElem?_cons_succ] at v8
              have hP8 := hH8.put 1 rfl 0 (.slice ao8 (len + 1) cap8) rfl
              simp only [List.set_cons_zero, List.set_cons_succ, List.setIfInBounds_toArray] at hP8
              have hcw8 : Chg [] wp (w8.setCell ⟨w.heap.size + 1 + 1, 0, none⟩ (.slice ao8 (len + 1) cap8)) := by
                refine Chg.setCell (HCW2.out.trans (((Chg.refl [] wD).alloc (.cells #[.int .i64 3, .string x, .int .i64 0, .int .i64 0, .int .i64 0] 72)).nil.trans' hg8.chg) (fun y hy => .inr ?_)) (.inr ?_) _
                · have h9 := HH1.out.lo _ (List.mem_of_getElem? (i := 0) rfl) y (by simpa [It.blk] using hy)
                  have h7 := HH1.out.ne (i := 3) (j := 0) (g := w.heap.size) rfl rfl (by decide) rfl
                  have h6 : y ≠ w.heap.size := fun e => h7 (by simpa [It.blk, e] using hy)
                  rw [HSZ.out]; omega
                · rw [HSZ.out]; simp only; omega
              have HP8 := hid (hP8)
              have HCW8 := hid hcw8
              clear hH8 hP8 hcw8 hrow hr8 hg8 v0 
              go_wp2_with fail
              go_roundg (gk - 1)
              case measure => omega
              case rel =>
                refine ⟨k + 1, len + 1, ao8, cap8, r8, by omega, by go_num, by omega, hid ?_, HCW8, hid ?_⟩
                · rw [HX.out, ← List.append_assoc, List.length_append, HLN.out]; rfl
                · rw [HX.out, ← List.append_assoc, List.flatMap_append, List.flatMap_cons, List.flatMap_nil, List.append_nil]; exact HP8.out
            · obtain rfl : k = n2 := by omega
              have hta : p.locks.take k = p.locks := List.take_of_length_le (by rw [HLEN.out.2.2.1]; exact Nat.le_refl _)
              rw [hta] at H HLN
              have HHH := H
              clear H hta
              obtain ⟨n2, hq2⟩ : ∃ n, n = k := ⟨_, rfl⟩
              subst hq2
              have u3 := (HB.out _ HCW.out).u3
              go_upto_region 18 with fail
              clear u3
              go_loopg [73] n3 (fun gk vi wr => ∃ (k len : Nat) (ao : Option Addr) (cap : Nat) (r : Option Nat), gk + k = n3 ∧ vi = .int .i64 k ∧ len ≤ n0 + n1 + n2 + k ∧ Hid ((p.vars.map varDc ++ p.vols.map volDc ++ p.locks.map lockDc ++ (p.bars.take k).map barDc).length = len) ∧ Hid (Chg [] wp wr) ∧ Hid (Hp [] w wr (.row 72 5 (.slice ao len cap) r len ((p.vars.map varDc ++ p.vols.map volDc ++ p.locks.map lockDc ++ (p.bars.take k).map barDc).flatMap dcC) :: .box (w.heap.size + 1 + 1) (.cells #[.slice ao len cap, .slice none 0 0] 25) :: .box (w.heap.size + 1) (.cells #[.slice none 0 0, .slice none 0 0] 25) :: .box w.heap.size (.cells #[.slice x0 n0 c0, .slice x1 n1 c1, .slice x2 n2 c2, .slice x3 n3 c3, .slice x4 n4 c4] 32) :: [])))
              case atStart => exact ⟨0, len, ao, cap, r, by omega, rfl, by omega, hid (by have h9 := HLN.out; simpa using h9), HCW, hid (by have h9 := HHH.out; simpa only [List.take_zero, List.map_nil, List.append_nil] using h9)⟩
              case round =>
                obtain ⟨k, len, ao, cap, r, hgk, rfl, hlen, HLN, HCW, H⟩ := hrel
                by_cases hk : k < n3
                · have hkl : k < p.bars.length := by rw [HLEN.out.2.2.2.1]; exact hk
                  obtain ⟨x, hx⟩ : ∃ x, p.bars[k]'hkl = x := ⟨_, rfl⟩
                  obtain ⟨b1, o1, e1, q1⟩ := ((HB.out wr HCW.out).l3).at varC_len hkl (by omega)
                  rw [hx] at q1
                  have z0 : wr.cell? ⟨b1, o1 + k * 2, none⟩ = some (.string x.name) := q1 0 (by omega)
                  have z1 : wr.cell? ⟨b1, o1 + k * 2 + 1, none⟩ = some (.int .i64 x.first) := q1 1 (by omega)
                  have HX := hid (show (p.bars.take (k + 1)).map barDc = (p.bars.take k).map barDc ++ [barDc x] from by rw [List.take_succ_eq_append_getElem hkl, hx, List.map_append]; rfl)
                  subst e1
                  clear q1 hx
                  have hH1 := H.out.box (.cells #[.string x.name, .int .i64 x.first] 74)
                  have v0 := hH1.cell (i := 2) rfl 0
                  have w0 := hH1.cell (i := 0) rfl 0
                  have w1 := hH1.cell (i := 0) rfl 1
                  simp only [List.getElem?_toArray, List.getElem?_cons_zero, List.getElem?_cons_succ] at v0 w0 w1
                  have HH1 := hid hH1
                  have hcw2 : Chg [] wp (wr.alloc (.cells #[.string x.name, .int .i64 x.first] 74)) := HCW.out.alloc _
                  go_upto_region 20 with fail
                  obtain ⟨wD, hwD⟩ : ∃ y, wr.alloc (.cells #[.string x.name, .int .i64 x.first] 74) = y := ⟨_, rfl⟩
                  rw [hwD] at HH1 hcw2 v0 w0 w1
                  try rw [hwD]
                  obtain ⟨bx, hbx⟩ : ∃ y, wr.heap.size = y := ⟨_, rfl⟩
                  rw [hbx] at HH1 w0 w1
                  try rw [hbx]
                  clear hwD hbx z0 z1 hH1
                  have HCW2 := hid hcw2
                  have hrow := HH1.out.rowAt (i := 1) rfl
                  clear hcw2
                  go_wp2_with (at_builtin; refine wpList_grew rfl _ _ 22 rfl elem_dcl rfl (hrow.keep ((Chg.refl [] _).alloc _) (by simp)) rfl (View.structAt wD [.int .i64 4, .string x.name, .int .i64 x.first, .int .i64 0, .int .i64 0] 72 rfl rfl) (by simp [Value.oneCell']) (by unfold maxLen; omega) (by omega) (fun ao8 cap8 r8 w8 hr8 hg8 => halt (fun X hX => ?_)))
                  rw [hX.out]; clear hX
                  have hH8 := HH1.out.grow 1 rfl ((Chg.refl [] _).alloc _) hr8 hg8.chg hg8.fresh rfl
                  have v8 := hH8.cell (i := 2) rfl 0
                  have f8 := hH8.free (i := 2) rfl
                  simp only [List.set_cons_zero, List.set_cons_succ, List.getElem?_toArray, List.getElem?_cons_zero, List.getElem?_cons_succ] at v8
                  have hP8 := hH8.put 2 rfl 0 (.slice ao8 (len + 1) cap8) rfl
                  simp only [List.set_cons_zero, List.set_cons_succ, List.setIfInBounds_toArray] at hP8
                  have hcw8 : Chg [] wp (w8.setCell ⟨w.heap.size + 1 + 1, 0, none⟩ (.slice ao8 (len + 1) cap8)) := by
                    refine Chg.setCell (HCW2.out.trans (((Chg.refl [] wD).alloc (.cells #[.int .i64 4, .string x.name, .int .i64 x.first, .int .i64 0, .int .i64 0] 72)).nil.trans' hg8.chg) (fun y hy => .inr ?_)) (.inr ?_) _
                    · have h9 := HH1.out.lo _ (List.mem_of_getElem? (i := 1) rfl) y (by simpa [It.blk] using hy)
                      have h7 := HH1.out.ne (i := 4) (j := 1) (g := w.heap.size) rfl rfl (by decide) rfl
                      have h6 : y ≠ w.heap.size := fun e => h7 (by simpa [It.blk, e] using hy)
                      rw [HSZ.out]; omega
                    · rw [HSZ.out]; simp only; omega
                  have HP8 := hid (hP8.sub (.cons _ (.refl _)))
                  have HCW8 := hid hcw8
                  clear hH8 hP8 hcw8 hrow hr8 hg8 v0 w0 w1
                  go_wp2_with fail
                  go_roundg (gk - 1)
                  case measure => omega
                  case rel =>
                    refine ⟨k + 1, len + 1, ao8, cap8, r8, by omega, by go_num, by omega, hid ?_, HCW8, hid ?_⟩
                    · rw [HX.out, ← List.append_assoc, List.length_append, HLN.out]; rfl
                    · rw [HX.out, ← List.append_assoc, List.flatMap_append, List.flatMap_cons, List.flatMap_nil, List.append_nil]; exact HP8.out
                · obtain rfl : k = n3 := by omega
                  have hta : p.bars.take k = p.bars := List.take_of_length_le (by rw [HLEN.out.2.2.2.1]; exact Nat.le_refl _)
                  rw [hta] at H HLN
                  have HHH := H
                  clear H hta
                  obtain ⟨n3, hq3⟩ : ∃ n, n = k := ⟨_, rfl⟩
                  subst hq3
                  have u4 := (HB.out _ HCW.out).u4
                  have HDS := hid (show Hp [] w wr (.row 72 5 (.slice ao len cap) r len ((declsOf p).flatMap dcC) :: .box (w.heap.size + 1 + 1) (.cells #[.slice ao len cap, .slice none 0 0] 25) :: .box (w.heap.size + 1) (.cells #[.slice none 0 0, .slice none 0 0] 25) :: .box w.heap.size (.cells #[.slice x0 n0 c0, .slice x1 n1 c1, .slice x2 n2 c2, .slice x3 n3 c3, .slice x4 n4 c4] 32) :: []) from HHH.out)
                  have HDL := hid (show (declsOf p).length = len from HLN.out)
                  obtain ⟨Bo, hBo⟩ : ∃ Bo, blocksOf decS p p.thrs = Bo := ⟨_, rfl⟩
                  have hO2 := HO.out
                  rw [hBo] at hO2
                  have HO2 := hid hO2
                  have HBO := hid hBo
                  clear hO2 hBo HO
                  go_upto_region 23 with fail
                  clear u4
                  go_loopg [91] n4 (fun gk vi wr => ∃ (k L : Nat) (at' : Option Addr) (ct : Nat) (rt : Option Nat) (bs : List BkO), gk + k = n4 ∧ vi = .int .i64 k ∧ L ≤ k ∧ Hid (bs.length = L ∧ (blocksOf decS p (p.thrs.drop k)).map (fun l => blks bs ++ l) = Bo) ∧ Hid (Chg [] wp wr) ∧ Hid (Hp [] w wr (.row 56 4 (.slice at' L ct) rt L (bs.flatMap bkoC) :: .row 72 5 (.slice ao len cap) r len ((declsOf p).flatMap dcC) :: .box (w.heap.size + 1 + 1) (.cells #[.slice ao len cap, .slice at' L ct] 25) :: .box (w.heap.size + 1) (.cells #[.slice none 0 0, .slice none 0 0] 25) :: .box w.heap.size (.cells #[.slice x0 n0 c0, .slice x1 n1 c1, .slice x2 n2 c2, .slice x3 n3 c3, .slice x4 n4 c4] 32) :: bs.map itRow)))
                  case atStart => exact ⟨0, 0, none, 0, none, [], by omega, rfl, by omega, hid ⟨rfl, by rw [List.drop_zero, HBO.out]; cases Bo <;> rfl⟩, HCW, hid (HDS.out.nil 56 4)⟩
                  case round =>
                    obtain ⟨k, L, at', ct, rt, bs, hgk, rfl, hL, HBS, HCW5, H⟩ := hrel
                    by_cases hk : k < n4
                    · have hkl : k < ts.length := by rw [HLEN.out.2.2.2.2.1]; exact hk
                      obtain ⟨x, hx⟩ : ∃ x, ts[k]'hkl = x := ⟨_, rfl⟩
                      have hpb := HB.out wr HCW5.out
                      have hl4 := hpb.l4
                      rw [show (.slice x4 n4 c4 : Value) = .slice x4 ts.length c4 from by rw [HLEN.out.2.2.2.2.1]] at hl4
                      obtain ⟨b1, o1, e1, z0, z1, z2⟩ := thrs_at' hl4 hkl hx
                      have hxm : x ∈ ts := by rw [← hx]; exact List.getElem_mem _
                      have hxt : x.t ∈ p.thrs := by rw [← HLEN.out.2.2.2.2.2]; exact List.mem_map.2 ⟨x, hxm, rfl⟩
                      have hin := hpb.in' x hxm
                      obtain ⟨ac, kc, hxc, _⟩ := hin.1.len
                      obtain ⟨apl, kpl, hxp, _⟩ := hin.2.len
                      have p0 := hpb.u0
                      have p1 := hpb.u1
                      have p2 := hpb.u2
                      have p3 := hpb.u3
                      have p4 := hpb.u4
                      obtain ⟨nc, hnc⟩ : ∃ nc, x.t.code.length = nc := ⟨_, rfl⟩
                      obtain ⟨npl, hnpl⟩ : ∃ nc, x.t.places.length = nc := ⟨_, rfl⟩
                      rw [hxc, hnc] at z1
                      rw [hxp, hnpl] at z2
                      rw [hxc, hnc, hxp, hnpl] at hin
                      have hH1 := H.out.box (.cells #[.string x.t.name, .slice ac nc kc, .slice apl npl kpl] 50)
                      have hcw2 := HCW5.out.alloc (.cells #[.string x.t.name, .slice ac nc kc, .slice apl npl kpl] 50)
                      have p0 := ((Chg.refl [] wr).alloc (.cells #[.string x.t.name, .slice ac nc kc, .slice apl npl kpl] 50)).cell p0 (by simp)
                      have p1 := ((Chg.refl [] wr).alloc (.cells #[.string x.t.name, .slice ac nc kc, .slice apl npl kpl] 50)).cell p1 (by simp)
                      have p2 := ((Chg.refl [] wr).alloc (.cells #[.string x.t.name, .slice ac nc kc, .slice apl npl kpl] 50)).cell p2 (by simp)
                      have p3 := ((Chg.refl [] wr).alloc (.cells #[.string x.t.name, .slice ac nc kc, .slice apl npl kpl] 50)).cell p3 (by simp)
                      have p4 := ((Chg.refl [] wr).alloc (.cells #[.string x.t.name, .slice ac nc kc, .slice apl npl kpl] 50)).cell p4 (by simp)
                      have w0 := hH1.cell (i := 0) rfl 0
                      have w1 := hH1.cell (i := 0) rfl 1
                      have w2 := hH1.cell (i := 0) rfl 2
                      have vb := hH1.cell (i := 3) rfl 1
                      simp only [List.getElem?_toArray, List.getElem?_cons_zero, List.getElem?_cons_succ] at w0 w1 w2 vb
                      have hbc := block_calls (t := x.t) (wr.alloc (.cells #[.string x.t.name, .slice ac nc kc, .slice apl npl kpl] 50)) (HPV.out _ hH1.chg) HS.out.sm (HTAB.out _ hH1.chg) (hin.1.keep ((Chg.refl [] wr).alloc _)) (hin.2.keep ((Chg.refl [] wr).alloc _)) (HS.out.cl x.t hxt)
                      obtain ⟨Eb, hEb⟩ : ∃ Eb, blockD decS p x.t = Eb := ⟨_, rfl⟩
                      rw [hEb] at hbc
                      have hrel2 : (match Eb with | none => none | some k' => match blocksOf decS p (p.thrs.drop (k + 1)) with | none => none | some l => some (k' :: l)).map (fun l => blks bs ++ l) = Bo := by
                        have h9 := HBS.out.2
                        have hkp : k < p.thrs.length := by rw [← HLEN.out.2.2.2.2.2, List.length_map]; exact hkl
                        have hpk : p.thrs[k] = x.t := by
                          have h8 : (ts.map ThrV.t)[k]'(by rw [List.length_map]; exact hkl) = x.t := by rw [List.getElem_map, hx]
                          rw [← h8]
                          congr 1
                          exact HLEN.out.2.2.2.2.2.symm
                        rw [List.drop_eq_getElem_cons hkp, hpk] at h9
                        unfold blocksOf at h9
                        rw [hEb] at h9
                        exact h9
                      have hform : ∀ k', Eb = some k' → k'.l = 0 ∧ k'.c = 0 := fun k' hk' => by
                        rw [← hEb] at hk'
                        unfold blockD at hk'
                        split at hk'
                        · obtain ⟨l, _, rfl⟩ := Option.map_eq_some_iff.1 hk'
                          exact ⟨rfl, rfl⟩
                        · cases hk'
                      have HBC := hid hbc
                      have HH1 := hid hH1
                      have HCW2 := hid hcw2
                      have HR2 := hid hrel2
                      have HFM := hid hform
                      subst e1
                      clear hx hxm hxt hin hxc hxp hnc hnpl hpb hl4 hH1 hcw2 hbc hrel2 hform hEb
                      go_upto_region 25 with fail
                      obtain ⟨wD, hwD⟩ : ∃ y, wr.alloc (.cells #[.string x.t.name, .slice ac nc kc, .slice apl npl kpl] 50) = y := ⟨_, rfl⟩
                      obtain ⟨bx, hbx⟩ : ∃ y, wr.heap.size = y := ⟨_, rfl⟩
                      rw [hwD] at HH1 HCW2 HBC p0 p1 p2 p3 p4 w0 w1 w2 vb
                      rw [hbx] at HH1 w0 w1 w2
                      rw [hwD, hbx]
                      clear hwD hbx z0 z1 z2
                      go_wp2_with (go_at_call 19; refine halt (fun X hX => ?_))
                      rw [hX.out]; clear hX
                      refine HBC.out.mono ?_
                      intro e w3 hbp
                      cases Eb with
                      | none =>
                        obtain ⟨rfl, hc3⟩ : e = .returned (.tuple #[.agg #[.string ⟨#[]⟩, .slice none 0 0, .int .i64 0, .int .i64 0], .bool false]) ∧ Chg [] wD w3 := hbp
                        have HON := hid (show O = none from by
                          have h9 := HO2.out
                          have h8 : none = Bo := HR2.out
                          rw [← h8] at h9
                          exact h9.symm)
                        have hQ := (HH1.out.same hc3).box (.cells #[.string ⟨#[]⟩, .slice none 0 0, .int .i64 0, .int .i64 0] 56)
                        have HQ := hid hQ
                        clear hQ hc3 p0 p1 p2 p3 p4 w0 w1 w2 vb
                        go_upto_region 27 with fail
                        obtain ⟨wQ, hwQ⟩ : ∃ y, w3.alloc (.cells #[.string ⟨#[]⟩, .slice none 0 0, .int .i64 0, .int .i64 0] 56) = y := ⟨_, rfl⟩
                        rw [hwQ] at HQ
                        try rw [hwQ]
                        clear hwQ
                        have z0 := HQ.out.cell (i := 5) rfl 0
                        have z1 := HQ.out.cell (i := 5) rfl 1
                        have zf := HQ.out.free (i := 5) rfl
                        simp only [List.getElem?_toArray, List.getElem?_cons_zero, List.getElem?_cons_succ] at z0 z1
                        have q4 := (HQ.out.put 5 rfl 0 (.slice none 0 0) rfl).put 5 rfl 1 (.slice none 0 0) rfl
                        simp only [List.set_cons_zero, List.set_cons_succ, List.setIfInBounds_toArray] at q4
                        have Q4 := hid q4
                        clear q4
                        go_wp2_with fail
                        obtain ⟨wZ, hwZ⟩ : ∃ wZ, ((wQ.setCell ⟨w.heap.size + 1, 0, none⟩ (.slice none 0 0)).setCell ⟨w.heap.size + 1, 1, none⟩ (.slice none 0 0)) = wZ := ⟨_, rfl⟩
                        rw [hwZ] at Q4
                        try rw [hwZ]
                        have d0 := Q4.out.cell (i := 5) rfl 0
                        have d1 := Q4.out.cell (i := 5) rfl 1
                        simp only [List.getElem?_toArray, List.getElem?_cons_zero, List.getElem?_cons_succ] at d0 d1
                        have hOn := HON.out
                        exact bodyPost_ret (v := .tuple #[.agg #[.slice none 0 0, .slice none 0 0], .int .i64 4]) (by simp [results, Tryd.results8, go_sem, d0, d1]) rfl (.inl ⟨hOn, rfl, Q4.out.chg⟩)
                      | some kk =>
                        obtain ⟨v', r', rfl, hrow, hc3, hf3⟩ : ∃ v' r', e = .returned (.tuple #[.agg #[.string kk.name, v', .int .i64 0, .int .i64 0], .bool true]) ∧ Row w3 82 10 v' r' kk.items.length (kk.items.flatMap itC) ∧ Chg [] wD w3 ∧ Fresh wD none r' := hbp
                        obtain ⟨nk, hnk⟩ : ∃ nk, kk.items.length = nk := ⟨_, rfl⟩
                        rw [hnk] at hrow
                        obtain ⟨ak, ck, rfl⟩ := hrow.shape
                        have HNK := hid hnk
                        have hH2 := (HH1.out.fresh hc3 hrow hf3).box (.cells #[.string kk.name, .slice ak nk ck, .int .i64 0, .int .i64 0] 56)
                        have vb := hH2.cell (i := 5) rfl 1
                        have w0 := hH2.cell (i := 0) rfl 0
                        have w1 := hH2.cell (i := 0) rfl 1
                        have w2 := hH2.cell (i := 0) rfl 2
                        have w3' := hH2.cell (i := 0) rfl 3
                        simp only [List.getElem?_toArray, List.getElem?_cons_zero, List.getElem?_cons_succ] at w0 w1 w2 w3' vb
                        have HH2 := hid hH2
                        have HCW3 := hid ((HCW2.out.trans' hc3).alloc (.cells #[.string kk.name, .slice ak nk ck, .int .i64 0, .int .i64 0] 56))
                        clear hH2 hrow hc3 hf3 hnk p0 p1 p2 p3 p4 HBC
                        go_upto_region 28 with fail
                        obtain ⟨wE, hwE⟩ : ∃ y, w3.alloc (.cells #[.string kk.name, .slice ak nk ck, .int .i64 0, .int .i64 0] 56) = y := ⟨_, rfl⟩
                        obtain ⟨by', hby⟩ : ∃ y, w3.heap.size = y := ⟨_, rfl⟩
                        rw [hwE] at HH2 HCW3 vb w0 w1 w2 w3'
                        rw [hby] at HH2 w0 w1 w2 w3'
                        rw [hwE, hby]
                        clear hwE hby
                        have hrow := HH2.out.rowAt (i := 3) rfl
                        go_wp2_with (at_builtin; refine wpList_grew rfl _ _ 23 rfl elem_blk rfl (hrow.keep ((Chg.refl [] _).alloc _) (by simp)) rfl (View.structAt wE [.string kk.name, .slice ak nk ck, .int .i64 0, .int .i64 0] 56 rfl rfl) (by simp [Value.oneCell']) (by unfold maxLen; omega) (by omega) (fun ao8 cap8 r8 w8 hr8 hg8 => halt (fun X hX => ?_)))
                        rw [hX.out]; clear hX
                        have hH8 := HH2.out.grow 3 rfl ((Chg.refl [] _).alloc _) hr8 hg8.chg hg8.fresh rfl
                        have v8 := hH8.cell (i := 5) rfl 1
                        have f8 := hH8.free (i := 5) rfl
                        simp only [List.set_cons_zero, List.set_cons_succ, List.getElem?_toArray, List.getElem?_cons_zero, List.getElem?_cons_succ] at v8
                        have hP8 := hH8.put 5 rfl 1 (.slice ao8 (L + 1) cap8) rfl
                        simp only [List.set_cons_zero, List.set_cons_succ, List.setIfInBounds_toArray] at hP8
                        have hcw8 : Chg [] wp (w8.setCell ⟨w.heap.size + 1 + 1, 1, none⟩ (.slice ao8 (L + 1) cap8)) := by
                          refine Chg.setCell (HCW3.out.trans (((Chg.refl [] wE).alloc (.cells #[.string kk.name, .slice ak nk ck, .int .i64 0, .int .i64 0] 56)).nil.trans' hg8.chg) (fun y hy => .inr ?_)) (.inr ?_) _
                          · have h9 := HH2.out.lo _ (List.mem_of_getElem? (i := 3) rfl) y (by simpa [It.blk] using hy)
                            have h7 := HH2.out.ne (i := 7) (j := 3) (g := w.heap.size) rfl rfl (by decide) rfl
                            have h6 : y ≠ w.heap.size := fun e => h7 (by simpa [It.blk, e] using hy)
                            rw [HSZ.out]; omega
                          · rw [HSZ.out]; simp only; omega
                        have hP9 := (hP8.sub (.cons _ (.cons_cons _ (.cons _ (.refl _))))).perm ((List.perm_append_singleton _ _).symm)
                        have HP9 := hid hP9
                        have HCW8 := hid hcw8
                        clear hH8 hP8 hP9 hcw8 hrow hr8 hg8 vb w0 w1 w2 w3'
                        go_wp2_with fail
                        go_roundg (gk - 1)
                        case measure => omega
                        case rel =>
                          obtain ⟨hl0, hc0⟩ := HFM.out kk rfl
                          refine ⟨k + 1, L + 1, ao8, cap8, r8, bs ++ [(⟨kk, .slice ak nk ck⟩, r')], by omega, by go_num, by omega, hid ⟨by rw [List.length_append, HBS.out.1]; rfl, ?_⟩, HCW8, hid ?_⟩
                          · rw [← HR2.out]
                            cases blocksOf decS p (p.thrs.drop (k + 1)) with
                            | none => rfl
                            | some l => simp [blks]
                          · have h9 := HP9.out
                            have e1 : (bs ++ [((⟨kk, .slice ak nk ck⟩ : BkV), r')]).flatMap bkoC = bs.flatMap bkoC ++ [.string kk.name, .slice ak nk ck, .int .i64 0, .int .i64 0] := by
                              rw [List.flatMap_append]
                              simp [bkoC, bkC, hl0, hc0]
                            have e2 : (bs ++ [((⟨kk, .slice ak nk ck⟩ : BkV), r')]).map itRow = bs.map itRow ++ [.row 82 10 (.slice ak nk ck) r' nk (kk.items.flatMap itC)] := by
                              rw [List.map_append, ← HNK.out]
                              rfl
                            rw [e1, e2]
                            exact h9
                    · obtain rfl : k = n4 := by omega
                      have hBs : some (blks bs) = Bo := by
                        have h9 := HBS.out.2
                        rw [List.drop_of_length_le (by rw [← HLEN.out.2.2.2.2.2, List.length_map, HLEN.out.2.2.2.2.1]; exact Nat.le_refl _)] at h9
                        simpa [blocksOf] using h9
                      have hO3 := HO2.out
                      rw [← hBs] at hO3
                      simp only at hO3
                      have hks : blocksOf decS p p.thrs = some (blks bs) := by rw [HBO.out, hBs]
                      have hunh : ∀ W, Hp [] w W (.row 56 4 (.slice at' L ct) rt L (bs.flatMap bkoC) :: .row 72 5 (.slice ao len cap) r len ((declsOf p).flatMap dcC) :: bs.map itRow) → UnH w W (.slice ao len cap) r (declsOf p) (.slice at' L ct) rt bs := fun W h => ⟨by
                        unfold dRow tRow
                        rw [HDL.out, HBS.out.1]
                        exact h.perm (List.Perm.swap _ _ _)⟩
                      have HUNH := hid hunh
                      have hsub := H.out.sub (.cons_cons _ (.cons_cons _ (.cons _ (.cons _ (.cons _ (.refl _))))))
                      have hun := (hunh wr hsub).unV
                      have v0 := H.out.cell (i := 2) rfl 0
                      have v1 := H.out.cell (i := 2) rfl 1
                      simp only [List.getElem?_toArray, List.getElem?_cons_zero, List.getElem?_cons_succ] at v0 v1
                      have HPC := hid (program_calls (u := ⟨declsOf p, blks bs⟩) (unit_small HS.out hks) wr hun)
                      have HO3 := hid hO3
                      clear hBs hO3 hks hunh hsub hun
                      go_wp2_with (go_at_call 6; refine halt (fun X hX => ?_))
                      rw [hX.out]; clear hX
                      refine HPC.out.mono ?_
                      rintro e w6 (⟨f, hd, rfl, hc6⟩ | ⟨q, vq, hd, rfl, hqn, hc6⟩)
                      · have hfc := prog_code hd
                        have hne : (f.code != 0) = true := by simp; omega
                        have hne2 : (f.code == 0) = false := by simp; omega
                        have hne3 : decide (f.code = 0) = false := by simp; omega
                        have HON := hid (show O = none from by
                          have h9 := HO3.out
                          rw [hd] at h9
                          exact h9.symm)
                        have hQ := ((H.out.same hc6).box (.cells #[.slice none 0 0, .slice none 0 0, .slice none 0 0, .slice none 0 0, .slice none 0 0] 32)).box (.cells #[.int .i64 f.code, .int .i64 f.l, .int .i64 f.c] 37)
                        simp only [World.size_alloc] at hQ
                        have HQ := hid hQ
                        simp only [noPrg]
                        clear hQ hc6 v0 v1 hd hfc
                        go_upto_region 32 with fail
                        obtain ⟨wQ, hwQ⟩ : ∃ y, (w6.alloc (.cells #[.slice none 0 0, .slice none 0 0, .slice none 0 0, .slice none 0 0, .slice none 0 0] 32)).alloc (.cells #[.int .i64 f.code, .int .i64 f.l, .int .i64 f.c] 37) = y := ⟨_, rfl⟩
                        rw [hwQ] at HQ
                        try rw [hwQ]
                        clear hwQ
                        have z0 := HQ.out.cell (i := 5) rfl 0
                        have z1 := HQ.out.cell (i := 5) rfl 1
                        have zf := HQ.out.free (i := 5) rfl
                        simp only [List.getElem?_toArray, List.getElem?_cons_zero, List.getElem?_cons_succ] at z0 z1
                        have q4 := (HQ.out.put 5 rfl 0 (.slice none 0 0) rfl).put 5 rfl 1 (.slice none 0 0) rfl
                        simp only [List.set_cons_zero, List.set_cons_succ, List.setIfInBounds_toArray] at q4
                        have Q4 := hid q4
                        clear q4
                        go_wp2_with fail
                        obtain ⟨wZ, hwZ⟩ : ∃ wZ, ((wQ.setCell ⟨w.heap.size + 1, 0, none⟩ (.slice none 0 0)).setCell ⟨w.heap.size + 1, 1, none⟩ (.slice none 0 0)) = wZ := ⟨_, rfl⟩
                        rw [hwZ] at Q4
                        try rw [hwZ]
                        have d0 := Q4.out.cell (i := 5) rfl 0
                        have d1 := Q4.out.cell (i := 5) rfl 1
                        simp only [List.getElem?_toArray, List.getElem?_cons_zero, List.getElem?_cons_succ] at d0 d1
                        have hOn := HON.out
                        exact bodyPost_ret (v := .tuple #[.agg #[.slice none 0 0, .slice none 0 0], .int .i64 4]) (by simp [results, Tryd.results8, go_sem, d0, d1]) rfl (.inl ⟨hOn, rfl, Q4.out.chg⟩)
                      · have HON := hid (show O = some ⟨declsOf p, blks bs⟩ from by
                          have h9 := HO3.out
                          rw [hd] at h9
                          exact h9.symm)
                        obtain ⟨qa0, qn0, qc0, qa1, qn1, qc1, qa2, qn2, qc2, qa3, qn3, qc3, qa4, qn4, qc4, rfl⟩ : ∃ (a0 : Option Addr) (n0 c0 : Nat) (a1 : Option Addr) (n1 c1 : Nat) (a2 : Option Addr) (n2 c2 : Nat) (a3 : Option Addr) (n3 c3 : Nat) (a4 : Option Addr) (n4 c4 : Nat), vq = .agg #[.slice a0 n0 c0, .slice a1 n1 c1, .slice a2 n2 c2, .slice a3 n3 c3, .slice a4 n4 c4] := by
                          obtain ⟨v0, v1, v2, v3, v4, ts, rfl, l0, l1, l2, l3, l4, _⟩ := hqn.now
                          obtain ⟨_, _, rfl, _⟩ := l0.len
                          obtain ⟨_, _, rfl, _⟩ := l1.len
                          obtain ⟨_, _, rfl, _⟩ := l2.len
                          obtain ⟨_, _, rfl, _⟩ := l3.len
                          obtain ⟨_, _, rfl, _⟩ := l4.len
                          exact ⟨_, _, _, _, _, _, _, _, _, _, _, _, _, _, _, rfl⟩
                        have hQ := ((H.out.same hc6).box (.cells #[.slice qa0 qn0 qc0, .slice qa1 qn1 qc1, .slice qa2 qn2 qc2, .slice qa3 qn3 qc3, .slice qa4 qn4 qc4] 32)).box (.cells #[.int .i64 0, .int .i64 0, .int .i64 0] 37)
                        simp only [World.size_alloc] at hQ
                        have HQ := hid hQ
                        clear hQ hc6 v0 v1 hd hqn
                        go_upto_region 33 with fail
                        obtain ⟨wQ, hwQ⟩ : ∃ y, (w6.alloc (.cells #[.slice qa0 qn0 qc0, .slice qa1 qn1 qc1, .slice qa2 qn2 qc2, .slice qa3 qn3 qc3, .slice qa4 qn4 qc4] 32)).alloc (.cells #[.int .i64 0, .int .i64 0, .int .i64 0] 37) = y := ⟨_, rfl⟩
                        rw [hwQ] at HQ
                        try rw [hwQ]
                        clear hwQ
                        have v0 := HQ.out.cell (i := 4) rfl 0
                        have v1 := HQ.out.cell (i := 4) rfl 1
                        have z0 := HQ.out.cell (i := 5) rfl 0
                        have z1 := HQ.out.cell (i := 5) rfl 1
                        have zf := HQ.out.free (i := 5) rfl
                        simp only [List.getElem?_toArray, List.getElem?_cons_zero, List.getElem?_cons_succ] at v0 v1 z0 z1
                        have q4 := (HQ.out.put 5 rfl 0 (.slice ao len cap) rfl).put 5 rfl 1 (.slice at' L ct) rfl
                        simp only [List.set_cons_zero, List.set_cons_succ, List.setIfInBounds_toArray] at q4
                        have Q4 := hid q4
                        clear q4
                        go_wp2_with fail
                        obtain ⟨wZ, hwZ⟩ : ∃ wZ, ((wQ.setCell ⟨w.heap.size + 1, 0, none⟩ (.slice ao len cap)).setCell ⟨w.heap.size + 1, 1, none⟩ (.slice at' L ct)) = wZ := ⟨_, rfl⟩
                        rw [hwZ] at Q4
                        try rw [hwZ]
                        have d0 := Q4.out.cell (i := 5) rfl 0
                        have d1 := Q4.out.cell (i := 5) rfl 1
                        simp only [List.getElem?_toArray, List.getElem?_cons_zero, List.getElem?_cons_succ] at d0 d1
                        exact bodyPost_ret (v := .tuple #[.agg #[.slice ao len cap, .slice at' L ct], .int .i64 0]) (by simp [results, Tryd.results8, go_sem, d0, d1]) rfl (.inr ⟨⟨declsOf p, blks bs⟩, _, r, _, rt, bs, HON.out, rfl, HUNH.out wZ (Q4.out.sub (.cons _ (.cons _ (.cons_cons _ (.cons_cons _ (.cons _ (.cons _ (.cons _ (.refl _))))))))), rfl⟩)
end Go.Proofs.YtaknmhipaifdkaaDoor
