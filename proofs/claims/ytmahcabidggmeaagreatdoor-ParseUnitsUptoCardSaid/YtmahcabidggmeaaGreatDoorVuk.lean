/- The lists of units written over and grown: marked. (Printed by gen_ymarked.py.) -/
import Derived.Test.YtmahcabidggmeaaGreatDoorVuw
import Derived.Test.YtmahcabidggmeaaGreatDoorPk8
import Derived.Deep.LoopGhost
import Derived.Deep.CutBlock
set_option linter.unusedVariables false
set_option linter.unusedSectionVars false
set_option linter.unusedSimpArgs false
namespace Go.AB
open Go.RowKit
theorem Hp.swap2 {S0 : List Nat} {w0 w : World} {a b : It} {M : List It} (h : Hp S0 w0 w (a :: b :: M)) : Hp S0 w0 w (b :: a :: M) := h.perm (List.Perm.swap b a M)
def mD (i : Nat) : List Value := [.int .i64 0, .string ⟨#[]⟩, .int .i64 (-1 - (i : Int)), .int .i64 0, .int .i64 0]
def mB (i : Nat) : List Value := [.string ⟨#[]⟩, .slice none 0 0, .int .i64 (-1 - (i : Int)), .int .i64 0]
def mI (i : Nat) : List Value := [.int .i64 0, .int .i64 0, .int .i64 0, .int .i64 0, .int .i64 (-1 - (i : Int)), .string ⟨#[]⟩, .int .i64 0, .int .i64 0, .int .i64 0, .int .i64 0]
def mkF (M : Nat → List Value) (os : List OL) : List OL := os.mapIdx fun i o => o.mk' (M i)
theorem mkF_len (M : Nat → List Value) (os : List OL) : (mkF M os).length = os.length := by simp [mkF]
theorem mkF_get {M : Nat → List Value} {os : List OL} {i : Nat} {o : OL} (h : os[i]? = some o) : (mkF M os)[i]? = some (o.mk' (M i)) := by
  unfold mkF
  rw [List.getElem?_mapIdx, h]
  rfl
theorem mkF_v (M : Nat → List Value) (os : List OL) : (mkF M os).map OL.v = os.map OL.v := by
  apply List.ext_getElem?
  intro i
  unfold mkF
  simp only [List.getElem?_map, List.getElem?_mapIdx, Option.map_map]
  rfl
def gAll (e k : Nat) (M : Nat → List Value) (gs : List GO) : List It := (gs.mapIdx fun j x => x.its e k (M j)).flatten
theorem gAll_nil {e k : Nat} {M : Nat → List Value} : gAll e k M [] = [] := rfl
theorem gAll_snoc {e k : Nat} {M : Nat → List Value} {gs : List GO} {x : GO} : gAll e k M (gs ++ [x]) = gAll e k M gs ++ x.its e k (M gs.length) := by
  unfold gAll
  rw [List.mapIdx_append]
  simp
theorem gAll_mem {e k : Nat} {M : Nat → List Value} {gs : List GO} {j : Nat} {x : GO} (h : gs[j]? = some x) {y : It} (hy : y ∈ x.its e k (M j)) : y ∈ gAll e k M gs := by
  unfold gAll
  refine List.mem_flatten.2 ⟨x.its e k (M j), ?_, hy⟩
  refine List.mem_of_getElem? (i := j) ?_
  rw [List.getElem?_mapIdx, h]
  rfl
/-- The grown lists of a family. -/
structure GA (M : Nat → List Value) (Ms : List OL) (gs : List GO) (i : Nat) : Prop where
  len : gs.length = i
  at_ : ∀ (j : Nat) (x : GO), gs[j]? = some x → x.ok (M j) ∧ x.t = 70 ∧ Ms[j]? = some x.o
theorem GA.start (M : Nat → List Value) (Ms : List OL) : GA M Ms [] 0 := ⟨rfl, fun j x h => by simp at h⟩
theorem GA.next {M : Nat → List Value} {Ms : List OL} {gs : List GO} {i : Nat} (h : GA M Ms gs i) {x : GO} (h1 : x.ok (M i)) (h2 : x.t = 70) (h3 : Ms[i]? = some x.o) : GA M Ms (gs ++ [x]) (i + 1) := by
  refine ⟨by rw [List.length_append, h.len]; rfl, fun j y hy => ?_⟩
  by_cases hj : j < gs.length
  · rw [List.getElem?_append_left hj] at hy
    exact h.at_ j y hy
  · rw [List.getElem?_append_right (by omega)] at hy
    have hj0 : j - gs.length = 0 := by
      rcases Nat.eq_zero_or_pos (j - gs.length) with h0 | h0
      · exact h0
      · rw [List.getElem?_eq_none (by simp; omega)] at hy; cases hy
    rw [hj0] at hy
    simp only [List.getElem?_cons_zero, Option.some.injEq] at hy
    subst hy
    have : j = i := by have := h.len; omega
    subst this
    exact ⟨h1, h2, h3⟩
/-- A unit's lists. -/
structure UO where
  d : OL
  b : OL
  its : List OL
structure UO.ok (u : UO) : Prop where
  dx : u.d.xs.length = u.d.n * 5
  bx : u.b.xs.length = u.b.n * 4
  il : u.its.length = u.b.n
  iv : ∀ k (hk : k < u.its.length), u.b.xs.getD (k * 4 + 1) undef = u.its[k].v
  ix : ∀ o ∈ u.its, o.xs.length = o.n * 10 ∧ o.n ≤ 4194304
  ds : u.d.n ≤ 4194304
  bs : u.b.n ≤ 4194304
def osD (us : List UO) : List OL := us.map UO.d
def osB (us : List UO) : List OL := us.map UO.b
def osI (us : List UO) : List OL := us.flatMap UO.its
theorem osI_take {us : List UO} {i : Nat} {u : UO} (h : us[i]? = some u) : osI (us.take (i + 1)) = osI (us.take i) ++ u.its := by
  unfold osI
  rw [take_next h, List.flatMap_append]
  simp
theorem osI_len_take {us : List UO} {i : Nat} {u : UO} (h : us[i]? = some u) : (osI (us.take i)).length + u.its.length ≤ (osI us).length := by
  have h1 : osI us = osI (us.take (i + 1)) ++ osI (us.drop (i + 1)) := by
    unfold osI
    rw [← List.flatMap_append, List.take_append_drop]
  rw [h1, osI_take h, List.length_append, List.length_append]
  omega
theorem pair_at {us : List UO} {i : Nat} {u : UO} (h : us[i]? = some u) (T : TypeId) {w : World} {bu : Nat} (hb : w.heap[bu]? = some (.cells (us.flatMap (fun u => [u.d.v, u.b.v])).toArray T (0, 0))) : w.cell? ⟨bu, i * 2, none⟩ = some u.d.v ∧ w.cell? ⟨bu, i * 2 + 1, none⟩ = some u.b.v := by
  obtain ⟨hlt, rfl⟩ := List.getElem?_eq_some_iff.1 h
  have hl : (us.flatMap (fun u => [u.d.v, u.b.v])).length = us.length * 2 := flat_len (f := fun u : UO => [u.d.v, u.b.v]) (fun _ => rfl) us
  have g : ∀ j, j < 2 → w.cell? ⟨bu, i * 2 + j, none⟩ = some (([us[i].d.v, us[i].b.v] : List Value).getD j undef) := fun j hj => by
    rw [blk_cell hb (i * 2 + j)]
    have h1 := flat_get (f := fun u : UO => [u.d.v, u.b.v]) (fun _ => rfl) us i j hlt hj
    rw [List.getD_eq_getElem?_getD] at h1
    have h2 : i * 2 + j < (us.flatMap (fun u => [u.d.v, u.b.v])).length := by rw [hl]; omega
    rw [List.getElem?_eq_getElem h2] at h1
    rw [List.getElem?_toArray, List.getElem?_eq_getElem h2]
    exact congrArg some h1
  exact ⟨g 0 (by omega), g 1 (by omega)⟩
end Go.AB
namespace Go.Proofs.YtmahcabidggmeaaGreatDoor
open Go.RowKit Go.AB
set_option linter.unusedSimpArgs false
set_option linter.unusedVariables false
set_option linter.unusedSectionVars false
abbrev itD (o : OL) : It := o.it 47 5
abbrev itB (o : OL) : It := o.it 50 4
abbrev itI (o : OL) : It := o.it 53 10
theorem info_sD : (Tryz.prog.info? 22).map (fun i => (i.zero, i.size, i.bytes)) = some (some (.slice none 0 0), 1, 24) := by kernel_rfl
theorem elem_lD : ElemOk Tryz.prog 72 22 1 24 := .of Tryz.underlying72 info_sD rfl (by decide)
theorem info_sB : (Tryz.prog.info? 23).map (fun i => (i.zero, i.size, i.bytes)) = some (some (.slice none 0 0), 1, 24) := by kernel_rfl
theorem elem_lB : ElemOk Tryz.prog 73 23 1 24 := .of Tryz.underlying73 info_sB rfl (by decide)
theorem info_sI : (Tryz.prog.info? 48).map (fun i => (i.zero, i.size, i.bytes)) = some (some (.slice none 0 0), 1, 24) := by kernel_rfl
theorem elem_lI : ElemOk Tryz.prog 74 48 1 24 := .of Tryz.underlying74 info_sI rfl (by decide)
abbrev cD (a : Option Addr) (n c : Nat) (r : Option Nat) (vs : List Value) : It := .row 22 1 (.slice a n c) r n vs
abbrev cB (a : Option Addr) (n c : Nat) (r : Option Nat) (vs : List Value) : It := .row 23 1 (.slice a n c) r n vs
abbrev cI (a : Option Addr) (n c : Nat) (r : Option Nat) (vs : List Value) : It := .row 48 1 (.slice a n c) r n vs
abbrev ubx (bu : Nat) (us : List UO) : It := .box bu (.cells (us.flatMap (fun u => [u.d.v, u.b.v])).toArray 25 (0, 0))
theorem one_v (o : OL) : ∀ u ∈ [o.v], u.oneCell' = true := by
  intro u hu
  simp only [List.mem_singleton] at hu
  subst hu
  rfl

set_option maxHeartbeats 64000000 in
set_option maxRecDepth 100000 in
theorem marked_calls (us : List UO) (hus : ∀ u ∈ us, u.ok) (hn : us.length ≤ 2) (hNI : (osI us).length ≤ 4194304) {w0 w : World} {bu : Nat} {R : List It}
    (h : Hp [] w0 w (ubx bu us :: ((osD us).map itD ++ (osB us).map itB ++ (osI us).map itI ++ R))) : Calls Tryz.prog 8 #[.slice (some ⟨bu, 0, none⟩) us.length us.length] w fun e w' => e = .returned (.bool true) ∧ Hp [] w0 w' R := by
  have HU := hid hus
  have HNI := hid hNI
  have h1 := ((h.nil 48 1).nil 23 1).nil 22 1
  have H0 := hid h1
  obtain ⟨n, hn0⟩ : ∃ n, us.length = n := ⟨_, rfl⟩
  rw [hn0] at hn ⊢
  have HN := hid hn0
  clear h h1 hus hNI hn0
  go_enter Tryz.func8, Tryz.ntmps8
  go_upto_block 0 with fail
  go_cut [3, 5, 7, 9, 10] from 28 to 71 (fun v3 v5 v7 v9 v10 wx => ∃ (aD : Option Addr) (kD : Nat) (rD : Option Nat) (aB : Option Addr) (kB : Nat) (rB : Option Nat) (aI : Option Addr) (nI kI : Nat) (rI : Option Nat), v3 = .slice aD n kD ∧ v5 = .slice aB n kB ∧ v7 = .slice aI nI kI ∧ Hid ((osI us).length = nI ∧ Hp [] w0 wx (cD aD n kD rD ((osD us).map OL.v) :: cB aB n kB rB ((osB us).map OL.v) :: cI aI nI kI rI ((osI us).map OL.v) :: ubx bu us :: ((osD us).map itD ++ (osB us).map itB ++ (osI us).map itI ++ R))))
  case first =>
    as_aux_lemma =>
      go_wp2_with fail
      go_loopg [3, 5, 7, 9] n (fun gk v3 v5 v7 v9 wr => ∃ (i nI : Nat) (aD : Option Addr) (kD : Nat) (rD : Option Nat) (aB : Option Addr) (kB : Nat) (rB : Option Nat) (aI : Option Addr) (kI : Nat) (rI : Option Nat), v3 = .slice aD i kD ∧ v5 = .slice aB i kB ∧ v7 = .slice aI nI kI ∧ v9 = .int .i64 i ∧ Hid (gk + i = n) ∧ Hid ((osI (us.take i)).length = nI ∧ Hp [] w0 wr (cD aD i kD rD ((osD (us.take i)).map OL.v) :: cB aB i kB rB ((osB (us.take i)).map OL.v) :: cI aI nI kI rI ((osI (us.take i)).map OL.v) :: ubx bu us :: ((osD us).map itD ++ (osB us).map itB ++ (osI us).map itI ++ R))))
      case atStart => exact ⟨0, 0, none, 0, none, none, 0, none, none, 0, none, rfl, rfl, rfl, rfl, hid (by omega), hid ⟨rfl, H0.out⟩⟩
      case round =>
        obtain ⟨i, nI, aD, kD, rD, aB, kB, rB, aI, kI, rI, rfl, rfl, rfl, rfl, HG, HR⟩ := hrel
        by_cases hlt : i < n
        · obtain ⟨u, hu⟩ : ∃ u, us[i]? = some u := ⟨us[i]'(by rw [HN.out]; exact hlt), List.getElem?_eq_getElem _⟩
          have hum : u ∈ us := List.mem_of_getElem? hu
          have huk := HU.out u hum
          have hli := osI_len_take hu
          have hni := HNI.out
          rw [HR.out.1] at hli
          obtain ⟨y0, _⟩ := pair_at hu _ (HR.out.2.get (i := 3) rfl)
          have H1 := hid HR.out.2
          have HUK := hid (And.intro hu (And.intro huk HR.out.1))
          obtain ⟨ud, ub, uits⟩ := u
          obtain ⟨dao, dn, dcap, dr, dxs⟩ := ud
          obtain ⟨bao, bn, bcap, br, bxs⟩ := ub
          have hbn : bn ≤ 4194304 := huk.bs
          have hil : uits.length = bn := huk.il
          simp only [OL.v] at y0
          have y0' : wr.cell? ⟨bu, i * 2, none⟩ = some (.slice dao dn dcap) := y0
          have hli' : nI + uits.length ≤ (osI us).length := hli
          have hil2 : nI + bn ≤ 4194304 := by rw [← hil]; omega
          have HIL := hid hil
          clear hum hu huk hli hli' hni HR y0 hil
          go_upto_region 7 with fail
          go_wp2_with (at_builtin; refine wpList_grew rfl _ _ 72 rfl elem_lD rfl ((H1.out.rowAt (i := 0) rfl).keep ((Chg.refl [] _).alloc _) (by simp)) rfl (View.one _ _ _) (by simp [Value.oneCell']) (by unfold maxLen; omega) (by omega) (fun ao1 cap1 r1 w1 hr1 hg1 => halt (fun XX hXX => ?_)))
          have h2 := H1.out.grow 0 rfl ((Chg.refl [] _).alloc _) hr1 hg1.chg hg1.fresh rfl
          have H2 := hid h2
          obtain ⟨_, y1⟩ := pair_at HUK.out.1 _ (h2.get (i := 3) rfl)
          have y1' : w1.cell? ⟨bu, i * 2 + 1, none⟩ = some (.slice bao bn bcap) := y1
          clear h2 hr1 hg1 y0' y1 H1
          rw [hXX.out]; clear hXX XX
          go_upto_region 8 with fail
          go_wp2_with (at_builtin; refine wpList_grew rfl _ _ 73 rfl elem_lB rfl ((H2.out.rowAt (i := 1) rfl).keep ((Chg.refl [] _).alloc _) (by simp)) rfl (View.one _ _ _) (by simp [Value.oneCell']) (by unfold maxLen; omega) (by omega) (fun ao2 cap2 r2 w2 hr2 hg2 => halt (fun XX hXX => ?_)))
          have h3 := H2.out.grow 1 rfl ((Chg.refl [] _).alloc _) hr2 hg2.chg hg2.fresh rfl
          have H3 := hid h3
          clear h3 hr2 hg2 y1' H2
          rw [hXX.out]; clear hXX XX
          obtain ⟨gi, rfl⟩ : ∃ gi, gi = gk := ⟨_, rfl⟩
          obtain ⟨wo, rfl⟩ : ∃ wo : World, wo = wr := ⟨_, rfl⟩
          obtain ⟨LI, hLI⟩ : ∃ LI, (osI (us.take i)).map OL.v = LI := ⟨_, rfl⟩
          obtain ⟨LD, hLD⟩ : ∃ LD, (osD (us.take i)).map OL.v ++ [.slice dao dn dcap] = LD := ⟨_, rfl⟩
          obtain ⟨LB, hLB⟩ : ∃ LB, (osB (us.take i)).map OL.v ++ [.slice bao bn bcap] = LB := ⟨_, rfl⟩
          have H3' := H3.out
          simp only [List.set_cons_zero, List.set_cons_succ] at H3'
          rw [hLI, hLD, hLB] at H3'
          have HL := hid (And.intro hLI (And.intro hLD hLB))
          have H4 := hid H3'
          clear hLI hLD hLB H3' H3
          go_wp2_with fail
          go_loopg [7, 10] bn (fun gk v7 v10 wr => ∃ (k m : Nat) (aI : Option Addr) (kI : Nat) (rI : Option Nat), v7 = .slice aI m kI ∧ v10 = .int .i64 k ∧ Hid (gk + k = bn) ∧ Hid (nI + k = m ∧ Hp [] w0 wr (cD ao1 (i + 1) cap1 r1 LD :: cB ao2 (i + 1) cap2 r2 LB :: cI aI m kI rI (LI ++ (uits.take k).map OL.v) :: ubx bu us :: ((osD us).map itD ++ (osB us).map itB ++ (osI us).map itI ++ R))))
          case atStart => exact ⟨0, nI, aI, kI, rI, rfl, rfl, hid (by omega), hid ⟨rfl, by simpa using H4.out⟩⟩
          case round =>
            obtain ⟨k, m, aI, kI, rI, rfl, rfl, HG2, HR⟩ := hrel
            obtain ⟨_, y1⟩ := pair_at HUK.out.1 _ (HR.out.2.get (i := 3) rfl)
            have y1' : wr.cell? ⟨bu, i * 2 + 1, none⟩ = some (.slice bao bn bcap) := y1
            clear y1
            by_cases hlk : k < bn
            · have hbm : itB ⟨bao, bn, bcap, br, bxs⟩ ∈ (cD ao1 (i + 1) cap1 r1 LD :: cB ao2 (i + 1) cap2 r2 LB :: cI aI m kI rI (LI ++ (uits.take k).map OL.v) :: ubx bu us :: ((osD us).map itD ++ (osB us).map itB ++ (osI us).map itI ++ R)) := by
                refine List.mem_cons_of_mem _ (List.mem_cons_of_mem _ (List.mem_cons_of_mem _ (List.mem_cons_of_mem _ ?_)))
                refine List.mem_append_left _ (List.mem_append_left _ (List.mem_append_right _ (List.mem_map.2 ⟨_, ?_, rfl⟩)))
                exact List.mem_map.2 ⟨_, List.mem_of_getElem? HUK.out.1, rfl⟩
              have hrow : Row wr 50 4 (.slice bao bn bcap) br bn bxs := HR.out.2.ok _ hbm
              obtain ⟨g, rfl, rfl, hbc⟩ := Row.slice hrow (by omega)
              have hku : k < uits.length := by rw [HIL.out]; exact hlk
              obtain ⟨o, ho⟩ : ∃ o, uits[k] = o := ⟨_, rfl⟩
              have z1 : wr.cell? ⟨g, k * 4 + 1, none⟩ = some o.v := by
                rw [(Row.cellk hrow).1 (k * 4 + 1) (by omega), ← ho]
                exact congrArg some (HUK.out.2.1.iv k hku)
              have hot : uits.take (k + 1) = uits.take k ++ [o] := take_next (by rw [List.getElem?_eq_getElem hku, ho])
              obtain ⟨oao, on, ocap, or, oxs⟩ := o
              have z1' : wr.cell? ⟨g, k * 4 + 1, none⟩ = some (.slice oao on ocap) := z1
              have hkl : (k : Int) < (bn : Int) := by omega
              have hm4 : m ≤ 4194304 := by have := HR.out.1; omega
              have HOT := hid hot
              clear hbm hrow z1 ho hot hku
              go_upto_region 12 with fail
              go_wp2_with (at_builtin; refine wpList_grew rfl _ _ 74 rfl elem_lI rfl ((HR.out.2.rowAt (i := 2) rfl).keep ((Chg.refl [] _).alloc _) (by simp)) rfl (View.one _ _ _) (by simp [Value.oneCell']) (by unfold maxLen; omega) (by omega) (fun ao3 cap3 r3 w3 hr3 hg3 => halt (fun XX hXX => ?_)))
              have h5 := HR.out.2.grow 2 rfl ((Chg.refl [] _).alloc _) hr3 hg3.chg hg3.fresh rfl
              simp only [List.set_cons_zero, List.set_cons_succ] at h5
              have e5 : LI ++ (uits.take k).map OL.v ++ [Value.slice oao on ocap] = LI ++ (uits.take (k + 1)).map OL.v := by
                rw [HOT.out, List.map_append, List.append_assoc]; rfl
              rw [e5] at h5
              have H5 := hid h5
              clear h5 hr3 hg3 y1' z1' e5
              rw [hXX.out]; clear hXX XX
              go_wp2_with fail
              go_roundg (gk - 1)
              case measure => have := HG2.out; omega
              case rel => exact ⟨k + 1, m + 1, ao3, cap3, r3, rfl, by go_num, hid (by have := HG2.out; omega), hid ⟨by have := HR.out.1; omega, H5.out⟩⟩
            · go_wp2_with fail
              go_roundg (gi - 1)
              case measure => have := HG.out; omega
              case rel =>
                have hk : k = bn := by have := HG2.out; omega
                have h6 := HR.out.2
                rw [hk, List.take_of_length_le (by rw [HIL.out]; exact Nat.le_refl _)] at h6
                refine ⟨i + 1, m, ao1, cap1, r1, ao2, cap2, r2, aI, kI, rI, rfl, rfl, rfl, by go_num, hid (by have := HG.out; omega), hid ⟨?_, ?_⟩⟩
                · rw [osI_take HUK.out.1, List.length_append, HUK.out.2.2]
                  have h7 : uits.length = bn := HIL.out
                  have := HR.out.1
                  show nI + uits.length = m
                  omega
                · have e1 : (osD (us.take (i + 1))).map OL.v = LD := by
                    rw [← HL.out.2.1]; unfold osD; rw [take_next HUK.out.1, List.map_append, List.map_append]; rfl
                  have e2 : (osB (us.take (i + 1))).map OL.v = LB := by
                    rw [← HL.out.2.2]; unfold osB; rw [take_next HUK.out.1, List.map_append, List.map_append]; rfl
                  have e3 : (osI (us.take (i + 1))).map OL.v = LI ++ uits.map OL.v := by
                    rw [← HL.out.1, osI_take HUK.out.1, List.map_append]
                  rw [e1, e2, e3]
                  exact h6
        · have hin : i = n := by have := HG.out; omega
          have h8 := HR.out.2
          have hlen := HR.out.1
          rw [hin] at h8 hlen
          rw [List.take_of_length_le (by rw [HN.out]; exact Nat.le_refl _)] at h8 hlen
          go_wp2_with fail
          go_meet
          exact ⟨aD, kD, rD, aB, kB, rB, aI, nI, kI, rI, by rw [hin], by rw [hin], rfl, hid ⟨hlen, h8⟩⟩
  case rest =>
    obtain ⟨aD, kD, rD, aB, kB, rB, aI, nI, kI, rI, rfl, rfl, rfl, hrest⟩ := hcut
    obtain ⟨hlen, h8⟩ := hrest.out
    have FD : Hid (∀ o ∈ osD us, o.xs.length = o.n * 5 ∧ o.n ≤ 4194304) := hid (fun o ho => by
      obtain ⟨u, hu, rfl⟩ := List.mem_map.1 ho
      exact ⟨(HU.out u hu).dx, (HU.out u hu).ds⟩)
    have FB : Hid (∀ o ∈ osB us, o.xs.length = o.n * 4 ∧ o.n ≤ 4194304) := hid (fun o ho => by
      obtain ⟨u, hu, rfl⟩ := List.mem_map.1 ho
      exact ⟨(HU.out u hu).bx, (HU.out u hu).bs⟩)
    have FI : Hid (∀ o ∈ osI us, o.xs.length = o.n * 10 ∧ o.n ≤ 4194304) := hid (fun o ho => by
      obtain ⟨u, hu, ho⟩ := List.mem_flatMap.1 ho
      exact (HU.out u hu).ix o ho)
    have LD : Hid ((osD us).length = n) := hid (by unfold osD; rw [List.length_map]; exact HN.out)
    have LB : Hid ((osB us).length = n) := hid (by unfold osB; rw [List.length_map]; exact HN.out)
    have LI : Hid ((osI us).length = nI) := hid hlen
    have hnI : nI ≤ 4194304 := by rw [← hlen]; exact HNI.out
    obtain ⟨OD, hOD⟩ : ∃ OD, osD us = OD := ⟨_, rfl⟩
    obtain ⟨OB, hOB⟩ : ∃ OB, osB us = OB := ⟨_, rfl⟩
    obtain ⟨OI, hOI⟩ : ∃ OI, osI us = OI := ⟨_, rfl⟩
    rw [hOD] at FD LD h8
    rw [hOB] at FB LB h8
    rw [hOI] at FI LI h8
    have OKD : Hid (∀ o ∈ OD, o.ok) := hid (fun o ho => OL.ok_of (h8.ok (itD o) (by simp [List.mem_append]; exact .inr (.inr (.inr (.inr (.inl ⟨o, ho, rfl⟩)))))))
    have OKB : Hid (∀ o ∈ OB, o.ok) := hid (fun o ho => OL.ok_of (h8.ok (itB o) (by simp [List.mem_append]; exact .inr (.inr (.inr (.inr (.inr (.inl ⟨o, ho, rfl⟩))))))))
    have OKI : Hid (∀ o ∈ OI, o.ok) := hid (fun o ho => OL.ok_of (h8.ok (itI o) (by simp [List.mem_append]; exact .inr (.inr (.inr (.inr (.inr (.inr (.inl ⟨o, ho, rfl⟩)))))))))
    obtain ⟨VD, hVD⟩ : ∃ VD, OD.map OL.v = VD := ⟨_, rfl⟩
    obtain ⟨VB, hVB⟩ : ∃ VB, OB.map OL.v = VB := ⟨_, rfl⟩
    obtain ⟨VI, hVI⟩ : ∃ VI, OI.map OL.v = VI := ⟨_, rfl⟩
    rw [hVD, hVB, hVI] at h8
    have HVD : Hid (∀ j o, OD[j]? = some o → VD.getD j undef = o.v) := hid (fun j o h => by rw [← hVD, List.getD_eq_getElem?_getD, List.getElem?_map, h]; rfl)
    have HVB : Hid (∀ j o, OB[j]? = some o → VB.getD j undef = o.v) := hid (fun j o h => by rw [← hVB, List.getD_eq_getElem?_getD, List.getElem?_map, h]; rfl)
    have HVI : Hid (∀ j o, OI[j]? = some o → VI.getD j undef = o.v) := hid (fun j o h => by rw [← hVI, List.getD_eq_getElem?_getD, List.getElem?_map, h]; rfl)
    have h9 : Hp [] w0 wc (cD aD n kD rD VD :: cB aB n kB rB VB :: cI aI nI kI rI VI :: (((mkF mD OD).take 0).map itD ++ (OD.drop 0).map itD ++ (((mkF mB OB).take 0).map itB ++ (OB.drop 0).map itB ++ (OI.map itI ++ R)))) := by
      refine (h8.sub (I' := cD aD n kD rD VD :: cB aB n kB rB VB :: cI aI nI kI rI VI :: (OD.map itD ++ OB.map itB ++ OI.map itI ++ R)) (.cons_cons _ (.cons_cons _ (.cons_cons _ (.cons _ (.refl _)))))).re (fun a => ?_)
      simp only [List.take_zero, List.drop_zero, List.map_nil, List.nil_append, List.append_assoc]
    have H9 := hid h9
    clear h8 h9 hlen hOD hOB hOI hVD hVB hVI hrest H0
    go_upto_block 4 with fail
    go_cut [11, 12, 13] from 72 to 114 (fun v11 v12 v13 wx => Hid (Hp [] w0 wx (cD aD n kD rD VD :: cB aB n kB rB VB :: cI aI nI kI rI VI :: ((mkF mD OD).map itD ++ ((mkF mB OB).map itB ++ (OI.map itI ++ R))))))
    case first =>
      go_wp2_with fail
      go_loopg [11] n (fun gk vv wr => ∃ i : Nat, vv = .int .i64 i ∧ Hid (gk + i = n) ∧ Hid (Hp [] w0 wr (cD aD n kD rD VD :: cB aB n kB rB VB :: cI aI nI kI rI VI :: (((mkF mD OD).take i).map itD ++ (OD.drop i).map itD ++ (((mkF mB OB).take i).map itB ++ (OB.drop i).map itB ++ (OI.map itI ++ R))))))
      case atStart => exact ⟨0, rfl, hid (by omega), H9⟩
      case round =>
        clear H9
        obtain ⟨i, rfl, HG, HR⟩ := hrel
        by_cases hlt : i < n
        · obtain ⟨o, ho⟩ : ∃ o, OD[i]? = some o := ⟨OD[i]'(by rw [LD.out]; exact hlt), List.getElem?_eq_getElem _⟩
          obtain ⟨p, hp⟩ : ∃ p, OB[i]? = some p := ⟨OB[i]'(by rw [LB.out]; exact hlt), List.getElem?_eq_getElem _⟩
          have h1 := HR.out
          rw [drop_cons ho, drop_cons hp] at h1
          obtain ⟨gD, hgD, haD, _⟩ := Row.slice (h1.rowAt (i := 0) rfl) (by omega)
          obtain ⟨gB, hgB, haB, _⟩ := Row.slice (h1.rowAt (i := 1) rfl) (by omega)
          subst hgD
          subst haD
          subst hgB
          subst haB
          have h2 : Hp [] w0 wr (itD o :: itB p :: cD (some ⟨gD, 0, none⟩) n kD (some gD) VD :: cB (some ⟨gB, 0, none⟩) n kB (some gB) VB :: cI aI nI kI rI VI :: (((mkF mD OD).take i).map itD ++ (OD.drop (i + 1)).map itD ++ (((mkF mB OB).take i).map itB ++ (OB.drop (i + 1)).map itB ++ (OI.map itI ++ R)))) := h1.re (fun a => by
            simp only [List.count_append, List.count_cons, List.map_cons, itD, itB, itI]
            omega)
          have HOD := hid ho
          have HOB := hid hp
          have H2 := hid h2
          obtain ⟨oao, on, ocap, or, oxs⟩ := o
          obtain ⟨pao, pn, pcap, pr, pxs⟩ := p
          obtain ⟨RR, hRR⟩ : ∃ RR, (((mkF mD OD).take i).map itD ++ (OD.drop (i + 1)).map itD ++ (((mkF mB OB).take i).map itB ++ (OB.drop (i + 1)).map itB ++ (OI.map itI ++ R))) = RR := ⟨_, rfl⟩
          rw [hRR] at H2
          have HRR := hid hRR
          clear ho hp h1 h2 HR hRR
          obtain ⟨wq, rfl⟩ : ∃ wq : World, wq = wr := ⟨_, rfl⟩
          obtain ⟨gq, rfl⟩ : ∃ gq, gq = gk := ⟨_, rfl⟩
          go_wp2_with fail
          go_loopg [12] on (fun gk vv wr => ∃ q : Nat, vv = .int .i64 q ∧ Hid (gk + q = on) ∧ Hid (Hp [] w0 wr ((OL.part (mD i) 5 q ⟨oao, on, ocap, or, oxs⟩).it 47 5 :: itB ⟨pao, pn, pcap, pr, pxs⟩ :: cD (some ⟨gD, 0, none⟩) n kD (some gD) VD :: cB (some ⟨gB, 0, none⟩) n kB (some gB) VB :: cI aI nI kI rI VI :: RR)))
          case atStart => exact ⟨0, rfl, hid (by omega), hid (by rw [OL.part_zero]; exact H2.out)⟩
          case round =>
            obtain ⟨q, rfl, HG2, HQ⟩ := hrel
            have y1 : wr.cell? ⟨gD, i, none⟩ = some (.slice oao on ocap) := by
              rw [(Row.cellk (HQ.out.rowAt (i := 2) rfl)).1 i (by omega)]
              exact congrArg some (HVD.out i _ HOD.out)
            by_cases hq : q < on
            · have hok := (OKD.out _ (List.mem_of_getElem? HOD.out))
              obtain ⟨g, hg, hga⟩ : ∃ g, or = some g ∧ oao = some ⟨g, 0, none⟩ := by
                rcases hok with ⟨_, _, h3, _⟩ | ⟨g, h1, h2, _⟩
                · exact absurd hq (by have h3 : on = 0 := h3; omega)
                · exact ⟨g, h1, h2⟩
              have hxl := (FD.out _ (List.mem_of_getElem? HOD.out)).1
              have hxl : oxs.length = on * 5 := hxl
              have hmk := Hp.mark5 hg hxl hq HQ.out
              have hrow : Row wr 47 5 _ or on _ := HQ.out.rowAt (i := 0) rfl
              rw [hg] at hrow
              have zz := (Row.cellk hrow).1
              have zf := (Row.cellk hrow).2.1
              obtain ⟨v0, z0⟩ : ∃ v, wr.cell? ⟨g, q * 5, none⟩ = some v := ⟨_, zz (q * 5) (by omega)⟩
              obtain ⟨v1, z1⟩ : ∃ v, wr.cell? ⟨g, q * 5 + 1, none⟩ = some v := ⟨_, zz (q * 5 + 1) (by omega)⟩
              obtain ⟨v2, z2⟩ : ∃ v, wr.cell? ⟨g, q * 5 + 2, none⟩ = some v := ⟨_, zz (q * 5 + 2) (by omega)⟩
              obtain ⟨v3, z3⟩ : ∃ v, wr.cell? ⟨g, q * 5 + 3, none⟩ = some v := ⟨_, zz (q * 5 + 3) (by omega)⟩
              obtain ⟨v4, z4⟩ : ∃ v, wr.cell? ⟨g, q * 5 + 4, none⟩ = some v := ⟨_, zz (q * 5 + 4) (by omega)⟩
              have hql : (q : Int) < (on : Int) := by omega
              have hwm : wrap64 (-1 - (i : Int)) = -1 - (i : Int) := IntWalk.wrap64_in _ (by omega)
              rw [hga] at y1
              have HMK := hid hmk
              clear hok hxl hmk hrow zz hg hga
              go_wp2_with fail
              go_roundg (gk - 1)
              case measure => have := HG2.out; omega
              case rel => exact ⟨q + 1, by first | go_num | (rw [show ((q : Nat) : Int) + 1 = ((q + 1 : Nat) : Int) from by omega, IntWalk.wrap64_in _ (by have := FD.out _ (List.mem_of_getElem? HOD.out); have h3 : on ≤ 4194304 := this.2; omega)]), hid (by have := HG2.out; omega), HMK⟩
            · have hqe : q = on := by have := HG2.out; omega
              have HX : Hid (Hp [] w0 wr ((OL.mk' (mD i) ⟨oao, on, ocap, or, oxs⟩).it 47 5 :: itB ⟨pao, pn, pcap, pr, pxs⟩ :: cD (some ⟨gD, 0, none⟩) n kD (some gD) VD :: cB (some ⟨gB, 0, none⟩) n kB (some gB) VB :: cI aI nI kI rI VI :: RR)) := hid (by
                have h1 := HQ.out
                rw [hqe, show OL.part (mD i) 5 on ⟨oao, on, ocap, or, oxs⟩ = OL.mk' (mD i) ⟨oao, on, ocap, or, oxs⟩ from OL.part_all (o := ⟨oao, on, ocap, or, oxs⟩) _ (FD.out _ (List.mem_of_getElem? HOD.out)).1] at h1
                exact h1)
              clear HQ HG2 hqe
              have H3 := hid HX.out.swap2
              clear HX H2
              obtain ⟨wv, rfl⟩ : ∃ wv : World, wv = wr := ⟨_, rfl⟩
              obtain ⟨gv, rfl⟩ : ∃ gv, gv = gk := ⟨_, rfl⟩
              go_wp2_with fail
              go_loopg [13] pn (fun gk vv wr => ∃ q : Nat, vv = .int .i64 q ∧ Hid (gk + q = pn) ∧ Hid (Hp [] w0 wr ((OL.part (mB i) 4 q ⟨pao, pn, pcap, pr, pxs⟩).it 50 4 :: itD (OL.mk' (mD i) ⟨oao, on, ocap, or, oxs⟩) :: cD (some ⟨gD, 0, none⟩) n kD (some gD) VD :: cB (some ⟨gB, 0, none⟩) n kB (some gB) VB :: cI aI nI kI rI VI :: RR)))
              case atStart => exact ⟨0, rfl, hid (by omega), hid (by rw [OL.part_zero]; exact H3.out)⟩
              case round =>
                obtain ⟨q, rfl, HG2, HQ⟩ := hrel
                have y1 : wr.cell? ⟨gB, i, none⟩ = some (.slice pao pn pcap) := by
                  rw [(Row.cellk (HQ.out.rowAt (i := 3) rfl)).1 i (by omega)]
                  exact congrArg some (HVB.out i _ HOB.out)
                by_cases hq : q < pn
                · have hok := (OKB.out _ (List.mem_of_getElem? HOB.out))
                  obtain ⟨g, hg, hga⟩ : ∃ g, pr = some g ∧ pao = some ⟨g, 0, none⟩ := by
                    rcases hok with ⟨_, _, h3, _⟩ | ⟨g, h1, h2, _⟩
                    · exact absurd hq (by have h3 : pn = 0 := h3; omega)
                    · exact ⟨g, h1, h2⟩
                  have hxl := (FB.out _ (List.mem_of_getElem? HOB.out)).1
                  have hxl : pxs.length = pn * 4 := hxl
                  have hmk := Hp.mark4 hg hxl hq HQ.out
                  have hrow : Row wr 50 4 _ pr pn _ := HQ.out.rowAt (i := 0) rfl
                  rw [hg] at hrow
                  have zz := (Row.cellk hrow).1
                  have zf := (Row.cellk hrow).2.1
                  obtain ⟨v0, z0⟩ : ∃ v, wr.cell? ⟨g, q * 4, none⟩ = some v := ⟨_, zz (q * 4) (by omega)⟩
                  obtain ⟨v1, z1⟩ : ∃ v, wr.cell? ⟨g, q * 4 + 1, none⟩ = some v := ⟨_, zz (q * 4 + 1) (by omega)⟩
                  obtain ⟨v2, z2⟩ : ∃ v, wr.cell? ⟨g, q * 4 + 2, none⟩ = some v := ⟨_, zz (q * 4 + 2) (by omega)⟩
                  obtain ⟨v3, z3⟩ : ∃ v, wr.cell? ⟨g, q * 4 + 3, none⟩ = some v := ⟨_, zz (q * 4 + 3) (by omega)⟩
                  have hql : (q : Int) < (pn : Int) := by omega
                  have hwm : wrap64 (-1 - (i : Int)) = -1 - (i : Int) := IntWalk.wrap64_in _ (by omega)
                  rw [hga] at y1
                  have HMK := hid hmk
                  clear hok hxl hmk hrow zz hg hga
                  go_wp2_with fail
                  go_roundg (gk - 1)
                  case measure => have := HG2.out; omega
                  case rel => exact ⟨q + 1, by first | go_num | (rw [show ((q : Nat) : Int) + 1 = ((q + 1 : Nat) : Int) from by omega, IntWalk.wrap64_in _ (by have := FB.out _ (List.mem_of_getElem? HOB.out); have h3 : pn ≤ 4194304 := this.2; omega)]), hid (by have := HG2.out; omega), HMK⟩
                · have hqe : q = pn := by have := HG2.out; omega
                  have HX : Hid (Hp [] w0 wr ((OL.mk' (mB i) ⟨pao, pn, pcap, pr, pxs⟩).it 50 4 :: itD (OL.mk' (mD i) ⟨oao, on, ocap, or, oxs⟩) :: cD (some ⟨gD, 0, none⟩) n kD (some gD) VD :: cB (some ⟨gB, 0, none⟩) n kB (some gB) VB :: cI aI nI kI rI VI :: RR)) := hid (by
                    have h1 := HQ.out
                    rw [hqe, show OL.part (mB i) 4 pn ⟨pao, pn, pcap, pr, pxs⟩ = OL.mk' (mB i) ⟨pao, pn, pcap, pr, pxs⟩ from OL.part_all (o := ⟨pao, pn, pcap, pr, pxs⟩) _ (FB.out _ (List.mem_of_getElem? HOB.out)).1] at h1
                    exact h1)
                  clear HQ HG2 hqe
                  have h5 := HX.out
                  have h6 : Hp [] w0 wr (cD (some ⟨gD, 0, none⟩) n kD (some gD) VD :: cB (some ⟨gB, 0, none⟩) n kB (some gB) VB :: cI aI nI kI rI VI :: (((mkF mD OD).take (i + 1)).map itD ++ (OD.drop (i + 1)).map itD ++ (((mkF mB OB).take (i + 1)).map itB ++ (OB.drop (i + 1)).map itB ++ (OI.map itI ++ R)))) := h5.re (fun a => by
                    rw [← HRR.out, take_next (mkF_get (M := mD) HOD.out), take_next (mkF_get (M := mB) HOB.out)]
                    simp only [List.count_append, List.count_cons, List.map_append, List.map_cons, List.map_nil, List.count_nil, itD, itB, itI]
                    omega)
                  have H6 := hid h6
                  clear h5 h6 HX H3
                  go_wp2_with fail
                  go_roundg (gq - 1)
                  case measure => have := HG.out; omega
                  case rel => exact ⟨i + 1, by first | go_num | (rw [show ((i : Nat) : Int) + 1 = ((i + 1 : Nat) : Int) from by omega, IntWalk.wrap64_in _ (by omega)]), hid (by have := HG.out; omega), H6⟩
        · have hin : i = n := by have := HG.out; omega
          have h8 := HR.out
          rw [hin, List.take_of_length_le (by rw [mkF_len, LD.out]; exact Nat.le_refl _), List.take_of_length_le (by rw [mkF_len, LB.out]; exact Nat.le_refl _), List.drop_of_length_le (by rw [LD.out]; exact Nat.le_refl _), List.drop_of_length_le (by rw [LB.out]; exact Nat.le_refl _)] at h8
          simp only [List.map_nil, List.append_nil] at h8
          have H10 := hid h8
          go_wp2_with fail
          go_meet
          exact H10
    case rest =>
      have H10 := hcut
      clear hcut H9
      have h11 : Hp [] w0 wc (cI aI nI kI rI VI :: (((mkF mI OI).take 0).map itI ++ (OI.drop 0).map itI ++ (cD aD n kD rD VD :: cB aB n kB rB VB :: ((mkF mD OD).map itD ++ ((mkF mB OB).map itB ++ R))))) := H10.out.re (fun a => by
        simp only [List.count_append, List.count_cons, List.take_zero, List.drop_zero, List.map_nil, List.nil_append]
        omega)
      obtain ⟨RR, hRR⟩ : ∃ RR, (cD aD n kD rD VD :: cB aB n kB rB VB :: ((mkF mD OD).map itD ++ ((mkF mB OB).map itB ++ R))) = RR := ⟨_, rfl⟩
      rw [hRR] at h11
      have HRR := hid hRR
      have H11 := hid h11
      clear h11 hRR H10
      go_upto_block 10 with fail
      go_cut [14, 15] from 115 to 138 (fun v14 v15 wx => Hid (Hp [] w0 wx (cI aI nI kI rI VI :: ((mkF mI OI).map itI ++ RR))))
      case first =>
        go_wp2_with fail
        go_loopg [14] nI (fun gk vv wr => ∃ i : Nat, vv = .int .i64 i ∧ Hid (gk + i = nI) ∧ Hid (Hp [] w0 wr (cI aI nI kI rI VI :: (((mkF mI OI).take i).map itI ++ (OI.drop i).map itI ++ RR))))
        case atStart => exact ⟨0, rfl, hid (by omega), H11⟩
        case round =>
          clear H11
          obtain ⟨i, rfl, HG, HR⟩ := hrel
          by_cases hlt : i < nI
          · obtain ⟨o, ho⟩ : ∃ o, OI[i]? = some o := ⟨OI[i]'(by rw [LI.out]; exact hlt), List.getElem?_eq_getElem _⟩
            have h1 := HR.out
            rw [drop_cons ho] at h1
            obtain ⟨gI, hgI, haI, _⟩ := Row.slice (h1.rowAt (i := 0) rfl) (by omega)
            subst hgI
            subst haI
            obtain ⟨RS, hRS⟩ : ∃ RS, (((mkF mI OI).take i).map itI ++ (OI.drop (i + 1)).map itI ++ RR) = RS := ⟨_, rfl⟩
            have h2 : Hp [] w0 wr (itI o :: cI (some ⟨gI, 0, none⟩) nI kI (some gI) VI :: RS) := h1.re (fun a => by
              rw [← hRS]
              simp only [List.count_append, List.count_cons, List.map_cons, itD, itB, itI]
              omega)
            have HOI := hid ho
            have H2 := hid h2
            obtain ⟨oao, on, ocap, or, oxs⟩ := o
            have HRS := hid hRS
            clear ho h1 h2 HR hRS
            obtain ⟨wq, rfl⟩ : ∃ wq : World, wq = wr := ⟨_, rfl⟩
            obtain ⟨gq, rfl⟩ : ∃ gq, gq = gk := ⟨_, rfl⟩
            go_wp2_with fail
            go_loopg [15] on (fun gk vv wr => ∃ q : Nat, vv = .int .i64 q ∧ Hid (gk + q = on) ∧ Hid (Hp [] w0 wr ((OL.part (mI i) 10 q ⟨oao, on, ocap, or, oxs⟩).it 53 10 :: cI (some ⟨gI, 0, none⟩) nI kI (some gI) VI :: RS)))
            case atStart => exact ⟨0, rfl, hid (by omega), hid (by rw [OL.part_zero]; exact H2.out)⟩
            case round =>
              obtain ⟨q, rfl, HG2, HQ⟩ := hrel
              have y1 : wr.cell? ⟨gI, i, none⟩ = some (.slice oao on ocap) := by
                rw [(Row.cellk (HQ.out.rowAt (i := 1) rfl)).1 i (by omega)]
                exact congrArg some (HVI.out i _ HOI.out)
              by_cases hq : q < on
              · have hok := (OKI.out _ (List.mem_of_getElem? HOI.out))
                obtain ⟨g, hg, hga⟩ : ∃ g, or = some g ∧ oao = some ⟨g, 0, none⟩ := by
                  rcases hok with ⟨_, _, h3, _⟩ | ⟨g, h1, h2, _⟩
                  · exact absurd hq (by have h3 : on = 0 := h3; omega)
                  · exact ⟨g, h1, h2⟩
                have hxl := (FI.out _ (List.mem_of_getElem? HOI.out)).1
                have hxl : oxs.length = on * 10 := hxl
                have hmk := Hp.mark10 hg hxl hq HQ.out
                have hrow : Row wr 53 10 _ or on _ := HQ.out.rowAt (i := 0) rfl
                rw [hg] at hrow
                have zz := (Row.cellk hrow).1
                have zf := (Row.cellk hrow).2.1
                obtain ⟨v0, z0⟩ : ∃ v, wr.cell? ⟨g, q * 10, none⟩ = some v := ⟨_, zz (q * 10) (by omega)⟩
                obtain ⟨v1, z1⟩ : ∃ v, wr.cell? ⟨g, q * 10 + 1, none⟩ = some v := ⟨_, zz (q * 10 + 1) (by omega)⟩
                obtain ⟨v2, z2⟩ : ∃ v, wr.cell? ⟨g, q * 10 + 2, none⟩ = some v := ⟨_, zz (q * 10 + 2) (by omega)⟩
                obtain ⟨v3, z3⟩ : ∃ v, wr.cell? ⟨g, q * 10 + 3, none⟩ = some v := ⟨_, zz (q * 10 + 3) (by omega)⟩
                obtain ⟨v4, z4⟩ : ∃ v, wr.cell? ⟨g, q * 10 + 4, none⟩ = some v := ⟨_, zz (q * 10 + 4) (by omega)⟩
                obtain ⟨v5, z5⟩ : ∃ v, wr.cell? ⟨g, q * 10 + 5, none⟩ = some v := ⟨_, zz (q * 10 + 5) (by omega)⟩
                obtain ⟨v6, z6⟩ : ∃ v, wr.cell? ⟨g, q * 10 + 6, none⟩ = some v := ⟨_, zz (q * 10 + 6) (by omega)⟩
                obtain ⟨v7, z7⟩ : ∃ v, wr.cell? ⟨g, q * 10 + 7, none⟩ = some v := ⟨_, zz (q * 10 + 7) (by omega)⟩
                obtain ⟨v8, z8⟩ : ∃ v, wr.cell? ⟨g, q * 10 + 8, none⟩ = some v := ⟨_, zz (q * 10 + 8) (by omega)⟩
                obtain ⟨v9, z9⟩ : ∃ v, wr.cell? ⟨g, q * 10 + 9, none⟩ = some v := ⟨_, zz (q * 10 + 9) (by omega)⟩
                have hql : (q : Int) < (on : Int) := by omega
                have hwm : wrap64 (-1 - (i : Int)) = -1 - (i : Int) := IntWalk.wrap64_in _ (by omega)
                rw [hga] at y1
                have HMK := hid hmk
                clear hok hxl hmk hrow zz hg hga
                go_wp2_with fail
                go_roundg (gk - 1)
                case measure => have := HG2.out; omega
                case rel => exact ⟨q + 1, by first | go_num | (rw [show ((q : Nat) : Int) + 1 = ((q + 1 : Nat) : Int) from by omega, IntWalk.wrap64_in _ (by have := FI.out _ (List.mem_of_getElem? HOI.out); have h3 : on ≤ 4194304 := this.2; omega)]), hid (by have := HG2.out; omega), HMK⟩
              · have hqe : q = on := by have := HG2.out; omega
                have HX : Hid (Hp [] w0 wr ((OL.mk' (mI i) ⟨oao, on, ocap, or, oxs⟩).it 53 10 :: cI (some ⟨gI, 0, none⟩) nI kI (some gI) VI :: RS)) := hid (by
                  have h1 := HQ.out
                  rw [hqe, show OL.part (mI i) 10 on ⟨oao, on, ocap, or, oxs⟩ = OL.mk' (mI i) ⟨oao, on, ocap, or, oxs⟩ from OL.part_all (o := ⟨oao, on, ocap, or, oxs⟩) _ (FI.out _ (List.mem_of_getElem? HOI.out)).1] at h1
                  exact h1)
                clear HQ HG2 hqe
                have h5 := HX.out
                have h6 : Hp [] w0 wr (cI (some ⟨gI, 0, none⟩) nI kI (some gI) VI :: (((mkF mI OI).take (i + 1)).map itI ++ (OI.drop (i + 1)).map itI ++ RR)) := h5.re (fun a => by
                  rw [← HRS.out, take_next (mkF_get (M := mI) HOI.out)]
                  simp only [List.count_append, List.count_cons, List.map_append, List.map_cons, List.map_nil, List.count_nil, itD, itB, itI]
                  omega)
                have H6 := hid h6
                clear h5 h6 HX H2
                go_wp2_with fail
                go_roundg (gq - 1)
                case measure => have := HG.out; omega
                case rel => exact ⟨i + 1, by first | go_num | (rw [show ((i : Nat) : Int) + 1 = ((i + 1 : Nat) : Int) from by omega, IntWalk.wrap64_in _ (by omega)]), hid (by have := HG.out; omega), H6⟩
          · have hin : i = nI := by have := HG.out; omega
            have h8 := HR.out
            rw [hin, List.take_of_length_le (by rw [mkF_len, LI.out]; exact Nat.le_refl _), List.drop_of_length_le (by rw [LI.out]; exact Nat.le_refl _)] at h8
            simp only [List.map_nil, List.append_nil] at h8
            have H33 := hid h8
            go_wp2_with fail
            go_meet
            exact H33
      case rest =>
        have h8 := hcut.out
        clear hcut H11
        have VMD : Hid (∀ j o, (mkF mD OD)[j]? = some o → VD.getD j undef = o.v ∧ o.ok ∧ o.xs = rep (mD j) o.n ∧ o.n ≤ 4194304) := hid (fun j o hj => by
          have hjl : j < OD.length := by
            rcases Nat.lt_or_ge j OD.length with h1 | h1
            · exact h1
            · rw [List.getElem?_eq_none (by rw [mkF_len]; exact h1)] at hj; cases hj
          have h0 : OD[j]? = some OD[j] := List.getElem?_eq_getElem hjl
          rw [mkF_get h0] at hj
          cases hj
          show VD.getD j undef = (OD[j]).v ∧ (OD[j]).ok ∧ _ ∧ (OD[j]).n ≤ 4194304
          exact ⟨HVD.out j _ h0, OKD.out _ (List.getElem_mem hjl), rfl, (FD.out _ (List.getElem_mem hjl)).2⟩)
        have VMB : Hid (∀ j o, (mkF mB OB)[j]? = some o → VB.getD j undef = o.v ∧ o.ok ∧ o.xs = rep (mB j) o.n ∧ o.n ≤ 4194304) := hid (fun j o hj => by
          have hjl : j < OB.length := by
            rcases Nat.lt_or_ge j OB.length with h1 | h1
            · exact h1
            · rw [List.getElem?_eq_none (by rw [mkF_len]; exact h1)] at hj; cases hj
          have h0 : OB[j]? = some OB[j] := List.getElem?_eq_getElem hjl
          rw [mkF_get h0] at hj
          cases hj
          show VB.getD j undef = (OB[j]).v ∧ (OB[j]).ok ∧ _ ∧ (OB[j]).n ≤ 4194304
          exact ⟨HVB.out j _ h0, OKB.out _ (List.getElem_mem hjl), rfl, (FB.out _ (List.getElem_mem hjl)).2⟩)
        have VMI : Hid (∀ j o, (mkF mI OI)[j]? = some o → VI.getD j undef = o.v ∧ o.ok ∧ o.xs = rep (mI j) o.n ∧ o.n ≤ 4194304) := hid (fun j o hj => by
          have hjl : j < OI.length := by
            rcases Nat.lt_or_ge j OI.length with h1 | h1
            · exact h1
            · rw [List.getElem?_eq_none (by rw [mkF_len]; exact h1)] at hj; cases hj
          have h0 : OI[j]? = some OI[j] := List.getElem?_eq_getElem hjl
          rw [mkF_get h0] at hj
          cases hj
          show VI.getD j undef = (OI[j]).v ∧ (OI[j]).ok ∧ _ ∧ (OI[j]).n ≤ 4194304
          exact ⟨HVI.out j _ h0, OKI.out _ (List.getElem_mem hjl), rfl, (FI.out _ (List.getElem_mem hjl)).2⟩)
        have LMD : Hid ((mkF mD OD).length = n) := hid (by rw [mkF_len]; exact LD.out)
        have LMB : Hid ((mkF mB OB).length = n) := hid (by rw [mkF_len]; exact LB.out)
        have LMI : Hid ((mkF mI OI).length = nI) := hid (by rw [mkF_len]; exact LI.out)
        rw [← HRR.out] at h8
        obtain ⟨MD, hMD⟩ : ∃ MD, mkF mD OD = MD := ⟨_, rfl⟩
        obtain ⟨MB, hMB⟩ : ∃ MB, mkF mB OB = MB := ⟨_, rfl⟩
        obtain ⟨MI, hMI⟩ : ∃ MI, mkF mI OI = MI := ⟨_, rfl⟩
        rw [hMD] at VMD LMD h8
        rw [hMB] at VMB LMB h8
        rw [hMI] at VMI LMI h8
        have h12 := (h8.nil 23 1).nil 22 1
        have h13 : Hp [] w0 wc (cD none 0 0 none [] :: cB none 0 0 none [] :: cD aD n kD rD VD :: cB aB n kB rB VB :: cI aI nI kI rI VI :: (gAll 47 5 mD [] ++ (MD.drop 0).map itD ++ (gAll 50 4 mB [] ++ (MB.drop 0).map itB ++ (MI.map itI ++ R)))) := h12.re (fun a => by
          simp only [gAll_nil, List.drop_zero, List.nil_append, List.count_append, List.count_cons, List.append_assoc, cD, cB, cI]
          omega)
        have H12 := hid h13
        clear hMD hMB hMI h12 h13 HRR FD FB FI LD LB LI OKD OKB OKI HVD HVB HVI h8
        go_upto_block 14 with fail
        go_cut [4, 6, 16, 17, 18, 19] from 139 to 177 (fun v4 v6 v16 v17 v18 v19 wx => ∃ (gsD gsB : List GO) (aL : Option Addr) (kL : Nat) (rL : Option Nat) (aM : Option Addr) (kM : Nat) (rM : Option Nat), v4 = .slice aL n kL ∧ v6 = .slice aM n kM ∧ Hid (GA mD MD gsD n ∧ GA mB MB gsB n) ∧ Hid (Hp [] w0 wx (cD aL n kL rL (gsD.map GO.lv) :: cB aM n kM rM (gsB.map GO.lv) :: cD aD n kD rD VD :: cB aB n kB rB VB :: cI aI nI kI rI VI :: (gAll 47 5 mD gsD ++ (gAll 50 4 mB gsB ++ (MI.map itI ++ R))))))
        case first =>
          go_wp2_with fail
          go_loopg [4, 6, 16] n (fun gk v4 v6 v16 wr => ∃ (i : Nat) (gsD gsB : List GO) (aL : Option Addr) (kL : Nat) (rL : Option Nat) (aM : Option Addr) (kM : Nat) (rM : Option Nat), v4 = .slice aL i kL ∧ v6 = .slice aM i kM ∧ v16 = .int .i64 i ∧ Hid (gk + i = n) ∧ Hid (GA mD MD gsD i ∧ GA mB MB gsB i) ∧ Hid (Hp [] w0 wr (cD aL i kL rL (gsD.map GO.lv) :: cB aM i kM rM (gsB.map GO.lv) :: cD aD n kD rD VD :: cB aB n kB rB VB :: cI aI nI kI rI VI :: (gAll 47 5 mD gsD ++ (MD.drop i).map itD ++ (gAll 50 4 mB gsB ++ (MB.drop i).map itB ++ (MI.map itI ++ R))))))
          case atStart => exact ⟨0, [], [], none, 0, none, none, 0, none, rfl, rfl, rfl, hid (by omega), hid ⟨GA.start _ _, GA.start _ _⟩, H12⟩
          case round =>
            clear H12
            obtain ⟨i, gsD, gsB, aL, kL, rL, aM, kM, rM, rfl, rfl, rfl, HG, HGA, HR⟩ := hrel
            by_cases hlt : i < n
            · obtain ⟨o, ho⟩ : ∃ o, MD[i]? = some o := ⟨MD[i]'(by rw [LMD.out]; exact hlt), List.getElem?_eq_getElem _⟩
              obtain ⟨p, hp⟩ : ∃ p, MB[i]? = some p := ⟨MB[i]'(by rw [LMB.out]; exact hlt), List.getElem?_eq_getElem _⟩
              have h1 := HR.out
              rw [drop_cons ho, drop_cons hp] at h1
              obtain ⟨gD, hgD, haD, _⟩ := Row.slice (h1.rowAt (i := 2) rfl) (by omega)
              obtain ⟨gB, hgB, haB, _⟩ := Row.slice (h1.rowAt (i := 3) rfl) (by omega)
              subst hgD
              subst haD
              subst hgB
              subst haB
              obtain ⟨hoD1, hoD2, hoD3, hoD4⟩ := VMD.out i o ho
              obtain ⟨hoB1, hoB2, hoB3, hoB4⟩ := VMB.out i p hp
              have y1 : wr.cell? ⟨gD, i, none⟩ = some o.v := by
                rw [(Row.cellk (h1.rowAt (i := 2) rfl)).1 i (by omega)]
                exact congrArg some hoD1
              have y2 : wr.cell? ⟨gB, i, none⟩ = some p.v := by
                rw [(Row.cellk (h1.rowAt (i := 3) rfl)).1 i (by omega)]
                exact congrArg some hoB1
              obtain ⟨RR, hRR⟩ : ∃ RR, (cD aL i kL rL (gsD.map GO.lv) :: cB aM i kM rM (gsB.map GO.lv) :: cD (some ⟨gD, 0, none⟩) n kD (some gD) VD :: cB (some ⟨gB, 0, none⟩) n kB (some gB) VB :: cI aI nI kI rI VI :: (gAll 47 5 mD gsD ++ (MD.drop (i + 1)).map itD ++ (gAll 50 4 mB gsB ++ (MB.drop (i + 1)).map itB ++ (MI.map itI ++ R)))) = RR := ⟨_, rfl⟩
              have h2 : Hp [] w0 wr ((GO.start o).its 47 5 (mD i) ++ ((GO.start p).its 50 4 (mB i) ++ RR)) := h1.re (fun a => by
                rw [GO.start_its hoD3, GO.start_its hoB3, ← hRR]
                simp only [List.count_append, List.count_cons, List.map_cons, List.count_nil, itD, itB, itI]
                omega)
              have H2 := hid h2
              have HS := hid (And.intro (GO.start_ok (M := mD i) hoD2 hoD3) (GO.start_ok (M := mB i) hoB2 hoB3))
              have HO := hid (And.intro ho hp)
              have HRR := hid hRR
              obtain ⟨oo, hoo⟩ : ∃ oo, oo = o := ⟨_, rfl⟩
              obtain ⟨pp, hpp⟩ : ∃ pp, pp = p := ⟨_, rfl⟩
              rw [← hoo] at HO HS H2
              rw [← hpp] at HO HS H2
              obtain ⟨oao, on, ocap, or, oxs⟩ := o
              obtain ⟨pao, pn, pcap, pr, pxs⟩ := p
              have y1' : wr.cell? ⟨gD, i, none⟩ = some (.slice oao on ocap) := y1
              have y2' : wr.cell? ⟨gB, i, none⟩ = some (.slice pao pn pcap) := y2
              have hon : on ≤ 4194304 := hoD4
              have hpn : pn ≤ 4194304 := hoB4
              have HOO := hid (And.intro hoo hpp)
              clear ho hp h1 h2 HR hRR y1 y2 hoD1 hoD2 hoD3 hoD4 hoB1 hoB2 hoB3 hoB4 hoo hpp
              obtain ⟨wq, rfl⟩ : ∃ wq : World, wq = wr := ⟨_, rfl⟩
              obtain ⟨gq, rfl⟩ : ∃ gq, gq = gk := ⟨_, rfl⟩
              go_wp2_with fail
              clear y1' y2'
              go_loopg [17, 18, 19] 70 (fun gk v17 v18 v19 wr => ∃ (q : Nat) (xa : Option Addr) (xc : Nat) (ya : Option Addr) (yc : Nat) (x y : GO), v17 = .slice xa (on + q) xc ∧ v18 = .slice ya (pn + q) yc ∧ v19 = .int .i64 q ∧ Hid (gk + q = 70) ∧ Hid (x.o = oo ∧ x.t = q ∧ x.ao = xa ∧ x.cap = xc ∧ x.ok (mD i) ∧ y.o = pp ∧ y.t = q ∧ y.ao = ya ∧ y.cap = yc ∧ y.ok (mB i)) ∧ Hid (Hp [] w0 wr (x.its 47 5 (mD i) ++ (y.its 50 4 (mB i) ++ RR))))
              case atStart => exact ⟨0, oao, ocap, pao, pcap, GO.start oo, GO.start pp, rfl, rfl, rfl, hid rfl, hid ⟨rfl, rfl, by rw [HOO.out.1]; rfl, by rw [HOO.out.1]; rfl, HS.out.1, rfl, rfl, by rw [HOO.out.2]; rfl, by rw [HOO.out.2]; rfl, HS.out.2⟩, H2⟩
              case round =>
                clear H2
                obtain ⟨q, xa, xc, ya, yc, x, y, rfl, rfl, rfl, HG2, HX, HR2⟩ := hrel
                by_cases hq : q < 70
                · have hqi : (q : Int) < 70 := by omega
                  have hwm : wrap64 (-1 - (i : Int)) = -1 - (i : Int) := IntWalk.wrap64_in _ (by omega)
                  have hrow : Row wr 47 5 (.slice xa (on + q) xc) x.r (on + q) (rep (mD i) (on + q)) := by
                    have h1 : Row wr 47 5 x.lv x.r (x.o.n + x.t) (rep (mD i) (x.o.n + x.t)) := HR2.out.rowAt (i := 0) rfl
                    unfold GO.lv at h1
                    rw [HX.out.1, HX.out.2.1, HX.out.2.2.1, HX.out.2.2.2.1, HOO.out.1] at h1
                    exact h1
                  have HROW := hid hrow
                  clear hrow
                  go_upto_region 39 with fail
                  go_wp2_with (at_builtin; refine wpList_grew rfl _ _ 22 rfl elem_dcl rfl (HROW.out.keep ((Chg.refl [] _).alloc _) (by simp)) rfl (View.struct _ [.int .i64 0, .string ⟨#[]⟩, .int .i64 (-1 - (i : Int)), .int .i64 0, .int .i64 0] 47 rfl) (by simp [Value.oneCell']) (by unfold maxLen; omega) (by omega) (fun ao8 cap8 r8 w8 hr8 hg8 => halt (fun XX hXX => ?_)))
                  have h3 := HR2.out.growG HX.out.2.2.2.2.1 ((Chg.refl [] _).alloc _) (ao' := ao8) (cap' := cap8) (r' := r8) (by
                    rw [HX.out.1, HX.out.2.1, HOO.out.1]
                    exact hr8) hg8
                  obtain ⟨x', e1, e2, e3, e4, e5, e6, h4⟩ := h3
                  have h5 : Hp [] w0 w8 (y.its 50 4 (mB i) ++ (x'.its 47 5 (mD i) ++ RR)) := h4.re (fun a => by
                    simp only [List.count_append]
                    omega)
                  have H5 := hid h5
                  have HX2 := hid (And.intro e1 (And.intro e2 (And.intro e3 (And.intro e4 e6))))
                  have hrow : Row w8 50 4 (.slice ya (pn + q) yc) y.r (pn + q) (rep (mB i) (pn + q)) := by
                    have h1 : Row w8 50 4 y.lv y.r (y.o.n + y.t) (rep (mB i) (y.o.n + y.t)) := h5.rowAt (i := 0) rfl
                    obtain ⟨_, _, _, _, _, g1, g2, g3, g4, _⟩ := HX.out
                    unfold GO.lv at h1
                    rw [g1, g2, g3, g4, HOO.out.2] at h1
                    exact h1
                  have HROW := hid hrow
                  clear hrow h4 h5 hr8 hg8 e1 e2 e3 e4 e5 e6 HR2
                  rw [hXX.out]; clear hXX XX
                  go_upto_region 40 with fail
                  go_wp2_with (at_builtin; refine wpList_grew rfl _ _ 23 rfl elem_blk rfl (HROW.out.keep ((Chg.refl [] _).alloc _) (by simp)) rfl (View.struct _ [.string ⟨#[]⟩, .slice none 0 0, .int .i64 (-1 - (i : Int)), .int .i64 0] 50 rfl) (by simp [Value.oneCell']) (by unfold maxLen; omega) (by omega) (fun ao9 cap9 r9 w9 hr9 hg9 => halt (fun XX hXX => ?_)))
                  have h3 := H5.out.growG HX.out.2.2.2.2.2.2.2.2.2 ((Chg.refl [] _).alloc _) (ao' := ao9) (cap' := cap9) (r' := r9) (by
                    obtain ⟨_, _, _, _, _, g1, g2, g3, g4, _⟩ := HX.out
                    rw [g1, g2, HOO.out.2]
                    exact hr9) hg9
                  obtain ⟨y', e1, e2, e3, e4, e5, e6, h4⟩ := h3
                  have h5 : Hp [] w0 w9 (x'.its 47 5 (mD i) ++ (y'.its 50 4 (mB i) ++ RR)) := h4.re (fun a => by
                    simp only [List.count_append]
                    omega)
                  have H6 := hid h5
                  have HY2 := hid (And.intro e1 (And.intro e2 (And.intro e3 (And.intro e4 e6))))
                  clear h4 h5 hr9 hg9 e1 e2 e3 e4 e5 e6 H5 HROW
                  rw [hXX.out]; clear hXX XX
                  go_wp2_with fail
                  go_roundg (gk - 1)
                  case measure => have := HG2.out; omega
                  case rel =>
                    refine ⟨q + 1, ao8, cap8, ao9, cap9, x', y', rfl, rfl, by first | go_num | (rw [show ((q : Nat) : Int) + 1 = ((q + 1 : Nat) : Int) from by omega, IntWalk.wrap64_in _ (by omega)]), hid (by have := HG2.out; omega), hid ?_, H6⟩
                    obtain ⟨f1, f2, _, _, _, g1, g2, _⟩ := HX.out
                    exact ⟨HX2.out.1.trans f1, by rw [HX2.out.2.1, f2], HX2.out.2.2.1, HX2.out.2.2.2.1, HX2.out.2.2.2.2, HY2.out.1.trans g1, by rw [HY2.out.2.1, g2], HY2.out.2.2.1, HY2.out.2.2.2.1, HY2.out.2.2.2.2⟩
                · have hqe : q = 70 := by have := HG2.out; omega
                  subst hqe
                  obtain ⟨f1, f2, f3, f4, f5, g1, g2, g3, g4, g5⟩ := HX.out
                  have h7 := HR2.out
                  rw [← HRR.out] at h7
                  have h8 : Hp [] w0 wr (cD aL i kL rL (gsD.map GO.lv) :: cB aM i kM rM (gsB.map GO.lv) :: cD (some ⟨gD, 0, none⟩) n kD (some gD) VD :: cB (some ⟨gB, 0, none⟩) n kB (some gB) VB :: cI aI nI kI rI VI :: (gAll 47 5 mD (gsD ++ [x]) ++ (MD.drop (i + 1)).map itD ++ (gAll 50 4 mB (gsB ++ [y]) ++ (MB.drop (i + 1)).map itB ++ (MI.map itI ++ R)))) := h7.re (fun a => by
                    rw [gAll_snoc, gAll_snoc, HGA.out.1.len, HGA.out.2.len]
                    simp only [List.count_append, List.count_cons]
                    omega)
                  have exv : x.lv = .slice xa (on + 70) xc := by unfold GO.lv; rw [f1, f2, f3, f4, HOO.out.1]
                  have eyv : y.lv = .slice ya (pn + 70) yc := by unfold GO.lv; rw [g1, g2, g3, g4, HOO.out.2]
                  have HGA2 := hid (And.intro (HGA.out.1.next f5 f2 (by rw [f1]; exact HO.out.1)) (HGA.out.2.next g5 g2 (by rw [g1]; exact HO.out.2)))
                  have HEV := hid (And.intro exv eyv)
                  have H8 := hid h8
                  clear h7 h8 exv eyv f1 f2 f3 f4 f5 g1 g2 g3 g4 g5 HR2
                  go_upto_region 41 with fail
                  go_wp2_with (at_builtin; refine wpList_grew rfl _ _ 72 rfl elem_lD rfl ((H8.out.rowAt (i := 0) rfl).keep ((Chg.refl [] _).alloc _) (by simp)) rfl (View.one _ _ _) (by simp [Value.oneCell']) (by unfold maxLen; omega) (by omega) (fun ao1 cap1 r1 w1 hr1 hg1 => halt (fun XX hXX => ?_)))
                  have h9 := H8.out.grow 0 rfl ((Chg.refl [] _).alloc _) hr1 hg1.chg hg1.fresh rfl
                  simp only [List.set_cons_zero, List.set_cons_succ] at h9
                  have H9 := hid h9
                  clear h9 hr1 hg1 H8
                  rw [hXX.out]; clear hXX XX
                  go_upto_region 42 with fail
                  go_wp2_with (at_builtin; refine wpList_grew rfl _ _ 73 rfl elem_lB rfl ((H9.out.rowAt (i := 1) rfl).keep ((Chg.refl [] _).alloc _) (by simp)) rfl (View.one _ _ _) (by simp [Value.oneCell']) (by unfold maxLen; omega) (by omega) (fun ao2 cap2 r2 w2 hr2 hg2 => halt (fun XX hXX => ?_)))
                  have h9 := H9.out.grow 1 rfl ((Chg.refl [] _).alloc _) hr2 hg2.chg hg2.fresh rfl
                  simp only [List.set_cons_zero, List.set_cons_succ] at h9
                  have e1 : gsD.map GO.lv ++ [Value.slice xa (on + 70) xc] = (gsD ++ [x]).map GO.lv := by rw [List.map_append, ← HEV.out.1]; rfl
                  have e2 : gsB.map GO.lv ++ [Value.slice ya (pn + 70) yc] = (gsB ++ [y]).map GO.lv := by rw [List.map_append, ← HEV.out.2]; rfl
                  rw [e1, e2] at h9
                  have H10 := hid h9
                  clear h9 hr2 hg2 H9 e1 e2
                  rw [hXX.out]; clear hXX XX
                  go_wp2_with fail
                  go_roundg (gq - 1)
                  case measure => have := HG.out; omega
                  case rel => exact ⟨i + 1, gsD ++ [x], gsB ++ [y], ao1, cap1, r1, ao2, cap2, r2, rfl, rfl, by first | go_num | (rw [show ((i : Nat) : Int) + 1 = ((i + 1 : Nat) : Int) from by omega, IntWalk.wrap64_in _ (by omega)]), hid (by have := HG.out; omega), HGA2, H10⟩
            · have hin : i = n := by have := HG.out; omega
              have h8 := HR.out
              have HGA3 := HGA
              rw [hin] at h8 HGA3
              rw [List.drop_of_length_le (by rw [LMD.out]; exact Nat.le_refl _), List.drop_of_length_le (by rw [LMB.out]; exact Nat.le_refl _)] at h8
              simp only [List.map_nil, List.append_nil] at h8
              have H13 := hid h8
              go_wp2_with fail
              go_meet
              exact ⟨gsD, gsB, aL, kL, rL, aM, kM, rM, by rw [hin], by rw [hin], HGA3, H13⟩
        case rest =>
          obtain ⟨gsD, gsB, aL, kL, rL, aM, kM, rM, rfl, rfl, HGA3, H13⟩ := hcut
          clear H12
          obtain ⟨RR, hRR⟩ : ∃ RR, (cD aL n kL rL (gsD.map GO.lv) :: cB aM n kM rM (gsB.map GO.lv) :: cD aD n kD rD VD :: cB aB n kB rB VB :: (gAll 47 5 mD gsD ++ (gAll 50 4 mB gsB ++ R))) = RR := ⟨_, rfl⟩
          have h14 : Hp [] w0 wc (cI none 0 0 none [] :: cI aI nI kI rI VI :: (gAll 53 10 mI [] ++ (MI.drop 0).map itI ++ RR)) := (H13.out.nil 48 1).re (fun a => by
            rw [← hRR]
            simp only [gAll_nil, List.drop_zero, List.nil_append, List.count_append, List.count_cons, cD, cB, cI]
            omega)
          have H14 := hid h14
          have HRR := hid hRR
          clear h14 hRR H13
          go_upto_block 18 with fail
          go_cut [8, 20, 21, 22] from 178 to 201 (fun v8 v20 v21 v22 wx => ∃ (gsI : List GO) (aG : Option Addr) (kG : Nat) (rG : Option Nat), v8 = .slice aG nI kG ∧ Hid (GA mI MI gsI nI) ∧ Hid (Hp [] w0 wx (cI aG nI kG rG (gsI.map GO.lv) :: cI aI nI kI rI VI :: (gAll 53 10 mI gsI ++ RR))))
          case first =>
            go_wp2_with fail
            go_loopg [8, 20] nI (fun gk v8 v20 wr => ∃ (i : Nat) (gsI : List GO) (aG : Option Addr) (kG : Nat) (rG : Option Nat), v8 = .slice aG i kG ∧ v20 = .int .i64 i ∧ Hid (gk + i = nI) ∧ Hid (GA mI MI gsI i) ∧ Hid (Hp [] w0 wr (cI aG i kG rG (gsI.map GO.lv) :: cI aI nI kI rI VI :: (gAll 53 10 mI gsI ++ (MI.drop i).map itI ++ RR))))
            case atStart => exact ⟨0, [], none, 0, none, rfl, rfl, hid (by omega), hid (GA.start _ _), H14⟩
            case round =>
              clear H14
              obtain ⟨i, gsI, aG, kG, rG, rfl, rfl, HG, HGA, HR⟩ := hrel
              by_cases hlt : i < nI
              · obtain ⟨o, ho⟩ : ∃ o, MI[i]? = some o := ⟨MI[i]'(by rw [LMI.out]; exact hlt), List.getElem?_eq_getElem _⟩
                have h1 := HR.out
                rw [drop_cons ho] at h1
                obtain ⟨gI, hgI, haI, _⟩ := Row.slice (h1.rowAt (i := 1) rfl) (by omega)
                subst hgI
                subst haI
                obtain ⟨hoD1, hoD2, hoD3, hoD4⟩ := VMI.out i o ho
                have y1 : wr.cell? ⟨gI, i, none⟩ = some o.v := by
                  rw [(Row.cellk (h1.rowAt (i := 1) rfl)).1 i (by omega)]
                  exact congrArg some hoD1
                obtain ⟨RS, hRS⟩ : ∃ RS, (cI aG i kG rG (gsI.map GO.lv) :: cI (some ⟨gI, 0, none⟩) nI kI (some gI) VI :: (gAll 53 10 mI gsI ++ (MI.drop (i + 1)).map itI ++ RR)) = RS := ⟨_, rfl⟩
                have h2 : Hp [] w0 wr ((GO.start o).its 53 10 (mI i) ++ RS) := h1.re (fun a => by
                  rw [GO.start_its hoD3, ← hRS]
                  simp only [List.count_append, List.count_cons, List.map_cons, List.count_nil, itD, itB, itI]
                  omega)
                have H2 := hid h2
                have HS := hid (GO.start_ok (M := mI i) hoD2 hoD3)
                have HO := hid ho
                have HRS := hid hRS
                obtain ⟨oo, hoo⟩ : ∃ oo, oo = o := ⟨_, rfl⟩
                rw [← hoo] at HO HS H2
                obtain ⟨oao, on, ocap, or, oxs⟩ := o
                have y1' : wr.cell? ⟨gI, i, none⟩ = some (.slice oao on ocap) := y1
                have hon : on ≤ 4194304 := hoD4
                have HOO := hid hoo
                clear ho h1 h2 HR hRS y1 hoD1 hoD2 hoD3 hoD4 hoo
                obtain ⟨wq, rfl⟩ : ∃ wq : World, wq = wr := ⟨_, rfl⟩
                obtain ⟨gq, rfl⟩ : ∃ gq, gq = gk := ⟨_, rfl⟩
                go_wp2_with fail
                clear y1'
                go_loopg [21, 22] 70 (fun gk v17 v19 wr => ∃ (q : Nat) (xa : Option Addr) (xc : Nat) (x : GO), v17 = .slice xa (on + q) xc ∧ v19 = .int .i64 q ∧ Hid (gk + q = 70) ∧ Hid (x.o = oo ∧ x.t = q ∧ x.ao = xa ∧ x.cap = xc ∧ x.ok (mI i)) ∧ Hid (Hp [] w0 wr (x.its 53 10 (mI i) ++ RS)))
                case atStart => exact ⟨0, oao, ocap, GO.start oo, rfl, rfl, hid rfl, hid ⟨rfl, rfl, by rw [HOO.out]; rfl, by rw [HOO.out]; rfl, HS.out⟩, H2⟩
                case round =>
                  clear H2
                  obtain ⟨q, xa, xc, x, rfl, rfl, HG2, HX, HR2⟩ := hrel
                  by_cases hq : q < 70
                  · have hqi : (q : Int) < 70 := by omega
                    have hwm : wrap64 (-1 - (i : Int)) = -1 - (i : Int) := IntWalk.wrap64_in _ (by omega)
                    have hrow : Row wr 53 10 (.slice xa (on + q) xc) x.r (on + q) (rep (mI i) (on + q)) := by
                      have h1 : Row wr 53 10 x.lv x.r (x.o.n + x.t) (rep (mI i) (x.o.n + x.t)) := HR2.out.rowAt (i := 0) rfl
                      unfold GO.lv at h1
                      rw [HX.out.1, HX.out.2.1, HX.out.2.2.1, HX.out.2.2.2.1, HOO.out] at h1
                      exact h1
                    have HROW := hid hrow
                    clear hrow
                    go_upto_region 50 with fail
                    go_wp2_with (at_builtin; refine wpList_grew rfl _ _ 48 rfl elem_itm rfl (HROW.out.keep ((Chg.refl [] _).alloc _) (by simp)) rfl (View.struct _ [.int .i64 0, .int .i64 0, .int .i64 0, .int .i64 0, .int .i64 (-1 - (i : Int)), .string ⟨#[]⟩, .int .i64 0, .int .i64 0, .int .i64 0, .int .i64 0] 53 rfl) (by simp [Value.oneCell']) (by unfold maxLen; omega) (by omega) (fun ao8 cap8 r8 w8 hr8 hg8 => halt (fun XX hXX => ?_)))
                    have h3 := HR2.out.growG HX.out.2.2.2.2 ((Chg.refl [] _).alloc _) (ao' := ao8) (cap' := cap8) (r' := r8) (by
                      rw [HX.out.1, HX.out.2.1, HOO.out]
                      exact hr8) hg8
                    obtain ⟨x', e1, e2, e3, e4, e5, e6, h4⟩ := h3
                    have H5 := hid h4
                    have HX2 := hid (And.intro e1 (And.intro e2 (And.intro e3 (And.intro e4 e6))))
                    clear h4 hr8 hg8 e1 e2 e3 e4 e5 e6 HR2 HROW
                    rw [hXX.out]; clear hXX XX
                    go_wp2_with fail
                    go_roundg (gk - 1)
                    case measure => have := HG2.out; omega
                    case rel => exact ⟨q + 1, ao8, cap8, x', rfl, by first | go_num | (rw [show ((q : Nat) : Int) + 1 = ((q + 1 : Nat) : Int) from by omega, IntWalk.wrap64_in _ (by omega)]), hid (by have := HG2.out; omega), hid ⟨HX2.out.1.trans HX.out.1, by rw [HX2.out.2.1, HX.out.2.1], HX2.out.2.2.1, HX2.out.2.2.2.1, HX2.out.2.2.2.2⟩, H5⟩
                  · have hqe : q = 70 := by have := HG2.out; omega
                    subst hqe
                    obtain ⟨f1, f2, f3, f4, f5⟩ := HX.out
                    have h7 := HR2.out
                    rw [← HRS.out] at h7
                    have h8 : Hp [] w0 wr (cI aG i kG rG (gsI.map GO.lv) :: cI (some ⟨gI, 0, none⟩) nI kI (some gI) VI :: (gAll 53 10 mI (gsI ++ [x]) ++ (MI.drop (i + 1)).map itI ++ RR)) := h7.re (fun a => by
                      rw [gAll_snoc, HGA.out.len]
                      simp only [List.count_append, List.count_cons]
                      omega)
                    have exv : x.lv = .slice xa (on + 70) xc := by unfold GO.lv; rw [f1, f2, f3, f4, HOO.out]
                    have HGA2 := hid (HGA.out.next f5 f2 (by rw [f1]; exact HO.out))
                    have HEV := hid exv
                    have H8 := hid h8
                    clear h7 h8 exv f1 f2 f3 f4 f5 HR2
                    go_upto_region 51 with fail
                    go_wp2_with (at_builtin; refine wpList_grew rfl _ _ 74 rfl elem_lI rfl ((H8.out.rowAt (i := 0) rfl).keep ((Chg.refl [] _).alloc _) (by simp)) rfl (View.one _ _ _) (by simp [Value.oneCell']) (by unfold maxLen; omega) (by omega) (fun ao1 cap1 r1 w1 hr1 hg1 => halt (fun XX hXX => ?_)))
                    have h9 := H8.out.grow 0 rfl ((Chg.refl [] _).alloc _) hr1 hg1.chg hg1.fresh rfl
                    simp only [List.set_cons_zero, List.set_cons_succ] at h9
                    have e1 : gsI.map GO.lv ++ [Value.slice xa (on + 70) xc] = (gsI ++ [x]).map GO.lv := by rw [List.map_append, ← HEV.out]; rfl
                    rw [e1] at h9
                    have H10 := hid h9
                    clear h9 hr1 hg1 H8 e1
                    rw [hXX.out]; clear hXX XX
                    go_wp2_with fail
                    go_roundg (gq - 1)
                    case measure => have := HG.out; omega
                    case rel => exact ⟨i + 1, gsI ++ [x], ao1, cap1, r1, rfl, by first | go_num | (rw [show ((i : Nat) : Int) + 1 = ((i + 1 : Nat) : Int) from by omega, IntWalk.wrap64_in _ (by omega)]), hid (by have := HG.out; omega), HGA2, H10⟩
              · have hin : i = nI := by have := HG.out; omega
                have h8 := HR.out
                have HGI := HGA
                rw [hin] at h8 HGI
                rw [List.drop_of_length_le (by rw [LMI.out]; exact Nat.le_refl _)] at h8
                simp only [List.map_nil, List.append_nil] at h8
                have H15 := hid h8
                go_wp2_with fail
                go_meet
                exact ⟨gsI, aG, kG, rG, by rw [hin], HGI, H15⟩
          case rest =>
            obtain ⟨gsI, aG, kG, rG, rfl, HGI, hrest⟩ := hcut
            have H15 := hrest
            rw [← HRR.out] at H15
            clear H14 HRR hrest
            obtain ⟨II, hII⟩ : ∃ II, (cI aG nI kG rG (gsI.map GO.lv) :: cI aI nI kI rI VI :: (gAll 53 10 mI gsI ++ (cD aL n kL rL (gsD.map GO.lv) :: cB aM n kM rM (gsB.map GO.lv) :: cD aD n kD rD VD :: cB aB n kB rB VB :: (gAll 47 5 mD gsD ++ (gAll 50 4 mB gsB ++ R))))) = II := ⟨_, rfl⟩
            rw [hII] at H15
            have HII := hid hII
            clear hII
            have HLD : Hid (∀ W, Hp [] w0 W II → Row W 22 1 (.slice aL n kL) rL n (gsD.map GO.lv)) := hid (fun W h => h.ok (cD aL n kL rL (gsD.map GO.lv)) (by rw [← HII.out]; simp [List.mem_append]))
            have HLB : Hid (∀ W, Hp [] w0 W II → Row W 23 1 (.slice aM n kM) rM n (gsB.map GO.lv)) := hid (fun W h => h.ok (cB aM n kM rM (gsB.map GO.lv)) (by rw [← HII.out]; simp [List.mem_append]))
            have HLI : Hid (∀ W, Hp [] w0 W II → Row W 48 1 (.slice aG nI kG) rG nI (gsI.map GO.lv)) := hid (fun W h => h.ok (cI aG nI kG rG (gsI.map GO.lv)) (by rw [← HII.out]; simp [List.mem_append]))
            have HOD : Hid (∀ W, Hp [] w0 W II → Row W 22 1 (.slice aD n kD) rD n VD) := hid (fun W h => h.ok (cD aD n kD rD VD) (by rw [← HII.out]; simp [List.mem_append]))
            have HOB : Hid (∀ W, Hp [] w0 W II → Row W 23 1 (.slice aB n kB) rB n VB) := hid (fun W h => h.ok (cB aB n kB rB VB) (by rw [← HII.out]; simp [List.mem_append]))
            have HOI : Hid (∀ W, Hp [] w0 W II → Row W 48 1 (.slice aI nI kI) rI nI VI) := hid (fun W h => h.ok (cI aI nI kI rI VI) (by rw [← HII.out]; simp [List.mem_append]))
            have HMD : Hid (∀ W, Hp [] w0 W II → ∀ (i : Nat) (x : GO), gsD[i]? = some x → ∀ y ∈ GO.its 47 5 (mD i) x, It.ok W y) := hid (fun W h i x hx y hy => h.ok y (by
              rw [← HII.out]
              have h9 := gAll_mem hx hy
              simp [List.mem_append, h9]))
            have HMB : Hid (∀ W, Hp [] w0 W II → ∀ (i : Nat) (x : GO), gsB[i]? = some x → ∀ y ∈ GO.its 50 4 (mB i) x, It.ok W y) := hid (fun W h i x hx y hy => h.ok y (by
              rw [← HII.out]
              have h9 := gAll_mem hx hy
              simp [List.mem_append, h9]))
            have HMI : Hid (∀ W, Hp [] w0 W II → ∀ (i : Nat) (x : GO), gsI[i]? = some x → ∀ y ∈ GO.its 53 10 (mI i) x, It.ok W y) := hid (fun W h i x hx y hy => h.ok y (by
              rw [← HII.out]
              have h9 := gAll_mem hx hy
              simp [List.mem_append, h9]))
            have HSUB : Hid (List.Sublist R II) := hid (by
              rw [← HII.out]
              have s1 : List.Sublist R (gAll 47 5 mD gsD ++ (gAll 50 4 mB gsB ++ R)) := (List.sublist_append_right _ _).trans (List.sublist_append_right _ _)
              have s2 := ((((s1.cons (cB aB n kB rB VB)).cons (cD aD n kD rD VD)).cons (cB aM n kM rM (gsB.map GO.lv))).cons (cD aL n kL rL (gsD.map GO.lv))).trans (List.sublist_append_right (gAll 53 10 mI gsI) _)
              exact (s2.cons (cI aI nI kI rI VI)).cons (cI aG nI kG rG (gsI.map GO.lv)))
            have CD9 := hid HGA3.out.1
            have CB9 := hid HGA3.out.2
            clear HGA3
            go_upto_block 22 with fail
            go_cut [2, 23, 24, 25] from 202 to 293 (fun v2 v23 v24 v25 wx => Hid (Hp [] w0 wx II))
            case first =>
              as_aux_lemma =>
                go_wp2_with fail
                go_loopg [23] n (fun gk vv wr => ∃ i : Nat, vv = .int .i64 i ∧ Hid (gk + i = n) ∧ Hid (Hp [] w0 wr II))
                case atStart => exact ⟨0, rfl, hid (by omega), H15⟩
                case round =>
                  clear H15
                  obtain ⟨i, rfl, HG, HR⟩ := hrel
                  by_cases hlt : i < n
                  · obtain ⟨x, hxD⟩ : ∃ x, gsD[i]? = some x := ⟨gsD[i]'(by rw [CD9.out.len]; exact hlt), List.getElem?_eq_getElem _⟩
                    obtain ⟨hokD, htD, hmD⟩ := CD9.out.at_ i _ hxD
                    obtain ⟨hvD, -, -, hnD⟩ := VMD.out i _ hmD
                    have HCD : Hid (∃ (gL gO gl : Nat) (xc : Nat) (oao : Option Addr) (on ocap : Nat), aL = some ⟨gL, 0, none⟩ ∧ aD = some ⟨gO, 0, none⟩ ∧ on ≤ 4194304 ∧ ∀ W, Hp [] w0 W II → W.cell? ⟨gL, i, none⟩ = some (.slice (some ⟨gl, 0, none⟩) (on + 70) xc) ∧ W.cell? ⟨gO, i, none⟩ = some (.slice oao on ocap) ∧ (∀ k, k < on + 70 → W.cell? ⟨gl, k * 5 + 2, none⟩ = some (.int .i64 (-1 - (i : Int)))) ∧ (∀ k, k < on → ∃ b off, oao = some ⟨b, off, none⟩ ∧ W.cell? ⟨b, off + k * 5 + 2, none⟩ = some (.int .i64 (-1 - (i : Int))))) := hid (by
                      obtain ⟨⟨oao, on, ocap, or, oxs⟩, xa, xc, xr, xt, xe⟩ := x
                      simp only at htD
                      subst htD
                      obtain ⟨gL, hgL, haL, _⟩ := Row.slice (HLD.out _ HR.out) (by omega)
                      obtain ⟨gO, hgO, haO, _⟩ := Row.slice (HOD.out _ HR.out) (by omega)
                      have hlo : ∀ W, Hp [] w0 W II → Row W 47 5 (.slice xa (on + 70) xc) xr (on + 70) (rep (mD i) (on + 70)) := fun W h => HMD.out W h i _ hxD _ (List.mem_cons_self ..)
                      obtain ⟨gl, hgl, hal, _⟩ := Row.slice (hlo _ HR.out) (by omega)
                      refine ⟨gL, gO, gl, xc, oao, on, ocap, haL, haO, hnD, fun W h => ⟨?_, ?_, fun k hk => ?_, fun k hk => ?_⟩⟩
                      · have h1 := HLD.out W h
                        rw [hgL] at h1
                        rw [(Row.cellk h1).1 i (by omega), List.getD_eq_getElem?_getD, List.getElem?_map, hxD]
                        show some (Value.slice xa (on + 70) xc) = _
                        rw [hal]
                      · have h1 := HOD.out W h
                        rw [hgO] at h1
                        rw [(Row.cellk h1).1 i (by omega)]
                        exact congrArg some hvD
                      · have h1 := hlo W h
                        rw [hgl] at h1
                        rw [(Row.cellk h1).1 (k * 5 + 2) (by omega), rep_at (k := 5) rfl hk (by omega)]
                        rfl
                      · have h1 : View W 5 (.slice oao on ocap) on (rep (mD i) on) := GO.old (M := mD i) rfl hokD (HMD.out W h i _ hxD)
                        obtain ⟨_, _, ao', cap', e1, _, _, _, h2⟩ := h1
                        obtain ⟨b, off, e2, h3⟩ := h2 (by omega)
                        simp only [Value.slice.injEq] at e1
                        refine ⟨b, off, by rw [e1.1, e2], ?_⟩
                        have h4 := h3 (k * 5 + 2) (by omega)
                        rw [rep_at (k := 5) rfl hk (by omega)] at h4
                        rw [show off + k * 5 + 2 = off + (k * 5 + 2) from by omega]
                        exact h4)
                    clear hxD hokD htD hmD hvD hnD x
                    obtain ⟨y, hxB⟩ : ∃ x, gsB[i]? = some x := ⟨gsB[i]'(by rw [CB9.out.len]; exact hlt), List.getElem?_eq_getElem _⟩
                    obtain ⟨hokB, htB, hmB⟩ := CB9.out.at_ i _ hxB
                    obtain ⟨hvB, -, -, hnB⟩ := VMB.out i _ hmB
                    have HCB : Hid (∃ (gL gO gl : Nat) (xc : Nat) (oao : Option Addr) (on ocap : Nat), aM = some ⟨gL, 0, none⟩ ∧ aB = some ⟨gO, 0, none⟩ ∧ on ≤ 4194304 ∧ ∀ W, Hp [] w0 W II → W.cell? ⟨gL, i, none⟩ = some (.slice (some ⟨gl, 0, none⟩) (on + 70) xc) ∧ W.cell? ⟨gO, i, none⟩ = some (.slice oao on ocap) ∧ (∀ k, k < on + 70 → W.cell? ⟨gl, k * 4 + 2, none⟩ = some (.int .i64 (-1 - (i : Int)))) ∧ (∀ k, k < on → ∃ b off, oao = some ⟨b, off, none⟩ ∧ W.cell? ⟨b, off + k * 4 + 2, none⟩ = some (.int .i64 (-1 - (i : Int))))) := hid (by
                      obtain ⟨⟨oao, on, ocap, or, oxs⟩, xa, xc, xr, xt, xe⟩ := y
                      simp only at htB
                      subst htB
                      obtain ⟨gL, hgL, haL, _⟩ := Row.slice (HLB.out _ HR.out) (by omega)
                      obtain ⟨gO, hgO, haO, _⟩ := Row.slice (HOB.out _ HR.out) (by omega)
                      have hlo : ∀ W, Hp [] w0 W II → Row W 50 4 (.slice xa (on + 70) xc) xr (on + 70) (rep (mB i) (on + 70)) := fun W h => HMB.out W h i _ hxB _ (List.mem_cons_self ..)
                      obtain ⟨gl, hgl, hal, _⟩ := Row.slice (hlo _ HR.out) (by omega)
                      refine ⟨gL, gO, gl, xc, oao, on, ocap, haL, haO, hnB, fun W h => ⟨?_, ?_, fun k hk => ?_, fun k hk => ?_⟩⟩
                      · have h1 := HLB.out W h
                        rw [hgL] at h1
                        rw [(Row.cellk h1).1 i (by omega), List.getD_eq_getElem?_getD, List.getElem?_map, hxB]
                        show some (Value.slice xa (on + 70) xc) = _
                        rw [hal]
                      · have h1 := HOB.out W h
                        rw [hgO] at h1
                        rw [(Row.cellk h1).1 i (by omega)]
                        exact congrArg some hvB
                      · have h1 := hlo W h
                        rw [hgl] at h1
                        rw [(Row.cellk h1).1 (k * 4 + 2) (by omega), rep_at (k := 4) rfl hk (by omega)]
                        rfl
                      · have h1 : View W 4 (.slice oao on ocap) on (rep (mB i) on) := GO.old (M := mB i) rfl hokB (HMB.out W h i _ hxB)
                        obtain ⟨_, _, ao', cap', e1, _, _, _, h2⟩ := h1
                        obtain ⟨b, off, e2, h3⟩ := h2 (by omega)
                        simp only [Value.slice.injEq] at e1
                        refine ⟨b, off, by rw [e1.1, e2], ?_⟩
                        have h4 := h3 (k * 4 + 2) (by omega)
                        rw [rep_at (k := 4) rfl hk (by omega)] at h4
                        rw [show off + k * 4 + 2 = off + (k * 4 + 2) from by omega]
                        exact h4)
                    clear hxB hokB htB hmB hvB hnB y
                    have hlt2 := hlt
                    obtain ⟨wq, rfl⟩ : ∃ wq : World, wq = wr := ⟨_, rfl⟩
                    obtain ⟨gq, rfl⟩ : ∃ gq, gq = gk := ⟨_, rfl⟩
                    go_wp2_with fail
                    obtain ⟨gLD, gOD, glD, xcD, oaoD, onD, ocapD, haLD, haOD, honD, hcellD⟩ := HCD.out
                    have HCLD := hid hcellD
                    clear hcellD HCD
                    rw [haLD, haOD]
                    go_loopg [24] (onD + 70) (fun gk vv wr => ∃ k : Nat, vv = .int .i64 k ∧ Hid (gk + k = onD + 70) ∧ Hid (Hp [] w0 wr II))
                    case atStart => exact ⟨0, rfl, hid (by omega), HR⟩
                    case round =>
                      obtain ⟨k, rfl, HG2, HRB⟩ := hrel
                      obtain ⟨y1, y2, z1, z2⟩ := HCLD.out _ HRB.out
                      by_cases hk : k < onD + 70
                      · have hki : (k : Int) < ((onD + 70 : Nat) : Int) := by omega
                        have hki2 : (k : Int) < (onD : Int) + 70 := by omega
                        have q1 := z1 k hk
                        have hwm : wrap64 (-1 - (i : Int)) = -1 - (i : Int) := IntWalk.wrap64_in _ (by omega)
                        by_cases hk2 : k < onD
                        · obtain ⟨b, off, hoa, q2⟩ := z2 k hk2
                          rw [hoa] at y2
                          have hk2i : (k : Int) < (onD : Int) := by omega
                          clear z1 z2 hoa
                          go_wp2_with fail
                          go_roundg (gk - 1)
                          case measure => have := HG2.out; omega
                          case rel => exact ⟨k + 1, by first | go_num | (rw [show ((k : Nat) : Int) + 1 = ((k + 1 : Nat) : Int) from by omega, IntWalk.wrap64_in _ (by omega)]), hid (by have := HG2.out; omega), HRB⟩
                        · have hk2i : ¬ (k : Int) < (onD : Int) := by omega
                          clear z1 z2
                          go_wp2_with fail
                          go_roundg (gk - 1)
                          case measure => have := HG2.out; omega
                          case rel => exact ⟨k + 1, by first | go_num | (rw [show ((k : Nat) : Int) + 1 = ((k + 1 : Nat) : Int) from by omega, IntWalk.wrap64_in _ (by omega)]), hid (by have := HG2.out; omega), HRB⟩
                      · have hki : ¬ (k : Int) < ((onD + 70 : Nat) : Int) := by omega
                        have hki2 : ¬ (k : Int) < (onD : Int) + 70 := by omega
                        clear z1 z2
                        obtain ⟨wv, rfl⟩ : ∃ wv : World, wv = wr := ⟨_, rfl⟩
                        obtain ⟨gv, rfl⟩ : ∃ gv, gv = gk := ⟨_, rfl⟩
                        go_wp2_with fail
                        obtain ⟨gLB, gOB, glB, xcB, oaoB, onB, ocapB, haLB, haOB, honB, hcellB⟩ := HCB.out
                        have HCLB := hid hcellB
                        clear hcellB HCB
                        rw [haLB, haOB]
                        go_loopg [25] (onB + 70) (fun gk vv wr => ∃ k : Nat, vv = .int .i64 k ∧ Hid (gk + k = onB + 70) ∧ Hid (Hp [] w0 wr II))
                        case atStart => exact ⟨0, rfl, hid (by omega), HRB⟩
                        case round =>
                          obtain ⟨k, rfl, HG2, HRC⟩ := hrel
                          obtain ⟨y1, y2, z1, z2⟩ := HCLB.out _ HRC.out
                          by_cases hk : k < onB + 70
                          · have hki : (k : Int) < ((onB + 70 : Nat) : Int) := by omega
                            have hki2 : (k : Int) < (onB : Int) + 70 := by omega
                            have q1 := z1 k hk
                            have hwm : wrap64 (-1 - (i : Int)) = -1 - (i : Int) := IntWalk.wrap64_in _ (by omega)
                            by_cases hk2 : k < onB
                            · obtain ⟨b, off, hoa, q2⟩ := z2 k hk2
                              rw [hoa] at y2
                              have hk2i : (k : Int) < (onB : Int) := by omega
                              clear z1 z2 hoa
                              go_wp2_with fail
                              go_roundg (gk - 1)
                              case measure => have := HG2.out; omega
                              case rel => exact ⟨k + 1, by first | go_num | (rw [show ((k : Nat) : Int) + 1 = ((k + 1 : Nat) : Int) from by omega, IntWalk.wrap64_in _ (by omega)]), hid (by have := HG2.out; omega), HRC⟩
                            · have hk2i : ¬ (k : Int) < (onB : Int) := by omega
                              clear z1 z2
                              go_wp2_with fail
                              go_roundg (gk - 1)
                              case measure => have := HG2.out; omega
                              case rel => exact ⟨k + 1, by first | go_num | (rw [show ((k : Nat) : Int) + 1 = ((k + 1 : Nat) : Int) from by omega, IntWalk.wrap64_in _ (by omega)]), hid (by have := HG2.out; omega), HRC⟩
                          · have hki : ¬ (k : Int) < ((onB + 70 : Nat) : Int) := by omega
                            have hki2 : ¬ (k : Int) < (onB : Int) + 70 := by omega
                            clear z1 z2
                            go_wp2_with fail
                            rw [← haLD, ← haOD, ← haLB, ← haOB]
                            go_roundg (gq - 1)
                            case measure => have := HG.out; omega
                            case rel => exact ⟨i + 1, by first | go_num | (rw [show ((i : Nat) : Int) + 1 = ((i + 1 : Nat) : Int) from by omega, IntWalk.wrap64_in _ (by omega)]), hid (by have := HG.out; omega), HRC⟩
                  · go_wp2_with fail
                    go_meet
                    exact HR
            case rest =>
              have H16 := hcut
              clear hcut H15
              go_upto_block 28 with fail
              go_cut [2, 26, 27] from 294 to 341 (fun v2 v26 v27 wx => Hid (Hp [] w0 wx II))
              case first =>
                as_aux_lemma =>
                  go_wp2_with fail
                  go_loopg [26] nI (fun gk vv wr => ∃ i : Nat, vv = .int .i64 i ∧ Hid (gk + i = nI) ∧ Hid (Hp [] w0 wr II))
                  case atStart => exact ⟨0, rfl, hid (by omega), H16⟩
                  case round =>
                    clear H16
                    obtain ⟨i, rfl, HG, HR⟩ := hrel
                    by_cases hlt : i < nI
                    · obtain ⟨x, hxI⟩ : ∃ x, gsI[i]? = some x := ⟨gsI[i]'(by rw [HGI.out.len]; exact hlt), List.getElem?_eq_getElem _⟩
                      obtain ⟨hokI, htI, hmI⟩ := HGI.out.at_ i _ hxI
                      obtain ⟨hvI, -, -, hnI⟩ := VMI.out i _ hmI
                      have HCI : Hid (∃ (gL gO gl : Nat) (xc : Nat) (oao : Option Addr) (on ocap : Nat), aG = some ⟨gL, 0, none⟩ ∧ aI = some ⟨gO, 0, none⟩ ∧ on ≤ 4194304 ∧ ∀ W, Hp [] w0 W II → W.cell? ⟨gL, i, none⟩ = some (.slice (some ⟨gl, 0, none⟩) (on + 70) xc) ∧ W.cell? ⟨gO, i, none⟩ = some (.slice oao on ocap) ∧ (∀ k, k < on + 70 → W.cell? ⟨gl, k * 10 + 4, none⟩ = some (.int .i64 (-1 - (i : Int)))) ∧ (∀ k, k < on → ∃ b off, oao = some ⟨b, off, none⟩ ∧ W.cell? ⟨b, off + k * 10 + 4, none⟩ = some (.int .i64 (-1 - (i : Int))))) := hid (by
                        obtain ⟨⟨oao, on, ocap, or, oxs⟩, xa, xc, xr, xt, xe⟩ := x
                        simp only at htI
                        subst htI
                        obtain ⟨gL, hgL, haL, _⟩ := Row.slice (HLI.out _ HR.out) (by omega)
                        obtain ⟨gO, hgO, haO, _⟩ := Row.slice (HOI.out _ HR.out) (by omega)
                        have hlo : ∀ W, Hp [] w0 W II → Row W 53 10 (.slice xa (on + 70) xc) xr (on + 70) (rep (mI i) (on + 70)) := fun W h => HMI.out W h i _ hxI _ (List.mem_cons_self ..)
                        obtain ⟨gl, hgl, hal, _⟩ := Row.slice (hlo _ HR.out) (by omega)
                        refine ⟨gL, gO, gl, xc, oao, on, ocap, haL, haO, hnI, fun W h => ⟨?_, ?_, fun k hk => ?_, fun k hk => ?_⟩⟩
                        · have h1 := HLI.out W h
                          rw [hgL] at h1
                          rw [(Row.cellk h1).1 i (by omega), List.getD_eq_getElem?_getD, List.getElem?_map, hxI]
                          show some (Value.slice xa (on + 70) xc) = _
                          rw [hal]
                        · have h1 := HOI.out W h
                          rw [hgO] at h1
                          rw [(Row.cellk h1).1 i (by omega)]
                          exact congrArg some hvI
                        · have h1 := hlo W h
                          rw [hgl] at h1
                          rw [(Row.cellk h1).1 (k * 10 + 4) (by omega), rep_at (k := 10) rfl hk (by omega)]
                          rfl
                        · have h1 : View W 10 (.slice oao on ocap) on (rep (mI i) on) := GO.old (M := mI i) rfl hokI (HMI.out W h i _ hxI)
                          obtain ⟨_, _, ao', cap', e1, _, _, _, h2⟩ := h1
                          obtain ⟨b, off, e2, h3⟩ := h2 (by omega)
                          simp only [Value.slice.injEq] at e1
                          refine ⟨b, off, by rw [e1.1, e2], ?_⟩
                          have h4 := h3 (k * 10 + 4) (by omega)
                          rw [rep_at (k := 10) rfl hk (by omega)] at h4
                          rw [show off + k * 10 + 4 = off + (k * 10 + 4) from by omega]
                          exact h4)
                      clear hxI hokI htI hmI hvI hnI x
                      obtain ⟨wq, rfl⟩ : ∃ wq : World, wq = wr := ⟨_, rfl⟩
                      obtain ⟨gq, rfl⟩ : ∃ gq, gq = gk := ⟨_, rfl⟩
                      go_wp2_with fail
                      obtain ⟨gLI, gOI, glI, xcI, oaoI, onI, ocapI, haLI, haOI, honI, hcellI⟩ := HCI.out
                      have HCLI := hid hcellI
                      clear hcellI HCI
                      rw [haLI, haOI]
                      go_loopg [27] (onI + 70) (fun gk vv wr => ∃ k : Nat, vv = .int .i64 k ∧ Hid (gk + k = onI + 70) ∧ Hid (Hp [] w0 wr II))
                      case atStart => exact ⟨0, rfl, hid (by omega), HR⟩
                      case round =>
                        obtain ⟨k, rfl, HG2, HRC⟩ := hrel
                        obtain ⟨y1, y2, z1, z2⟩ := HCLI.out _ HRC.out
                        by_cases hk : k < onI + 70
                        · have hki : (k : Int) < ((onI + 70 : Nat) : Int) := by omega
                          have hki2 : (k : Int) < (onI : Int) + 70 := by omega
                          have q1 := z1 k hk
                          have hwm : wrap64 (-1 - (i : Int)) = -1 - (i : Int) := IntWalk.wrap64_in _ (by omega)
                          by_cases hk2 : k < onI
                          · obtain ⟨b, off, hoa, q2⟩ := z2 k hk2
                            rw [hoa] at y2
                            have hk2i : (k : Int) < (onI : Int) := by omega
                            clear z1 z2 hoa
                            go_wp2_with fail
                            go_roundg (gk - 1)
                            case measure => have := HG2.out; omega
                            case rel => exact ⟨k + 1, by first | go_num | (rw [show ((k : Nat) : Int) + 1 = ((k + 1 : Nat) : Int) from by omega, IntWalk.wrap64_in _ (by omega)]), hid (by have := HG2.out; omega), HRC⟩
                          · have hk2i : ¬ (k : Int) < (onI : Int) := by omega
                            clear z1 z2
                            go_wp2_with fail
                            go_roundg (gk - 1)
                            case measure => have := HG2.out; omega
                            case rel => exact ⟨k + 1, by first | go_num | (rw [show ((k : Nat) : Int) + 1 = ((k + 1 : Nat) : Int) from by omega, IntWalk.wrap64_in _ (by omega)]), hid (by have := HG2.out; omega), HRC⟩
                        · have hki : ¬ (k : Int) < ((onI + 70 : Nat) : Int) := by omega
                          have hki2 : ¬ (k : Int) < (onI : Int) + 70 := by omega
                          clear z1 z2
                          go_wp2_with fail
                          rw [← haLI, ← haOI]
                          go_roundg (gq - 1)
                          case measure => have := HG.out; omega
                          case rel => exact ⟨i + 1, by first | go_num | (rw [show ((i : Nat) : Int) + 1 = ((i + 1 : Nat) : Int) from by omega, IntWalk.wrap64_in _ (by omega)]), hid (by have := HG.out; omega), HRC⟩
                    · go_wp2_with fail
                      go_meet
                      exact HR
              case rest =>
                have HR := hcut
                clear hcut H16
                go_wp2_with fail
                go_ret
                exact ⟨rfl, HR.out.sub HSUB.out⟩
end Go.Proofs.YtmahcabidggmeaaGreatDoor
