/- The trace laws' alone: lists of events written over, grown, each with a mark of its own. -/
import Derived.Test.YtbghkodcfedebaaGreatDoorTxn
import Derived.Deep.LoopGhost
import Derived.Deep.CutBlock
set_option linter.unusedVariables false
set_option linter.unusedSectionVars false
set_option linter.unusedSimpArgs false
namespace Go.AB
open Go.RowKit
def mE (i : Nat) : List Value := [.int .i64 0, .int .i64 0, .int .i64 (-(i : Int) - 1000)]
/-- A literal list of slices. -/
theorem Row.lit (w : World) (e : Nat) (vs : List Value) (h : vs.length ≤ maxLen) : Row (w.alloc (.cells vs.toArray e)) e 1 (.slice (some ⟨w.heap.size, 0, none⟩) vs.length vs.length) (some w.heap.size) vs.length vs :=
  ⟨⟨by simp, .inr ⟨w.heap.size, vs.length, vs.toArray, rfl, by simp, heap_alloc_new w _, Nat.le_refl _, h, by simp, by simp⟩⟩, rfl⟩
end Go.AB
namespace Go.Proofs.YtbghkodcfedebaaGreatDoor
open Go.RowKit Go.AB
set_option linter.unusedSimpArgs false
set_option linter.unusedVariables false
set_option linter.unusedSectionVars false
abbrev itE (o : OL) : It := o.it 28 3
theorem info_sE : (Tryz.prog.info? 22).map (fun i => (i.zero, i.size, i.bytes)) = some (some (.slice none 0 0), 1, 24) := by kernel_rfl
theorem elem_lE : ElemOk Tryz.prog 52 22 1 24 := .of Tryz.underlying52 info_sE rfl (by decide)
abbrev cE (a : Option Addr) (n c : Nat) (r : Option Nat) (vs : List Value) : It := .row 22 1 (.slice a n c) r n vs
set_option maxHeartbeats 64000000 in
set_option maxRecDepth 100000 in
theorem alone_calls (OI : List OL) (hO : ∀ o ∈ OI, o.ok ∧ o.xs.length = o.n * 3 ∧ o.n ≤ 16777216) {nI : Nat} (hl : OI.length = nI) (hN : nI ≤ 1048576) {w0 w : World} {aI : Option Addr} {kI : Nat} {rI : Option Nat} {RR : List It}
    (h : Hp [] w0 w (cE aI nI kI rI (OI.map OL.v) :: (OI.map itE ++ RR))) : Calls Tryz.prog 25 #[.slice aI nI kI] w fun e w' => e = .returned (.bool true) ∧ Hp [] w0 w' RR := by
  have LI := hid hl
  have OKI := hid (fun o ho => (hO o ho).1)
  have FI := hid (fun o ho => (hO o ho).2)
  obtain ⟨VI, hVI⟩ : ∃ VI, OI.map OL.v = VI := ⟨_, rfl⟩
  rw [hVI] at h
  have HVI : Hid (∀ j o, OI[j]? = some o → VI.getD j undef = o.v) := hid (fun j o hj => by
    rw [← hVI, List.getD_eq_getElem?_getD, List.getElem?_map, hj]
    rfl)
  have h11 : Hp [] w0 w (cE aI nI kI rI VI :: (((mkF mE OI).take 0).map itE ++ (OI.drop 0).map itE ++ RR)) := by
    simpa using h
  have H11 := hid h11
  have HVE := hid hVI
  clear h11 h hl hO hVI
  go_enter Tryz.func25, Tryz.ntmps25
  go_upto_block 0 with fail
  go_cut [3, 4] from 11 to 35 (fun v3 v4 wx => Hid (Hp [] w0 wx (cE aI nI kI rI VI :: ((mkF mE OI).map itE ++ RR))))
  case first =>
    go_wp2_with fail
    go_loopg [3] nI (fun gk vv wr => ∃ i : Nat, vv = .int .i64 i ∧ Hid (gk + i = nI) ∧ Hid (Hp [] w0 wr (cE aI nI kI rI VI :: (((mkF mE OI).take i).map itE ++ (OI.drop i).map itE ++ RR))))
    case atStart => exact ⟨0, rfl, hid (by omega), H11⟩
    case round =>
      clear H11
      obtain ⟨i, rfl, HG, HR⟩ := hrel
      by_cases hlt : i < nI
      · obtain ⟨o, ho⟩ : ∃ o, OI[i]? = some o := ⟨OI[i]'(by rw [LI.out]; exact hlt), List.getElem?_eq_getElem _⟩
        have h1 := HR.out
        rw [drop_cons ho] at h1
        obtain ⟨gI, hgI, haI, _⟩ := Row.slice (h1.rowAt (i := 0) rfl) (by omega)
        subst hgI
        subst haI
        obtain ⟨RS, hRS⟩ : ∃ RS, (((mkF mE OI).take i).map itE ++ (OI.drop (i + 1)).map itE ++ RR) = RS := ⟨_, rfl⟩
        have h2 : Hp [] w0 wr (itE o :: cE (some ⟨gI, 0, none⟩) nI kI (some gI) VI :: RS) := h1.re (fun a => by
          rw [← hRS]
          simp only [List.count_append, List.count_cons, List.map_cons, itE]
          omega)
        have HOI := hid ho
        have H2 := hid h2
        obtain ⟨oao, on, ocap, or, oxs⟩ := o
        have HRS := hid hRS
        clear ho h1 h2 HR hRS
        obtain ⟨wq, rfl⟩ : ∃ wq : World, wq = wr := ⟨_, rfl⟩
        obtain ⟨gq, rfl⟩ : ∃ gq, gq = gk := ⟨_, rfl⟩
        go_wp2_with fail
        go_loopg [4] on (fun gk vv wr => ∃ q : Nat, vv = .int .i64 q ∧ Hid (gk + q = on) ∧ Hid (Hp [] w0 wr ((OL.part (mE i) 3 q ⟨oao, on, ocap, or, oxs⟩).it 28 3 :: cE (some ⟨gI, 0, none⟩) nI kI (some gI) VI :: RS)))
        case atStart => exact ⟨0, rfl, hid (by omega), hid (by rw [OL.part_zero]; exact H2.out)⟩
        case round =>
          obtain ⟨q, rfl, HG2, HQ⟩ := hrel
          have y1 : wr.cell? ⟨gI, i, none⟩ = some (.slice oao on ocap) := by
            rw [(Row.cellk (HQ.out.rowAt (i := 1) rfl)).1 i (by omega)]
            exact congrArg some (HVI.out i _ HOI.out)
          by_cases hq : q < on
          · have hok := (OKI.out _ (List.mem_of_getElem? HOI.out))
            obtain ⟨g, hg, hga⟩ : ∃ g, or = some g ∧ oao = some ⟨g, 0, none⟩ := by
              rcases hok with ⟨_, _, h3, _⟩ | ⟨g, h1, h2, _⟩
              · exact absurd hq (by have h3 : on = 0 := h3; omega)
              · exact ⟨g, h1, h2⟩
            have hxl := (FI.out _ (List.mem_of_getElem? HOI.out)).1
            have hxl : oxs.length = on * 3 := hxl
            have hmk := Hp.mark3 hg hxl hq HQ.out
            have hrow : Row wr 28 3 _ or on _ := HQ.out.rowAt (i := 0) rfl
            rw [hg] at hrow
            have zz := (Row.cellk hrow).1
            have zf := (Row.cellk hrow).2.1
            obtain ⟨v0, z0⟩ : ∃ v, wr.cell? ⟨g, q * 3, none⟩ = some v := ⟨_, zz (q * 3) (by omega)⟩
            obtain ⟨v1, z1⟩ : ∃ v, wr.cell? ⟨g, q * 3 + 1, none⟩ = some v := ⟨_, zz (q * 3 + 1) (by omega)⟩
            obtain ⟨v2, z2⟩ : ∃ v, wr.cell? ⟨g, q * 3 + 2, none⟩ = some v := ⟨_, zz (q * 3 + 2) (by omega)⟩
            have hql : (q : Int) < (on : Int) := by omega
            have hng : wrap64 (-(i : Int)) = -(i : Int) := IntWalk.wrap64_in _ (by omega)
            have hwm : wrap64 (-(i : Int) - 1000) = -(i : Int) - 1000 := IntWalk.wrap64_in _ (by omega)
            rw [hga] at y1
            have HMK := hid hmk
            clear hok hxl hmk hrow zz hg hga
            go_wp2_with fail
            go_roundg (gk - 1)
            case measure => have := HG2.out; omega
            case rel => exact ⟨q + 1, by first | go_num | (rw [show ((q : Nat) : Int) + 1 = ((q + 1 : Nat) : Int) from by omega, IntWalk.wrap64_in _ (by have := FI.out _ (List.mem_of_getElem? HOI.out); have h3 : on ≤ 16777216 := this.2; omega)]), hid (by have := HG2.out; omega), HMK⟩
          · have hqe : q = on := by have := HG2.out; omega
            have HX : Hid (Hp [] w0 wr ((OL.mk' (mE i) ⟨oao, on, ocap, or, oxs⟩).it 28 3 :: cE (some ⟨gI, 0, none⟩) nI kI (some gI) VI :: RS)) := hid (by
              have h1 := HQ.out
              rw [hqe, show OL.part (mE i) 3 on ⟨oao, on, ocap, or, oxs⟩ = OL.mk' (mE i) ⟨oao, on, ocap, or, oxs⟩ from OL.part_all (o := ⟨oao, on, ocap, or, oxs⟩) _ (FI.out _ (List.mem_of_getElem? HOI.out)).1] at h1
              exact h1)
            clear HQ HG2 hqe
            have h5 := HX.out
            have h6 : Hp [] w0 wr (cE (some ⟨gI, 0, none⟩) nI kI (some gI) VI :: (((mkF mE OI).take (i + 1)).map itE ++ (OI.drop (i + 1)).map itE ++ RR)) := h5.re (fun a => by
              rw [← HRS.out, take_next (mkF_get (M := mE) HOI.out)]
              simp only [List.count_append, List.count_cons, List.map_append, List.map_cons, List.map_nil, List.count_nil, itE]
              omega)
            have H6 := hid h6
            clear h5 h6 HX H2
            go_wp2_with fail
            go_roundg (gq - 1)
            case measure => have := HG.out; omega
            case rel => exact ⟨i + 1, by first | go_num | (rw [show ((i : Nat) : Int) + 1 = ((i + 1 : Nat) : Int) from by omega, IntWalk.wrap64_in _ (by omega)]), hid (by have := HG.out; omega), H6⟩
      · have hin : i = nI := by have := HG.out; omega
        have h8 := HR.out
        rw [hin, List.take_of_length_le (by rw [mkF_len, LI.out]; exact Nat.le_refl _), List.drop_of_length_le (by rw [LI.out]; exact Nat.le_refl _)] at h8
        simp only [List.map_nil, List.append_nil] at h8
        have H33 := hid h8
        go_wp2_with fail
        go_meet
        exact H33
  case rest =>
    have H13 := hcut
    clear hcut H11
    obtain ⟨MI, hMI⟩ : ∃ MI, mkF mE OI = MI := ⟨_, rfl⟩
    rw [hMI] at H13
    have VMI : Hid (∀ j o, MI[j]? = some o → VI.getD j undef = o.v ∧ o.ok ∧ o.xs = repM (mE j) o.n ∧ o.n ≤ 16777216) := hid (fun j o hj => by
      have hjl : j < OI.length := by
        rcases Nat.lt_or_ge j OI.length with h1 | h1
        · exact h1
        · rw [← hMI, List.getElem?_eq_none (by rw [mkF_len]; exact h1)] at hj; cases hj
      obtain ⟨x, hx⟩ : ∃ x, OI[j]? = some x := ⟨OI[j], List.getElem?_eq_getElem hjl⟩
      rw [← hMI, mkF_get hx] at hj
      simp only [Option.some.injEq] at hj
      subst hj
      exact ⟨HVI.out j x hx, OL.mk_ok (OKI.out x (List.mem_of_getElem? hx)), rfl, (FI.out x (List.mem_of_getElem? hx)).2⟩)
    have LMI : Hid (MI.length = nI) := hid (by rw [← hMI, mkF_len, LI.out])
    clear hMI HVI OKI FI HVE LI
    have h14 : Hp [] w0 wc (cE none 0 0 none [] :: cE aI nI kI rI VI :: (gAll 28 3 mE [] ++ (MI.drop 0).map itE ++ RR)) := (H13.out.nil 22 1).re (fun a => by
      simp only [gAll_nil, List.drop_zero, List.nil_append, List.count_append, List.count_cons, cE])
    have H14 := hid h14
    clear h14 H13
    go_upto_block 4 with fail
    go_cut [5, 6, 7, 8] from 36 to 60 (fun v5 v6 v7 v8 wx => ∃ (gsI : List GO) (aG : Option Addr) (kG : Nat) (rG : Option Nat), v5 = .slice aG nI kG ∧ Hid (GA mE MI gsI nI) ∧ Hid (Hp [] w0 wx (cE aG nI kG rG (gsI.map GO.lv) :: cE aI nI kI rI VI :: (gAll 28 3 mE gsI ++ RR))))
    case first =>
      go_wp2_with fail
      go_loopg [5, 6] nI (fun gk v8 v20 wr => ∃ (i : Nat) (gsI : List GO) (aG : Option Addr) (kG : Nat) (rG : Option Nat), v8 = .slice aG i kG ∧ v20 = .int .i64 i ∧ Hid (gk + i = nI) ∧ Hid (GA mE MI gsI i) ∧ Hid (Hp [] w0 wr (cE aG i kG rG (gsI.map GO.lv) :: cE aI nI kI rI VI :: (gAll 28 3 mE gsI ++ (MI.drop i).map itE ++ RR))))
      case atStart => exact ⟨0, [], none, 0, none, rfl, rfl, hid (by omega), hid (GA.start _ _), H14⟩
      case round =>
        clear H14
        obtain ⟨i, gsI, aG, kG, rG, rfl, rfl, HG, HGA, HR⟩ := hrel
        by_cases hlt : i < nI
        · obtain ⟨o, ho⟩ : ∃ o, MI[i]? = some o := ⟨MI[i]'(by rw [LMI.out]; exact hlt), List.getElem?_eq_getElem _⟩
          have h1 := HR.out
          rw [drop_cons ho] at h1
          obtain ⟨gI, hgI, haI, _⟩ := Row.slice (h1.rowAt (i := 1) rfl) (by omega)
          subst hgI
          subst haI
          obtain ⟨hoD1, hoD2, hoD3, hoD4⟩ := VMI.out i o ho
          have y1 : wr.cell? ⟨gI, i, none⟩ = some o.v := by
            rw [(Row.cellk (h1.rowAt (i := 1) rfl)).1 i (by omega)]
            exact congrArg some hoD1
          obtain ⟨RS, hRS⟩ : ∃ RS, (cE aG i kG rG (gsI.map GO.lv) :: cE (some ⟨gI, 0, none⟩) nI kI (some gI) VI :: (gAll 28 3 mE gsI ++ (MI.drop (i + 1)).map itE ++ RR)) = RS := ⟨_, rfl⟩
          have h2 : Hp [] w0 wr ((GO.start o).its 28 3 (mE i) ++ RS) := h1.re (fun a => by
            rw [GO.start_its hoD3, ← hRS]
            simp only [List.count_append, List.count_cons, List.map_cons, List.count_nil, itE]
            omega)
          have H2 := hid h2
          have HS := hid (GO.start_ok (M := mE i) hoD2 hoD3)
          have HO := hid ho
          have HRS := hid hRS
          obtain ⟨oo, hoo⟩ : ∃ oo, oo = o := ⟨_, rfl⟩
          rw [← hoo] at HO HS H2
          obtain ⟨oao, on, ocap, or, oxs⟩ := o
          have y1' : wr.cell? ⟨gI, i, none⟩ = some (.slice oao on ocap) := y1
          have hon : on ≤ 16777216 := hoD4
          have HOO := hid hoo
          clear ho h1 h2 HR hRS y1 hoD1 hoD2 hoD3 hoD4 hoo
          obtain ⟨wq, rfl⟩ : ∃ wq : World, wq = wr := ⟨_, rfl⟩
          obtain ⟨gq, rfl⟩ : ∃ gq, gq = gk := ⟨_, rfl⟩
          go_wp2_with fail
          clear y1'
          go_loopg [7, 8] 70 (fun gk v17 v19 wr => ∃ (q : Nat) (xa : Option Addr) (xc : Nat) (x : GO), v17 = .slice xa (on + q) xc ∧ v19 = .int .i64 q ∧ Hid (gk + q = 70) ∧ Hid (x.o = oo ∧ x.t = q ∧ x.ao = xa ∧ x.cap = xc ∧ x.ok (mE i)) ∧ Hid (Hp [] w0 wr (x.its 28 3 (mE i) ++ RS)))
          case atStart => exact ⟨0, oao, ocap, GO.start oo, rfl, rfl, hid rfl, hid ⟨rfl, rfl, by rw [HOO.out]; rfl, by rw [HOO.out]; rfl, HS.out⟩, H2⟩
          case round =>
            clear H2
            obtain ⟨q, xa, xc, x, rfl, rfl, HG2, HX, HR2⟩ := hrel
            by_cases hq : q < 70
            · have hqi : (q : Int) < 70 := by omega
              have hng : wrap64 (-(i : Int)) = -(i : Int) := IntWalk.wrap64_in _ (by omega)
              have hwm : wrap64 (-(i : Int) - 1000) = -(i : Int) - 1000 := IntWalk.wrap64_in _ (by omega)
              have hrow : Row wr 28 3 (.slice xa (on + q) xc) x.r (on + q) (repM (mE i) (on + q)) := by
                have h1 : Row wr 28 3 x.lv x.r (x.o.n + x.t) (repM (mE i) (x.o.n + x.t)) := HR2.out.rowAt (i := 0) rfl
                unfold GO.lv at h1
                rw [HX.out.1, HX.out.2.1, HX.out.2.2.1, HX.out.2.2.2.1, HOO.out] at h1
                exact h1
              have HROW := hid hrow
              clear hrow
              go_upto_region 16 with fail
              go_wp2_with (at_builtin; refine wpList_grew rfl _ _ 22 rfl elem_ev rfl (HROW.out.keep ((Chg.refl [] _).alloc _) (by simp)) rfl (View.struct _ [.int .i64 0, .int .i64 0, .int .i64 (-(i : Int) - 1000)] 28 rfl) (by simp [Value.oneCell']) (by unfold maxLen; omega) (by omega) (fun ao8 cap8 r8 w8 hr8 hg8 => halt (fun XX hXX => ?_)))
              have h3 := HR2.out.growG HX.out.2.2.2.2 ((Chg.refl [] _).alloc _) (ao' := ao8) (cap' := cap8) (r' := r8) (by
                rw [HX.out.1, HX.out.2.1, HOO.out]
                exact hr8) hg8
              obtain ⟨x', e1, e2, e3, e4, e5, e6, h4⟩ := h3
              have H5 := hid h4
              have HX2 := hid (And.intro e1 (And.intro e2 (And.intro e3 (And.intro e4 e6))))
              clear h4 hr8 hg8 e1 e2 e3 e4 e5 e6 HR2 HROW
              rw [hXX.out]; clear hXX XX
              go_wp2_with fail
              go_roundg (gk - 1)
              case measure => have := HG2.out; omega
              case rel => exact ⟨q + 1, ao8, cap8, x', rfl, by first | go_num | (rw [show ((q : Nat) : Int) + 1 = ((q + 1 : Nat) : Int) from by omega, IntWalk.wrap64_in _ (by omega)]), hid (by have := HG2.out; omega), hid ⟨HX2.out.1.trans HX.out.1, by rw [HX2.out.2.1, HX.out.2.1], HX2.out.2.2.1, HX2.out.2.2.2.1, HX2.out.2.2.2.2⟩, H5⟩
            · have hqe : q = 70 := by have := HG2.out; omega
              subst hqe
              obtain ⟨f1, f2, f3, f4, f5⟩ := HX.out
              have h7 := HR2.out
              rw [← HRS.out] at h7
              have h8 : Hp [] w0 wr (cE aG i kG rG (gsI.map GO.lv) :: cE (some ⟨gI, 0, none⟩) nI kI (some gI) VI :: (gAll 28 3 mE (gsI ++ [x]) ++ (MI.drop (i + 1)).map itE ++ RR)) := h7.re (fun a => by
                rw [gAll_snoc, HGA.out.len]
                simp only [List.count_append, List.count_cons]
                omega)
              have exv : x.lv = .slice xa (on + 70) xc := by unfold GO.lv; rw [f1, f2, f3, f4, HOO.out]
              have HGA2 := hid (HGA.out.next f5 f2 (by rw [f1]; exact HO.out))
              have HEV := hid exv
              have H8 := hid h8
              clear h7 h8 exv f1 f2 f3 f4 f5 HR2
              go_upto_region 17 with fail
              go_wp2_with (at_builtin; refine wpList_grew rfl _ _ 52 rfl elem_lE rfl ((H8.out.rowAt (i := 0) rfl).keep ((Chg.refl [] _).alloc _) (by simp)) rfl (View.one _ _ _) (by simp [Value.oneCell']) (by unfold maxLen; omega) (by omega) (fun ao1 cap1 r1 w1 hr1 hg1 => halt (fun XX hXX => ?_)))
              have h9 := H8.out.grow 0 rfl ((Chg.refl [] _).alloc _) hr1 hg1.chg hg1.fresh rfl
              simp only [List.set_cons_zero, List.set_cons_succ] at h9
              have e1 : gsI.map GO.lv ++ [Value.slice xa (on + 70) xc] = (gsI ++ [x]).map GO.lv := by rw [List.map_append, ← HEV.out]; rfl
              rw [e1] at h9
              have H10 := hid h9
              clear h9 hr1 hg1 H8 e1
              rw [hXX.out]; clear hXX XX
              go_wp2_with fail
              go_roundg (gq - 1)
              case measure => have := HG.out; omega
              case rel => exact ⟨i + 1, gsI ++ [x], ao1, cap1, r1, rfl, by first | go_num | (rw [show ((i : Nat) : Int) + 1 = ((i + 1 : Nat) : Int) from by omega, IntWalk.wrap64_in _ (by omega)]), hid (by have := HG.out; omega), HGA2, H10⟩
        · have hin : i = nI := by have := HG.out; omega
          have h8 := HR.out
          have HGI := HGA
          rw [hin] at h8 HGI
          rw [List.drop_of_length_le (by rw [LMI.out]; exact Nat.le_refl _)] at h8
          simp only [List.map_nil, List.append_nil] at h8
          have H15 := hid h8
          go_wp2_with fail
          go_meet
          exact ⟨gsI, aG, kG, rG, by rw [hin], HGI, H15⟩
    case rest =>
      obtain ⟨gsI, aG, kG, rG, rfl, HGI, hrest⟩ := hcut
      have H15 := hrest
      clear H14 hrest
      obtain ⟨II, hII⟩ : ∃ II, (cE aG nI kG rG (gsI.map GO.lv) :: cE aI nI kI rI VI :: (gAll 28 3 mE gsI ++ RR)) = II := ⟨_, rfl⟩
      rw [hII] at H15
      have HII := hid hII
      clear hII
      have HLI : Hid (∀ W, Hp [] w0 W II → Row W 22 1 (.slice aG nI kG) rG nI (gsI.map GO.lv)) := hid (fun W h => h.ok (cE aG nI kG rG (gsI.map GO.lv)) (by rw [← HII.out]; simp [List.mem_append]))
      have HOI : Hid (∀ W, Hp [] w0 W II → Row W 22 1 (.slice aI nI kI) rI nI VI) := hid (fun W h => h.ok (cE aI nI kI rI VI) (by rw [← HII.out]; simp [List.mem_append]))
      have HMI : Hid (∀ W, Hp [] w0 W II → ∀ (i : Nat) (x : GO), gsI[i]? = some x → ∀ y ∈ GO.its 28 3 (mE i) x, It.ok W y) := hid (fun W h i x hx y hy => h.ok y (by
        rw [← HII.out]
        have h9 := gAll_mem hx hy
        simp [List.mem_append, h9]))
      have HSUB : Hid (List.Sublist RR II) := hid (by
        rw [← HII.out]
        have s2 : List.Sublist RR (gAll 28 3 mE gsI ++ RR) := List.sublist_append_right _ _
        exact (s2.cons (cE aI nI kI rI VI)).cons (cE aG nI kG rG (gsI.map GO.lv)))
      clear HII
      go_upto_block 8 with fail
      go_cut [2, 9, 10] from 61 to 110 (fun v2 v9 v10 wx => Hid (Hp [] w0 wx II))
      case first =>
        go_wp2_with fail
        go_loopg [9] nI (fun gk vv wr => ∃ i : Nat, vv = .int .i64 i ∧ Hid (gk + i = nI) ∧ Hid (Hp [] w0 wr II))
        case atStart => exact ⟨0, rfl, hid (by omega), H15⟩
        case round =>
          clear H15
          obtain ⟨i, rfl, HG, HR⟩ := hrel
          by_cases hlt : i < nI
          · obtain ⟨x, hxI⟩ : ∃ x, gsI[i]? = some x := ⟨gsI[i]'(by rw [HGI.out.len]; exact hlt), List.getElem?_eq_getElem _⟩
            obtain ⟨hokI, htI, hmI⟩ := HGI.out.at_ i _ hxI
            obtain ⟨hvI, -, -, hnI⟩ := VMI.out i _ hmI
            have HCI : Hid (∃ (gL gO gl : Nat) (xc : Nat) (oao : Option Addr) (on ocap : Nat), aG = some ⟨gL, 0, none⟩ ∧ aI = some ⟨gO, 0, none⟩ ∧ on ≤ 16777216 ∧ ∀ W, Hp [] w0 W II → W.cell? ⟨gL, i, none⟩ = some (.slice (some ⟨gl, 0, none⟩) (on + 70) xc) ∧ W.cell? ⟨gO, i, none⟩ = some (.slice oao on ocap) ∧ (∀ k, k < on + 70 → W.cell? ⟨gl, k * 3 + 2, none⟩ = some (.int .i64 (-(i : Int) - 1000))) ∧ (∀ k, k < on → ∃ b off, oao = some ⟨b, off, none⟩ ∧ W.cell? ⟨b, off + k * 3 + 2, none⟩ = some (.int .i64 (-(i : Int) - 1000)))) := hid (by
              obtain ⟨⟨oao, on, ocap, or, oxs⟩, xa, xc, xr, xt, xe⟩ := x
              simp only at htI
              subst htI
              obtain ⟨gL, hgL, haL, _⟩ := Row.slice (HLI.out _ HR.out) (by omega)
              obtain ⟨gO, hgO, haO, _⟩ := Row.slice (HOI.out _ HR.out) (by omega)
              have hlo : ∀ W, Hp [] w0 W II → Row W 28 3 (.slice xa (on + 70) xc) xr (on + 70) (repM (mE i) (on + 70)) := fun W h => HMI.out W h i _ hxI _ (List.mem_cons_self ..)
              obtain ⟨gl, hgl, hal, _⟩ := Row.slice (hlo _ HR.out) (by omega)
              refine ⟨gL, gO, gl, xc, oao, on, ocap, haL, haO, hnI, fun W h => ⟨?_, ?_, fun k hk => ?_, fun k hk => ?_⟩⟩
              · have h1 := HLI.out W h
                rw [hgL] at h1
                rw [(Row.cellk h1).1 i (by omega), List.getD_eq_getElem?_getD, List.getElem?_map, hxI]
                show some (Value.slice xa (on + 70) xc) = _
                rw [hal]
              · have h1 := HOI.out W h
                rw [hgO] at h1
                rw [(Row.cellk h1).1 i (by omega)]
                exact congrArg some hvI
              · have h1 := hlo W h
                rw [hgl] at h1
                rw [(Row.cellk h1).1 (k * 3 + 2) (by omega), repM_at (k := 3) rfl hk (by omega)]
                rfl
              · have h1 : View W 3 (.slice oao on ocap) on (repM (mE i) on) := GO.old (M := mE i) rfl hokI (HMI.out W h i _ hxI)
                obtain ⟨_, _, ao', cap', e1, _, _, _, h2⟩ := h1
                obtain ⟨b, off, e2, h3⟩ := h2 (by omega)
                simp only [Value.slice.injEq] at e1
                refine ⟨b, off, by rw [e1.1, e2], ?_⟩
                have h4 := h3 (k * 3 + 2) (by omega)
                rw [repM_at (k := 3) rfl hk (by omega)] at h4
                rw [show off + k * 3 + 2 = off + (k * 3 + 2) from by omega]
                exact h4)
            clear hxI hokI htI hmI hvI hnI x
            obtain ⟨wq, rfl⟩ : ∃ wq : World, wq = wr := ⟨_, rfl⟩
            obtain ⟨gq, rfl⟩ : ∃ gq, gq = gk := ⟨_, rfl⟩
            go_wp2_with fail
            obtain ⟨gLI, gOI, glI, xcI, oaoI, onI, ocapI, haLI, haOI, honI, hcellI⟩ := HCI.out
            have HCLI := hid hcellI
            clear hcellI HCI
            rw [haLI, haOI]
            go_loopg [10] (onI + 70) (fun gk vv wr => ∃ k : Nat, vv = .int .i64 k ∧ Hid (gk + k = onI + 70) ∧ Hid (Hp [] w0 wr II))
            case atStart => exact ⟨0, rfl, hid (by omega), HR⟩
            case round =>
              obtain ⟨k, rfl, HG2, HRC⟩ := hrel
              obtain ⟨y1, y2, z1, z2⟩ := HCLI.out _ HRC.out
              have hng : wrap64 (-(i : Int)) = -(i : Int) := IntWalk.wrap64_in _ (by omega)
              have hwm : wrap64 (-(i : Int) - 1000) = -(i : Int) - 1000 := IntWalk.wrap64_in _ (by omega)
              by_cases hk : k < onI + 70
              · have hki : (k : Int) < ((onI + 70 : Nat) : Int) := by omega
                have hki2 : (k : Int) < (onI : Int) + 70 := by omega
                have q1 := z1 k hk
                by_cases hk2 : k < onI
                · obtain ⟨b, off, hoa, q2⟩ := z2 k hk2
                  rw [hoa] at y2
                  have hk2i : (k : Int) < (onI : Int) := by omega
                  clear z1 z2 hoa
                  go_wp2_with fail
                  go_roundg (gk - 1)
                  case measure => have := HG2.out; omega
                  case rel => exact ⟨k + 1, by first | go_num | (rw [show ((k : Nat) : Int) + 1 = ((k + 1 : Nat) : Int) from by omega, IntWalk.wrap64_in _ (by omega)]), hid (by have := HG2.out; omega), HRC⟩
                · have hk2i : ¬ (k : Int) < (onI : Int) := by omega
                  clear z1 z2
                  go_wp2_with fail
                  go_roundg (gk - 1)
                  case measure => have := HG2.out; omega
                  case rel => exact ⟨k + 1, by first | go_num | (rw [show ((k : Nat) : Int) + 1 = ((k + 1 : Nat) : Int) from by omega, IntWalk.wrap64_in _ (by omega)]), hid (by have := HG2.out; omega), HRC⟩
              · have hki : ¬ (k : Int) < ((onI + 70 : Nat) : Int) := by omega
                have hki2 : ¬ (k : Int) < (onI : Int) + 70 := by omega
                clear z1 z2
                go_wp2_with fail
                rw [← haLI, ← haOI]
                go_roundg (gq - 1)
                case measure => have := HG.out; omega
                case rel => exact ⟨i + 1, by first | go_num | (rw [show ((i : Nat) : Int) + 1 = ((i + 1 : Nat) : Int) from by omega, IntWalk.wrap64_in _ (by omega)]), hid (by have := HG.out; omega), HRC⟩
          · go_wp2_with fail
            go_meet
            exact HR
      case rest =>
        have HR := hcut
        clear hcut H15
        go_wp2_with fail
        go_ret
        exact ⟨rfl, HR.out.sub HSUB.out⟩
end Go.Proofs.YtbghkodcfedebaaGreatDoor
