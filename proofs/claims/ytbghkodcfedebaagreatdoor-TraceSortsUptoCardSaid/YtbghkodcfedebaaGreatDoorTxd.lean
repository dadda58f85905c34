/- Walks of the trace layer's reference: runs. -/
import Derived.Test.YtbghkodcfedebaaGreatDoorTxp
set_option linter.unusedVariables false
set_option linter.unusedSectionVars false
set_option linter.unusedSimpArgs false
namespace Go.Proofs.YtbghkodcfedebaaGreatDoor
open Go.RowKit Go.AB
set_option linter.unusedSimpArgs false
set_option linter.unusedVariables false
set_option linter.unusedSectionVars false
def natV (n : Nat) : Value := .int .i64 n
/-- A list of numbers in new memory. -/
def NewN (w : World) (l : List Nat) (v : Value) (w' : World) : Prop := ∃ ao cap r n, l.length = n ∧ v = .slice ao n cap ∧ Row w' 3 1 (.slice ao n cap) r n (l.map natV) ∧ Fresh w none r ∧ Chg [] w w'
def prevT (l : List Ev) (i : Nat) : Option Int := if i = 0 then none else (l[i - 1]?).map Ev.t
set_option maxHeartbeats 8000000 in
set_option maxRecDepth 100000 in
theorem rruns_calls {v : Value} (l : List Ev) (w : World) (hl : Lst evC 3 w v l) (hn : l.length ≤ 1048576) :
    Calls Tryz.prog 80 #[v] w fun e w' => ∃ v', e = .returned v' ∧ NewN w (stE 0 none l) v' w' := by
  obtain ⟨ao, cap, rfl, -⟩ := hl.len
  obtain ⟨n, hln⟩ : ∃ n, l.length = n := ⟨_, rfl⟩
  rw [hln] at hl hn ⊢
  have HL := hid hl
  have HN := hid hln
  clear hl hln
  go_enter Tryz.func80, Tryz.ntmps80
  go_upto_region 3 with fail
  go_loopg [3, 4] n (fun gk v3 v4 wr => ∃ (i m : Nat) (ab : Option Addr) (cb : Nat) (rb : Option Nat) (L : List Nat), v3 = .slice ab m cb ∧ v4 = .int .i64 i ∧ Hid (gk + i = n) ∧ m ≤ i ∧ i ≤ n ∧
      Hid (L ++ stE i (prevT l i) (l.drop i) = stE 0 none l ∧ L.length = m) ∧ Hid (Row wr 3 1 (.slice ab m cb) rb m (L.map natV) ∧ Fresh w none rb ∧ Chg [] w wr))
  case atStart => exact ⟨0, 0, none, 0, none, [], rfl, rfl, hid (by omega), by omega, by omega, hid ⟨rfl, rfl⟩, hid ⟨Row.nil _ _ _, Fresh.refl _ _, Chg.refl _ _⟩⟩
  case round =>
    obtain ⟨i, m, ab, cb, rb, L, rfl, rfl, HG, hmi, hin, HLI, HR⟩ := hrel
    by_cases hi : i < n
    · have hil : i < l.length := by rw [HN.out]; exact hi
      obtain ⟨b1, o1, rfl, x0, x1, x2⟩ := ev_at (HL.out.keep HR.out.2.2) hil
      obtain ⟨T, hT⟩ : ∃ T, l[i].t = T := ⟨_, rfl⟩
      rw [hT] at x1
      have hst := stE_step (p := prevT l i) hil L i
      rw [hT, HLI.out.1] at hst
      have hpt : prevT l (i + 1) = some T := by
        unfold prevT
        rw [if_neg (by omega), Nat.add_sub_cancel, List.getElem?_eq_getElem hil, Option.map_some, hT]
      have HST := hid hst
      have HPT := hid hpt
      clear hst hpt hT x0 x2
      obtain ⟨q, hq⟩ : ∃ q, decide (prevT l i = some T) = q := ⟨_, rfl⟩
      go_upto_region 5 with fail
      go_cut [26] (fun v wx => v = .bool (!q) ∧ Hid (Chg [] wr wx))
      case first =>
        by_cases h0 : i = 0
        · have hq' : q = false := by rw [← hq]; simp [prevT, h0]
          subst hq'
          have qq : ((i : Int) == 0) = true := by simp [h0]
          clear hq h0 hil
          go_wp2_with fail
          go_quiet (fail)
          go_wp2_with fail
          go_meet
          exact ⟨rfl, hid (Chg.of_drewN _ _ _)⟩
        · obtain ⟨p, hp⟩ : ∃ p, i = p + 1 := ⟨i - 1, by omega⟩
          have hpl : p < l.length := by omega
          obtain ⟨b2, o2, hb2, y0, y1, y2⟩ := ev_at (HL.out.keep HR.out.2.2) hpl
          simp only [Option.some.injEq, Addr.mk.injEq, and_true] at hb2
          obtain ⟨rfl, rfl⟩ := hb2
          obtain ⟨U, hU⟩ : ∃ U, l[p].t = U := ⟨_, rfl⟩
          rw [hU] at y1
          have hq' : q = decide (U = T) := by
            rw [← hq]
            unfold prevT
            rw [if_neg h0, hp, Nat.add_sub_cancel, List.getElem?_eq_getElem hpl, Option.map_some, hU]
            simp
          have qq : ((i : Int) == 0) = false := by simp; omega
          have e1 : (i : Int) - 1 = (p : Int) := by omega
          have e2 : IntKind.i64.wrap (p : Int) = (p : Int) := by rw [IntKind.wrap_i64]; omega
          have e3 : wrap64 ((i : Int) - 1) = (p : Int) := by rw [e1]; exact IntWalk.wrap64_in _ (by omega)
          have hpn : p < n := by omega
          clear hq h0 hil hpl hp hU y0 y2
          by_cases hUT : U = T
          · have hq2 : q = true := by rw [hq', decide_eq_true hUT]
            subst hUT
            clear hq'
            subst hq2
            have q5 : (U != U) = false := by simp
            go_wp2_with fail
            go_quiet (fail)
            go_wp2_with fail
            go_meet
            exact ⟨rfl, hid (Chg.of_drewN _ _ _)⟩
          · have hq2 : q = false := by rw [hq', decide_eq_false hUT]
            have q5 : (T != U) = true := by simp; exact fun e => hUT e.symm
            clear hq' hUT
            subst hq2
            go_wp2_with fail
            go_quiet (fail)
            go_wp2_with fail
            go_meet
            exact ⟨rfl, hid (Chg.of_drewN _ _ _)⟩
      case rest =>
      obtain ⟨rfl, hcw⟩ := hcut
      obtain ⟨w3, rfl⟩ : ∃ x, x = wc := ⟨_, rfl⟩
      have HR3 : Hid (Row w3 3 1 (.slice ab m cb) rb m (L.map natV) ∧ Chg [] w w3) := hid ⟨HR.out.1.keep hcw.out (by simp), HR.out.2.2.trans' hcw.out⟩
      clear hcw x1
      cases q with
      | true =>
        have HE : Hid (L ++ stE (i + 1) (prevT l (i + 1)) (l.drop (i + 1)) = stE 0 none l) := hid (by rw [HPT.out, HST.out, if_pos (by simpa using hq)])
        clear hq hil
        go_wp2_with fail
        go_roundg (gk - 1)
        case measure => have := HG.out; omega
        case rel => exact ⟨i + 1, m, ab, cb, rb, L, rfl, by go_num, hid (by have := HG.out; omega), by omega, by omega, hid ⟨HE.out, HLI.out.2⟩, hid ⟨HR3.out.1, HR.out.2.1, HR3.out.2⟩⟩
      | false =>
        have HE : Hid ((L ++ [i]) ++ stE (i + 1) (prevT l (i + 1)) (l.drop (i + 1)) = stE 0 none l) := hid (by rw [HPT.out, HST.out, if_neg (by simpa using hq)])
        clear hq hil
        have hrow := fun o => HR3.out.1.keep ((Chg.refl [] w3).alloc o) (by simp)
        go_wp2_with (at_builtin; refine wpList_app rfl _ _ 54 rfl elem_int rfl (hrow _) rfl (View.one _ _ _) (by simp [Value.oneCell']) (by unfold maxLen; omega) (by omega) (fun ao' cap' r' w2 hr2 hc2 hf2 _ => halt (fun X hX => ?_)))
        clear hrow
        have HR4 : Hid (Row w2 3 1 (.slice ao' (m + 1) cap') r' (m + 1) ((L ++ [i]).map natV) ∧ Fresh w none r' ∧ Chg [] w w2) := hid ⟨by rw [List.map_append]; exact hr2, fresh_step HR3.out.2 HR.out.2.1 ((Chg.refl [] w3).alloc _) hf2, own_step HR3.out.2 HR.out.2.1 ((Chg.refl [] w3).alloc _) hc2⟩
        clear hr2 hc2 hf2
        rw [hX.out]; clear hX
        go_wp2_with fail
        go_roundg (gk - 1)
        case measure => have := HG.out; omega
        case rel => exact ⟨i + 1, m + 1, ao', cap', r', L ++ [i], by first | rfl | go_num, by go_num, hid (by have := HG.out; omega), by omega, by omega, hid ⟨HE.out, by rw [List.length_append, HLI.out.2]; rfl⟩, HR4⟩
    · have HE : Hid (L = stE 0 none l) := hid (by
        have h := HLI.out.1
        rw [List.drop_eq_nil_of_le (by rw [HN.out]; omega)] at h
        simpa [stE] using h)
      go_wp2
      go_ret
      exact ⟨_, rfl, ab, cb, rb, m, by rw [← HE.out, HLI.out.2], rfl, by rw [← HE.out]; exact HR.out.1, HR.out.2.1, HR.out.2.2⟩
end Go.Proofs.YtbghkodcfedebaaGreatDoor
