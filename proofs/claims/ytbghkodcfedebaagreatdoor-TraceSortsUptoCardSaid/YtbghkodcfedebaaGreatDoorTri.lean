/- Walks of the trace layer: the runs, one by one, to whatever takes them. -/
import Derived.Test.YtbghkodcfedebaaGreatDoorTrh
import Derived.Test.YtbghkodcfedebaaGreatDoorTit
import Derived.OwnWalkIn
import Derived.TacticsInMore
import Derived.LoopIn
import Derived.LoopNIn
import Derived.Deep.QuietTactic
import Derived.BigQuiet
import Derived.Shelf.Abstract
set_option linter.unusedVariables false
set_option linter.unusedSectionVars false
set_option linter.unusedSimpArgs false
namespace Go.AB
open Go.RowKit
/-- Runs with the numbers of their first events. -/
def runsI : Nat → List (List Ev) → List (Nat × List Ev)
  | _, [] => []
  | i, r :: rs => (i, r) :: runsI (i + r.length) rs
theorem runsI_snd : ∀ (i : Nat) (rs : List (List Ev)), (runsI i rs).map Prod.snd = rs
  | _, [] => rfl
  | i, r :: rs => by simp [runsI, runsI_snd]
/-- The first run of a list. -/
theorem run_first {m : List Ev} {k : Nat} (hk : 1 ≤ k) (hkm : k ≤ m.length) (hs : ∀ j (h : j < m.length), j < k → m[j].t = (m[0]'(by omega)).t) (he : ∀ h : k < m.length, m[k].t ≠ (m[0]'(by omega)).t) : runsE m = m.take k :: runsE (m.drop k) := by
  have h0 : 0 < m.length := by omega
  have hth : thrE (m.take k) = m[0].t := by
    clear hs he
    cases m with
    | nil => simp at h0
    | cons e m =>
      cases k with
      | zero => omega
      | succ k => rfl
  have hr := runs_of (m.take k :: runsE (m.drop k)) (m[0].t + 1) (by
    refine ⟨⟨?_, by rw [hth]; omega, fun e h => ?_⟩, ?_⟩
    · intro e
      have := congrArg List.length e
      rw [List.length_take, List.length_nil] at this
      omega
    · rw [hth]
      obtain ⟨j, hj, rfl⟩ := List.mem_iff_getElem.1 h
      rw [List.getElem_take]
      simp at hj
      exact hs j (by omega) (by omega)
    · refine runs_ok _ _ (fun e h => ?_)
      rw [hth]
      by_cases hlt : k < m.length
      · rw [List.head?_eq_getElem?, List.getElem?_drop, Nat.add_zero, List.getElem?_eq_getElem hlt] at h
        simp only [Option.mem_def, Option.some.injEq] at h
        subst h
        exact he hlt
      · rw [List.drop_eq_nil_of_le (by omega)] at h
        simp at h)
  rw [← hr]
  simp only [List.flatten_cons, runs_flat, List.take_append_drop]
/-- A part of a list. -/
theorem Lst.part {w : World} {b off n cap : Nat} {l : List Ev} (h : Lst evC 3 w (.slice (some ⟨b, off, none⟩) n cap) l) {i k : Nat} (hik : i ≤ k) (hk : k ≤ l.length) :
    Lst evC 3 w (.slice (some ⟨b, off + i * 3, none⟩) (k - i) (cap - i)) ((l.drop i).take (k - i)) := by
  obtain ⟨h1, h2, ao, cap', hv, h3, h4, h5, h6⟩ := h
  simp only [Value.slice.injEq] at hv
  obtain ⟨rfl, rfl, rfl⟩ := hv
  have hl : ((l.drop i).take (k - i)).length = k - i := by rw [List.length_take, List.length_drop]; omega
  have hfl : (((l.drop i).take (k - i)).flatMap evC).length = (k - i) * 3 := by rw [flat_len evC_len, hl]
  refine ⟨by rw [hfl, hl], by rw [hl]; omega, _, _, by rw [hl], by rw [hl]; omega, by omega, (fun e => by cases e), fun h0 => ⟨b, off + i * 3, rfl, fun j hj => ?_⟩⟩
  rw [hl] at hj h0
  obtain ⟨b', off', hb, hc⟩ := h6 (by omega)
  simp only [Option.some.injEq, Addr.mk.injEq, and_true] at hb
  obtain ⟨rfl, rfl⟩ := hb
  have hdv : j / 3 < k - i := by omega
  have hm : j = j / 3 * 3 + j % 3 := by omega
  rw [Nat.add_assoc, hc (i * 3 + j) (by omega)]
  have e1 : i * 3 + j = (i + j / 3) * 3 + j % 3 := by omega
  rw [e1, flat_get evC_len l (i + j / 3) (j % 3) (by omega) (by omega)]
  conv => rhs; rw [hm]
  rw [flat_get evC_len _ (j / 3) (j % 3) (by rw [hl]; omega) (by omega)]
  congr 2
  simp
end Go.AB
namespace Go.Proofs.YtbghkodcfedebaaGreatDoor
open Go.RowKit Go.AB Go.Shelf
set_option linter.unusedSimpArgs false
set_option linter.unusedVariables false
set_option linter.unusedSectionVars false

set_option maxHeartbeats 400000 in
set_option maxRecDepth 100000 in
theorem evclone_calls (v : Value) (l : List Ev) (w : World) (hv : Lst evC 3 w v l) (hl : l.length ≤ 16777216) :
    Calls Tryz.prog 63 #[v] w fun e w' => ∃ v', e = .returned v' ∧ NewE w l v' w' := by
  have hv' := hv
  have he := fun (w : World) (ao : Option Addr) (n cap : Nat) => (Lib.run_eql_slice_nil w _ _ ao n cap 0 0 Tryz.underlying22 : (binOp .eql 22 (.slice ao n cap) (.slice none 0 0)).run Tryz.prog w = .ok (.bool ao.isNone) w)
  obtain ⟨_, _, ao, cap, rfl, _, _, hnone, _⟩ := hv
  cases ao with
  | none =>
    obtain ⟨h0, rfl⟩ := hnone rfl
    have hln : l = [] := List.eq_nil_of_length_eq_zero h0
    subst hln
    go_enter Tryz.func63, Tryz.ntmps63
    go_wp2
    go_ret
    exact ⟨_, rfl, none, 0, none, rfl, Row.nil _ _ _, Fresh.refl _ _, Chg.refl _ _⟩
  | some ad =>
    clear hnone
    go_enter Tryz.func63, Tryz.ntmps63
    have hr0 : ∀ W : World, Row (W.alloc (.cells #[] 28)) 28 3 (.slice (some ⟨W.heap.size, 0, none⟩) 0 0) (some W.heap.size) 0 [] := fun W =>
      ⟨World.ownsRow_made _ #[] 0 (Nat.zero_le _) (by simp [maxLen]) rfl, rfl⟩
    have hva := fun o => View.keep hv' ((Chg.refl [] w).alloc o) (fun g _ => by simp)
    have hone : ∀ u ∈ l.flatMap evC, u.oneCell' = true := fun u hu => by
      obtain ⟨x, _, hx⟩ := List.mem_flatMap.1 hu
      exact one_ev x u hx
    go_wp2_with (at_builtin; refine wpList_app rfl _ _ 22 rfl elem_ev rfl (hr0 _) rfl (hva _) (hone) (by unfold maxLen; omega) (by omega) (fun ao' cap' r' w2 hr2 hc2 hf2 hnil2 => halt (fun X hX => ?_)))
    rw [hX.out]; clear hX
    go_wp2
    go_ret
    simp only [Nat.zero_add, List.nil_append] at hr2
    have hf : Fresh w none (some w.heap.size) := fun g hg => by simp at hg; exact .inr (by omega)
    have hca := (Chg.refl [] w).alloc (.cells #[] 28)
    exact ⟨_, rfl, _, _, _, rfl, hr2, hf.trans hca.size hf2, own_step (Chg.refl _ _) hf hca hc2⟩
/-- A run that is handed over: its number, its list in memory of its own. -/
def EvA (x : Nat × List Ev) (A0 W : World) (args : Array Value) : Prop := ∃ v, args = #[.int .i64 x.1, v] ∧ Lst evC 3 W v x.2 ∧ A0.heap.size ≤ W.heap.size ∧ ∀ g, v.ownBlock = some g → A0.heap.size ≤ g
set_option maxHeartbeats 8000000 in
set_option maxRecDepth 100000 in
theorem each_gives {w : World} {C : Nat} {v : Value} (hC : w.heap[C]? = some (.cells #[v] 22 (0, 0))) (l : List Ev) (hl : Lst evC 3 w v l) (hn : l.length ≤ 16777216) :
    Gives Tryz.prog 64 #[.pointer (some ⟨C, 0, none⟩)] EvA (runsI 0 (runsE l)) 0 (C :: v.ownBlock.toList) w := by
  intro L J Jx hJ hJx hY h0
  show Calls Tryz.prog 64 #[.func (.yield L) #[] #[], .pointer (some ⟨C, 0, none⟩)] w _
  obtain ⟨ao, cap, rfl, hcap, hcapm, _⟩ := hl.len
  obtain ⟨n, hln⟩ : ∃ n, l.length = n := ⟨_, rfl⟩
  rw [hln] at hl hn hC hY hcap
  have HL := hid hl
  have HN := hid hln
  have HC := hid hC
  have HY := hid hY
  have HJ := hid hJ
  have HJX := hid hJx
  have HJ0 := hid h0
  clear hl hln hC hY hJ hJx h0
  go_enter Tryz.func64, Tryz.ntmps64
  go_upto_region 1 with fail
  go_loopg [3] n (fun gk v3 wr => ∃ (i : Nat) (pre : List (Nat × List Ev)), v3 = .int .i64 i ∧ Hid (gk + i = n) ∧ Hid (runsI 0 (runsE l) = pre ++ runsI i (runsE (l.drop i))) ∧
    Hid (J pre wr ∧ wr.heap[C]? = some (.cells #[.slice ao n cap] 22 (0, 0)) ∧ Lst evC 3 wr (.slice ao n cap) l ∧ w.heap.size ≤ wr.heap.size))
  case atStart => exact ⟨0, [], rfl, hid (by omega), hid (by simp), hid ⟨HJ0.out, HC.out, HL.out, Nat.le_refl _⟩⟩
  case round =>
    obtain ⟨i, pre, rfl, HG, HP, HS⟩ := hrel
    have c0 : wr.cell? ⟨C, 0, none⟩ = some (.slice ao n cap) := (blk_cell HS.out.2.1 0).trans rfl
    by_cases hlt : i < n
    · have hil : i < l.length := by rw [HN.out]; exact hlt
      obtain ⟨b, off, rfl, _, xi, _⟩ := ev_at HS.out.2.2.1 hil
      obtain ⟨ti, hti⟩ : ∃ ti, l[i].t = ti := ⟨_, rfl⟩
      rw [hti] at xi
      have HTI := hid hti
      clear hti
      obtain ⟨wo, rfl⟩ : ∃ wo : World, wo = wr := ⟨_, rfl⟩
      obtain ⟨gi, rfl⟩ : ∃ gi : Nat, gi = gk := ⟨_, rfl⟩
      go_upto_region 3 with fail
      go_loopg [4] (n - i) (fun gk v4 wr => ∃ k : Nat, v4 = .int .i64 k ∧ Hid (gk + k = n) ∧ Hid (i ≤ k ∧ ∀ j (h : j < l.length), i ≤ j → j < k → l[j].t = ti) ∧ Hid (Chg [] wo wr))
      case atStart => exact ⟨i, rfl, hid (by omega), hid ⟨Nat.le_refl _, fun j h h1 h2 => by omega⟩, hid (Chg.refl _ _)⟩
      case round =>
        obtain ⟨k, rfl, HK, HR, HQ⟩ := hrel
        obtain ⟨q, hq⟩ : ∃ q : Bool, (q = true ∧ ∃ h : k < l.length, l[k].t = ti) ∨ (q = false ∧ ∀ h : k < l.length, l[k].t ≠ ti) := by
          by_cases h : ∃ h : k < l.length, l[k].t = ti
          · exact ⟨true, .inl ⟨rfl, h⟩⟩
          · exact ⟨false, .inr ⟨rfl, fun h1 h2 => h ⟨h1, h2⟩⟩⟩
        have HQQ := hid hq
        have c1 : wr.cell? ⟨C, 0, none⟩ = some (.slice (some ⟨b, off, none⟩) n cap) := HQ.out.cell c0 (by simp)
        have y1 : wr.cell? ⟨b, off + i * 3 + 1, none⟩ = some (.int .i64 ti) := HQ.out.cell xi (by simp)
        have HC0 := hid c0
        have HXI := hid xi
        clear hq c0 xi
        go_upto_region 3 with fail
        go_cut [26] (fun v wx => v = .bool q ∧ Hid (Chg [] wo wx))
        case first =>
          by_cases hk : k < n
          · have hkl : k < l.length := by rw [HN.out]; exact hk
            obtain ⟨b2, off2, hb2, _, xk, _⟩ := ev_at (HS.out.2.2.1.keep HQ.out) hkl
            simp only [Option.some.injEq, Addr.mk.injEq, and_true] at hb2
            obtain ⟨rfl, rfl⟩ := hb2
            obtain ⟨tk, htk⟩ : ∃ tk, l[k].t = tk := ⟨_, rfl⟩
            rw [htk] at xk
            have hkb : (k : Int) < (n : Int) := by omega
            have hib : (i : Int) < (n : Int) := by omega
            have hqq : ((tk : Int) == ti) = q := by
              rcases HQQ.out with ⟨rfl, h, e⟩ | ⟨rfl, h⟩
              · rw [← htk, e]; simp
              · have := h hkl; rw [htk] at this; simpa using this
            have HH := hid htk
            clear htk
            rename_i hx1 hx2
            clear hx1 hx2
            go_quiet (fail)
            go_wp2_with fail
            go_meet
            exact ⟨by first | rfl | rw [hqq], HQ.out.trans' (Chg.of_drewN _ _ _)⟩
          · have hqf : q = false := by
              rcases HQQ.out with ⟨rfl, h, e⟩ | ⟨rfl, h⟩
              · rw [HN.out] at h; exact absurd h hk
              · rfl
            subst hqf
            have hkb : decide ((k : Int) < (n : Int)) = false := decide_eq_false (by omega)
            go_quiet (fail)
            go_wp2_with fail
            go_meet
            exact ⟨rfl, HQ.out.trans' (Chg.of_drewN _ _ _)⟩
        case rest =>
        obtain ⟨rfl, hcw⟩ := hcut
        obtain ⟨w3, rfl⟩ : ∃ x, x = wc := ⟨_, rfl⟩
        cases q with
        | true =>
          have hkl : k < l.length := by
            rcases HQQ.out with ⟨_, h, _⟩ | ⟨h, _⟩
            · exact h
            · cases h
          have hkn : k < n := by rw [← HN.out]; exact hkl
          have HR2 : Hid (i ≤ k + 1 ∧ ∀ j (h : j < l.length), i ≤ j → j < k + 1 → l[j].t = ti) := hid ⟨by have := HR.out.1; omega, fun j h h1 h2 => by
            by_cases e : j = k
            · subst e
              rcases HQQ.out with ⟨_, _, h⟩ | ⟨h, _⟩
              · exact h
              · cases h
            · exact HR.out.2 j h h1 (by omega)⟩
          clear hkl
          go_wp2_with fail
          go_roundg (gk - 1)
          case measure => have := HK.out; omega
          case rel => exact ⟨k + 1, by go_num, hid (by have := HK.out; omega), HR2, hcw⟩
        | false =>
          have hno : ∀ h : k < l.length, l[k].t ≠ ti := by
            rcases HQQ.out with ⟨h, _⟩ | ⟨_, h⟩
            · cases h
            · exact h
          have hik : i < k := by
            rcases Nat.lt_or_ge i k with h | h
            · exact h
            · have e : i = k := by have := HR.out.1; omega
              subst e
              exact absurd HTI.out (hno hil)
          have hkn : k ≤ n := by have := HK.out; omega
          have hkl : k ≤ l.length := by rw [HN.out]; exact hkn
          have hf := run_first (m := l.drop i) (k := k - i) (by omega) (by rw [List.length_drop]; omega)
            (fun j h hj => by
              rw [List.length_drop] at h
              rw [List.getElem_drop, List.getElem_drop]
              have h1 := HR.out.2 (i + j) (by omega) (by omega) (by omega)
              rw [h1]
              exact HTI.out.symm)
            (fun h => by
              rw [List.length_drop] at h
              rw [List.getElem_drop, List.getElem_drop]
              have h1 := hno (by omega)
              intro e
              apply h1
              have e2 : l[i + (k - i)]'(by omega) = l[k]'(by omega) := by congr 1; omega
              rw [← e2, e]
              exact HTI.out)
          rw [List.drop_drop, show i + (k - i) = k from by omega] at hf
          have hP2 := HP.out
          rw [hf] at hP2
          have hrl : ((l.drop i).take (k - i)).length = k - i := by rw [List.length_take, List.length_drop]; omega
          simp only [runsI] at hP2
          rw [hrl, show i + (k - i) = k from by omega] at hP2
          obtain ⟨r, hr⟩ : ∃ r, (l.drop i).take (k - i) = r := ⟨_, rfl⟩
          have hpart := (HS.out.2.2.1.keep hcw.out).part (show i ≤ k by omega) hkl
          rw [hr] at hP2 hrl hpart
          have HP2 := hid hP2
          have HCL := hid (evclone_calls _ r w3 hpart (by omega))
          have c2 : w3.cell? ⟨C, 0, none⟩ = some (.slice (some ⟨b, off, none⟩) n cap) := hcw.out.cell HC0.out (by simp)
          have k1 : (i : Int) ≤ (k : Int) := by omega
          have k2 : (k : Int) ≤ (cap : Int) := by omega
          have k3 : i ≤ k := by omega
          have k4 : k ≤ cap := by omega
          have HRL := hid hrl
          have HR2 := hid hr
          clear hno hf hP2 hr hpart hkl c1 y1 hrl HQQ
          go_upto_region 5 with fail
          refine wpIn_wide (n := 0).1 ?_
          gi_wp2_with (refine ⟨trivial, rfl, ?_⟩; gi_at_call 63; refine (callsIn_wide.2 HCL.out).mono ?_; rintro e w5 ⟨v5, rfl, hne⟩; refine halt (fun XX hXX => ?_))
          obtain ⟨a5, cap5, r5, rfl, hr5, hf5, hc5⟩ := hne
          have hE5 : EvA (i, r) wo w5 #[.int .i64 i, .slice a5 r.length cap5] := ⟨_, rfl, hr5.view, (hcw.out.trans' hc5).size, fun g hg => by
            rw [hr5.blk] at hg
            rcases hf5 g hg with h | h
            · cases h
            · have := hcw.out.size; omega⟩
          obtain ⟨fn, tmps, assign, body, hy, hR⟩ := HY.out [] pre (i, r) _ wo w5 (by rw [HP2.out]; exact ⟨runsI k (runsE (l.drop k)), by simp⟩) HS.out.1 (by have := HS.out.2.2.2; omega) (hcw.out.trans' hc5) (Mid.nil _ _) hE5
          have HRR := hid hR
          have HW5 := hid (hcw.out.trans' hc5)
          clear hR hE5 hr5 hf5 hc5
          rw [hXX.out]; clear hXX XX
          gi_wp2
          refine ⟨rfl, HRR.out.mono ?_⟩
          rintro e W6 ⟨⟨S, hcS, hS⟩, hend⟩
          have hCS : C ∉ S := fun h => (hS C h).1 (by simp)
          have hbS : b ∉ S := fun h => (hS b h).1 (by simp [Value.ownBlock])
          have h6C := hcS.heap (HW5.out.heap HS.out.2.1 (by simp)) hCS
          have h6L : Lst evC 3 W6 (.slice (some ⟨b, off, none⟩) n cap) l := View.keep (HS.out.2.2.1.keep HW5.out) hcS (fun g hg => by
            simp [Value.ownBlock] at hg
            subst hg
            exact hbS)
          have h6s : w.heap.size ≤ W6.heap.size := by have := HS.out.2.2.2; have := HW5.out.size; have := hcS.size; omega
          have HW6 := hid (And.intro h6C (And.intro h6L h6s))
          clear hCS hbS h6C h6L h6s hcS hS
          rcases hend with ⟨rfl, hJ6⟩ | ⟨rfl, hJ6⟩
          · have HJ6 := hid hJ6
            clear hJ6
            gi_wp2
            go_wp2
            go_roundg (gi - (k - i))
            case measure => have := HG.out; omega
            case rel => exact ⟨k, pre ++ [(i, r)], rfl, hid (by have := HG.out; omega), hid (by rw [HP2.out]; simp), hid ⟨HJ6.out, HW6.out⟩⟩
          · have HJ6 := hid hJ6
            clear hJ6
            gi_wp2
            go_wp2
            exact bodyPost_ret (v := .tuple #[]) (by simp [results, Tryz.results64, go_sem]) rfl ⟨⟨_, rfl⟩, .inr ⟨pre ++ [(i, r)], by rw [HP2.out]; exact ⟨runsI k (runsE (l.drop k)), by simp⟩, HJ6.out⟩⟩
    · obtain rfl : i = n := by have := HG.out; omega
      have he : runsI 0 (runsE l) = pre := by
        rw [HP.out, List.drop_eq_nil_of_le (by rw [HN.out]; omega)]
        simp [runsE, runsI]
      have HE := hid he
      clear he
      go_wp2
      first | go_end0 | go_ret
      exact ⟨⟨_, rfl⟩, .inl (by rw [HE.out]; exact HS.out.1)⟩
/-- What Each answers. -/
def EachP (w : World) (l : List Ev) (e : Ending) (w' : World) : Prop := ∃ C v, e = .returned (.func (.func 64) #[] #[.pointer (some ⟨C, 0, none⟩)]) ∧ w'.heap[C]? = some (.cells #[v] 22 (0, 0)) ∧ Lst evC 3 w' v l ∧
  w.heap.size ≤ C ∧ (∀ g, v.ownBlock = some g → w.heap.size ≤ g ∧ g < w'.heap.size) ∧ Chg [] w w'
set_option maxHeartbeats 4000000 in
set_option maxRecDepth 100000 in
theorem each_calls (v : Value) (l : List Ev) (w : World) (hv : Lst evC 3 w v l) (hl : l.length ≤ 16777216) : Calls Tryz.prog 31 #[v] w (EachP w l) := by
  have HCL := hid (evclone_calls v l w hv hl)
  obtain ⟨ao, cap, rfl, _⟩ := hv.len
  clear hv
  go_enter Tryz.func31, Tryz.ntmps31
  go_wp2_with (go_at_call 63; refine HCL.out.mono ?_; rintro e w1 ⟨v1, rfl, a1, c1, r1, rfl, hr1, hf1, hc1⟩; have HR1 := hid (And.intro hr1 (And.intro hf1 hc1)); clear hr1 hf1 hc1)
  go_ret
  have hca : Chg [] w1 (w1.alloc (.cells #[.slice a1 l.length c1] 22)) := (Chg.refl [] w1).alloc _
  refine ⟨w1.heap.size, .slice a1 l.length c1, rfl, heap_alloc_new w1 _, (HR1.out.1.keep hca (by simp)).view, HR1.out.2.2.size, fun g hg => ?_, HR1.out.2.2.trans' hca⟩
  rw [HR1.out.1.blk] at hg
  have hlt := HR1.out.1.lt g hg
  rcases HR1.out.2.1 g hg with h | h
  · cases h
  · exact ⟨h, by simp; omega⟩
/-- A loop over the runs of a list, its two variables in slots. -/
theorem wp_runs {g : Operand} {p1 p2 : Nat} {assign body : Code} {Q : Exit → Act → World → Prop} {a : Act} {w : World} {C : Nat} {v0 : Value} {l : List Ev}
    (hg : a.eval g = .func (.func 64) #[] #[.pointer (some ⟨C, 0, none⟩)]) (hC : w.heap[C]? = some (.cells #[v0] 22 (0, 0))) (hl : Lst evC 3 w v0 l) (hn : l.length ≤ 16777216) (hv0 : ∀ b, v0.ownBlock = some b → b < w.heap.size)
    (I : List (Nat × List Ev) → World → Prop) (Ix : Code → List (Nat × List Ev) → World → Prop) (hI : Abide w.heap.size 2 I) (hIx : ∀ c, Abide w.heap.size 2 (Ix c)) (h0 : I [] w) (upd : Value → Value → Array Value → Array Value)
    (hassign : ∀ (L : Nat) (i v : Value) (W : World) (K' : Act → World → Prop), K' { tmps := upd i v a.tmps, defers := [] } W → assign.wpIn (Fence.wide.inRound L) 0 Tryz.prog (Exit.then K' (fun _ _ _ => False)) { tmps := (a.tmps.setIfInBounds p1 i).setIfInBounds p2 v, defers := [] } W)
    (hbody : ∀ (L : Nat) (S0 : List Nat) (pre : List (Nat × List Ev)) (x : Nat × List Ev) (A0 A : World) (v : Value), pre ++ [x] <+: runsI 0 (runsE l) → I pre A0 → w.heap.size + 2 ≤ A0.heap.size → A0.heap.size ≤ A.heap.size → Chg S0 A0 A → Mid w.heap.size 2 S0 → Lst evC 3 A v x.2 →
      (∀ b, v.ownBlock = some b → A0.heap.size ≤ b) → body.wpIn (Fence.wide.inRound L) 0 Tryz.prog (bodyR (C :: v0.ownBlock.toList) w.heap.size 2 A0.heap.size I Ix (pre ++ [x]) A) { tmps := upd (.int .i64 x.1) v a.tmps, defers := [] } A)
    (hdone : ∀ (W : World), I (runsI 0 (runsE l)) W → W.heap[w.heap.size]? = some (.deferred (some [])) → Q .normal { a with defers := { target := .collected w.heap.size, args := #[] } :: a.defers } W)
    (hstop : ∀ (c : Code) (pre : List (Nat × List Ev)) (W : World), pre <+: runsI 0 (runsE l) → Ix c pre W → W.heap[w.heap.size]? = some (.deferred (some [])) → c.wp Tryz.prog Q { a with defers := { target := .collected w.heap.size, args := #[] } :: a.defers } W) :
    (Code.rangeFunc g #[p1, p2] assign body).wp Tryz.prog Q a w := by
  refine wp_rangeFunc (gf := 64) (lb := #[.pointer (some ⟨C, 0, none⟩)]) hg (enters_of Tryz.func64 (by kernel_rfl) rfl) (E := EvA) (T := runsI 0 (runsE l)) (k := 0) (K := C :: v0.ownBlock.toList) ?_
    (fun o1 o2 => each_gives (blk_alloc_old (blk_alloc_old hC o1) o2) l ((hl.keep ((Chg.refl [] w).alloc o1)).keep ((Chg.refl [] _).alloc o2)) hn) (fun x A0 W args h => by obtain ⟨v, rfl, _⟩ := h; rfl) I Ix hI hIx h0
    (fun x A0 W a' A => ∃ v, a' = { tmps := upd (.int .i64 x.1) v a.tmps, defers := [] } ∧ Lst evC 3 A v x.2 ∧ A0.heap.size ≤ A.heap.size ∧ ∀ b, v.ownBlock = some b → A0.heap.size ≤ b) ?_ ?_ ?_ hdone hstop
  · intro b hb
    rcases List.mem_cons.1 hb with rfl | hb
    · exact blk_lt hC
    · exact hv0 b (by simpa using hb)
  · rintro x A0 W a' A B hsz ⟨v, h1, h2, h3, h4⟩ hc
    exact ⟨v, h1, View.keep h2 hc (fun b hb hm => by simp at hm; have := h4 b hb; omega), Nat.le_trans h3 hc.size, h4⟩
  · rintro L x args A0 W K' ⟨v, rfl, h2, h3, h4⟩ hsz hK
    have h := hassign L (.int .i64 x.1) v W K' (hK _ _ ⟨v, rfl, h2, h3, h4⟩ (Chg.refl _ _))
    have e : (#[p1, p2].zip #[Value.int .i64 (x.1 : Int), v]).foldl (fun t (q : Tmp × Value) => match q with | (p, v) => t.setIfInBounds p v) a.tmps = (a.tmps.setIfInBounds p1 (.int .i64 x.1)).setIfInBounds p2 v := by
      have ez : #[p1, p2].zip #[Value.int .i64 (x.1 : Int), v] = #[(p1, .int .i64 x.1), (p2, v)] := by first | rfl | simp | (rw [List.zip_toArray]; rfl)
      rw [ez]; rfl
    rw [e]
    exact h
  · rintro L S0 pre x A0 W A a' hpre hi hs0 hs1 hc hm ⟨v, rfl, h2, h3, h4⟩
    exact hbody L S0 pre x A0 A v hpre hi hs0 h3 hc hm h2 h4
end Go.Proofs.YtbghkodcfedebaaGreatDoor
