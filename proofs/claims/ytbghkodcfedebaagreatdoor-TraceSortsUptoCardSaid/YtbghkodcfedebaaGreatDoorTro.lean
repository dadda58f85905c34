/- Walks of the trace laws: what is the same; two events told, and read again. -/
import Derived.Test.YtbghkodcfedebaaGreatDoorTrn
import Derived.Laws.StructEq
set_option linter.unusedVariables false
set_option linter.unusedSectionVars false
set_option linter.unusedSimpArgs false
namespace Go.AB
open Go.RowKit
theorem take_nextE {a b : List Ev} {k : Nat} (ha : k < a.length) (hb : k < b.length) (h : a.take k = b.take k) (he : a[k] = b[k]) : a.take (k + 1) = b.take (k + 1) := by
  rw [List.take_succ_eq_append_getElem ha, List.take_succ_eq_append_getElem hb, h, he]
def smallT : List Ev := [⟨1, 0, 3⟩, ⟨11, 1, 0⟩]
theorem smallT_plain : ∀ e ∈ smallT, plainE e = true := by
  intro e he
  simp only [smallT, List.mem_cons, List.not_mem_nil, or_false] at he
  rcases he with rfl | rfl <;> decide
theorem smallT_text : textD smallT = ([114, 101, 97, 100, 32, 48, 32, 51, 10, 101, 120, 105, 116, 32, 49, 10], 0) := by decide +kernel
theorem smallT_enc : ∃ b, encE smallT = (b, 0) ∧ b.length ≤ 16777216 := by
  have h := body_len smallT_plain (by decide)
  refine ⟨frameB 3 (bodyE smallT), ?_, ?_⟩
  · unfold encE
    rw [if_pos (List.all_eq_true.2 smallT_plain), if_neg (by omega)]
  · have h1 := rbs_len (rs := runsE smallT) (fun r hr => by
      obtain ⟨_, h2, _, h3⟩ := runs_mem hr
      exact ⟨fun e he => smallT_plain e (h2 e he), by have : smallT.length = 2 := rfl; omega⟩)
    have h2 := runs_len smallT
    have h4 : smallT.length = 2 := rfl
    have h3 := short_len3 (v := (runsE smallT).length) (by omega)
    rw [runs_flat] at h1
    rw [frameB_length]
    unfold bodyE
    rw [List.length_append]
    omega
theorem odd_line : parseD [114, 101, 97, 100, 32, 48, 32, 48, 51, 10] = .error 1 := by
  have h1 : cutE [114, 101, 97, 100, 32, 48, 32, 48, 51, 10] = some ([114, 101, 97, 100, 32, 48, 32, 48, 51], []) := by decide +kernel
  have h2 : (readE [114, 101, 97, 100, 32, 48, 32, 48, 51]).isNone = true := by decide +kernel
  exact parseE_bad (acc := []) (by simp) (.inr ⟨_, _, h1, Option.isNone_iff_eq_none.1 h2⟩)
end Go.AB
namespace Go.Proofs.YtbghkodcfedebaaGreatDoor
open Go.RowKit Go.AB
set_option linter.unusedSimpArgs false
set_option linter.unusedVariables false
set_option linter.unusedSectionVars false

theorem und_ev : Tryz.prog.underlying 28 = some (.struct (Tryz.prog.fieldsOf 28)) := by kernel_rfl
theorem guard_ev (u : World) (x y : Operand) (xs ys : Array Value) : (eqGuard .neq 28 x y (.agg xs) (.agg ys)).run Tryz.prog u = .ok () u := run_eqGuard_agg u .neq 28 x y xs ys (by kernel_rfl)
theorem neq_ev (u : World) (a0 b0 a1 b1 a2 b2 : Int) : (binOp .neq 28 (.agg #[.int .i64 a0, .int .i64 a1, .int .i64 a2]) (.agg #[.int .i64 b0, .int .i64 b1, .int .i64 b2])).run Tryz.prog u = .ok (.bool (!(decide (a0 = b0 ∧ a1 = b1 ∧ a2 = b2)))) u := by
  have he : decide (a0 = b0 ∧ a1 = b1 ∧ a2 = b2) = ((a0 == b0) && (a1 == b1) && (a2 == b2)) := by
    by_cases q0 : a0 = b0 <;> by_cases q1 : a1 = b1 <;> by_cases q2 : a2 = b2 <;> simp_all
  rw [he, run_neq_struct, run_equalIn_agg u 9999 28 _ _ und_ev (by kernel_rfl)]
  simp [go_sem]
  repeat' split
  all_goals simp_all
set_option maxHeartbeats 4000000 in
set_option maxRecDepth 100000 in
theorem same_calls (va vb : Value) (la lb : List Ev) (w : World) (ha : Lst evC 3 w va la) (hb : Lst evC 3 w vb lb) (hn : la.length ≤ 16777216) :
    Calls Tryz.prog 22 #[va, vb] w fun e w' => ∃ q : Bool, e = .returned (.bool q) ∧ Hid (q = true ↔ la = lb) ∧ Chg [] w w' := by
  obtain ⟨a1, c1, rfl, _⟩ := ha.len
  obtain ⟨a2, c2, rfl, _, _, hm2⟩ := hb.len
  obtain ⟨n, hln⟩ : ∃ n, la.length = n := ⟨_, rfl⟩
  obtain ⟨m, hlm⟩ : ∃ m, lb.length = m := ⟨_, rfl⟩
  rw [hln] at ha hn ⊢
  rw [hlm] at hb ⊢
  have HA := hid ha
  have HB := hid hb
  have HN := hid (And.intro hln hlm)
  clear ha hb hm2
  by_cases hnm : n = m
  · subst hnm
    clear hln hlm
    go_enter Tryz.func22, Tryz.ntmps22
    go_upto_region 4 with fail
    go_loopg [5] n (fun gk v5 wr => ∃ i : Nat, v5 = .int .i64 i ∧ Hid (gk + i = n) ∧ Hid (Chg [] w wr ∧ la.take i = lb.take i))
    case atStart => exact ⟨0, rfl, hid (by omega), hid ⟨Chg.refl _ _, by simp⟩⟩
    case round =>
      obtain ⟨i, rfl, HG, HR⟩ := hrel
      by_cases hi : i < n
      · have hia : i < la.length := by rw [HN.out.1]; exact hi
        have hib : i < lb.length := by rw [HN.out.2]; exact hi
        obtain ⟨b1, o1, rfl, x0, x1, x2⟩ := ev_at (HA.out.keep HR.out.1) hia
        obtain ⟨b2, o2, rfl, y0, y1, y2⟩ := ev_at (HB.out.keep HR.out.1) hib
        have HT := hid (take_nextE hia hib HR.out.2)
        obtain ⟨X, hX⟩ : ∃ X, la[i] = X := ⟨_, rfl⟩
        obtain ⟨Y, hY⟩ : ∃ X, lb[i] = X := ⟨_, rfl⟩
        rw [hX] at x0 x1 x2 HT
        rw [hY] at y0 y1 y2 HT
        have HXY := hid (And.intro hX hY)
        obtain ⟨p0, p1, p2⟩ := X
        obtain ⟨q0, q1, q2⟩ := Y
        simp only at x0 x1 x2 y0 y1 y2
        have qq := fun u => neq_ev u p0 q0 p1 q1 p2 q2
        clear hX hY
        by_cases heq : p0 = q0 ∧ p1 = q1 ∧ p2 = q2
        · rw [decide_eq_true heq] at qq
          have HT2 := hid (HT.out (Ev.same heq.1 heq.2.1 heq.2.2))
          clear heq HXY
          go_wp2_with fail
          go_quiet (fail)
          go_wp2_with fail
          go_roundg (gk - 1)
          case measure => have := HG.out; omega
          case rel => exact ⟨i + 1, by go_num, hid (by have := HG.out; omega), hid ⟨HR.out.1.trans' (Chg.of_drewN _ _ _), HT2.out⟩⟩
        · rw [decide_eq_false heq] at qq
          have HNE : Hid (la ≠ lb) := hid (fun e => by
            have h := HXY.out
            rw [List.getElem_of_eq e, h.2] at h
            have h3 := h.1
            simp only [Ev.mk.injEq] at h3
            exact heq ⟨h3.1.symm, h3.2.1.symm, h3.2.2.symm⟩)
          clear heq HXY HT
          go_wp2_with fail
          go_quiet (fail)
          go_wp2
          go_ret
          exact ⟨false, rfl, hid (by simpa using HNE.out), HR.out.1.trans' (Chg.of_drewN _ _ _)⟩
      · have HE : Hid (la = lb) := hid (by
          have h := HR.out.2
          rwa [List.take_of_length_le (by rw [HN.out.1]; omega), List.take_of_length_le (by rw [HN.out.2]; omega)] at h)
        go_wp2
        go_ret
        exact ⟨true, rfl, hid (by simpa using HE.out), HR.out.1⟩
  · have hne : ((n : Int) != (m : Int)) = true := by simp; omega
    have HNE : Hid (la ≠ lb) := hid (fun e => hnm (by rw [← hln, ← hlm, e]))
    clear hln hlm hnm
    go_enter Tryz.func22, Tryz.ntmps22
    go_wp2
    go_ret
    exact ⟨false, rfl, hid (by simpa using HNE.out), Chg.refl _ _⟩
theorem num_calls (e : Int) (w : World) : Calls Tryz.prog 17 #[.int .i64 e] w fun r w' => r = .returned (.int .i64 e) ∧ w' = w := by
  go_enter Tryz.func17, Tryz.ntmps17
  go_wp2
  go_ret
  exact ⟨rfl, rfl⟩
theorem view_small (w : World) : ∀ t, Lst evC 3 (w.alloc (.cells #[.int .i64 1, .int .i64 0, .int .i64 3, .int .i64 11, .int .i64 1, .int .i64 0] t)) (.slice (some ⟨w.heap.size, 0, none⟩) 2 2) smallT := fun t => by
  refine ⟨rfl, by simp [maxLen, smallT], _, _, rfl, Nat.le_refl _, by simp [maxLen], (fun h => by cases h), fun _ => ⟨_, _, rfl, fun j hj => ?_⟩⟩
  have hj' : j < 6 := by simpa [smallT] using hj
  rw [blk_cell (blk_alloc_new w _)]
  rcases (by omega : j = 0 ∨ j = 1 ∨ j = 2 ∨ j = 3 ∨ j = 4 ∨ j = 5) with rfl | rfl | rfl | rfl | rfl | rfl <;> rfl
theorem small_calls (w : World) : Calls Tryz.prog 35 #[] w fun r w' => ∃ v, r = .returned v ∧ Lst evC 3 w' v smallT ∧ Chg [] w w' := by
  have hv := view_small w
  have HV := hid hv
  have HC := hid fun o => (Chg.refl [] w).alloc o
  clear hv
  go_enter Tryz.func35, Tryz.ntmps35
  go_wp2
  go_ret
  exact ⟨_, rfl, HV.out _, HC.out _⟩
set_option maxHeartbeats 8000000 in
set_option maxRecDepth 100000 in
theorem works_calls (w : World) (hv : VarsT w) : Calls Tryz.prog 9 #[] w fun e w' => e = .returned (.bool true) ∧ Chg [] w w' := by
  obtain ⟨bs, hb, hbl⟩ := smallT_enc
  have HV := hid hv
  have HBS := hid (And.intro hb hbl)
  have HSM := hid small_calls
  have HNUM := hid num_calls
  obtain ⟨ts, hts⟩ : ∃ ts : List UInt8, ts = [114, 101, 97, 100, 32, 48, 32, 51, 10, 101, 120, 105, 116, 32, 49, 10] := ⟨_, rfl⟩
  have htx := smallT_text
  rw [← hts] at htx
  have htl : ts.length = 16 := by rw [hts]; rfl
  have HTX := hid (And.intro htx (And.intro hts htl))
  have hq : ((bA ts).toList == ([114, 101, 97, 100, 32, 48, 32, 51, 10, 101, 120, 105, 116, 32, 49, 10] : List UInt8)) = true := by rw [bA_toList, hts]; simp
  clear hv hb hbl htx hts htl
  go_enter Tryz.func9, Tryz.ntmps9
  go_wp2_with (go_at_call 35; refine (HSM.out _).mono ?_; rintro e w1 ⟨v1, rfl, hv1, hc1⟩; refine halt (fun XX hXX => ?_))
  have HC1 := hid hc1
  have HTXT := hid (text_calls smallT w1 hv1 (by decide) (HV.out.keep hc1))
  obtain ⟨a1, k1, rfl, _⟩ := hv1.len
  clear hv1 hc1
  rw [hXX.out]; clear hXX XX
  go_wp2_with (go_at_call 13; refine HTXT.out.mono ?_; rintro e w2 ⟨rfl, hc2⟩; refine halt (fun XX hXX => ?_))
  rw [HTX.out.1] at hXX
  have HC2 := hid (HC1.out.trans' hc2)
  clear HC1 hc2 HTXT
  rw [hXX.out]; clear hXX XX
  go_wp2_with (go_at_call 35; refine (HSM.out _).mono ?_; rintro e w3 ⟨v3, rfl, hv3, hc3⟩; refine halt (fun XX hXX => ?_))
  have HC3 := hid (HC2.out.trans' hc3)
  have henc := encode_calls smallT w3 hv3 (by decide)
  rw [HBS.out.1] at henc
  have HENC := hid henc
  obtain ⟨a3, k3, rfl, _⟩ := hv3.len
  clear hv3 hc3 henc HC2
  rw [hXX.out]; clear hXX XX
  go_wp2_with (go_at_call 15; refine HENC.out.mono ?_; rintro e w4 ⟨l4, a4, k4, r4, rfl, hr4, hf4, hc4, hl4⟩; refine halt (fun XX hXX => ?_))
  obtain rfl : l4 = bs := hl4.out
  have HC4 := hid (HC3.out.trans' hc4)
  have HB4 := hid hr4.view
  have hpa := parse_calls ts (by rw [HTX.out.2.2]; omega) w4 (HV.out.keep HC4.out)
  rw [text_back HTX.out.1] at hpa
  have HPA := hid hpa
  clear hl4 hr4 hf4 hc4 hpa HENC HC3
  rw [hXX.out]; clear hXX XX
  go_wp2_with (go_at_call 20; refine HPA.out.mono ?_; rintro e w5 ⟨v5, rfl, a5, k5, r5, rfl, hr5, hf5, hc5⟩; refine halt (fun XX hXX => ?_))
  have HC5 := hid (HC4.out.trans' hc5)
  have HV5 := hid hr5.view
  have hde := decode_calls _ l4 w5 (View.keep HB4.out hc5 (by simp)) HBS.out.2
  rw [enc_back HBS.out.1] at hde
  have HDE := hid hde
  clear hr5 hf5 hc5 hde HPA HC4 HB4
  rw [hXX.out]; clear hXX XX
  go_wp2_with (go_at_call 23; refine HDE.out.mono ?_; rintro e w6 (⟨c, hno, hc0, _⟩ | ⟨xs, v6, hxs, rfl, hn6⟩); exact absurd (congrArg Prod.snd hno).symm hc0; refine halt (fun XX hXX => ?_))
  obtain rfl : smallT = xs := (congrArg Prod.fst hxs)
  obtain ⟨a6, k6, r6, rfl, hr6, hf6, hc6⟩ := hn6
  have HC6 := hid (HC5.out.trans' hc6)
  have HV6 := hid hr6.view
  have HV5b := hid (Lst.keep HV5.out hc6)
  have hpb := parse_calls [114, 101, 97, 100, 32, 48, 32, 48, 51, 10] (by decide) w6 (HV.out.keep HC6.out)
  rw [odd_line] at hpb
  have HPB := hid hpb
  clear hr6 hf6 hc6 hpb HDE HC5 HV5 hxs
  rw [hXX.out]; clear hXX XX
  go_wp2_with (go_at_call 20; refine HPB.out.mono ?_; rintro e w7 ⟨rfl, hc7⟩; refine halt (fun XX hXX => ?_))
  have HC7 := hid (HC6.out.trans' hc7)
  have HV7 := hid (Lst.keep (show Lst evC 3 w6 _ smallT from HV6.out) hc7)
  have HU7 := hid (HV5b.out.keep hc7)
  clear hc7 HPB HC6 HV6 HV5b
  have l2 : smallT.length = 2 := rfl
  rw [hXX.out]; clear hXX XX
  go_wp2_with (first
    | (go_at_call 17; refine (HNUM.out _ _).mono ?_; rintro e w8 ⟨rfl, rfl⟩)
    | (go_at_call 35; refine (HSM.out _).mono ?_; rintro e w9 ⟨v9, rfl, hv9, hc9⟩; refine halt (fun XX hXX => ?_)))
  rw [l2] at HU7 HV7
  obtain ⟨a9, k9, rfl, _⟩ := hv9.len
  rw [l2] at hXX hv9
  have HS1 := hid (same_calls _ _ smallT smallT w9 (HU7.out.keep hc9) hv9 (by decide))
  have HC9 := hid (HC7.out.trans' hc9)
  have HV9 := hid (HV7.out.keep hc9)
  clear hv9 hc9 HC7 HV7 HU7
  rw [hXX.out]; clear hXX XX
  go_wp2_with (first
    | (go_at_call 22; refine HS1.out.mono ?_; rintro e w10 ⟨q, rfl, hq1, hc10⟩; refine halt (fun XX hXX => ?_)))
  obtain rfl : q = true := hq1.out.2 (by first | rfl | trivial)
  have HC10 := hid (HC9.out.trans' hc10)
  have HV10 := hid (HV9.out.keep hc10)
  clear hc10 hq1 HS1 HC9 HV9
  rw [hXX.out]; clear hXX XX
  go_wp2_with (go_at_call 35; refine (HSM.out _).mono ?_; rintro e w11 ⟨v11, rfl, hv11, hc11⟩; refine halt (fun XX hXX => ?_))
  obtain ⟨a11, k11, rfl, _⟩ := hv11.len
  rw [l2] at hXX hv11
  have HS2 := hid (same_calls _ _ smallT smallT w11 (HV10.out.keep hc11) hv11 (by decide))
  have HC11 := hid (HC10.out.trans' hc11)
  clear hv11 hc11 HC10 HV10
  rw [hXX.out]; clear hXX XX
  go_wp2_with (go_at_call 22; refine HS2.out.mono ?_; rintro e w12 ⟨q, rfl, hq1, hc12⟩; refine halt (fun XX hXX => ?_))
  obtain rfl : q = true := hq1.out.2 (by first | rfl | trivial)
  have HC12 := hid (HC11.out.trans' hc12)
  clear hc12 hq1 HS2 HC11
  rw [hXX.out]; clear hXX XX
  go_wp2_with (go_at_call 17; refine (HNUM.out _ _).mono ?_; rintro e w13 ⟨rfl, rfl⟩)
  go_ret
  exact ⟨rfl, HC12.out⟩
end Go.Proofs.YtbghkodcfedebaaGreatDoor
