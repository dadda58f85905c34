/- Walks of the trace laws: TraceBack. -/
import Derived.Test.YtbghkodcfedebaaGreatDoorTrs
import Derived.Deep.DeepCutAuto
set_option linter.unusedVariables false
set_option linter.unusedSectionVars false
set_option linter.unusedSimpArgs false
namespace Go.Proofs.YtbghkodcfedebaaGreatDoor
open Go.RowKit Go.AB
set_option linter.unusedSimpArgs false
set_option linter.unusedVariables false
set_option linter.unusedSectionVars false
theorem parse_one (s : List UInt8) (hs : s.length ≤ 16777216) (w : World) (hv : VarsT w) : Calls Tryz.prog 20 #[.string (bA s)] w fun e w' =>
    ∃ (ao : Option Addr) (n cap : Nat) (line code : Int), e = .returned (.tuple #[.slice ao n cap, .int .i64 line, .int .i64 code]) ∧ Chg [] w w' ∧
      Hid ((code = 180 ∧ n = 0) ∨ (code = 0 ∧ line = 0 ∧ ∃ l2, parseD s = .ok l2 ∧ l2.length = n ∧ Lst evC 3 w' (.slice ao n cap) l2)) := by
  refine (parse_calls s hs w hv).mono ?_
  intro e w' h
  cases hd : parseD s with
  | error c =>
    rw [hd] at h
    obtain ⟨rfl, hc⟩ := h
    exact ⟨_, _, _, _, _, rfl, hc, hid (.inl ⟨rfl, rfl⟩)⟩
  | ok l2 =>
    rw [hd] at h
    obtain ⟨v, rfl, ao, cap, r, rfl, hr, hf, hc⟩ := h
    exact ⟨_, _, _, _, _, rfl, hc, hid (.inr ⟨rfl, rfl, l2, rfl, rfl, hr.view⟩)⟩
theorem decode_one (v : Value) (B : List UInt8) (w : World) (hv : Bytes w v B) (hl : B.length ≤ 16777216) : Calls Tryz.prog 23 #[v] w fun e w' =>
    ∃ (ao : Option Addr) (n cap : Nat) (code : Int), e = .returned (.tuple #[.slice ao n cap, .int .i64 code]) ∧ Chg [] w w' ∧
      Hid ((code ≠ 0 ∧ n = 0) ∨ (code = 0 ∧ ∃ l2, decE B = (l2, 0) ∧ l2.length = n ∧ Lst evC 3 w' (.slice ao n cap) l2)) := by
  refine (decode_calls v B w hv hl).mono ?_
  rintro e w' (⟨c, hd, h0, rfl, hc⟩ | ⟨xs, v, hd, rfl, ao, cap, r, rfl, hr, hf, hc⟩)
  · exact ⟨_, _, _, _, rfl, hc, hid (.inl ⟨by omega, rfl⟩)⟩
  · exact ⟨_, _, _, _, rfl, hc, hid (.inr ⟨rfl, xs, hd, rfl, hr.view⟩)⟩
set_option maxHeartbeats 8000000 in
set_option maxRecDepth 100000 in
theorem back_walk (w : World) (hv : VarsT w) {va : Value} (l : List Ev) (ha : Lst evC 3 w va l) (hn : l.length ≤ 1048576) (s : List UInt8) (hs : s.length ≤ 1048576) {vb : Value} (B : List UInt8) (hb : Bytes w vb B) (hB : B.length ≤ 1048576) (c1 c2 c3 c4 c5 c6 : Value) :
    Calls Tryz.prog 5 #[.agg #[va, c1, c2, c3, c4, c5, .string (bA s), vb, c6]] w fun e w' => e = .returned (.bool true) ∧ Chg [] w w' := by
  have hcw := codes_ways hn
  obtain ⟨ao, cap, rfl, -⟩ := ha.len
  obtain ⟨bo, bc, rfl, -⟩ := hb.out
  obtain ⟨n, hln⟩ : ∃ n, l.length = n := ⟨_, rfl⟩
  obtain ⟨nb, hnb⟩ : ∃ n, B.length = n := ⟨_, rfl⟩
  rw [hln] at ha hn ⊢
  rw [hnb] at hb hB ⊢
  obtain ⟨⟨t, et⟩, ht⟩ : ∃ d, textD l = d := ⟨_, rfl⟩
  obtain ⟨⟨b, eb⟩, hen⟩ : ∃ d, encE l = d := ⟨_, rfl⟩
  rw [ht, hen] at hcw
  simp only at hcw
  obtain ⟨K, hK⟩ : ∃ B, w.heap.size = B := ⟨_, rfl⟩
  obtain ⟨cs, hcs⟩ : ∃ cs : Array Value, cs = #[.slice ao n cap, c1, c2, c3, c4, c5, .string (bA s), .slice bo nb bc, c6] := ⟨_, rfl⟩
  have hbx : (w.alloc (.cells cs 56)).heap[K]? = some (.cells cs 56 (0, 0)) := by rw [← hK]; exact heap_alloc_new w _
  have hcA := (Chg.refl [] w).alloc (.cells cs 56)
  have hvA := hv.keep hcA
  have haA := ha.keep hcA
  have hbA := hb.keep hcA (by simp)
  rw [hcs] at hcA hbx hvA haA hbA
  clear hcs cs
  have HCA := hid hcA
  have HNUM := hid num_calls
  clear hcA ha hb hv
  go_enter Tryz.func5, Tryz.ntmps5
  go_upto_region 1 with fail
  generalize w.alloc _ = wA at hbx hvA haA hbA HCA ⊢
  have HBX := hid hbx
  have HVA := hid hvA
  have HLA := hid haA
  have HBA := hid hbA
  have HW := hid (works_calls wA hvA)
  have HT := hid (And.intro ht (And.intro hen hcw))
  have HN := hid (And.intro hln hnb)
  clear hbx hvA haA hbA ht hen hcw hK hln hnb
  go_wp2_with (go_at_call 9; refine HW.out.mono ?_; rintro e w1 ⟨rfl, hc1⟩; refine halt (fun XX hXX => ?_))
  have HC1 := hid hc1
  have x0 := (blk_cell (HC1.out.heap HBX.out (by simp)) 0).trans rfl
  have htx := text_calls l w1 (HLA.out.keep hc1) (by rw [HN.out.1]; exact hn) (HVA.out.keep hc1)
  rw [HT.out.1] at htx
  have HTXT := hid htx
  clear hc1 HW htx
  rw [hXX.out]; clear hXX XX
  go_wp2_with (go_at_call 13; refine HTXT.out.mono ?_; rintro e w2 ⟨rfl, hc2⟩; refine halt (fun XX hXX => ?_))
  have HC2 := hid (HC1.out.trans' hc2)
  have x1 := (blk_cell (HC2.out.heap HBX.out (by simp)) 0).trans rfl
  have hec := encode_calls l w2 (HLA.out.keep HC2.out) (by rw [HN.out.1]; exact hn)
  rw [HT.out.2.1] at hec
  have HENC := hid hec
  clear hc2 hec x0 HTXT HC1
  rw [hXX.out]; clear hXX XX
  go_wp2_with (go_at_call 15; refine HENC.out.mono ?_; rintro e w3 ⟨l3, a3, k3, r3, rfl, hr3, hf3, hc3, hl3⟩; refine halt (fun XX hXX => ?_))
  obtain rfl : l3 = b := hl3.out
  have HC3 := hid (HC2.out.trans' hc3)
  have HB3 := hid hr3.view
  have x2 := (blk_cell (HC3.out.heap HBX.out (by simp)) 0).trans rfl
  clear hc3 hr3 hf3 hl3 HENC HC2 x1
  rw [hXX.out]; clear hXX XX
  obtain ⟨n3, hn3⟩ : ∃ n, l3.length = n := ⟨_, rfl⟩
  rw [hn3] at HB3 ⊢
  have HN3 := hid hn3
  clear hn3
  go_upto_if 39 with (go_at_call 17; refine (HNUM.out _ _).mono ?_; rintro e w8 ⟨rfl, hw8⟩; replace hw8 := hw8.symm; subst hw8)
  go_cut [7] (fun v7 wx => Hid (Chg [] w3 wx))
  case first =>
    by_cases h0 : et = 0
    · subst h0
      have hpa := parse_calls t (text_size HT.out.1).1 w3 (HVA.out.keep HC3.out)
      rw [text_back HT.out.1] at hpa
      have HPA := hid hpa
      clear hpa
      go_wp2_with (first
        | (go_at_call 17; refine (HNUM.out _ _).mono ?_; rintro e w8 ⟨rfl, hw8⟩; replace hw8 := hw8.symm; subst hw8)
        | (go_at_call 20; refine HPA.out.mono ?_; rintro e w4 ⟨v4, rfl, a4, k4, r4, rfl, hr4, hf4, hc4⟩; refine halt (fun XX hXX => ?_)))
      have hv4 : Lst evC 3 w4 (.slice a4 l.length k4) l := hr4.view
      rw [HN.out.1] at hv4 hXX
      have HSM := hid (same_calls _ _ l l w4 hv4 (HLA.out.keep (HC3.out.trans' hc4)) (by rw [HN.out.1]; omega))
      have x3 := (blk_cell ((HC3.out.trans' hc4).heap HBX.out (by simp)) 0).trans rfl
      have HC4 := hid hc4
      clear hr4 hf4 hc4 HPA x2 hv4
      rw [hXX.out]; clear hXX XX
      go_wp2_with (first
        | (go_at_call 17; refine (HNUM.out _ _).mono ?_; rintro e w8 ⟨rfl, hw8⟩; replace hw8 := hw8.symm; subst hw8)
        | (go_at_call 22; refine HSM.out.mono ?_; rintro e w5 ⟨q, rfl, hq1, hc5⟩; refine halt (fun XX hXX => ?_)))
      obtain rfl : q = true := hq1.out.2 (by first | rfl | trivial)
      have HC5 := hid (HC4.out.trans' hc5)
      clear hc5 hq1
      rw [hXX.out]; clear hXX XX
      go_wp2_with fail
      go_meet
      exact HC5
    · have h1 : ((et : Int) == 0) = false := by simp; omega
      clear h0
      go_wp2_with fail
      go_meet
      exact hid (Chg.refl _ _)
  case rest =>
  obtain ⟨w5, rfl⟩ : ∃ x, x = wc := ⟨_, rfl⟩
  have HC5 := hid (HC3.out.trans' hcut.out)
  have HB5 : Hid (Bytes w5 (.slice a3 n3 k3) l3) := hid (by
    have h : View w3 1 (.slice a3 n3 k3) l3.length (l3.map Go.AB.B) := by rw [HN3.out]; exact HB3.out
    exact Bytes.keep h hcut.out (by simp))
  clear hcut x2 HB3 HC3
  have x2 := (blk_cell (HC5.out.heap HBX.out (by simp)) 0).trans rfl
  go_upto_if 62 with (go_at_call 17; refine (HNUM.out _ _).mono ?_; rintro e w8 ⟨rfl, hw8⟩; replace hw8 := hw8.symm; subst hw8)
  go_cut [10] (fun v7 wx => Hid (Chg [] w5 wx))
  case first =>
    by_cases h0 : eb = 0
    · subst h0
      have hpa := decode_calls _ l3 w5 HB5.out (enc_short HT.out.2.1 (by rw [HN.out.1]; exact hn))
      rw [enc_back HT.out.2.1] at hpa
      have HPA := hid hpa
      clear hpa
      go_wp2_with (first
        | (go_at_call 17; refine (HNUM.out _ _).mono ?_; rintro e w8 ⟨rfl, hw8⟩; replace hw8 := hw8.symm; subst hw8)
        | (go_at_call 23; refine HPA.out.mono ?_; rintro e w6 (⟨c, hno, hc0, _⟩ | ⟨xs, v6, hxs, rfl, hn6⟩); exact absurd (congrArg Prod.snd hno).symm hc0; refine halt (fun XX hXX => ?_)))
      obtain rfl : l = xs := (congrArg Prod.fst hxs)
      obtain ⟨a6, k6, r6, rfl, hr6, hf6, hc6⟩ := hn6
      have hv4 : Lst evC 3 w6 (.slice a6 l.length k6) l := hr6.view
      rw [HN.out.1] at hv4 hXX
      have HSM := hid (same_calls _ _ l l w6 hv4 (HLA.out.keep (HC5.out.trans' hc6)) (by rw [HN.out.1]; omega))
      have x3 := (blk_cell ((HC5.out.trans' hc6).heap HBX.out (by simp)) 0).trans rfl
      have HC6 := hid hc6
      clear hr6 hf6 hc6 HPA x2 hv4 hxs
      rw [hXX.out]; clear hXX XX
      go_wp2_with (first
        | (go_at_call 17; refine (HNUM.out _ _).mono ?_; rintro e w8 ⟨rfl, hw8⟩; replace hw8 := hw8.symm; subst hw8)
        | (go_at_call 22; refine HSM.out.mono ?_; rintro e w7 ⟨q, rfl, hq1, hc7⟩; refine halt (fun XX hXX => ?_)))
      obtain rfl : q = true := hq1.out.2 (by first | rfl | trivial)
      have HC7 := hid (HC6.out.trans' hc7)
      clear hc7 hq1
      rw [hXX.out]; clear hXX XX
      go_wp2_with fail
      go_meet
      exact HC7
    · have h1 : ((eb : Int) == 0) = false := by simp; omega
      clear h0
      go_wp2_with fail
      go_meet
      exact hid (Chg.refl _ _)
  case rest =>
  obtain ⟨w7, rfl⟩ : ∃ x, x = wc := ⟨_, rfl⟩
  have HC7 := hid (HC5.out.trans' hcut.out)
  clear hcut x2 HB5 HC5
  have HPL := hid fun x W => plain_calls x W
  go_upto_region 15 with fail
  go_loopg [12, 13] n (fun gk v12 v13 wr => ∃ (i : Nat) (q : Bool), v12 = .bool q ∧ v13 = .int .i64 i ∧ Hid (gk + i = n) ∧ Hid (Chg [] wA wr ∧ q = (l.take i).all plainE))
  case atStart => exact ⟨0, true, rfl, rfl, hid (by omega), hid ⟨HC7.out, by simp⟩⟩
  case round =>
    obtain ⟨i, q, rfl, rfl, HG, HR⟩ := hrel
    have y0 := (blk_cell (HR.out.1.heap HBX.out (by simp)) 0).trans rfl
    by_cases hi : i < n
    · have hil : i < l.length := by rw [HN.out.1]; exact hi
      cases q with
      | true =>
        obtain ⟨b1, o1, rfl, x0, x1, x2⟩ := ev_at (HLA.out.keep HR.out.1) hil
        obtain ⟨X, hX⟩ : ∃ X, l[i] = X := ⟨_, rfl⟩
        rw [hX] at x0 x1 x2
        have HX := hid hX
        have hpl := HPL.out X
        unfold evV at hpl
        have HPX := hid hpl
        obtain ⟨P, hP⟩ : ∃ P, plainE X = P := ⟨_, rfl⟩
        rw [hP] at HPX
        have HP := hid hP
        clear hX hpl hP
        go_wp2_with (go_at_call 11; refine (HPX.out _).mono ?_; rintro e w8 ⟨rfl, hc8⟩; refine halt (fun XX hXX => ?_))
        have HC8 := hid (HR.out.1.trans' hc8)
        clear hc8
        rw [hXX.out]; clear hXX XX
        go_wp2_with fail
        go_roundg (gk - 1)
        case measure => have := HG.out; omega
        case rel => exact ⟨i + 1, P, rfl, by go_num, hid (by have := HG.out; omega), hid ⟨HC8.out, by
          have h := HR.out.2
          rw [List.take_succ_eq_append_getElem hil, List.all_append, ← h, Bool.true_and]
          simp [HX.out, HP.out]⟩⟩
      | false =>
        go_wp2_with fail
        go_roundg (gk - 1)
        case measure => have := HG.out; omega
        case rel => exact ⟨i + 1, false, rfl, by go_num, hid (by have := HG.out; omega), hid ⟨HR.out.1, by
          have h := HR.out.2
          rw [List.take_succ_eq_append_getElem hil, List.all_append, ← h, Bool.false_and]⟩⟩
    · have HQ : Hid (q = l.all plainE) := hid (by
        have h := HR.out.2
        rwa [List.take_of_length_le (by rw [HN.out.1]; omega)] at h)
      obtain ⟨w9, rfl⟩ : ∃ x, x = wr := ⟨_, rfl⟩
      have HC9 := hid HR.out.1
      clear HR
      go_upto_region 18 with fail
      clear y0 hi HG
      go_cut [128] (fun v wx => v = .bool false ∧ wx = w9)
      case first =>
        rcases HT.out.2.2 with ⟨h1, h2, h3⟩ | ⟨h1, h2, h3⟩
        · have hq := HQ.out
          rw [h1] at hq
          clear HQ
          subst hq h3
          rcases h2 with h2 | h2
          all_goals
            subst h2
            clear h1
            go_wp2_with (go_at_call 17; refine (HNUM.out _ _).mono ?_; rintro e w88 ⟨rfl, hw8⟩; replace hw8 := hw8.symm; subst hw8)
            go_meet
            exact ⟨rfl, rfl⟩
        · have hq := HQ.out
          rw [h1] at hq
          clear HQ
          subst hq h2 h3
          clear h1
          go_wp2_with (go_at_call 17; refine (HNUM.out _ _).mono ?_; rintro e w88 ⟨rfl, hw8⟩; replace hw8 := hw8.symm; subst hw8)
          go_meet
          exact ⟨rfl, rfl⟩
      case rest =>
      obtain ⟨rfl, hw⟩ := hcut
      replace hw := hw.symm
      subst hw
      have HPO := hid (parse_one s (by omega) w9 (HVA.out.keep HC9.out))
      have x6 := (blk_cell (HC9.out.heap HBX.out (by simp)) 6).trans rfl
      go_wp2_with (go_at_call 20; refine HPO.out.mono ?_; rintro e w10 ⟨a4, n4, k4, line, code, rfl, hc10, HPS⟩; refine halt (fun XX hXX => ?_))
      have HC10 := hid (HC9.out.trans' hc10)
      clear hc10 x6 HPO HC9
      rw [hXX.out]; clear hXX XX
      go_upto_if 138 with (go_at_call 17; refine (HNUM.out _ _).mono ?_; rintro e w88 ⟨rfl, hw8⟩; replace hw8 := hw8.symm; subst hw8)
      go_cut [17] (fun v wx => Hid (Chg [] w10 wx))
      case first =>
        rcases HPS.out with ⟨h1, h2⟩ | ⟨h1, h2, l2, h3, h4, h5⟩
        · subst h1 h2
          go_wp2_with fail
          go_meet
          exact hid (Chg.refl _ _)
        · subst h1 h2
          have hag := text_again h3 (by omega)
          have htx := text_calls l2 w10 h5 (by have := (text_size hag).2; omega) (HVA.out.keep HC10.out)
          rw [hag] at htx
          have HTX := hid htx
          clear hag htx h3 h4 h5 HPS
          go_wp2_with (go_at_call 13; refine HTX.out.mono ?_; rintro e w11 ⟨rfl, hc11⟩; refine halt (fun XX hXX => ?_))
          have x6 := (blk_cell ((HC10.out.trans' hc11).heap HBX.out (by simp)) 6).trans rfl
          have HC11 := hid hc11
          clear hc11 HTX
          rw [hXX.out]; clear hXX XX
          go_wp2_with (go_at_call 17; refine (HNUM.out _ _).mono ?_; rintro e w88 ⟨rfl, hw8⟩; replace hw8 := hw8.symm; subst hw8)
          go_meet
          exact HC11
      case rest =>
      obtain ⟨w12, rfl⟩ : ∃ x, x = wc := ⟨_, rfl⟩
      have HC12 := hid (HC10.out.trans' hcut.out)
      clear hcut HC10 HPS
      have x7 := (blk_cell (HC12.out.heap HBX.out (by simp)) 7).trans rfl
      have hby : Bytes wA (.slice bo nb bc) B := HBA.out
      have HDO := hid (decode_one _ B w12 (hby.keep HC12.out (by simp)) (by rw [HN.out.2]; omega))
      clear hby
      go_wp2_with (go_at_call 23; refine HDO.out.mono ?_; rintro e w13 ⟨a5, n5, k5, code5, rfl, hc13, HPS⟩; refine halt (fun XX hXX => ?_))
      have HC13 := hid (HC12.out.trans' hc13)
      clear hc13 x7 HDO HC12
      rw [hXX.out]; clear hXX XX
      rcases HPS.out with ⟨h1, h2⟩ | ⟨h1, l2, h3, h4, h5⟩
      · subst h2
        have h0 : (code5 == 0) = false := by simpa using h1
        clear h1
        go_wp2_with (go_at_call 17; refine (HNUM.out _ _).mono ?_; rintro e w88 ⟨rfl, hw8⟩; replace hw8 := hw8.symm; subst hw8)
        go_ret
        exact ⟨rfl, HCA.out.trans' HC13.out⟩
      · subst h1
        have hag := enc_again h3 (by rw [HN.out.2]; omega)
        have hec := encode_calls l2 w13 h5 (by have h := enc_size hag; rw [HN.out.2] at h; omega)
        rw [hag] at hec
        have HEN := hid hec
        clear hag hec h3 h4 h5 HPS
        go_wp2_with (first
          | (go_at_call 17; refine (HNUM.out _ _).mono ?_; rintro e w88 ⟨rfl, hw8⟩; replace hw8 := hw8.symm; subst hw8)
          | (go_at_call 15; refine HEN.out.mono ?_; rintro e w14 ⟨l5, a6, k6, r6, rfl, hr6, hf6, hc14, hl5⟩; refine halt (fun XX hXX => ?_)))
        have hl5' : l5.length = nb := by rw [hl5.out]; exact HN.out.2
        have hv6 : Bytes w14 (.slice a6 l5.length k6) l5 := hr6.view
        rw [hl5'] at hv6 hXX
        have hby : Bytes wA (.slice bo nb bc) B := HBA.out
        have HSM := hid (samebytes_calls _ _ l5 B w14 hv6 (hby.keep (HC13.out.trans' hc14) (by simp)) (by omega))
        have HE := hid hl5.out
        have HC14 := hid (HC13.out.trans' hc14)
        have x7 := (blk_cell (HC14.out.heap HBX.out (by simp)) 7).trans rfl
        clear hr6 hf6 hc14 hl5 hl5' hby hv6 HEN
        rw [hXX.out]; clear hXX XX
        go_wp2_with (first
          | (go_at_call 17; refine (HNUM.out _ _).mono ?_; rintro e w88 ⟨rfl, hw8⟩; replace hw8 := hw8.symm; subst hw8)
          | (go_at_call 18; refine HSM.out.mono ?_; rintro e w15 ⟨q, rfl, hq1, hc15⟩; refine halt (fun XX hXX => ?_)))
        obtain rfl : q = true := hq1.out.2 HE.out
        have HC15 := hid (HC14.out.trans' hc15)
        clear hc15 hq1
        rw [hXX.out]; clear hXX XX
        go_wp2_with fail
        go_ret
        exact ⟨rfl, HCA.out.trans' HC15.out⟩
end Go.Proofs.YtbghkodcfedebaaGreatDoor
