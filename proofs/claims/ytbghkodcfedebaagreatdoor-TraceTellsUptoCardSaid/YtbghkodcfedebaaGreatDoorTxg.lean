/- Walks of the trace layer's reference: a body. -/
import Derived.Test.YtbghkodcfedebaaGreatDoorTxf
set_option linter.unusedVariables false
set_option linter.unusedSectionVars false
set_option linter.unusedSimpArgs false
namespace Go.AB
open Go.RowKit
theorem st_at {l : List Ev} {j p : Nat} (hj : j < (stE 0 none l).length) (h : (stE 0 none l).drop j = stE p none (l.drop p)) : p < l.length ∧ (stE 0 none l)[j] = p := by
  rw [List.drop_eq_getElem_cons hj] at h
  rcases Nat.lt_or_ge p l.length with hp | hp
  · refine ⟨hp, ?_⟩
    rw [List.drop_eq_getElem_cons hp] at h
    simp only [stE] at h
    rw [if_neg (by simp)] at h
    exact (List.cons.inj h).1
  · rw [List.drop_eq_nil_of_le hp] at h
    simp only [stE] at h
    exact absurd h (List.cons_ne_nil _ _)
theorem st_next {l : List Ev} {j p k : Nat} (hj : j < (stE 0 none l).length) (h : (stE 0 none l).drop j = stE p none (l.drop p)) (hk : RunK l p k) :
    (stE 0 none l).drop (j + 1) = stE (p + k) none (l.drop (p + k)) ∧ runsE (l.drop p) = (l.drop p).take k :: runsE (l.drop (p + k)) := by
  obtain ⟨h1, h2, h3, h4⟩ := hk
  have hkm : k ≤ (l.drop p).length := by rw [List.length_drop]; omega
  have hs : ∀ j (h : j < (l.drop p).length), j < k → (l.drop p)[j].t = ((l.drop p)[0]'(by omega)).t := fun i hi hik => by
    rw [List.getElem_drop, List.getElem_drop]
    rw [List.length_drop] at hi
    exact h3 i (by omega) (by omega) hik
  have he : ∀ h : k < (l.drop p).length, (l.drop p)[k].t ≠ ((l.drop p)[0]'(by omega)).t := fun hh => by
    rw [List.getElem_drop, List.getElem_drop]
    rw [List.length_drop] at hh
    exact h4 (by omega) (by omega)
  have hf := stE_first p h1 hkm hs he
  have hr := run_first h1 hkm hs he
  rw [List.drop_drop] at hf hr
  refine ⟨?_, hr⟩
  rw [hf, List.drop_eq_getElem_cons hj] at h
  exact (List.cons.inj h).2
end Go.AB
namespace Go.Proofs.YtbghkodcfedebaaGreatDoor
open Go.RowKit Go.AB
set_option linter.unusedSimpArgs false
set_option linter.unusedVariables false
set_option linter.unusedSectionVars false
set_option maxHeartbeats 16000000 in
set_option maxRecDepth 100000 in
theorem rbody_calls {v : Value} (l : List Ev) (w : World) (hl : Lst evC 3 w v l) (hp : ∀ e ∈ l, plainE e = true) (hn : l.length ≤ 1048576) :
    Calls Tryz.prog 49 #[v] w (NewB 5 w (bodyE l)) := by
  have hbl := body_len hp hn
  have hrl := runs_len l
  have HRN := hid (rruns_calls l w hl hn)
  obtain ⟨ao, cap, rfl, -⟩ := hl.len
  obtain ⟨n, hln⟩ : ∃ n, l.length = n := ⟨_, rfl⟩
  rw [hln] at hl hn HRN hrl ⊢
  have HL := hid hl
  have HN := hid hln
  have HP := hid hp
  have HBB : Hid (shortB (runsE l).length ++ (runsE l).flatMap runB = bodyE l) := hid rfl
  obtain ⟨BB, hBB⟩ : ∃ B, bodyE l = B := ⟨_, rfl⟩
  rw [hBB] at hbl HBB ⊢
  have hsl := stE_len l
  obtain ⟨R, hR⟩ : ∃ R, (runsE l).length = R := ⟨_, rfl⟩
  rw [hR] at hrl hsl HBB
  have HSL := hid (And.intro hsl hbl)
  clear hl hln hp hBB hR hsl
  go_enter Tryz.func49, Tryz.ntmps49
  go_upto_region 2 with (go_at_call 80; refine HRN.out.mono ?_; rintro e w1 ⟨v1, rfl, a1, c1, r1, m1, hm1, rfl, hr1, hf1, hc1⟩; refine halt (fun XX hXX => ?_); obtain rfl : R = m1 := (HSL.out.1.symm.trans hm1); have H1 := hid (And.intro hr1 hc1); clear hr1 hf1 hc1 hm1; rw [hXX.out]; clear hXX XX)
  have HS2 := hid (short18_calls R (by omega) w1)
  go_wp2_with (go_at_call 81; refine HS2.out.mono ?_; rintro e w2 ⟨l2, a2, c2, r2, rfl, hr2, hf2, hc2, hl2⟩; refine halt (fun XX hXX => ?_))
  have H2 := hid (And.intro hr2 (And.intro hf2 (And.intro hc2 hl2.out)))
  clear hr2 hf2 hc2 hl2 HS2 HRN
  rw [hXX.out]; clear hXX XX
  go_upto_region 4 with fail
  go_loopg [4, 5] R (fun gk v4 v5 wr => ∃ (j p m : Nat) (ab : Option Addr) (cb : Nat) (rb : Option Nat) (L : List UInt8), v4 = .slice ab m cb ∧ v5 = .int .i64 j ∧ Hid (gk + j = R) ∧ j ≤ R ∧
      Hid ((stE 0 none l).drop j = stE p none (l.drop p) ∧ L ++ (runsE (l.drop p)).flatMap runB = BB ∧ L.length = m) ∧ Hid (Row wr 5 1 (.slice ab m cb) rb m (L.map B) ∧ Fresh w1 none rb ∧ Chg [] w1 wr))
  case atStart => exact ⟨0, 0, _, a2, c2, r2, l2, rfl, rfl, hid (by omega), by omega, hid ⟨rfl, by rw [H2.out.2.2.2]; exact HBB.out, rfl⟩, hid ⟨H2.out.1, H2.out.2.1, H2.out.2.2.1⟩⟩
  case round =>
    obtain ⟨j, p, m, ab, cb, rb, L, rfl, rfl, HG, hjR, HLI, HR⟩ := hrel
    by_cases hj : j < R
    · have hjs : j < (stE 0 none l).length := by rw [HSL.out.1]; exact hj
      obtain ⟨hpl, hpj⟩ := st_at hjs HLI.out.1
      have hv1 := (H1.out.1.keep HR.out.2.2 (by simp)).view
      obtain ⟨_, _, ax, cx, hvx, _, _, _, hcx⟩ := hv1
      simp only [Value.slice.injEq, true_and] at hvx
      obtain ⟨rfl, rfl⟩ := hvx
      obtain ⟨g1, o1, rfl, hcy⟩ := hcx (by omega)
      have x0 := hcy j (by omega)
      have x0' : wr.cell? ⟨g1, o1 + j, none⟩ = some (.int .i64 p) := by
        rw [x0]
        simp [List.getD, hjs, hpj, natV]
      have HRUN := hid (rrun_calls l wr (HL.out.keep (H1.out.2.trans' HR.out.2.2)) (by rw [HN.out]; exact hn) p hpl)
      have HPL := hid (And.intro hpl hjs)
      clear x0 hcx hcy hpl hpj hjs
      go_wp2_with (go_at_call 82; refine HRUN.out.mono ?_; rintro e w3 ⟨v6, k, rfl, hne, HK⟩; refine halt (fun XX hXX => ?_))
      have HKR := hid (KR.start hne HR.out.1.lt)
      obtain ⟨a6, c6, r6, rfl, hr6, hf6, hc6⟩ := hne
      have HR3 := hid (HR.out.1.keep hc6 (by simp))
      have HC3 := hid (HR.out.2.2.trans' hc6)
      have hk := HK.out
      have hlk : ((l.drop p).take k).length = k := by rw [List.length_take, List.length_drop, Nat.min_eq_left (by have := hk.2.1; omega)]
      have hnx := st_next HPL.out.2 HLI.out.1 HK.out
      have hth0 : ∃ h : 0 < ((l.drop p).take k).length, True := ⟨by rw [hlk]; exact hk.1, trivial⟩
      obtain ⟨r, hr⟩ : ∃ r, (l.drop p).take k = r := ⟨_, rfl⟩
      have hrp : ∀ e ∈ r, plainE e = true := fun e he => HP.out e (List.mem_of_mem_drop (List.mem_of_mem_take (hr ▸ he)))
      rw [hr] at HKR hlk hnx hXX hth0
      rw [hlk] at HKR hXX
      have hL2 : (L ++ (runB r ++ (runsE (l.drop (p + k))).flatMap runB)) = BB := by
        have h := HLI.out.2.1
        rw [hnx.2, List.flatMap_cons] at h
        exact h
      have hkn : k ≤ n := by rw [← HN.out]; have := hk.2.1; omega
      have hk1 : 0 < k := hk.1
      obtain ⟨h0, -⟩ := hth0
      obtain ⟨X, hX⟩ : ∃ X, r[0] = X := ⟨_, rfl⟩
      have hXp : plainE X = true := hrp X (hX ▸ List.getElem_mem h0)
      obtain ⟨hq1, hq2, hq3, hq4⟩ := plainE_out hXp
      have hthr : thrE r = X.t := by
        cases r with
        | nil => simp at h0
        | cons y r => simp at hX; subst hX; rfl
      obtain ⟨b6, o6, rfl, -, y1, -⟩ := ev_at (show Lst evC 3 w3 (.slice a6 k c6) r from HKR.out.lst) h0
      rw [hX] at y1
      obtain ⟨u, hu⟩ : ∃ u : Nat, X.t = u := ⟨X.t.toNat, by omega⟩
      rw [hu] at y1 hthr
      simp only [Nat.zero_mul, Nat.add_zero] at y1
      have HSu := hid (short18_calls u (by omega) w3)
      have hmb : m + (runB r).length ≤ 16777216 := by
        have h := congrArg List.length hL2
        rw [List.length_append, List.length_append, HLI.out.2.2] at h
        have := HSL.out.2
        omega
      have hrB : runB r = (shortB u ++ shortB k) ++ r.flatMap evB := by unfold runB; rw [hthr, hlk]; rfl
      have hmb2 : m + (shortB u).length + (shortB k).length + (r.flatMap evB).length ≤ 16777216 := by
        rw [hrB, List.length_append, List.length_append] at hmb
        omega
      have HRR := hid (And.intro hrp (And.intro hlk (And.intro hL2 (And.intro hrB (And.intro hnx.1 hmb2)))))
      clear hr6 hf6 hc6 hk hlk hnx hrp hL2 hX hXp hq1 hq2 hq3 hq4 hthr hu hr h0 hmb hrB x0'
      rw [hXX.out]; clear hXX XX
      have hmu : m + (shortB u).length ≤ 16777216 := by omega
      go_wp2_with (first
        | (go_at_call 81; refine HSu.out.mono ?_; rintro e w4 ⟨l4, a4, c4, r4, rfl, hr4, hf4, hc4, hl4⟩; have hrw := HR3.out.keep hc4 (by simp); have hl4' : l4.length ≤ (shortB u).length := (by rw [hl4.out]; exact Nat.le_refl _))
        | ((at_builtin; refine wpList_app rfl _ _ 34 rfl elem_u8 rfl (hrw) rfl (hr4.view) (B_one _) (by unfold maxLen; omega) (by omega) (fun ao' cap' r' w2 hr2 hc2 hf2 hnil2 => halt (fun X hX => ?_)))))
      have HKR2 := hid ((HKR.out.same hc4).app hc2 hf2)
      have HL4 : Hid (l4 = shortB u) := hid hl4.out
      have HB2 : Hid (Row w2 5 1 (.slice ao' (m + l4.length) cap') r' (m + l4.length) ((L ++ l4).map B) ∧ Fresh w1 none r' ∧ Chg [] w1 w2) := hid ⟨by rw [List.map_append]; exact hr2, fresh_step HC3.out HR.out.2.1 hc4 hf2, own_step HC3.out HR.out.2.1 hc4 hc2⟩
      clear hr4 hf4 hc4 hl4 hrw hr2 hc2 hf2 hnil2 HKR HR3 HSu y1
      obtain ⟨w5, rfl⟩ : ∃ x, x = w2 := ⟨_, rfl⟩
      obtain ⟨r5, rfl⟩ : ∃ x, x = r' := ⟨_, rfl⟩
      obtain ⟨a5, rfl⟩ : ∃ x, x = ao' := ⟨_, rfl⟩
      obtain ⟨c5, rfl⟩ : ∃ x, x = cap' := ⟨_, rfl⟩
      obtain ⟨q4, hq4⟩ : ∃ q, l4.length = q := ⟨_, rfl⟩
      rw [hq4] at HB2 hX
      have HQ4 := hid hq4
      have hq43 : q4 ≤ (shortB u).length := by rw [← hq4]; exact hl4'
      clear hq4 hl4'
      have HSk := hid (short18_calls k (by omega) w5)
      have hmk : m + q4 + (shortB k).length ≤ 16777216 := by omega
      rw [hX.out]; clear hX
      go_wp2_with (first
        | (go_at_call 81; refine HSk.out.mono ?_; rintro e w6 ⟨l6, a7, c7, r7, rfl, hr7, hf7, hc7, hl7⟩; have hrw := HB2.out.1.keep hc7 (by simp); have hl6' : l6.length ≤ (shortB k).length := (by rw [hl7.out]; exact Nat.le_refl _))
        | ((at_builtin; refine wpList_app rfl _ _ 34 rfl elem_u8 rfl (hrw) rfl (hr7.view) (B_one _) (by unfold maxLen; omega) (by omega) (fun ao' cap' r' w2 hr2 hc2 hf2 hnil2 => halt (fun X hX => ?_)))))
      have HKR3 := hid ((HKR2.out.same hc7).app hc2 hf2)
      have HLL : Hid (L ++ l4 ++ l6 = L ++ (shortB u ++ shortB k)) := hid (by rw [HL4.out, hl7.out, List.append_assoc])
      have HB3 : Hid (Row w2 5 1 (.slice ao' (m + q4 + l6.length) cap') r' (m + q4 + l6.length) ((L ++ l4 ++ l6).map B) ∧ Fresh w1 none r' ∧ Chg [] w1 w2) := hid ⟨by rw [List.map_append]; exact hr2, fresh_step HB2.out.2.2 HB2.out.2.1 hc7 hf2, own_step HB2.out.2.2 HB2.out.2.1 hc7 hc2⟩
      clear hr7 hf7 hc7 hl7 hrw hr2 hc2 hf2 hnil2 HKR2 HB2 HSk
      obtain ⟨w8, rfl⟩ : ∃ x, x = w2 := ⟨_, rfl⟩
      obtain ⟨r8, rfl⟩ : ∃ x, x = r' := ⟨_, rfl⟩
      obtain ⟨a8, rfl⟩ : ∃ x, x = ao' := ⟨_, rfl⟩
      obtain ⟨c8, rfl⟩ : ∃ x, x = cap' := ⟨_, rfl⟩
      obtain ⟨q6, hq6⟩ : ∃ q, l6.length = q := ⟨_, rfl⟩
      rw [hq6] at HB3 hX hl6'
      have HL0 : Hid ((L ++ l4 ++ l6).length = m + q4 + q6) := hid (by rw [List.length_append, List.length_append, HLI.out.2.2, HQ4.out, hq6])
      have HBD : Hid (∀ i, (L ++ (shortB u ++ shortB k) ++ (r.take i).flatMap evB).length ≤ 16777216) := hid fun i => by
        have h1 := congrArg List.length (congrArg (List.flatMap evB) (List.take_append_drop i r))
        rw [List.flatMap_append, List.length_append] at h1
        rw [List.length_append, List.length_append, List.length_append, HLI.out.2.2]
        omega
      have hm8 : m + q4 + q6 ≤ 16777216 := by omega
      clear hq6 hl6' hq43 hmk hmu hmb2
      rw [hX.out]; clear hX
      go_upto_region 10 with fail
      obtain ⟨gk1, rfl⟩ : ∃ x, x = gk := ⟨_, rfl⟩
      go_loopg [4, 7] k (fun gk2 v4 v7 wq => ∃ (i mm : Nat) (ab2 : Option Addr) (cb2 : Nat) (rb2 : Option Nat) (LL : List UInt8), v4 = .slice ab2 mm cb2 ∧ v7 = .int .i64 i ∧ Hid (gk2 + i = k) ∧ i ≤ k ∧
        Hid (LL = L ++ (shortB u ++ shortB k) ++ (r.take i).flatMap evB ∧ LL.length = mm) ∧ mm ≤ 16777216 ∧ Hid (Row wq 5 1 (.slice ab2 mm cb2) rb2 mm (LL.map B) ∧ Fresh w1 none rb2 ∧ Chg [] w1 wq) ∧
        Hid (KR wq (.slice (some ⟨b6, o6, none⟩) k c6) r rb2))
      case atStart => exact ⟨0, m + q4 + q6, a8, c8, r8, L ++ l4 ++ l6, rfl, rfl, hid (by omega), by omega, hid ⟨by rw [HLL.out]; simp, HL0.out⟩, hm8, HB3, HKR3⟩
      case round =>
        clear HL0 hm8 HKR3 HB3 HLL
        obtain ⟨i, mm, ab2, cb2, rb2, LL, rfl, rfl, HG2, hik, HQ, hmm, HB, HK2⟩ := hrel
        obtain ⟨wq, rfl⟩ : ∃ x, x = wr := ⟨_, rfl⟩
        by_cases hi : i < k
        · have hir : i < r.length := by rw [HRR.out.2.1]; exact hi
          obtain ⟨X, hXr⟩ : ∃ X, r[i] = X := ⟨_, rfl⟩
          have hXp : plainE X = true := HRR.out.1 X (hXr ▸ List.getElem_mem hir)
          obtain ⟨hq1, hq2, hq3, hq4⟩ := plainE_out hXp
          have HEV : Hid (∀ W rb3, KR W (.slice (some ⟨b6, o6, none⟩) k c6) r rb3 → W.cell? ⟨b6, o6 + i * 3, none⟩ = some (.int .i64 X.k) ∧ W.cell? ⟨b6, o6 + i * 3 + 2, none⟩ = some (.int .i64 X.o)) := hid fun W rb3 h => by
            obtain ⟨bb, oo, hbb, y0, _, y2⟩ := ev_at (show Lst evC 3 W (.slice (some ⟨b6, o6, none⟩) k c6) r from h.lst) hir
            simp only [Option.some.injEq, Addr.mk.injEq, and_true] at hbb
            obtain ⟨rfl, rfl⟩ := hbb
            rw [hXr] at y0 y2
            exact ⟨y0, y2⟩
          have HTK : Hid ((r.take (i + 1)).flatMap evB = (r.take i).flatMap evB ++ evB X) := hid (by
            rw [List.take_succ_eq_append_getElem hir, List.flatMap_append, hXr]
            simp)
          obtain ⟨xk, xt, xo⟩ := X
          simp only at hq1 hq2 hq3 HEV
          obtain ⟨kn, rfl⟩ : ∃ kn : Nat, xk = kn := ⟨xk.toNat, by omega⟩
          obtain ⟨on, rfl⟩ : ∃ on : Nat, xo = on := ⟨xo.toNat, by omega⟩
          have hkn : kn < 256 := by omega
          have HB1 : Hid ([Value.int .u8 (kn : Int)] = [UInt8.ofNat kn].map B) := hid (by simp [B, Nat.mod_eq_of_lt hkn])
          have e1 : IntKind.u8.wrap (kn : Int) = (kn : Int) := by rw [IntKind.wrap_u8]; omega
          have hrow := fun o => HB.out.1.keep ((Chg.refl [] wq).alloc o) (by simp)
          obtain ⟨y0, y2⟩ := HEV.out _ _ HK2.out
          have hbd := HBD.out (i + 1)
          have hevl : Hid ((L ++ (shortB u ++ shortB k) ++ (r.take (i + 1)).flatMap evB) = LL ++ evB ⟨(kn : Int), xt, (on : Int)⟩) := hid (by rw [HTK.out, HQ.out.1]; simp)
          rw [hevl.out, List.length_append, HQ.out.2] at hbd
          have hmm1 : mm + 1 ≤ 16777216 := by
            have : 1 ≤ (evB ⟨(kn : Int), xt, (on : Int)⟩).length := by unfold evB; simp
            omega
          have hon : on < 65535 := by omega
          have hHBD := hid hbd
          clear hXr hXp hq1 hq2 hq3 hq4 hir hbd
          by_cases h11 : kn = 11
          · have q : ((kn : Int) != 11) = false := by simp [h11]
            have HEB : Hid (evB ⟨(kn : Int), xt, (on : Int)⟩ = [UInt8.ofNat kn]) := hid (by unfold evB; simp [h11])
            clear h11
            go_wp2_with (at_builtin; refine wpList_app rfl _ _ 34 rfl elem_u8 rfl (hrow _) rfl (View.one _ _ _) (by simp [Value.oneCell']) (by unfold maxLen; omega) (by omega) (fun ao' cap' r' w2 hr2 hc2 hf2 _ => halt (fun X hX => ?_)))
            have HKn := hid ((HK2.out.same ((Chg.refl [] wq).alloc (.cells #[.int .u8 kn] 5))).app hc2 hf2)
            have HBn : Hid (Row w2 5 1 (.slice ao' (mm + 1) cap') r' (mm + 1) ((LL ++ [UInt8.ofNat kn]).map B) ∧ Fresh w1 none r' ∧ Chg [] w1 w2) := hid ⟨by rw [List.map_append, ← HB1.out]; exact hr2, fresh_step HB.out.2.2 HB.out.2.1 ((Chg.refl [] wq).alloc _) hf2, own_step HB.out.2.2 HB.out.2.1 ((Chg.refl [] wq).alloc _) hc2⟩
            obtain ⟨y0', y2'⟩ := HEV.out _ _ HKn.out
            clear hr2 hc2 hf2 hrow y0 y2
            rw [hX.out]; clear hX
            go_wp2_with fail
            go_roundg (gk - 1)
            case measure => have := HG2.out; omega
            case rel => exact ⟨i + 1, mm + 1, ao', cap', r', LL ++ [UInt8.ofNat kn], by first | rfl | go_num, by go_num, hid (by have := HG2.out; omega), by omega, hid ⟨by rw [hevl.out, HEB.out], by rw [List.length_append, HQ.out.2]; rfl⟩, hmm1, HBn, HKn⟩
          · have q : ((kn : Int) != 11) = true := by simp; omega
            have HEB : Hid (evB ⟨(kn : Int), xt, (on : Int)⟩ = [UInt8.ofNat kn] ++ shortB on) := hid (by unfold evB; rw [if_neg (by simp only; omega)]; simp)
            have hsb : mm + 1 + (shortB on).length ≤ 16777216 := by
              have h := hHBD.out
              rw [HEB.out, List.length_append, List.length_cons, List.length_nil] at h
              omega
            clear h11
            go_wp2_with (at_builtin; refine wpList_app rfl _ _ 34 rfl elem_u8 rfl (hrow _) rfl (View.one _ _ _) (by simp [Value.oneCell']) (by unfold maxLen; omega) (by omega) (fun ao' cap' r' w2 hr2 hc2 hf2 _ => halt (fun X hX => ?_)))
            have HKn := hid ((HK2.out.same ((Chg.refl [] wq).alloc (.cells #[.int .u8 kn] 5))).app hc2 hf2)
            have HBn : Hid (Row w2 5 1 (.slice ao' (mm + 1) cap') r' (mm + 1) ((LL ++ [UInt8.ofNat kn]).map B) ∧ Fresh w1 none r' ∧ Chg [] w1 w2) := hid ⟨by rw [List.map_append, ← HB1.out]; exact hr2, fresh_step HB.out.2.2 HB.out.2.1 ((Chg.refl [] wq).alloc _) hf2, own_step HB.out.2.2 HB.out.2.1 ((Chg.refl [] wq).alloc _) hc2⟩
            obtain ⟨y0', y2'⟩ := HEV.out _ _ HKn.out
            clear hr2 hc2 hf2 hrow y0 y2
            obtain ⟨w9, rfl⟩ : ∃ x, x = w2 := ⟨_, rfl⟩
            obtain ⟨r9, rfl⟩ : ∃ x, x = r' := ⟨_, rfl⟩
            obtain ⟨a9, rfl⟩ : ∃ x, x = ao' := ⟨_, rfl⟩
            obtain ⟨c9, rfl⟩ : ∃ x, x = cap' := ⟨_, rfl⟩
            have HSo := hid (short18_calls on (by omega) w9)
            rw [hX.out]; clear hX
            go_wp2_with (first
              | (go_at_call 81; refine HSo.out.mono ?_; rintro e w10 ⟨l10, a10, c10, r10, rfl, hr10, hf10, hc10, hl10⟩; have hrw := HBn.out.1.keep hc10 (by simp); have hl10' : l10.length ≤ (shortB on).length := (by rw [hl10.out]; exact Nat.le_refl _))
              | ((at_builtin; refine wpList_app rfl _ _ 34 rfl elem_u8 rfl (hrw) rfl (hr10.view) (B_one _) (by unfold maxLen; omega) (by omega) (fun ao' cap' r' w2 hr2 hc2 hf2 hnil2 => halt (fun X hX => ?_)))))
            have HKm := hid ((HKn.out.same hc10).app hc2 hf2)
            have HBm : Hid (Row w2 5 1 (.slice ao' (mm + 1 + l10.length) cap') r' (mm + 1 + l10.length) ((LL ++ [UInt8.ofNat kn] ++ l10).map B) ∧ Fresh w1 none r' ∧ Chg [] w1 w2) := hid ⟨by rw [List.map_append]; exact hr2, fresh_step HBn.out.2.2 HBn.out.2.1 hc10 hf2, own_step HBn.out.2.2 HBn.out.2.1 hc10 hc2⟩
            obtain ⟨q10, hq10⟩ : ∃ q, l10.length = q := ⟨_, rfl⟩
            rw [hq10] at HBm hX hl10'
            have HQ10 := hid hq10
            have HL10 := hid hl10.out
            clear hr2 hc2 hf2 hnil2 hr10 hf10 hc10 hl10 hq10 hrw y0' y2' HKn HBn HSo
            rw [hX.out]; clear hX
            go_wp2_with fail
            go_roundg (gk - 1)
            case measure => have := HG2.out; omega
            case rel => exact ⟨i + 1, mm + 1 + q10, ao', cap', r', LL ++ [UInt8.ofNat kn] ++ l10, by first | rfl | go_num, by go_num, hid (by have := HG2.out; omega), by omega, hid ⟨by rw [hevl.out, HEB.out, HL10.out, List.append_assoc], by rw [List.length_append, List.length_append, HQ.out.2, HQ10.out]; rfl⟩, by omega, HBm, HKm⟩
        · have HE2 : Hid (LL ++ (runsE (l.drop (p + k))).flatMap runB = BB) := hid (by
            rw [← HRR.out.2.2.1, HQ.out.1, List.take_of_length_le (by rw [HRR.out.2.1]; omega), HRR.out.2.2.2.1]
            simp only [List.append_assoc])
          clear HK2
          go_wp2_with fail
          go_roundg (gk1 - 1)
          case measure => have := HG.out; omega
          case rel => exact ⟨j + 1, p + k, mm, ab2, cb2, rb2, LL, rfl, by go_num, hid (by have := HG.out; omega), by omega, hid ⟨HRR.out.2.2.2.2.1, HE2.out, HQ.out.2⟩, HB⟩
    · have HE : Hid (L = BB) := hid (by
        have h := HLI.out.2.1
        have h2 := HLI.out.1
        rw [List.drop_eq_nil_of_le (by rw [HSL.out.1]; omega)] at h2
        have hpn : l.length ≤ p := by
          rcases Nat.lt_or_ge p l.length with hp | hp
          · rw [List.drop_eq_getElem_cons hp] at h2
            simp [stE] at h2
          · exact hp
        rw [List.drop_eq_nil_of_le hpn] at h
        simpa [runsE] using h)
      go_wp2
      go_ret
      refine NewB.mk' HR.out.1 (by rw [HE.out]) ?_ (H1.out.2.trans' HR.out.2.2)
      exact fun g hg => by
        rcases HR.out.2.1 g hg with h | h
        · exact .inl h
        · exact .inr (Nat.le_trans H1.out.2.size h)
end Go.Proofs.YtbghkodcfedebaaGreatDoor
