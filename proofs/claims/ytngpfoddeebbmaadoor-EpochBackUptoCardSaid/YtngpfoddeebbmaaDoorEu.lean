/- Walks of the epochs: texts read by the program. -/
import Derived.Test.YtngpfoddeebbmaaDoorEt
namespace Go.Proofs.YtngpfoddeebbmaaDoor
open Go.RowKit Go.AB
set_option linter.unusedSimpArgs false
set_option linter.unusedVariables false

theorem pu_le {most : Nat} : ∀ {l : List UInt8} {a n : Nat}, a ≤ most → pu most a l = some n → n ≤ most
  | [], a, n, h, h2 => by simp only [pu, Option.some.injEq] at h2; omega
  | c :: r, a, n, h, h2 => by
    unfold pu at h2
    split at h2
    · rename_i h3; exact pu_le h3.2 h2
    · cases h2
theorem puL_le {most : Nat} {l : List UInt8} {n : Nat} (h : puL most l = some n) : n ≤ most := by
  unfold puL at h
  split at h
  · cases h
  · exact pu_le (Nat.zero_le _) h
theorem packE_rng (t c : Int) (hc : 0 ≤ c) : 0 ≤ (packE t c).1 ∧ (packE t c).1 < 18446744073709551616 := by
  unfold packE
  split
  · simp
  · simp only; omega
theorem progE_bad {l : List UInt8} (hn : l ≠ [110, 111, 110, 101]) (h : puL 18446744073709551615 (Lib.cut l [64]).1 = none ∨ puL 65535 (Lib.cut l [64]).2.1 = none) : progE l = (0, 21) := by
  unfold progE
  rw [if_neg hn]
  rcases h with h | h
  · rw [h]
  · cases h2 : puL 18446744073709551615 (Lib.cut l [64]).1 with
    | none => rfl
    | some c => rw [h]
theorem progE_good {l : List UInt8} (hn : l ≠ [110, 111, 110, 101]) {c t : Nat} (h : puL 18446744073709551615 (Lib.cut l [64]).1 = some c) (h2 : puL 65535 (Lib.cut l [64]).2.1 = some t) : progE l = if (packE t c).2 ≠ 0 ∨ textL (packE t c).1 ≠ l then (0, 21) else ((packE t c).1, 0) := by
  unfold progE
  rw [if_neg hn, h, h2]

set_option maxHeartbeats 8000000 in
set_option maxRecDepth 100000 in
theorem parse_calls (s : ByteArray) (l : List UInt8) (hl : s.data.toList = l) (hs : s.size ≤ 1048576) (w : World) (hw : Vars0 w) :
    Calls Tryd.prog 34 #[.string s] w fun e w' => e = .returned (.tuple #[.int .u64 (progE l).1, .int .i64 (progE l).2]) ∧ Chg [] w w' := by
  have hsz := size_data hl
  by_cases hn : l = [110, 111, 110, 101]
  · obtain rfl : s = ⟨#[110, 111, 110, 101]⟩ := by
      apply ByteArray.ext
      rw [← Array.toList_inj, hl, hn]
    subst hn
    clear hl hsz
    go_enter Tryd.func34, Tryd.ntmps34
    go_wp2
    go_ret2
    exact ⟨rfl, Chg.refl _ _⟩
  have HN := hid hn
  have hnb : (s.toList == [110, 111, 110, 101]) = false := by
    rw [Bool.eq_false_iff]
    intro h
    exact hn (by rw [← hl]; exact (none_iff s).1 h)
  obtain ⟨m, hm⟩ := hw.max
  have hcut := Tryd.strings_Cut s ⟨#[64]⟩ m w (by omega) hm
  rw [hl] at hcut
  have e64 : (⟨#[64]⟩ : ByteArray).data.toList = [64] := rfl
  rw [e64] at hcut
  have hA1 : (Lib.cut l [64]).1.length ≤ l.length ∧ (Lib.cut l [64]).2.1.length ≤ l.length := by
    unfold Lib.cut
    split
    · simp only [List.length_take, List.length_drop]; omega
    · simp
  obtain ⟨A, hA⟩ : ∃ A : ByteArray, ⟨(Lib.cut l [64]).1.toArray⟩ = A := ⟨_, rfl⟩
  obtain ⟨B, hB⟩ : ∃ B : ByteArray, ⟨(Lib.cut l [64]).2.1.toArray⟩ = B := ⟨_, rfl⟩
  obtain ⟨z, hz⟩ : ∃ z, (Lib.cut l [64]).2.2 = z := ⟨_, rfl⟩
  have dA : A.data.toList = (Lib.cut l [64]).1 := by rw [← hA]
  have dB : B.data.toList = (Lib.cut l [64]).2.1 := by rw [← hB]
  rw [hA, hB, hz] at hcut
  have sA : A.size ≤ 1048576 := by rw [size_data dA]; omega
  have sB : B.size ≤ 1048576 := by rw [size_data dB]; omega
  have pa := fun u (hu : Chg [] w u) => parseUint64 A sA u (hw.keep hu).syn (hw.keep hu).rng
  have pb := fun u (hu : Chg [] w u) => parseUint16 B sB u (hw.keep hu).syn (hw.keep hu).rng
  rw [dA] at pa
  rw [dB] at pb
  have HCUT := hid hcut
  have HW := hid hw
  have HL := hid hl
  have HS := hid hsz
  clear hcut e64 hA hB hz dA dB sA sB hA1 hw hm hsz
  cases ha : puL 18446744073709551615 (Lib.cut l [64]).1 with
  | none =>
    have HQ := hid (progE_bad hn (.inl ha))
    rw [ha] at pa
    have PA := hid pa
    cases hb : puL 65535 (Lib.cut l [64]).2.1 with
    | none =>
      rw [hb] at pb
      have PB := hid pb
      clear pa pb ha hb hn hl
      go_enter Tryd.func34, Tryd.ntmps34
      go_wp2_with (first
        | (go_at_call 40; refine HCUT.out.mono ?_; rintro e w1 ⟨rfl, q, rfl⟩; have HC1 := hid (Chg.of_drewN [] w q))
        | (go_at_call 41; (with_reducible refine (PA.out _ HC1.out).mono ?_); rintro e w2 ⟨⟨x1, t1, p1, rfl⟩, hc2⟩; have HC2 := hid (HC1.out.trans' hc2))
        | (go_at_call 41; (with_reducible refine (PB.out _ HC2.out).mono ?_); rintro e w3 ⟨⟨x2, t2, p2, rfl⟩, hc3⟩; have HC3 := hid (HC2.out.trans' hc3)))
      go_ret2
      exact ⟨by rw [HQ.out]; rfl, HC3.out⟩
    | some t =>
      rw [hb] at pb
      have PB := hid pb
      clear pa pb ha hb hn hl
      go_enter Tryd.func34, Tryd.ntmps34
      go_wp2_with (first
        | (go_at_call 40; refine HCUT.out.mono ?_; rintro e w1 ⟨rfl, q, rfl⟩; have HC1 := hid (Chg.of_drewN [] w q))
        | (go_at_call 41; (with_reducible refine (PA.out _ HC1.out).mono ?_); rintro e w2 ⟨⟨x1, t1, p1, rfl⟩, hc2⟩; have HC2 := hid (HC1.out.trans' hc2))
        | (go_at_call 41; (with_reducible refine (PB.out _ HC2.out).mono ?_); rintro e w3 ⟨he, hc3⟩; obtain rfl : e = .returned (.tuple #[.int .u64 t, .nilIface]) := he; have HC3 := hid (HC2.out.trans' hc3)))
      go_ret2
      exact ⟨by rw [HQ.out]; rfl, HC3.out⟩
  | some c =>
    have bc := puL_le ha
    obtain ⟨C, hC⟩ : ∃ C : Int, (c : Int) = C := ⟨_, rfl⟩
    have bC : 0 ≤ C ∧ C < 18446744073709551616 := by omega
    have pa2 : ∀ u, Chg [] w u → Calls Tryd.prog 41 #[.string A, .int .i64 10, .int .i64 64] u fun e w' => e = .returned (.tuple #[.int .u64 C, .nilIface]) ∧ Chg [] u w' := fun u hu => (pa u hu).mono fun e w' h => by
      rw [ha] at h
      rw [← hC]; exact h
    have PA := hid pa2
    cases hb : puL 65535 (Lib.cut l [64]).2.1 with
    | none =>
      have HQ := hid (progE_bad hn (.inr hb))
      rw [hb] at pb
      have PB := hid pb
      clear pa pa2 pb ha hb hn hl hC bc
      go_enter Tryd.func34, Tryd.ntmps34
      go_wp2_with (first
        | (go_at_call 40; refine HCUT.out.mono ?_; rintro e w1 ⟨rfl, q, rfl⟩; have HC1 := hid (Chg.of_drewN [] w q))
        | (go_at_call 41; (with_reducible refine (PA.out _ HC1.out).mono ?_); rintro e w2 ⟨rfl, hc2⟩; have HC2 := hid (HC1.out.trans' hc2))
        | (go_at_call 41; (with_reducible refine (PB.out _ HC2.out).mono ?_); rintro e w3 ⟨⟨x2, t2, p2, rfl⟩, hc3⟩; have HC3 := hid (HC2.out.trans' hc3)))
      go_ret2
      exact ⟨by rw [HQ.out]; rfl, HC3.out⟩
    | some t =>
      have bt := puL_le hb
      have hq := progE_good hn ha hb
      obtain ⟨T, hT⟩ : ∃ T : Int, (t : Int) = T := ⟨_, rfl⟩
      rw [hC, hT] at hq
      have pb2 : ∀ u, Chg [] w u → Calls Tryd.prog 41 #[.string B, .int .i64 10, .int .i64 16] u fun e w' => e = .returned (.tuple #[.int .u64 T, .nilIface]) ∧ Chg [] u w' := fun u hu => (pb u hu).mono fun e w' h => by
        rw [hb] at h
        rw [← hT]; exact h
      have PB := hid pb2
      have bT : 0 ≤ T ∧ T ≤ 65535 := by omega
      have rp := pack_calls T C bC.1
      have bp := packE_rng T C bC.1
      have tx := text_calls (packE T C).1 bp.1 bp.2
      obtain ⟨⟨P1, P2⟩, hP⟩ : ∃ p : Int × Int, packE T C = p := ⟨_, rfl⟩
      rw [hP] at rp hq tx
      simp only at rp hq tx
      have tl := textE_list P1
      obtain ⟨S, hS⟩ : ∃ S, textE P1 = S := ⟨_, rfl⟩
      rw [hS] at tx tl
      have HQ := hid hq
      have RP := hid rp
      have TX := hid tx
      have TL := hid tl
      obtain ⟨bT1, bT2⟩ := bT
      clear pa pa2 pb pb2 ha hb hn hl hC bc hT bt hq rp tx tl hP hS bC bp
      by_cases h2 : P2 = 0
      · subst h2
        obtain ⟨bb, hbb⟩ : ∃ b, (S.toList == s.toList) = b := ⟨_, rfl⟩
        have hbb2 : (S.toList != s.toList) = !bb := by rw [bne, hbb]
        have hq : progE l = if bb = true then (P1, 0) else (0, 21) := by
          rw [HQ.out]
          rw [beq_data, TL.out, HL.out] at hbb
          by_cases h3 : textL P1 = l
          · rw [if_neg (by simp [h3]), if_pos (by rw [← hbb]; simp [h3])]
          · rw [if_pos (.inr h3), if_neg (by rw [← hbb]; simpa using h3)]
        have HQ2 := hid hq
        clear hq
        cases bb
        all_goals (
          go_enter Tryd.func34, Tryd.ntmps34
          go_wp2_with (first
            | (go_at_call 40; refine HCUT.out.mono ?_; rintro e w1 ⟨rfl, q, rfl⟩; have HC1 := hid (Chg.of_drewN [] w q))
            | (go_at_call 41; (with_reducible refine (PA.out _ HC1.out).mono ?_); rintro e w2 ⟨rfl, hc2⟩; have HC2 := hid (HC1.out.trans' hc2))
            | (go_at_call 41; (with_reducible refine (PB.out _ HC2.out).mono ?_); rintro e w3 ⟨rfl, hc3⟩; have HC3 := hid (HC2.out.trans' hc3))
            | (go_at_call 10; refine (RP.out _).mono ?_; rintro e w' ⟨rfl, rfl⟩)
            | (go_at_call 25; refine (TX.out _ (HW.out.keep HC3.out).pow).mono ?_; rintro e w4 ⟨rfl, hc4⟩; have HC4 := hid (HC3.out.trans' hc4)))
          go_ret2
          exact ⟨by rw [HQ2.out]; rfl, HC4.out⟩)
      · have d1 : (P2 == 0) = false := by rw [beq_eq_false_iff_ne]; exact h2
        have d2 : (P2 != 0) = true := by rw [bne, d1]; rfl
        have hq : progE l = (0, 21) := by rw [HQ.out, if_pos (.inl h2)]
        have HQ2 := hid hq
        clear hq
        go_enter Tryd.func34, Tryd.ntmps34
        go_wp2_with (first
          | (go_at_call 40; refine HCUT.out.mono ?_; rintro e w1 ⟨rfl, q, rfl⟩; have HC1 := hid (Chg.of_drewN [] w q))
          | (go_at_call 41; (with_reducible refine (PA.out _ HC1.out).mono ?_); rintro e w2 ⟨rfl, hc2⟩; have HC2 := hid (HC1.out.trans' hc2))
          | (go_at_call 41; (with_reducible refine (PB.out _ HC2.out).mono ?_); rintro e w3 ⟨rfl, hc3⟩; have HC3 := hid (HC2.out.trans' hc3))
          | (go_at_call 10; refine (RP.out _).mono ?_; rintro e w' ⟨rfl, rfl⟩))
        go_ret2
        exact ⟨by rw [HQ2.out]; rfl, HC3.out⟩
end Go.Proofs.YtngpfoddeebbmaaDoor
