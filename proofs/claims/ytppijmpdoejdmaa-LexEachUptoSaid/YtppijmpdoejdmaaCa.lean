/- Walks of the lexer's reference: bytes' kinds, what is passed over. -/
import Derived.Test.YtppijmpdoejdmaaAi
namespace Go.Proofs.Ytppijmpdoejdmaa
open Go.RowKit Go.AB
set_option linter.unusedSimpArgs false
set_option linter.unusedVariables false

theorem r_letter_calls (c : UInt8) (w : World) : Calls Try.prog 34 #[.int .u8 c.toNat] w fun e w' => e = .returned (.bool (isLetter c)) ∧ w = w' := by
  have h := c.toNat_lt
  go_enter Try.func34, Try.ntmps34
  go_wp2
  all_goals go_ret
  all_goals
    refine ⟨ret_bool ?_, rfl⟩
    rw [Bool.eq_iff_iff]
    simp [isLetter]
    try omega
theorem r_digit_calls (c : UInt8) (w : World) : Calls Try.prog 36 #[.int .u8 c.toNat] w fun e w' => e = .returned (.bool (isDigit c)) ∧ w = w' := by
  go_enter Try.func36, Try.ntmps36
  go_wp2
  all_goals go_ret
  all_goals
    refine ⟨ret_bool ?_, rfl⟩
    rw [Bool.eq_iff_iff]
    simp [isDigit]
    omega
theorem r_blank_calls (c : UInt8) (w : World) : Calls Try.prog 33 #[.int .u8 c.toNat] w fun e w' => e = .returned (.bool (isBlank c)) ∧ w = w' := by
  go_enter Try.func33, Try.ntmps33
  go_wp2
  all_goals go_ret
  all_goals
    refine ⟨ret_bool ?_, rfl⟩
    rw [Bool.eq_iff_iff]
    simp [isBlank]
    try omega
set_option maxHeartbeats 400000 in
theorem r_wordly_calls (c : UInt8) (w : World) : Calls Try.prog 35 #[.int .u8 c.toNat] w fun e w' => e = .returned (.bool (isWordly c)) ∧ w = w' := by
  have hL := r_letter_calls c w
  have hD := r_digit_calls c w
  rcases Bool.eq_false_or_eq_true (isLetter c) with h1 | h1
  · rw [h1] at hL
    have hw : isWordly c = true := by simp [isWordly, h1]
    rw [hw]
    have HL := hid hL
    clear hL hD hw
    go_enter Try.func35, Try.ntmps35
    go_wp2_with (go_at_call 34; refine HL.out.mono ?_; rintro e w' ⟨rfl, rfl⟩)
    go_ret
    exact ⟨rfl, rfl⟩
  · rcases Bool.eq_false_or_eq_true (isDigit c) with h2 | h2
    · rw [h1] at hL
      rw [h2] at hD
      have hw : isWordly c = true := by simp [isWordly, h2]
      rw [hw]
      have HL := hid hL
      have HD := hid hD
      clear hL hD hw
      go_enter Try.func35, Try.ntmps35
      go_wp2_with (first | (go_at_call 34; refine HL.out.mono ?_; rintro e w' ⟨rfl, rfl⟩) | (go_at_call 36; refine HD.out.mono ?_; rintro e w' ⟨rfl, rfl⟩))
      go_ret
      exact ⟨rfl, rfl⟩
    · rw [h1] at hL
      rw [h2] at hD
      have hw : isWordly c = (c.toNat == 95) := by simp [isWordly, h1, h2]
      rw [hw]
      have HL := hid hL
      have HD := hid hD
      clear hL hD hw
      go_enter Try.func35, Try.ntmps35
      go_wp2_with (first | (go_at_call 34; refine HL.out.mono ?_; rintro e w' ⟨rfl, rfl⟩) | (go_at_call 36; refine HD.out.mono ?_; rintro e w' ⟨rfl, rfl⟩))
      all_goals go_ret
      all_goals (refine ⟨ret_bool ?_, rfl⟩; rw [Bool.eq_iff_iff]; simp; omega)

/-- A hexadecimal digit's worth, -1: none. -/
def hexI (c : UInt8) : Int := match hexVal c with | some v => (v : Int) | none => -1
theorem hexI_some {c : UInt8} {v : Nat} (h : hexVal c = some v) : hexI c = (v : Int) := by unfold hexI; rw [h]
theorem hexI_none {c : UInt8} (h : hexVal c = none) : hexI c = -1 := by unfold hexI; rw [h]
theorem hexI_yes {c : UInt8} (h : isHex c = true) : hexI c = ((hexVal c).getD 0 : Nat) := by
  unfold isHex at h
  cases hv : hexVal c with
  | none => rw [hv] at h; cases h
  | some v => rw [hexI_some hv]; rfl
theorem hexI_no {c : UInt8} (h : isHex c = false) : hexI c = -1 := by
  unfold isHex at h
  cases hv : hexVal c with
  | none => exact hexI_none hv
  | some v => rw [hv] at h; cases h
theorem r_hex_calls (c : UInt8) (w : World) : Calls Try.prog 47 #[.int .u8 c.toNat] w fun e w' => e = .returned (.int .i64 (hexI c)) ∧ w = w' := by
  have h := c.toNat_lt
  by_cases hd : 48 ≤ c.toNat ∧ c.toNat ≤ 57
  · have hdt : isDigit c = true := by simp [isDigit, hd]
    have hx : hexI c = ((c.toNat : Int) - 48) := by rw [hexI_some (v := c.toNat - 48) (by simp [hexVal, hdt])]; omega
    rw [hx]
    have hD := r_digit_calls c w
    rw [hdt] at hD
    have HD := hid hD
    obtain ⟨g1, g2⟩ := hd
    clear hD hdt hx
    go_enter Try.func47, Try.ntmps47
    go_wp2_with (go_at_call 36; refine HD.out.mono ?_; rintro e w' ⟨rfl, rfl⟩)
    go_ret
    exact ⟨rfl, rfl⟩
  · have hdf : isDigit c = false := by simp [isDigit]; omega
    have hD := r_digit_calls c w
    rw [hdf] at hD
    have HD := hid hD
    by_cases h1 : 97 ≤ c.toNat ∧ c.toNat ≤ 102
    · have hx : hexI c = ((c.toNat : Int) - 97 + 10) := by rw [hexI_some (v := c.toNat - 87) (by simp [hexVal, hdf, h1])]; omega
      rw [hx]
      obtain ⟨g1, g2⟩ := h1
      clear hD hdf hx hd
      go_enter Try.func47, Try.ntmps47
      go_wp2_with (go_at_call 36; refine HD.out.mono ?_; rintro e w' ⟨rfl, rfl⟩)
      go_ret
      exact ⟨rfl, rfl⟩
    · by_cases h2 : 65 ≤ c.toNat ∧ c.toNat ≤ 70
      · have hx : hexI c = ((c.toNat : Int) - 65 + 10) := by rw [hexI_some (v := c.toNat - 55) (by simp [hexVal, hdf, h1, h2])]; omega
        rw [hx]
        obtain ⟨g1, g2⟩ := h2
        clear hD hdf hx hd h1
        go_enter Try.func47, Try.ntmps47
        go_wp2_with (go_at_call 36; refine HD.out.mono ?_; rintro e w' ⟨rfl, rfl⟩)
        go_ret
        exact ⟨rfl, rfl⟩
      · have hx : hexI c = -1 := hexI_none (by simp [hexVal, hdf, h1, h2])
        rw [hx]
        clear hD hdf hx hd
        have H1 := hid h1
        have H2 := hid h2
        clear h1 h2
        go_enter Try.func47, Try.ntmps47
        go_wp2_with (go_at_call 36; refine HD.out.mono ?_; rintro e w' ⟨rfl, rfl⟩)
        all_goals first | (go_ret; exact ⟨rfl, rfl⟩) | (exfalso; have h1 := H1.out; have h2 := H2.out; omega)

/-- From place j to place k only blanks and remarks stand. -/
def Skip (L : List UInt8) (j k : Nat) : Prop := (∀ ln col, scanD (L.drop j) ln col = scanD (L.drop k) ln (col + (k - j))) ∧ ∀ i (h : i < L.length), j ≤ i → i < k → L[i].toNat ≠ 10
theorem Skip.refl (L : List UInt8) (j : Nat) : Skip L j j := ⟨fun ln col => by rw [Nat.sub_self, Nat.add_zero], fun i _ h1 h2 => by omega⟩
theorem Skip.trans {L : List UInt8} {i j k : Nat} (h : Skip L i j) (g : Skip L j k) (hi : i ≤ j) (hj : j ≤ k) : Skip L i k := by
  refine ⟨fun ln col => ?_, fun x hx h1 h2 => ?_⟩
  · rw [h.1, g.1, show col + (j - i) + (k - j) = col + (k - i) from by omega]
  · by_cases h3 : x < j
    · exact h.2 x hx h1 h3
    · exact g.2 x hx (by omega) h2
theorem Skip.pass {L : List UInt8} {j n : Nat} (h : act1 (L.drop j) = .pass n) (hl : ∀ i (h : i < L.length), j ≤ i → i < j + n → L[i].toNat ≠ 10) : Skip L j (j + n) := by
  refine ⟨fun ln col => ?_, hl⟩
  rw [scanD_eq (L.drop j), h]
  simp only [List.drop_drop]
  rw [show j + n - j = n from by omega]
theorem act1_blank {c : UInt8} {r : List UInt8} (h : isBlank c = true) : act1 (c :: r) = .pass 1 := by unfold act1; simp only [List.head?_cons]; rw [if_pos h]
theorem act1_semi {c : UInt8} {r : List UInt8} (h : c.toNat = 59) : act1 (c :: r) = .pass (runLen notLf (c :: r)) := by
  have hb : isBlank c = false := by simp [isBlank, h]
  unfold act1; simp only [List.head?_cons]; rw [if_neg (by simp [hb]), if_pos h]
theorem act1_else {c : UInt8} {r : List UInt8} (h : isBlank c = false) (h2 : c.toNat ≠ 59) (n : Nat) : act1 (c :: r) ≠ .pass n := by
  unfold act1; simp only [List.head?_cons]; rw [if_neg (by simp [h]), if_neg h2]; split <;> simp
theorem act1_nil_pass (n : Nat) : act1 [] ≠ .pass n := by simp [act1]
/-- The bytes of a run are all of its kind. -/
theorem runLen_all {p : UInt8 → Bool} : ∀ (l : List UInt8) (i : Nat) (h : i < l.length), i < runLen p l → p l[i] = true
  | [], i, h, _ => by simp at h
  | c :: l, i, h, hi => by
    unfold runLen at hi
    split at hi
    · rename_i hc
      cases i with
      | zero => exact hc
      | succ i => exact runLen_all l i (by simpa using h) (by omega)
    · omega
theorem Skip.semi {L : List UInt8} {j : Nat} (hj : j < L.length) (h : L[j].toNat = 59) : Skip L j (j + runLen notLf (L.drop j)) := by
  have hd := List.drop_eq_getElem_cons hj
  refine Skip.pass (by rw [hd]; exact act1_semi h) fun i hi h1 h2 => ?_
  have h3 := runLen_all (p := notLf) (L.drop j) (i - j) (by rw [List.length_drop]; omega) (by omega)
  rw [List.getElem_drop] at h3
  have h4 : j + (i - j) = i := by omega
  simp only [h4] at h3
  simpa [notLf] using h3

set_option maxHeartbeats 1000000 in
set_option maxRecDepth 100000 in
theorem r_skipped_calls {s : ByteArray} (w : World) (hs : s.size ≤ 4294967296) (L : List UInt8) (hL : Hid (s.data.toList = L)) (k0 : Nat) (hk0 : k0 ≤ s.size) :
    Calls Try.prog 25 #[.string s, .int .i64 k0] w fun e w' => ∃ k : Nat, e = .returned (.int .i64 k) ∧ k0 ≤ k ∧ k ≤ s.size ∧ Hid (Skip L k0 k) ∧ Hid (∀ n, act1 (L.drop k) ≠ .pass n) ∧ w = w' := by
  have hget : ∀ k (hk : k < s.size) (hk2 : k < L.length), s[k] = L[k] := fun k hk hk2 => by
    have := hL.out
    subst this
    rfl
  have HG := hid hget
  have HSZ := hid (len_of hL)
  clear hget
  go_enter Try.func25, Try.ntmps25
  go_wp2
  go_loop [1] (fun i => ∃ k : Nat, k0 ≤ k ∧ k ≤ s.size ∧ i = .int .i64 k ∧ Hid (Skip L k0 k)) (fun i => s.size - (intOf i).toNat)
  case atStart => exact ⟨k0, Nat.le_refl _, hk0, rfl, hid (Skip.refl _ _)⟩
  case round =>
    obtain ⟨k, hk1, hk, rfl, HR⟩ := hrel
    by_cases hlt : k < s.size
    · have hd : L.drop k = s[k] :: L.drop (k + 1) := by rw [HG.out k hlt (by rw [HSZ.out]; exact hlt)]; exact List.drop_eq_getElem_cons _
      have hLk : k < L.length := by rw [HSZ.out]; exact hlt
      have hg := HG.out k hlt hLk
      have hc := r_blank_calls s[k] w
      rcases Bool.eq_false_or_eq_true (isBlank s[k]) with h1 | h1
      · have h2 : Skip L k (k + 1) := Skip.pass (by rw [hd]; exact act1_blank h1) (fun i hi h3 h4 => by
          obtain rfl : i = k := by omega
          rw [← hg]
          intro h5
          simp [isBlank, h5] at h1)
        rw [h1] at hc
        have HC := hid hc
        have HN := hid (HR.out.trans h2 hk1 (by omega))
        clear hd hc hg h1 h2 HR
        go_wp2_with (go_at_call 33; refine HC.out.mono ?_; rintro e w' ⟨rfl, rfl⟩)
        go_round
        case rel => exact ⟨k + 1, by omega, by omega, by go_num, HN⟩
        case measure => simp [intOf]; omega
      · rw [h1] at hc
        have HC := hid hc
        by_cases h59 : s[k].toNat = 59
        · have g1 : ((s[k].toNat : Int) != 59) = false := by simp; omega
          have g2 : ((s[k].toNat : Int) == 59) = true := by simp; omega
          have h2 : Skip L k (k + runLen notLf (L.drop k)) := Skip.semi hLk (by rw [← hg]; exact h59)
          have hpos : 1 ≤ runLen notLf (L.drop k) := by rw [hd]; exact runLen_pos (by simp [notLf, h59])
          have hle : runLen notLf (L.drop k) ≤ s.size - k := by have := runLen_le notLf (L.drop k); rw [List.length_drop, HSZ.out] at this; exact this
          obtain ⟨r, hr⟩ : ∃ r, runLen notLf (L.drop k) = r := ⟨_, rfl⟩
          rw [hr] at h2 hpos hle
          have HN := hid (HR.out.trans h2 hk1 (by omega))
          have HRL := hid hr
          clear hd hc hg h1 h2 HR h59 hr
          go_wp2_with (go_at_call 33; refine HC.out.mono ?_; rintro e w' ⟨rfl, rfl⟩)
          go_loop [1] (fun i => ∃ m : Nat, k ≤ m ∧ m ≤ s.size ∧ i = .int .i64 m ∧ Hid (k + r = m + runLen notLf (L.drop m))) (fun i => s.size - (intOf i).toNat)
          case atStart => exact ⟨k, Nat.le_refl _, hk, rfl, hid (by rw [HRL.out])⟩
          case round =>
            obtain ⟨m, hm1, hm, rfl, HM⟩ := hrel
            by_cases hmt : m < s.size
            · have hd : L.drop m = s[m] :: L.drop (m + 1) := by rw [HG.out m hmt (by rw [HSZ.out]; exact hmt)]; exact List.drop_eq_getElem_cons _
              have hM := HM.out
              rw [hd, runLen] at hM
              by_cases h10 : s[m].toNat = 10
              · have g3 : ((s[m].toNat : Int) != 10) = false := by simp; omega
                have g4 : ((s[m].toNat : Int) == 10) = true := by simp; omega
                rw [if_neg (by simp [notLf, h10])] at hM
                have HM2 := hid hM
                clear hd hM HM h10
                go_wp2
                go_round
                case rel => exact ⟨m, by omega, by omega, rfl, by rw [show m = k + r from by have := HM2.out; omega]; exact HN⟩
                case measure => have := HM2.out; simp [intOf]; omega
              · have g3 : ((s[m].toNat : Int) != 10) = true := by simp; omega
                have g4 : ((s[m].toNat : Int) == 10) = false := by simp; omega
                rw [if_pos (by simp [notLf, h10])] at hM
                have HM2 := hid hM
                clear hd hM HM h10
                go_wp2
                go_round
                case rel => exact ⟨m + 1, by omega, by omega, by go_num, hid (by rw [HM2.out]; omega)⟩
                case measure => simp [intOf]; omega
            · have hM := HM.out
              rw [List.drop_of_length_le (by rw [HSZ.out]; omega)] at hM
              have HM2 := hid hM
              clear hM HM
              go_wp2
              go_round
              case rel => exact ⟨m, by omega, by omega, rfl, by rw [show m = k + r from by have := HM2.out; simp [runLen] at this; omega]; exact HN⟩
              case measure => have := HM2.out; simp [runLen] at this; simp [intOf]; omega
        · have g1 : ((s[k].toNat : Int) != 59) = true := by simp; omega
          have g2 : ((s[k].toNat : Int) == 59) = false := by simp; omega
          have HP := hid (fun n => (show act1 (L.drop k) ≠ .pass n by rw [hd]; exact act1_else h1 h59 n))
          clear hd hc hg h1 h59
          go_wp2_with (go_at_call 33; refine HC.out.mono ?_; rintro e w' ⟨rfl, rfl⟩)
          go_ret
          exact ⟨k, rfl, hk1, hk, HR, HP, rfl⟩
    · have HP := hid (fun n => (show act1 (L.drop k) ≠ .pass n by rw [List.drop_of_length_le (by rw [HSZ.out]; omega)]; exact act1_nil_pass n))
      go_wp2
      go_ret
      exact ⟨k, rfl, hk1, hk, HR, HP, rfl⟩
end Go.Proofs.Ytppijmpdoejdmaa
