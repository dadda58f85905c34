/- Joined by join.py out of Caz, Cb, Cc, Cd, Ce, Cf. -/
import Derived.Test.YtmahcabidggmeaaGreatDoorPk3
import Derived.RegionTactic
import Derived.Deep.LoopGhost
import Derived.WalkMore
import Derived.Outline
set_option linter.unusedSimpArgs false
set_option linter.unusedVariables false
set_option linter.unusedSectionVars false

/- Walks of the lexer's reference: bytes' kinds, what is passed over. -/
namespace Go.Proofs.YtmahcabidggmeaaGreatDoor
open Go.RowKit Go.AB
set_option linter.unusedSimpArgs false
set_option linter.unusedVariables false

theorem rlx_letter_calls (c : UInt8) (w : World) : Calls Tryz.prog 85 #[.int .u8 c.toNat] w fun e w' => e = .returned (.bool (isLetter c)) ∧ w = w' := by
  have h := c.toNat_lt
  go_enter Tryz.func85, Tryz.ntmps85
  go_wp2
  all_goals go_ret
  all_goals
    refine ⟨ret_bool ?_, rfl⟩
    rw [Bool.eq_iff_iff]
    simp [isLetter]
    try omega
theorem r_digit_calls (c : UInt8) (w : World) : Calls Tryz.prog 87 #[.int .u8 c.toNat] w fun e w' => e = .returned (.bool (isDigit c)) ∧ w = w' := by
  go_enter Tryz.func87, Tryz.ntmps87
  go_wp2
  all_goals go_ret
  all_goals
    refine ⟨ret_bool ?_, rfl⟩
    rw [Bool.eq_iff_iff]
    simp [isDigit]
    omega
theorem r_blank_calls (c : UInt8) (w : World) : Calls Tryz.prog 84 #[.int .u8 c.toNat] w fun e w' => e = .returned (.bool (isBlank c)) ∧ w = w' := by
  go_enter Tryz.func84, Tryz.ntmps84
  go_wp2
  all_goals go_ret
  all_goals
    refine ⟨ret_bool ?_, rfl⟩
    rw [Bool.eq_iff_iff]
    simp [isBlank]
    try omega
set_option maxHeartbeats 400000 in
theorem r_wordly_calls (c : UInt8) (w : World) : Calls Tryz.prog 86 #[.int .u8 c.toNat] w fun e w' => e = .returned (.bool (isWordly c)) ∧ w = w' := by
  have hL := rlx_letter_calls c w
  have hD := r_digit_calls c w
  rcases Bool.eq_false_or_eq_true (isLetter c) with h1 | h1
  · rw [h1] at hL
    have hw : isWordly c = true := by simp [isWordly, h1]
    rw [hw]
    have HL := hid hL
    clear hL hD hw
    go_enter Tryz.func86, Tryz.ntmps86
    go_wp2_with (go_at_call 85; refine HL.out.mono ?_; rintro e w' ⟨rfl, rfl⟩)
    go_ret
    exact ⟨rfl, rfl⟩
  · rcases Bool.eq_false_or_eq_true (isDigit c) with h2 | h2
    · rw [h1] at hL
      rw [h2] at hD
      have hw : isWordly c = true := by simp [isWordly, h2]
      rw [hw]
      have HL := hid hL
      have HD := hid hD
      clear hL hD hw
      go_enter Tryz.func86, Tryz.ntmps86
      go_wp2_with (first | (go_at_call 85; refine HL.out.mono ?_; rintro e w' ⟨rfl, rfl⟩) | (go_at_call 87; refine HD.out.mono ?_; rintro e w' ⟨rfl, rfl⟩))
      go_ret
      exact ⟨rfl, rfl⟩
    · rw [h1] at hL
      rw [h2] at hD
      have hw : isWordly c = (c.toNat == 95) := by simp [isWordly, h1, h2]
      rw [hw]
      have HL := hid hL
      have HD := hid hD
      clear hL hD hw
      go_enter Tryz.func86, Tryz.ntmps86
      go_wp2_with (first | (go_at_call 85; refine HL.out.mono ?_; rintro e w' ⟨rfl, rfl⟩) | (go_at_call 87; refine HD.out.mono ?_; rintro e w' ⟨rfl, rfl⟩))
      all_goals go_ret
      all_goals (refine ⟨ret_bool ?_, rfl⟩; rw [Bool.eq_iff_iff]; simp; omega)

/-- A hexadecimal digit's worth, -1: none. -/
def hexI (c : UInt8) : Int := match hexVal c with | some v => (v : Int) | none => -1
theorem hexI_some {c : UInt8} {v : Nat} (h : hexVal c = some v) : hexI c = (v : Int) := by unfold hexI; rw [h]
theorem hexI_none {c : UInt8} (h : hexVal c = none) : hexI c = -1 := by unfold hexI; rw [h]
theorem hexI_yes {c : UInt8} (h : isHex c = true) : hexI c = ((hexVal c).getD 0 : Nat) := by
  unfold isHex at h
  cases hv : hexVal c with
  | none => rw [hv] at h; cases h
  | some v => rw [hexI_some hv]; rfl
theorem hexI_no {c : UInt8} (h : isHex c = false) : hexI c = -1 := by
  unfold isHex at h
  cases hv : hexVal c with
  | none => exact hexI_none hv
  | some v => rw [hv] at h; cases h
theorem r_hex_calls (c : UInt8) (w : World) : Calls Tryz.prog 117 #[.int .u8 c.toNat] w fun e w' => e = .returned (.int .i64 (hexI c)) ∧ w = w' := by
  have h := c.toNat_lt
  by_cases hd : 48 ≤ c.toNat ∧ c.toNat ≤ 57
  · have hdt : isDigit c = true := by simp [isDigit, hd]
    have hx : hexI c = ((c.toNat : Int) - 48) := by rw [hexI_some (v := c.toNat - 48) (by simp [hexVal, hdt])]; omega
    rw [hx]
    have hD := r_digit_calls c w
    rw [hdt] at hD
    have HD := hid hD
    obtain ⟨g1, g2⟩ := hd
    clear hD hdt hx
    go_enter Tryz.func117, Tryz.ntmps117
    go_wp2_with (go_at_call 87; refine HD.out.mono ?_; rintro e w' ⟨rfl, rfl⟩)
    go_ret
    exact ⟨rfl, rfl⟩
  · have hdf : isDigit c = false := by simp [isDigit]; omega
    have hD := r_digit_calls c w
    rw [hdf] at hD
    have HD := hid hD
    by_cases h1 : 97 ≤ c.toNat ∧ c.toNat ≤ 102
    · have hx : hexI c = ((c.toNat : Int) - 97 + 10) := by rw [hexI_some (v := c.toNat - 87) (by simp [hexVal, hdf, h1])]; omega
      rw [hx]
      obtain ⟨g1, g2⟩ := h1
      clear hD hdf hx hd
      go_enter Tryz.func117, Tryz.ntmps117
      go_wp2_with (go_at_call 87; refine HD.out.mono ?_; rintro e w' ⟨rfl, rfl⟩)
      go_ret
      exact ⟨rfl, rfl⟩
    · by_cases h2 : 65 ≤ c.toNat ∧ c.toNat ≤ 70
      · have hx : hexI c = ((c.toNat : Int) - 65 + 10) := by rw [hexI_some (v := c.toNat - 55) (by simp [hexVal, hdf, h1, h2])]; omega
        rw [hx]
        obtain ⟨g1, g2⟩ := h2
        clear hD hdf hx hd h1
        go_enter Tryz.func117, Tryz.ntmps117
        go_wp2_with (go_at_call 87; refine HD.out.mono ?_; rintro e w' ⟨rfl, rfl⟩)
        go_ret
        exact ⟨rfl, rfl⟩
      · have hx : hexI c = -1 := hexI_none (by simp [hexVal, hdf, h1, h2])
        rw [hx]
        clear hD hdf hx hd
        have H1 := hid h1
        have H2 := hid h2
        clear h1 h2
        go_enter Tryz.func117, Tryz.ntmps117
        go_wp2_with (go_at_call 87; refine HD.out.mono ?_; rintro e w' ⟨rfl, rfl⟩)
        all_goals first | (go_ret; exact ⟨rfl, rfl⟩) | (exfalso; have h1 := H1.out; have h2 := H2.out; omega)

/-- From place j to place k only blanks and remarks stand. -/
def Skip (L : List UInt8) (j k : Nat) : Prop := (∀ ln col, scanD (L.drop j) ln col = scanD (L.drop k) ln (col + (k - j))) ∧ ∀ i (h : i < L.length), j ≤ i → i < k → L[i].toNat ≠ 10
theorem Skip.refl (L : List UInt8) (j : Nat) : Skip L j j := ⟨fun ln col => by rw [Nat.sub_self, Nat.add_zero], fun i _ h1 h2 => by omega⟩
theorem Skip.trans {L : List UInt8} {i j k : Nat} (h : Skip L i j) (g : Skip L j k) (hi : i ≤ j) (hj : j ≤ k) : Skip L i k := by
  refine ⟨fun ln col => ?_, fun x hx h1 h2 => ?_⟩
  · rw [h.1, g.1, show col + (j - i) + (k - j) = col + (k - i) from by omega]
  · by_cases h3 : x < j
    · exact h.2 x hx h1 h3
    · exact g.2 x hx (by omega) h2
theorem Skip.pass {L : List UInt8} {j n : Nat} (h : act1 (L.drop j) = .pass n) (hl : ∀ i (h : i < L.length), j ≤ i → i < j + n → L[i].toNat ≠ 10) : Skip L j (j + n) := by
  refine ⟨fun ln col => ?_, hl⟩
  rw [scanD_eq (L.drop j), h]
  simp only [List.drop_drop]
  rw [show j + n - j = n from by omega]
theorem act1_blank {c : UInt8} {r : List UInt8} (h : isBlank c = true) : act1 (c :: r) = .pass 1 := by unfold act1; simp only [List.head?_cons]; rw [if_pos h]
theorem act1_semi {c : UInt8} {r : List UInt8} (h : c.toNat = 59) : act1 (c :: r) = .pass (runLen notLf (c :: r)) := by
  have hb : isBlank c = false := by simp [isBlank, h]
  unfold act1; simp only [List.head?_cons]; rw [if_neg (by simp [hb]), if_pos h]
theorem act1_else {c : UInt8} {r : List UInt8} (h : isBlank c = false) (h2 : c.toNat ≠ 59) (n : Nat) : act1 (c :: r) ≠ .pass n := by
  unfold act1; simp only [List.head?_cons]; rw [if_neg (by simp [h]), if_neg h2]; split <;> simp
theorem act1_nil_pass (n : Nat) : act1 [] ≠ .pass n := by simp [act1]
/-- The bytes of a run are all of its kind. -/
theorem runLen_all {p : UInt8 → Bool} : ∀ (l : List UInt8) (i : Nat) (h : i < l.length), i < runLen p l → p l[i] = true
  | [], i, h, _ => by simp at h
  | c :: l, i, h, hi => by
    unfold runLen at hi
    split at hi
    · rename_i hc
      cases i with
      | zero => exact hc
      | succ i => exact runLen_all l i (by simpa using h) (by omega)
    · omega
theorem Skip.semi {L : List UInt8} {j : Nat} (hj : j < L.length) (h : L[j].toNat = 59) : Skip L j (j + runLen notLf (L.drop j)) := by
  have hd := List.drop_eq_getElem_cons hj
  refine Skip.pass (by rw [hd]; exact act1_semi h) fun i hi h1 h2 => ?_
  have h3 := runLen_all (p := notLf) (L.drop j) (i - j) (by rw [List.length_drop]; omega) (by omega)
  rw [List.getElem_drop] at h3
  have h4 : j + (i - j) = i := by omega
  simp only [h4] at h3
  simpa [notLf] using h3

set_option maxHeartbeats 1000000 in
set_option maxRecDepth 100000 in
theorem r_skipped_calls {s : ByteArray} (w : World) (hs : s.size ≤ 4294967296) (L : List UInt8) (hL : Hid (s.data.toList = L)) (k0 : Nat) (hk0 : k0 ≤ s.size) :
    Calls Tryz.prog 57 #[.string s, .int .i64 k0] w fun e w' => ∃ k : Nat, e = .returned (.int .i64 k) ∧ k0 ≤ k ∧ k ≤ s.size ∧ Hid (Skip L k0 k) ∧ Hid (∀ n, act1 (L.drop k) ≠ .pass n) ∧ w = w' := by
  have hget : ∀ k (hk : k < s.size) (hk2 : k < L.length), s[k] = L[k] := fun k hk hk2 => by
    have := hL.out
    subst this
    rfl
  have HG := hid hget
  have HSZ := hid (len_of hL)
  clear hget
  go_enter Tryz.func57, Tryz.ntmps57
  go_wp2
  go_loop [1] (fun i => ∃ k : Nat, k0 ≤ k ∧ k ≤ s.size ∧ i = .int .i64 k ∧ Hid (Skip L k0 k)) (fun i => s.size - (intOf i).toNat)
  case atStart => exact ⟨k0, Nat.le_refl _, hk0, rfl, hid (Skip.refl _ _)⟩
  case round =>
    obtain ⟨k, hk1, hk, rfl, HR⟩ := hrel
    by_cases hlt : k < s.size
    · have hd : L.drop k = s[k] :: L.drop (k + 1) := by rw [HG.out k hlt (by rw [HSZ.out]; exact hlt)]; exact List.drop_eq_getElem_cons _
      have hLk : k < L.length := by rw [HSZ.out]; exact hlt
      have hg := HG.out k hlt hLk
      have hc := r_blank_calls s[k] w
      rcases Bool.eq_false_or_eq_true (isBlank s[k]) with h1 | h1
      · have h2 : Skip L k (k + 1) := Skip.pass (by rw [hd]; exact act1_blank h1) (fun i hi h3 h4 => by
          obtain rfl : i = k := by omega
          rw [← hg]
          intro h5
          simp [isBlank, h5] at h1)
        rw [h1] at hc
        have HC := hid hc
        have HN := hid (HR.out.trans h2 hk1 (by omega))
        clear hd hc hg h1 h2 HR
        go_wp2_with (go_at_call 84; refine HC.out.mono ?_; rintro e w' ⟨rfl, rfl⟩)
        go_round
        case rel => exact ⟨k + 1, by omega, by omega, by go_num, HN⟩
        case measure => simp [intOf]; omega
      · rw [h1] at hc
        have HC := hid hc
        by_cases h59 : s[k].toNat = 59
        · have g1 : ((s[k].toNat : Int) != 59) = false := by simp; omega
          have g2 : ((s[k].toNat : Int) == 59) = true := by simp; omega
          have h2 : Skip L k (k + runLen notLf (L.drop k)) := Skip.semi hLk (by rw [← hg]; exact h59)
          have hpos : 1 ≤ runLen notLf (L.drop k) := by rw [hd]; exact runLen_pos (by simp [notLf, h59])
          have hle : runLen notLf (L.drop k) ≤ s.size - k := by have := runLen_le notLf (L.drop k); rw [List.length_drop, HSZ.out] at this; exact this
          obtain ⟨r, hr⟩ : ∃ r, runLen notLf (L.drop k) = r := ⟨_, rfl⟩
          rw [hr] at h2 hpos hle
          have HN := hid (HR.out.trans h2 hk1 (by omega))
          have HRL := hid hr
          clear hd hc hg h1 h2 HR h59 hr
          go_wp2_with (go_at_call 84; refine HC.out.mono ?_; rintro e w' ⟨rfl, rfl⟩)
          go_loop [1] (fun i => ∃ m : Nat, k ≤ m ∧ m ≤ s.size ∧ i = .int .i64 m ∧ Hid (k + r = m + runLen notLf (L.drop m))) (fun i => s.size - (intOf i).toNat)
          case atStart => exact ⟨k, Nat.le_refl _, hk, rfl, hid (by rw [HRL.out])⟩
          case round =>
            obtain ⟨m, hm1, hm, rfl, HM⟩ := hrel
            by_cases hmt : m < s.size
            · have hd : L.drop m = s[m] :: L.drop (m + 1) := by rw [HG.out m hmt (by rw [HSZ.out]; exact hmt)]; exact List.drop_eq_getElem_cons _
              have hM := HM.out
              rw [hd, runLen] at hM
              by_cases h10 : s[m].toNat = 10
              · have g3 : ((s[m].toNat : Int) != 10) = false := by simp; omega
                have g4 : ((s[m].toNat : Int) == 10) = true := by simp; omega
                rw [if_neg (by simp [notLf, h10])] at hM
                have HM2 := hid hM
                clear hd hM HM h10
                go_wp2
                go_round
                case rel => exact ⟨m, by omega, by omega, rfl, by rw [show m = k + r from by have := HM2.out; omega]; exact HN⟩
                case measure => have := HM2.out; simp [intOf]; omega
              · have g3 : ((s[m].toNat : Int) != 10) = true := by simp; omega
                have g4 : ((s[m].toNat : Int) == 10) = false := by simp; omega
                rw [if_pos (by simp [notLf, h10])] at hM
                have HM2 := hid hM
                clear hd hM HM h10
                go_wp2
                go_round
                case rel => exact ⟨m + 1, by omega, by omega, by go_num, hid (by rw [HM2.out]; omega)⟩
                case measure => simp [intOf]; omega
            · have hM := HM.out
              rw [List.drop_of_length_le (by rw [HSZ.out]; omega)] at hM
              have HM2 := hid hM
              clear hM HM
              go_wp2
              go_round
              case rel => exact ⟨m, by omega, by omega, rfl, by rw [show m = k + r from by have := HM2.out; simp [runLen] at this; omega]; exact HN⟩
              case measure => have := HM2.out; simp [runLen] at this; simp [intOf]; omega
        · have g1 : ((s[k].toNat : Int) != 59) = true := by simp; omega
          have g2 : ((s[k].toNat : Int) == 59) = false := by simp; omega
          have HP := hid (fun n => (show act1 (L.drop k) ≠ .pass n by rw [hd]; exact act1_else h1 h59 n))
          clear hd hc hg h1 h59
          go_wp2_with (go_at_call 84; refine HC.out.mono ?_; rintro e w' ⟨rfl, rfl⟩)
          go_ret
          exact ⟨k, rfl, hk1, hk, HR, HP, rfl⟩
    · have HP := hid (fun n => (show act1 (L.drop k) ≠ .pass n by rw [List.drop_of_length_le (by rw [HSZ.out]; omega)]; exact act1_nil_pass n))
      go_wp2
      go_ret
      exact ⟨k, rfl, hk1, hk, HR, HP, rfl⟩
end Go.Proofs.YtmahcabidggmeaaGreatDoor

/- Walks of the lexer's reference: the number that stands at a place. -/
namespace Go.Proofs.YtmahcabidggmeaaGreatDoor
open Go.RowKit Go.AB
set_option linter.unusedSimpArgs false
set_option linter.unusedVariables false
set_option linter.unusedSectionVars false

theorem hexNat_16 (l : List UInt8) (h : l.length ≤ 15) : hexNat l ≤ 1152921504606846975 := by
  have h1 := foldl_hex l 0
  have h2 : 16 ^ l.length ≤ 16 ^ 15 := Nat.pow_le_pow_right (by decide) h
  unfold hexNat
  omega
theorem hexVal_le (c : UInt8) : (hexVal c).getD 0 ≤ 15 := by
  unfold hexVal isDigit
  split
  · rename_i h; simp at h ⊢; omega
  · split
    · simp; omega
    · split
      · simp; omega
      · simp
/-- The hexadecimal number behind 0x. -/
def RHex (w : World) (d : List UInt8) (e : Ending) (w' : World) : Prop :=
  (if runLen isHex d ≤ 16 then e = .returned (.tuple #[.int .i64 (asI64 (hexNat (d.take (runLen isHex d)))), .int .i64 ((runLen isHex d + 2 : Nat) : Int), .bool (decide (0 < runLen isHex d))])
   else e = .returned (.tuple #[.int .i64 0, .int .i64 0, .bool false])) ∧ w = w'
theorem rhex_yes {w : World} {d : List UInt8} {n V : Nat} (hn : runLen isHex d = n) (hV : V = hexNat (d.take n)) (h16 : n ≤ 16) {X Y : Int} {z : Bool} (hX : X = wrap64 (V : Int)) (hY : Y = ((n + 2 : Nat) : Int)) (hz : z = decide (0 < n)) :
    RHex w d (.returned (.tuple #[.int .i64 X, .int .i64 Y, .bool z])) w := by
  subst hn hX hY hz
  refine ⟨?_, rfl⟩
  rw [if_pos h16, asI64_wrap _ (by rw [hV]; exact hexNat_lt _ (by rw [List.length_take]; omega)), hV]
theorem rhex_no {w : World} {d : List UInt8} (h : 16 < runLen isHex d) : RHex w d (.returned (.tuple #[.int .i64 0, .int .i64 0, .bool false])) w :=
  ⟨by rw [if_neg (by omega)], rfl⟩

set_option maxHeartbeats 2000000 in
set_option maxRecDepth 100000 in
theorem r_hexed_calls {s : ByteArray} (w : World) (hs : s.size ≤ 4294967296) (L : List UInt8) (hL : Hid (s.data.toList = L)) (a : Nat) (ha : a + 2 ≤ s.size) :
    Calls Tryz.prog 104 #[.string s, .int .i64 a] w (RHex w (L.drop (a + 2))) := by
  have HLN := hid (len_of hL)
  go_enter Tryz.func104, Tryz.ntmps104
  go_wp2
  go_loop [7, 8] (fun v i => ∃ k V : Nat, a + 2 + k ≤ s.size ∧ k ≤ 16 ∧ i = .int .i64 k ∧ v = .int .u64 V ∧ Hid (V = hexNat ((L.drop (a + 2)).take k)) ∧ Hid (runLen isHex (L.drop (a + 2)) = k + runLen isHex (L.drop (a + 2 + k))))
    (fun _ i => s.size - (intOf i).toNat)
  case atStart => exact ⟨0, 0, ha, by omega, rfl, rfl, hid (by simp [hexNat]), hid (by simp)⟩
  case round =>
    obtain ⟨k, V, hk1, hk, rfl, rfl, HV, HR⟩ := hrel
    by_cases hlt : a + 2 + k < s.size
    · have hd := drop_cons_of hL hlt
      have hr := HR.out
      rw [hd, runLen] at hr
      have j1 : (a : Int) + 2 + (k : Int) < (s.size : Int) := by omega
      have j2 : (0 : Int) ≤ (a : Int) + 2 + (k : Int) := by omega
      have hc := r_hex_calls s[a + 2 + k] w
      rcases Bool.eq_false_or_eq_true (isHex s[a + 2 + k]) with c1 | c1
      · rw [c1] at hr
        rw [hexI_yes c1] at hc
        have hts := take_step hL (j := a + 2) (k := a + 2 + k) (by omega) hlt
        have hsn := hexNat_snoc ((L.drop (a + 2)).take k) s[a + 2 + k]
        rw [show a + 2 + k + 1 - (a + 2) = k + 1 from by omega, show a + 2 + k - (a + 2) = k from by omega] at hts
        rw [← hts] at hsn
        have hle := hexVal_le s[a + 2 + k]
        by_cases h16 : k < 16
        · have hV : V ≤ 1152921504606846975 := by rw [HV.out]; exact hexNat_16 _ (by rw [List.length_take]; omega)
          obtain ⟨dv, hdv⟩ : ∃ dv, (hexVal s[a + 2 + k]).getD 0 = dv := ⟨_, rfl⟩
          rw [hdv] at hc hsn hle
          have HC := hid hc
          have HR2 := hid hr
          have HSN := hid hsn
          have g1 : ((k : Int) == 16) = false := by simp; omega
          clear hd hr hts hc hsn HR c1 hdv
          go_wp2_with (go_at_call 117; refine HC.out.mono ?_; rintro e w' ⟨rfl, rfl⟩)
          go_round
          case rel => exact ⟨k + 1, 16 * V + dv, by omega, by omega, by go_num, congrArg (Value.int .u64) (by omega), hid (by rw [HSN.out, HV.out]), hid (by rw [HR2.out, if_pos trivial, show a + 2 + (k + 1) = a + 2 + k + 1 from by omega]; omega)⟩
          case measure => simp [intOf]; omega
        · have g1 : ((k : Int) == 16) = true := by simp; omega
          obtain ⟨dv, hdv⟩ : ∃ dv, (hexVal s[a + 2 + k]).getD 0 = dv := ⟨_, rfl⟩
          rw [hdv] at hc hle
          have HC := hid hc
          have HN := hid (show 16 < runLen isHex (L.drop (a + 2)) by rw [hr, if_pos rfl]; omega)
          clear hd hr hts hc hsn HR c1 hdv h16
          go_wp2_with (go_at_call 117; refine HC.out.mono ?_; rintro e w' ⟨rfl, rfl⟩)
          go_ret3
          exact rhex_no HN.out
      · rw [c1] at hr
        rw [hexI_no c1] at hc
        have HC := hid hc
        have HR2 := hid hr
        clear hd hr hc HR c1
        go_wp2_with (go_at_call 117; refine HC.out.mono ?_; rintro e w' ⟨rfl, rfl⟩)
        all_goals go_ret3
        all_goals exact rhex_yes (n := k) (by have := HR2.out; simpa [runLen] using this) HV.out hk rfl (by omega) (by first | rfl | (rw [Bool.eq_iff_iff]; simp))
    · have hd : L.drop (a + 2 + k) = [] := List.drop_of_length_le (by rw [HLN.out]; omega)
      have hr := HR.out
      rw [hd] at hr
      have HR2 := hid hr
      clear hd hr HR
      go_wp2
      all_goals go_ret3
      all_goals exact rhex_yes (n := k) (by have := HR2.out; simpa [runLen] using this) HV.out hk rfl (by omega) (by first | rfl | (rw [Bool.eq_iff_iff]; simp))

/-- The decimal number at a place, with or without a sign. -/
def RDec (w : World) (neg : Bool) (n0 : Nat) (d : List UInt8) (e : Ending) (w' : World) : Prop :=
  (if decV d ≤ (if neg then 9223372036854775808 else 9223372036854775807) then e = .returned (.tuple #[.int .i64 (if neg then -(decV d : Int) else (decV d : Int)), .int .i64 ((runLen isDigit d + n0 : Nat) : Int), .bool true])
   else e = .returned (.tuple #[.int .i64 0, .int .i64 0, .bool false])) ∧ w = w'
theorem rdec_yes {w : World} {neg : Bool} {n0 n V : Nat} {d : List UInt8} (hn : runLen isDigit d = n) (hV : V = decNat (d.take n)) (hle : V ≤ (if neg then 9223372036854775808 else 9223372036854775807)) {X Y : Int} (hX : X = if neg then -(V : Int) else (V : Int)) (hY : Y = ((n + n0 : Nat) : Int)) :
    RDec w neg n0 d (.returned (.tuple #[.int .i64 X, .int .i64 Y, .bool true])) w := by
  subst hn hV hX hY
  refine ⟨?_, rfl⟩
  rw [if_pos (by unfold decV; exact hle)]
  rfl
theorem rdec_no {w : World} {neg : Bool} {n0 n V : Nat} {d : List UInt8} (hn : n ≤ runLen isDigit d) (hV : V = decNat (d.take n)) (hgt : (if neg then 9223372036854775808 else 9223372036854775807) < V) :
    RDec w neg n0 d (.returned (.tuple #[.int .i64 0, .int .i64 0, .bool false])) w := by
  refine ⟨?_, rfl⟩
  have h1 := decNat_mono (d.take n) ((d.take (runLen isDigit d)).drop n)
  have h2 : d.take n ++ (d.take (runLen isDigit d)).drop n = d.take (runLen isDigit d) := by
    have : d.take n = (d.take (runLen isDigit d)).take n := by rw [List.take_take, Nat.min_eq_left hn]
    rw [this, List.take_append_drop]
  rw [h2, ← hV] at h1
  rw [if_neg (by unfold decV; omega)]

theorem tdiv_low (x : Int) (V : Nat) (h1 : 48 ≤ x) (h2 : x ≤ 57) : decide (-(V : Int) < (-9223372036854775808 + (x - 48)).tdiv 10) = decide (9223372036854775808 < 10 * (V : Int) + (x - 48)) := by
  have h3 : (-9223372036854775808 + (x - 48)).tdiv 10 = -((9223372036854775808 - (x - 48)) / 10) := by
    rw [show -9223372036854775808 + (x - 48) = -(9223372036854775808 - (x - 48)) from by omega, Int.neg_tdiv, Int.tdiv_eq_ediv_of_nonneg (by omega)]
  rw [h3]
  congr 1
  apply propext
  omega

set_option maxHeartbeats 2000000 in
set_option maxRecDepth 100000 in
theorem r_tens_neg {s : ByteArray} (w : World) (hs : s.size ≤ 4294967296) (L : List UInt8) (hL : Hid (s.data.toList = L)) (a : Nat) (ha : a < s.size) (hneg : (s[a].toNat : Int) = 45) :
    Calls Tryz.prog 105 #[.string s, .int .i64 a] w (RDec w true 1 (L.drop (a + 1))) := by
  have HLN := hid (len_of hL)
  have hb : ((s[a].toNat : Int) == 45) = true := by simpa using hneg
  clear hneg
  go_enter Tryz.func105, Tryz.ntmps105
  go_wp2
  go_loop [8, 9, 10] (fun i v _ => ∃ k V : Nat, a + 1 + k ≤ s.size ∧ i = .int .i64 ((k : Int) + 1) ∧ v = .int .i64 (-(V : Int)) ∧ V ≤ 9223372036854775808 ∧ Hid (V = decNat ((L.drop (a + 1)).take k)) ∧ Hid (runLen isDigit (L.drop (a + 1)) = k + runLen isDigit (L.drop (a + 1 + k))))
    (fun i _ _ => s.size + 1 - (intOf i).toNat)
  case atStart => exact ⟨0, 0, by omega, rfl, rfl, by omega, hid (by simp [decNat]), hid (by simp)⟩
  case round =>
    obtain ⟨k, V, hk1, rfl, rfl, hV, HV, HR⟩ := hrel
    by_cases hlt : a + 1 + k < s.size
    · have hlt' : a + (k + 1) < s.size := by omega
      have hix : s[a + 1 + k] = s[a + (k + 1)] := by congr 1; omega
      have hd := drop_cons_of hL hlt
      have hr := HR.out
      rw [hd, runLen, hix] at hr
      have hts := take_step hL (j := a + 1) (k := a + 1 + k) (by omega) hlt
      rw [show a + 1 + k + 1 - (a + 1) = k + 1 from by omega, show a + 1 + k - (a + 1) = k from by omega, hix] at hts
      have hc := r_digit_calls s[a + (k + 1)] w
      have hx8 := s[a + (k + 1)].toNat_lt
      have hsn := decNat_snoc ((L.drop (a + 1)).take k) s[a + (k + 1)]
      rw [← hts] at hsn
      have j1 : (a : Int) + ((k : Int) + 1) < (s.size : Int) := by omega
      have j2 : (0 : Int) ≤ (a : Int) + ((k : Int) + 1) := by omega
      rcases Bool.eq_false_or_eq_true (isDigit s[a + (k + 1)]) with c1 | c1
      · rw [c1] at hc hr
        have hdd : 48 ≤ s[a + (k + 1)].toNat ∧ s[a + (k + 1)].toNat ≤ 57 := by simpa [isDigit] using c1
        have HC := hid hc
        have HR2 := hid hr
        have HSN := hid hsn
        obtain ⟨hd1, hd2⟩ := hdd
        have hq := tdiv_low (s[a + (k + 1)].toNat : Int) V (by omega) (by omega)
        by_cases hov : (9223372036854775808 : Int) < 10 * (V : Int) + ((s[a + (k + 1)].toNat : Int) - 48)
        · rw [decide_eq_true hov] at hq
          clear hd hr hts hc hsn HR c1 hix
          have HOV := hid hov
          clear hov
          go_wp2_with (go_at_call 87; refine HC.out.mono ?_; rintro e w' ⟨rfl, rfl⟩)
          go_ret3
          exact rdec_no (n := k + 1) (by have := HR2.out; rw [if_pos trivial] at this; omega) rfl (by have := HOV.out; rw [HSN.out, ← HV.out]; simp; omega)
        · rw [decide_eq_false hov] at hq
          clear hd hr hts hc hsn HR c1 hix
          have hov1 : 10 * (V : Int) + ((s[a + (k + 1)].toNat : Int) - 48) ≤ 9223372036854775808 := by omega
          clear hov
          go_wp2_with (go_at_call 87; refine HC.out.mono ?_; rintro e w' ⟨rfl, rfl⟩)
          go_round
          case rel => exact ⟨k + 1, 10 * V + (s[a + (k + 1)].toNat - 48), by omega, by go_num, congrArg (Value.int .i64) (by omega), by omega, hid (by rw [HSN.out, HV.out]), hid (by rw [HR2.out, if_pos trivial, show a + 1 + (k + 1) = a + 1 + k + 1 from by omega]; omega)⟩
          case measure => simp [intOf]; omega
      · rw [c1] at hc hr
        have HC := hid hc
        have HR2 := hid hr
        clear hd hr hts hc hsn HR c1 hix
        go_wp2_with (go_at_call 87; refine HC.out.mono ?_; rintro e w' ⟨rfl, rfl⟩)
        go_ret3
        exact rdec_yes (n := k) (by have := HR2.out; simpa [runLen] using this) HV.out (by simpa using hV) (by simp) (by omega)
    · have hd : L.drop (a + 1 + k) = [] := List.drop_of_length_le (by rw [HLN.out]; omega)
      have hr := HR.out
      rw [hd] at hr
      have HR2 := hid hr
      clear hd hr HR
      go_wp2
      go_ret3
      exact rdec_yes (n := k) (by have := HR2.out; simpa [runLen] using this) HV.out (by simpa using hV) (by simp) (by omega)

set_option maxHeartbeats 2000000 in
set_option maxRecDepth 100000 in
theorem r_tens_pos {s : ByteArray} (w : World) (hs : s.size ≤ 4294967296) (L : List UInt8) (hL : Hid (s.data.toList = L)) (a : Nat) (ha : a < s.size) (hneg : (s[a].toNat : Int) ≠ 45) :
    Calls Tryz.prog 105 #[.string s, .int .i64 a] w (RDec w false 0 (L.drop a)) := by
  have HLN := hid (len_of hL)
  have hb : ((s[a].toNat : Int) == 45) = false := by simpa using hneg
  clear hneg
  go_enter Tryz.func105, Tryz.ntmps105
  go_wp2
  go_loop [8, 9, 10] (fun i v _ => ∃ k V : Nat, a + k ≤ s.size ∧ i = .int .i64 k ∧ v = .int .i64 (-(V : Int)) ∧ V ≤ 9223372036854775808 ∧ Hid (V = decNat ((L.drop a).take k)) ∧ Hid (runLen isDigit (L.drop a) = k + runLen isDigit (L.drop (a + k))))
    (fun i _ _ => s.size - (intOf i).toNat)
  case atStart => exact ⟨0, 0, by omega, rfl, rfl, by omega, hid (by simp [decNat]), hid (by simp)⟩
  case round =>
    obtain ⟨k, V, hk1, rfl, rfl, hV, HV, HR⟩ := hrel
    by_cases hlt : a + k < s.size
    · have hix : True := trivial
      have hd := drop_cons_of hL hlt
      have hr := HR.out
      rw [hd, runLen] at hr
      have hts := take_step hL (j := a) (k := a + k) (by omega) hlt
      rw [show a + k + 1 - a = k + 1 from by omega, show a + k - a = k from by omega] at hts
      have hc := r_digit_calls s[a + k] w
      have hx8 := s[a + k].toNat_lt
      have hsn := decNat_snoc ((L.drop (a)).take k) s[a + k]
      rw [← hts] at hsn
      have j1 : (a : Int) + (k : Int) < (s.size : Int) := by omega
      have j2 : (0 : Int) ≤ (a : Int) + (k : Int) := by omega
      rcases Bool.eq_false_or_eq_true (isDigit s[a + k]) with c1 | c1
      · rw [c1] at hc hr
        have hdd : 48 ≤ s[a + k].toNat ∧ s[a + k].toNat ≤ 57 := by simpa [isDigit] using c1
        have HC := hid hc
        have HR2 := hid hr
        have HSN := hid hsn
        obtain ⟨hd1, hd2⟩ := hdd
        have hq := tdiv_low (s[a + k].toNat : Int) V (by omega) (by omega)
        by_cases hov : (9223372036854775808 : Int) < 10 * (V : Int) + ((s[a + k].toNat : Int) - 48)
        · rw [decide_eq_true hov] at hq
          clear hd hr hts hc hsn HR c1 hix
          have HOV := hid hov
          clear hov
          go_wp2_with (go_at_call 87; refine HC.out.mono ?_; rintro e w' ⟨rfl, rfl⟩)
          go_ret3
          exact rdec_no (n := k + 1) (by have := HR2.out; rw [if_pos trivial] at this; omega) rfl (by have := HOV.out; rw [HSN.out, ← HV.out]; simp; omega)
        · rw [decide_eq_false hov] at hq
          clear hd hr hts hc hsn HR c1 hix
          have hov1 : 10 * (V : Int) + ((s[a + k].toNat : Int) - 48) ≤ 9223372036854775808 := by omega
          clear hov
          go_wp2_with (go_at_call 87; refine HC.out.mono ?_; rintro e w' ⟨rfl, rfl⟩)
          go_round
          case rel => exact ⟨k + 1, 10 * V + (s[a + k].toNat - 48), by omega, by go_num, congrArg (Value.int .i64) (by omega), by omega, hid (by rw [HSN.out, HV.out]), hid (by rw [HR2.out, if_pos trivial, show a + (k + 1) = a + k + 1 from by omega]; omega)⟩
          case measure => simp [intOf]; omega
      · rw [c1] at hc hr
        have HC := hid hc
        have HR2 := hid hr
        clear hd hr hts hc hsn HR c1 hix
        by_cases hmx : V = 9223372036854775808
        · have hb1 : (-(V : Int) == -9223372036854775808) = true := by simp; omega
          have HMX := hid hmx
          clear hmx
          go_wp2_with (go_at_call 87; refine HC.out.mono ?_; rintro e w' ⟨rfl, rfl⟩)
          go_ret3
          exact rdec_no (n := k) (by have := HR2.out; simp [runLen] at this; omega) HV.out (by have := HMX.out; simp; omega)
        · have hb1 : (-(V : Int) == -9223372036854775808) = false := by simp; omega
          have hV2 : V ≤ 9223372036854775807 := by omega
          clear hmx
          go_wp2_with (go_at_call 87; refine HC.out.mono ?_; rintro e w' ⟨rfl, rfl⟩)
          go_ret3
          exact rdec_yes (n := k) (by have := HR2.out; simpa [runLen] using this) HV.out (by simpa using hV2) (by simp) (by omega)
    · have hd : L.drop (a + k) = [] := List.drop_of_length_le (by rw [HLN.out]; omega)
      have hr := HR.out
      rw [hd] at hr
      have HR2 := hid hr
      clear hd hr HR
      by_cases hmx : V = 9223372036854775808
      · have hb1 : (-(V : Int) == -9223372036854775808) = true := by simp; omega
        have HMX := hid hmx
        clear hmx
        go_wp2
        go_ret3
        exact rdec_no (n := k) (by have := HR2.out; simp [runLen] at this; omega) HV.out (by have := HMX.out; simp; omega)
      · have hb1 : (-(V : Int) == -9223372036854775808) = false := by simp; omega
        have hV2 : V ≤ 9223372036854775807 := by omega
        clear hmx
        go_wp2
        go_ret3
        exact rdec_yes (n := k) (by have := HR2.out; simpa [runLen] using this) HV.out (by simpa using hV2) (by simp) (by omega)

/-- What reading a number answers, before it is asked what stands behind it. -/
def RRead (w : World) (d : List UInt8) (e : Ending) (w' : World) : Prop :=
  (match numAt d with
   | none => ∃ X Y : Int, e = .returned (.tuple #[.int .i64 X, .int .i64 Y, .bool false])
   | some (v, n) => e = .returned (.tuple #[.int .i64 v, .int .i64 (n : Int), .bool true])) ∧ w = w'
section
variable {w : World} {s : ByteArray} {a : Nat} (hs : s.size ≤ 4294967296) (L : List UInt8) (hL : Hid (s.data.toList = L))
include hs hL
theorem r_hex_reads (w : World) (ha : a < s.size) (h0 : s[a].toNat = 48) (hx : (byteAtB s (a + 1)).toNat = 120) : Calls Tryz.prog 104 #[.string s, .int .i64 a] w (RRead w (L.drop a)) := by
  have ha2 : a + 2 ≤ s.size := by
    unfold byteAtB at hx
    split at hx
    · omega
    · simp at hx
  refine (r_hexed_calls w hs L hL a ha2).mono ?_
  rintro e w' ⟨hp, rfl⟩
  have hn : numAt (L.drop a) = if 1 ≤ runLen isHex (L.drop (a + 2)) ∧ runLen isHex (L.drop (a + 2)) ≤ 16 then some (asI64 (hexNat ((L.drop (a + 2)).take (runLen isHex (L.drop (a + 2))))), runLen isHex (L.drop (a + 2)) + 2) else none := by
    unfold numAt
    rw [if_pos ⟨by rw [head_of hL ha]; simp [← UInt8.toNat_inj, h0], (x_of hL a 1).2 hx⟩, List.drop_drop]
  refine ⟨?_, rfl⟩
  rw [hn]
  split at hp
  · rename_i h16
    by_cases hc : 1 ≤ runLen isHex (L.drop (a + 2))
    · rw [if_pos ⟨hc, h16⟩, hp, decide_eq_true (show 0 < runLen isHex (L.drop (a + 2)) from hc)]
    · rw [if_neg (fun h => hc h.1), hp, decide_eq_false (show ¬ 0 < runLen isHex (L.drop (a + 2)) from hc)]
      exact ⟨_, _, rfl⟩
  · rename_i h16
    rw [if_neg (fun h => h16 h.2), hp]
    exact ⟨_, _, rfl⟩
theorem r_dec_reads (w : World) (ha : a < s.size) (h0 : ¬ (s[a].toNat = 48 ∧ (byteAtB s (a + 1)).toNat = 120)) : Calls Tryz.prog 105 #[.string s, .int .i64 a] w (RRead w (L.drop a)) := by
  have hno : ¬ ((L.drop a).head? = some 48 ∧ (L.drop a)[1]? = some 120) := by
    rw [head_of hL ha, x_of hL a 1]
    intro ⟨h1, h2⟩
    exact h0 ⟨by simpa [← UInt8.toNat_inj] using h1, h2⟩
  by_cases hneg : s[a].toNat = 45
  · refine (r_tens_neg w hs L hL a ha (by omega)).mono ?_
    rintro e w' ⟨hp, rfl⟩
    have hn : numAt (L.drop a) = if decV (L.drop (a + 1)) ≤ 9223372036854775808 then some (-(decV (L.drop (a + 1)) : Int), runLen isDigit (L.drop (a + 1)) + 1) else none := by
      unfold numAt
      rw [if_neg hno, if_pos (by rw [head_of hL ha]; simp [← UInt8.toNat_inj, hneg]), List.drop_drop]
      rfl
    refine ⟨?_, rfl⟩
    rw [hn]
    simp only [if_true] at hp
    split at hp
    · rename_i hc
      rw [if_pos hc, hp]
    · rename_i hc
      rw [if_neg hc]
      exact ⟨0, 0, hp⟩
  · refine (r_tens_pos w hs L hL a ha (by omega)).mono ?_
    rintro e w' ⟨hp, rfl⟩
    have hn : numAt (L.drop a) = if decV (L.drop a) ≤ 9223372036854775807 then some ((decV (L.drop a) : Int), runLen isDigit (L.drop a)) else none := by
      unfold numAt
      rw [if_neg hno, if_neg (by rw [head_of hL ha]; simp [← UInt8.toNat_inj]; exact hneg)]
      rfl
    refine ⟨?_, rfl⟩
    rw [hn]
    simp only [Bool.false_eq_true, if_false] at hp
    split at hp
    · rename_i hc
      rw [if_pos hc, hp]
      rfl
    · rename_i hc
      rw [if_neg hc]
      exact ⟨0, 0, hp⟩
end
end Go.Proofs.YtmahcabidggmeaaGreatDoor

/- Walks of the lexer's reference: the number with what stands behind it, the token that stands at a place. -/
namespace Go.Proofs.YtmahcabidggmeaaGreatDoor
open Go.RowKit Go.AB
set_option linter.unusedSimpArgs false
set_option linter.unusedVariables false
set_option linter.unusedSectionVars false

def RNum (w : World) (d : List UInt8) (e : Ending) (w' : World) : Prop :=
  (match numTokAt d with
   | none => e = .returned (.tuple #[.int .i64 0, .int .i64 0, .bool false])
   | some (v, n) => e = .returned (.tuple #[.int .i64 v, .int .i64 (n : Int), .bool true])) ∧ w = w'
theorem rnum_no {w : World} {d : List UInt8} (h : numTokAt d = none) : RNum w d (.returned (.tuple #[.int .i64 0, .int .i64 0, .bool false])) w := by
  unfold RNum; rw [h]; exact ⟨rfl, rfl⟩
theorem rnum_yes {w : World} {d : List UInt8} {v : Int} {n : Nat} (h : numTokAt d = some (v, n)) : RNum w d (.returned (.tuple #[.int .i64 v, .int .i64 (n : Int), .bool true])) w := by
  unfold RNum; rw [h]; exact ⟨rfl, rfl⟩
theorem numTok_none {d : List UInt8} (h : numAt d = none) : numTokAt d = none := by unfold numTokAt; rw [h]
theorem numTok_w {d : List UInt8} {v : Int} {n : Nat} (h : numAt d = some (v, n)) (hw : wAt d n = true) : numTokAt d = none := by unfold numTokAt; rw [h]; simp [hw]
theorem numTok_y {d : List UInt8} {v : Int} {n : Nat} (h : numAt d = some (v, n)) (hw : wAt d n = false) : numTokAt d = some (v, n) := by unfold numTokAt; rw [h]; simp [hw]

section
variable {w : World} {s : ByteArray} {a : Nat} (hs : s.size ≤ 4294967296) (L : List UInt8) (hL : Hid (s.data.toList = L))
include hs hL
set_option maxHeartbeats 4000000 in
set_option maxRecDepth 100000 in
theorem r_number_calls (w : World) (ha : a < s.size) (hd : isDigit s[a] = true ∨ s[a].toNat = 45) : Calls Tryz.prog 88 #[.string s, .int .i64 a] w (RNum w (L.drop a)) := by
  have hcons := drop_cons_of hL ha
  have hpos : ∀ v n, numAt (L.drop a) = some (v, n) → 1 ≤ n ∧ n ≤ s.size - a := fun v n h => by
    rw [hcons] at h
    have h1 := numAt_pos hd h
    rw [← hcons, List.length_drop, len_of hL] at h1
    exact h1
  have HPOS := hid hpos
  have HCONS := hid hcons
  have j0 : (a : Int) < (s.size : Int) := by omega
  clear hpos hcons hd
  -- which of the two is asked, and by which tests
  have hrd : (a + 1 < s.size ∧ ((s[a].toNat : Int) == 48) = true ∧ (∃ h1 : a + 1 < s.size, ((s[a + 1].toNat : Int) == 120) = true) ∧ Hid (Calls Tryz.prog 104 #[.string s, .int .i64 a] w (RRead w (L.drop a)))) ∨
      ((¬ a + 1 < s.size ∨ (a + 1 < s.size ∧ ((s[a].toNat : Int) == 48) = false) ∨ (a + 1 < s.size ∧ ((s[a].toNat : Int) == 48) = true ∧ ∃ h1 : a + 1 < s.size, ((s[a + 1].toNat : Int) == 120) = false)) ∧ Hid (Calls Tryz.prog 105 #[.string s, .int .i64 a] w (RRead w (L.drop a)))) := by
    by_cases h1 : a + 1 < s.size
    · have hb1 : byteAtB s (a + 1) = s[a + 1] := by unfold byteAtB; rw [dif_pos h1]
      by_cases h2 : s[a].toNat = 48
      · by_cases h3 : s[a + 1].toNat = 120
        · exact .inl ⟨h1, by simp; omega, ⟨h1, by simp; omega⟩, hid (r_hex_reads hs L hL w ha h2 (by rw [hb1]; exact h3))⟩
        · exact .inr ⟨.inr (.inr ⟨h1, by simp; omega, h1, by simp; omega⟩), hid (r_dec_reads hs L hL w ha (by rw [hb1]; exact fun h => h3 h.2))⟩
      · exact .inr ⟨.inr (.inl ⟨h1, by simp; omega⟩), hid (r_dec_reads hs L hL w ha (fun h => h2 h.1))⟩
    · have hb1 : byteAtB s (a + 1) = 0 := by unfold byteAtB; rw [dif_neg h1]
      exact .inr ⟨.inl h1, hid (r_dec_reads hs L hL w ha (by rw [hb1]; simp))⟩
  cases hn : numAt (L.drop a) with
  | none =>
    have HT := hid (numTok_none hn)
    unfold RRead at hrd
    rw [hn] at hrd
    clear hn
    rcases hrd with ⟨h1, h2, ⟨h3, h4⟩, HC⟩ | ⟨h1 | ⟨h1, h2⟩ | ⟨h1, h2, h3, h4⟩, HC⟩
    all_goals
      go_enter Tryz.func88, Tryz.ntmps88
      go_wp2_with (first | (go_at_call 104; refine HC.out.mono ?_; rintro e w' ⟨⟨X, Y, rfl⟩, rfl⟩) | (go_at_call 105; refine HC.out.mono ?_; rintro e w' ⟨⟨X, Y, rfl⟩, rfl⟩))
      go_ret3
      exact rnum_no HT.out
  | some p =>
    obtain ⟨v, n⟩ := p
    have hp := HPOS.out v n hn
    have hw := wordly_of hL a n
    unfold RRead at hrd
    rw [hn] at hrd
    by_cases hend : a + n < s.size
    · have hb : byteAtB s (a + n) = s[a + n] := by unfold byteAtB; rw [dif_pos hend]
      rw [hb] at hw
      have j1 : (a : Int) + (n : Int) < (s.size : Int) := by omega
      have j2 : (0 : Int) ≤ (a : Int) + (n : Int) := by omega
      have hc := r_wordly_calls s[a + n] w
      rcases Bool.eq_false_or_eq_true (isWordly s[a + n]) with c1 | c1
      · rw [c1] at hc hw
        have HT := hid (numTok_w hn hw)
        have HW := hid hc
        clear hn hc hw hb c1
        rcases hrd with ⟨h1, h2, ⟨h3, h4⟩, HC⟩ | ⟨h1 | ⟨h1, h2⟩ | ⟨h1, h2, h3, h4⟩, HC⟩
        all_goals
          try (exfalso; omega)
        all_goals
          go_enter Tryz.func88, Tryz.ntmps88
          go_wp2_with (first | (go_at_call 104; refine HC.out.mono ?_; rintro e w' ⟨rfl, rfl⟩) | (go_at_call 105; refine HC.out.mono ?_; rintro e w' ⟨rfl, rfl⟩) | (go_at_call 86; refine HW.out.mono ?_; rintro e w' ⟨rfl, rfl⟩))
          go_ret3
          exact rnum_no HT.out
      · rw [c1] at hc hw
        have HT := hid (numTok_y hn hw)
        have HW := hid hc
        clear hn hc hw hb c1
        rcases hrd with ⟨h1, h2, ⟨h3, h4⟩, HC⟩ | ⟨h1 | ⟨h1, h2⟩ | ⟨h1, h2, h3, h4⟩, HC⟩
        all_goals
          try (exfalso; omega)
        all_goals
          go_enter Tryz.func88, Tryz.ntmps88
          go_wp2_with (first | (go_at_call 104; refine HC.out.mono ?_; rintro e w' ⟨rfl, rfl⟩) | (go_at_call 105; refine HC.out.mono ?_; rintro e w' ⟨rfl, rfl⟩) | (go_at_call 86; refine HW.out.mono ?_; rintro e w' ⟨rfl, rfl⟩))
          go_ret3
          exact rnum_yes HT.out
    · have hb : byteAtB s (a + n) = 0 := by unfold byteAtB; rw [dif_neg hend]
      rw [hb] at hw
      have HT := hid (numTok_y hn (hw.trans (by decide)))
      clear hn hw hb
      rcases hrd with ⟨h1, h2, ⟨h3, h4⟩, HC⟩ | ⟨h1 | ⟨h1, h2⟩ | ⟨h1, h2, h3, h4⟩, HC⟩
      all_goals
        go_enter Tryz.func88, Tryz.ntmps88
        go_wp2_with (first | (go_at_call 104; refine HC.out.mono ?_; rintro e w' ⟨rfl, rfl⟩) | (go_at_call 105; refine HC.out.mono ?_; rintro e w' ⟨rfl, rfl⟩))
        go_ret3
        exact rnum_yes HT.out
end

def markN (c : UInt8) : Nat := if c.toNat = 44 then 3 else if c.toNat = 58 then 4 else if c.toNat = 61 then 5 else if c.toNat = 10 then 6 else 0
theorem tokAt_mark {c : UInt8} {r : List UInt8} (hl : isLetter c = false) (hd : ¬ (isDigit c = true ∨ (c.toNat = 45 ∧ ∃ d ∈ r.head?, isDigit d = true))) : tokAt (c :: r) = if markN c = 0 then (70, 0, [], 0, 0) else (0, markN c, [], 0, 1) := by
  simp only [tokAt, hl, Bool.false_eq_true, if_false, hd, markN]
  by_cases h1 : c.toNat = 44
  · simp [h1]
  by_cases h2 : c.toNat = 58
  · simp [h2]
  by_cases h3 : c.toNat = 61
  · simp [h3]
  by_cases h4 : c.toNat = 10
  · simp [h4]
  simp [h1, h2, h3, h4]
theorem r_mark_calls (c : UInt8) (w : World) : Calls Tryz.prog 89 #[.int .u8 c.toNat] w fun e w' => e = .returned (.int .i64 (markN c : Nat)) ∧ w = w' := by
  unfold markN
  by_cases h1 : c.toNat = 44
  · have e1 : ((c.toNat : Int) == 44) = true := by simp; omega
    rw [if_pos h1]
    clear h1
    go_enter Tryz.func89, Tryz.ntmps89
    go_wp2
    go_ret
    exact ⟨rfl, rfl⟩
  have e1 : ((c.toNat : Int) == 44) = false := by simp; omega
  rw [if_neg h1]
  clear h1
  by_cases h2 : c.toNat = 58
  · have e2 : ((c.toNat : Int) == 58) = true := by simp; omega
    rw [if_pos h2]
    clear h2
    go_enter Tryz.func89, Tryz.ntmps89
    go_wp2
    go_ret
    exact ⟨rfl, rfl⟩
  have e2 : ((c.toNat : Int) == 58) = false := by simp; omega
  rw [if_neg h2]
  clear h2
  by_cases h3 : c.toNat = 61
  · have e3 : ((c.toNat : Int) == 61) = true := by simp; omega
    rw [if_pos h3]
    clear h3
    go_enter Tryz.func89, Tryz.ntmps89
    go_wp2
    go_ret
    exact ⟨rfl, rfl⟩
  have e3 : ((c.toNat : Int) == 61) = false := by simp; omega
  rw [if_neg h3]
  clear h3
  by_cases h4 : c.toNat = 10
  · have e4 : ((c.toNat : Int) == 10) = true := by simp; omega
    rw [if_pos h4]
    clear h4
    go_enter Tryz.func89, Tryz.ntmps89
    go_wp2
    go_ret
    exact ⟨rfl, rfl⟩
  · have e4 : ((c.toNat : Int) == 10) = false := by simp; omega
    rw [if_neg h4]
    clear h4
    go_enter Tryz.func89, Tryz.ntmps89
    go_wp2
    go_ret
    exact ⟨rfl, rfl⟩
end Go.Proofs.YtmahcabidggmeaaGreatDoor

/- Walks of the lexer's reference: the token that stands at a place. -/
namespace Go.Proofs.YtmahcabidggmeaaGreatDoor
open Go.RowKit Go.AB
set_option linter.unusedSimpArgs false
set_option linter.unusedVariables false
set_option linter.unusedSectionVars false

/-- What the reference's token answers. -/
def RTok (w : World) (d : List UInt8) (e : Ending) (w' : World) : Prop :=
  (if (tokAt d).1 ≠ 0 then e = .returned (.tuple #[zeroTok, .int .i64 0, .int .i64 (tokAt d).1])
   else e = .returned (.tuple #[tokV (tokAt d).2.1 (tokAt d).2.2.1 (tokAt d).2.2.2.1 0 0, .int .i64 ((tokAt d).2.2.2.2 : Nat), .int .i64 0])) ∧ Chg [] w w'
theorem rtok_no {w w' : World} {c : Nat} {d : List UInt8} {p : Nat × List UInt8 × Int × Nat} (h : tokAt d = (c, p)) (hc : c ≠ 0) (h2 : Chg [] w w') {X : Int} (hX : X = (c : Int)) : RTok w d (.returned (.tuple #[.agg #[.int .i64 0, .string ⟨#[]⟩, .int .i64 0, .int .i64 0, .int .i64 0], .int .i64 0, .int .i64 X])) w' := by
  subst hX; unfold RTok; rw [h, if_pos hc]; exact ⟨rfl, h2⟩
theorem rtok_yes {w w' : World} {k n : Nat} {t : List UInt8} {v : Int} {d : List UInt8} (h : tokAt d = (0, k, t, v, n)) (h2 : Chg [] w w') {S : ByteArray} {X Y Z : Int} (hX : X = (k : Int)) (hS : S = ⟨t.toArray⟩) (hY : Y = v) (hZ : Z = (n : Int)) : RTok w d (.returned (.tuple #[.agg #[.int .i64 X, .string S, .int .i64 Y, .int .i64 0, .int .i64 0], .int .i64 Z, .int .i64 0])) w' := by
  subst hX hS hY hZ; unfold RTok; rw [h, if_neg (by simp)]; exact ⟨rfl, h2⟩

section
variable {s : ByteArray} {a : Nat} (hs : s.size ≤ 4294967296) (L : List UInt8) (hL : Hid (s.data.toList = L))
include hs hL

set_option maxHeartbeats 2000000 in
set_option maxRecDepth 100000 in
theorem r_token_end (w : World) (ha : a = s.size) : Calls Tryz.prog 58 #[.string s, .int .i64 a] w (RTok w (L.drop a)) := by
  have hd : L.drop a = [] := List.drop_of_length_le (by rw [len_of hL]; omega)
  have HT := hid (show tokAt (L.drop a) = (0, 7, [], 0, 0) by rw [hd]; rfl)
  have hca := (Chg.refl [] w).alloc (.cells #[.int .i64 7, .string ⟨#[]⟩, .int .i64 0, .int .i64 0, .int .i64 0] 63)
  subst ha
  clear hd
  go_enter Tryz.func58, Tryz.ntmps58
  go_wp2
  exact bodyPost_ret (v := .tuple #[.agg #[.int .i64 7, .string ⟨#[]⟩, .int .i64 0, .int .i64 0, .int .i64 0], .int .i64 0, .int .i64 0]) (by simp [results, Tryz.results58, go_sem]) rfl (rtok_yes HT.out hca rfl rfl rfl rfl)

set_option maxHeartbeats 2000000 in
set_option maxRecDepth 100000 in
theorem r_token_letter (w : World) (ha : a < s.size) (hl : isLetter s[a] = true) : Calls Tryz.prog 58 #[.string s, .int .i64 a] w (RTok w (L.drop a)) := by
  have hcons := drop_cons_of hL ha
  have htk : tokAt (L.drop a) = (0, 1, (L.drop a).take (runLen isWordly (L.drop a)), 0, runLen isWordly (L.drop a)) := by
    rw [hcons]; simp only [tokAt, hl, if_true]
  have hn := runLen_le isWordly (L.drop a)
  rw [List.length_drop, len_of hL] at hn
  have hex := extract_take hL a (runLen isWordly (L.drop a)) (by omega)
  have h1 : runLen isWordly (L.drop a) = 1 + runLen isWordly (L.drop (a + 1)) := by rw [hcons, runLen, if_pos (by simp [isWordly, hl])]; omega
  obtain ⟨n, hne⟩ : ∃ n, runLen isWordly (L.drop a) = n := ⟨_, rfl⟩
  rw [hne] at htk hn hex h1
  have HT := hid htk
  have HE := hid hex
  have H1 := hid h1
  have HLN := hid (len_of hL)
  have j0 : (a : Int) < (s.size : Int) := by omega
  have hLc := rlx_letter_calls s[a]
  rw [hl] at hLc
  have HLC := hid hLc
  clear hLc hl hcons htk hex hne h1
  go_enter Tryz.func58, Tryz.ntmps58
  go_wp2_with (go_at_call 85; refine (HLC.out _).mono ?_; rintro e w2 ⟨rfl, rfl⟩)
  go_loop [8] (fun i => ∃ k : Nat, 1 ≤ k ∧ a + k ≤ s.size ∧ i = .int .i64 k ∧ Hid (n = k + runLen isWordly (L.drop (a + k)))) (fun i => s.size - (intOf i).toNat)
  case atStart => exact ⟨1, Nat.le_refl _, by omega, rfl, H1⟩
  case round =>
    obtain ⟨k, hk1, hk, rfl, HR⟩ := hrel
    by_cases hlt : a + k < s.size
    · have hd := drop_cons_of hL hlt
      have hr := HR.out
      rw [hd, runLen] at hr
      have j1 : (a : Int) + (k : Int) < (s.size : Int) := by omega
      have j2 : (0 : Int) ≤ (a : Int) + (k : Int) := by omega
      have hc := r_wordly_calls s[a + k]
      rcases Bool.eq_false_or_eq_true (isWordly s[a + k]) with c1 | c1
      · rw [c1] at hc hr
        have HC := hid hc
        have HR2 := hid hr
        clear hd hr hc HR c1
        go_wp2_with (go_at_call 86; refine (HC.out _).mono ?_; rintro e w2 ⟨rfl, rfl⟩)
        go_round
        case rel => exact ⟨k + 1, by omega, by omega, by go_num, hid (by rw [HR2.out, if_pos trivial, show a + (k + 1) = a + k + 1 from by omega]; omega)⟩
        case measure => simp [intOf]; omega
      · rw [c1] at hc hr
        have HC := hid hc
        have hnk : n = k := by simpa using hr
        clear hd hr hc HR c1 H1
        subst hnk
        go_wp2_with (go_at_call 86; refine (HC.out _).mono ?_; rintro e w2 ⟨rfl, rfl⟩)
        exact bodyPost_ret (v := .tuple #[.agg #[.int .i64 1, .string (s.extract a (a + n)), .int .i64 0, .int .i64 0, .int .i64 0], .int .i64 (n : Int), .int .i64 0]) (by simp [results, Tryz.results58, go_sem]) rfl (rtok_yes HT.out ((Chg.refl [] _).alloc _) rfl HE.out rfl rfl)
    · have hd : L.drop (a + k) = [] := List.drop_of_length_le (by rw [HLN.out]; omega)
      have hr := HR.out
      rw [hd] at hr
      have hnk : n = k := by simpa [runLen] using hr
      clear hd hr HR H1
      subst hnk
      go_wp2
      exact bodyPost_ret (v := .tuple #[.agg #[.int .i64 1, .string (s.extract a (a + n)), .int .i64 0, .int .i64 0, .int .i64 0], .int .i64 (n : Int), .int .i64 0]) (by simp [results, Tryz.results58, go_sem]) rfl (rtok_yes HT.out ((Chg.refl [] _).alloc _) rfl HE.out rfl rfl)

set_option maxHeartbeats 4000000 in
set_option maxRecDepth 100000 in
theorem r_token_num (w : World) (ha : a < s.size) (hl : isLetter s[a] = false) (hd : isDigit s[a] = true ∨ (s[a].toNat = 45 ∧ ∃ h : a + 1 < s.size, isDigit s[a + 1] = true)) : Calls Tryz.prog 58 #[.string s, .int .i64 a] w (RTok w (L.drop a)) := by
  have hcons := drop_cons_of hL ha
  have j0 : (a : Int) < (s.size : Int) := by omega
  have hcond : isDigit s[a] = true ∨ (s[a].toNat = 45 ∧ ∃ d ∈ (L.drop (a + 1)).head?, isDigit d = true) := by
    rcases hd with h | ⟨h1, h2, h3⟩
    · exact .inl h
    · refine .inr ⟨h1, s[a + 1], ?_, h3⟩
      rw [drop_cons_of hL h2]; rfl
  have hNum := fun w => r_number_calls hs L hL w ha (hd.imp id (fun h => h.1))
  have hsp : tokAt (L.drop a) = match numTokAt (L.drop a) with | none => (71, 0, [], 0, 0) | some (v, n) => (0, 2, [], v, n) := by
    rw [hcons]; simp only [tokAt, hl, Bool.false_eq_true, if_false]; rw [if_pos hcond]; generalize numTokAt _ = o; rcases o with _ | ⟨v, n⟩ <;> rfl
  have hLc := rlx_letter_calls s[a]
  rw [hl] at hLc
  have HLC := hid hLc
  have hDc := r_digit_calls s[a]
  unfold RNum at hNum
  cases hn : numTokAt (L.drop a) with
  | none =>
    rw [hn] at hsp hNum
    have HT := hid hsp
    have HN := hid hNum
    clear hNum hLc hcons hcond hsp hn
    rcases hd with h | ⟨h1, h2, h3⟩
    · rw [h] at hDc
      have HD := hid hDc
      clear hDc h hl
      go_enter Tryz.func58, Tryz.ntmps58
      go_wp2_with (first | (go_at_call 85; refine (HLC.out _).mono ?_; rintro e w2 ⟨rfl, rfl⟩) | (go_at_call 87; refine (HD.out _).mono ?_; rintro e w2 ⟨rfl, rfl⟩) | (go_at_call 88; refine (HN.out _).mono ?_; rintro e w2 ⟨rfl, rfl⟩))
      exact bodyPost_ret (v := .tuple #[.agg #[.int .i64 0, .string ⟨#[]⟩, .int .i64 0, .int .i64 0, .int .i64 0], .int .i64 0, .int .i64 71]) (by simp [results, Tryz.results58, go_sem]) rfl (rtok_no HT.out (by decide) ((Chg.refl [] _).alloc _) rfl)
    · have hdf : isDigit s[a] = false := by simp [isDigit, h1]
      rw [hdf] at hDc
      have HD := hid hDc
      have hD1 := r_digit_calls s[a + 1]
      rw [h3] at hD1
      have HD1 := hid hD1
      have e45 : ((s[a].toNat : Int) == 45) = true := by simp; omega
      have j1 : (a : Int) + 1 < (s.size : Int) := by omega
      clear hDc hl hdf hD1 h3 h1
      go_enter Tryz.func58, Tryz.ntmps58
      go_wp2_with (first | (go_at_call 85; refine (HLC.out _).mono ?_; rintro e w2 ⟨rfl, rfl⟩) | (go_at_call 87; ((with_reducible refine (HD.out _).mono ?_); rintro e w2 ⟨rfl, rfl⟩)) | (go_at_call 87; ((with_reducible refine (HD1.out _).mono ?_); rintro e w2 ⟨rfl, rfl⟩)) | (go_at_call 88; refine (HN.out _).mono ?_; rintro e w2 ⟨rfl, rfl⟩))
      exact bodyPost_ret (v := .tuple #[.agg #[.int .i64 0, .string ⟨#[]⟩, .int .i64 0, .int .i64 0, .int .i64 0], .int .i64 0, .int .i64 71]) (by simp [results, Tryz.results58, go_sem]) rfl (rtok_no HT.out (by decide) ((Chg.refl [] _).alloc _) rfl)
  | some p =>
    obtain ⟨v, n⟩ := p
    rw [hn] at hsp hNum
    have HT := hid hsp
    have HN := hid hNum
    clear hNum hLc hcons hcond hsp hn
    rcases hd with h | ⟨h1, h2, h3⟩
    · rw [h] at hDc
      have HD := hid hDc
      clear hDc h hl
      go_enter Tryz.func58, Tryz.ntmps58
      go_wp2_with (first | (go_at_call 85; refine (HLC.out _).mono ?_; rintro e w2 ⟨rfl, rfl⟩) | (go_at_call 87; refine (HD.out _).mono ?_; rintro e w2 ⟨rfl, rfl⟩) | (go_at_call 88; refine (HN.out _).mono ?_; rintro e w2 ⟨rfl, rfl⟩))
      exact bodyPost_ret (v := .tuple #[.agg #[.int .i64 2, .string ⟨#[]⟩, .int .i64 v, .int .i64 0, .int .i64 0], .int .i64 (n : Int), .int .i64 0]) (by simp [results, Tryz.results58, go_sem]) rfl (rtok_yes HT.out ((Chg.refl [] _).alloc _) rfl rfl rfl rfl)
    · have hdf : isDigit s[a] = false := by simp [isDigit, h1]
      rw [hdf] at hDc
      have HD := hid hDc
      have hD1 := r_digit_calls s[a + 1]
      rw [h3] at hD1
      have HD1 := hid hD1
      have e45 : ((s[a].toNat : Int) == 45) = true := by simp; omega
      have j1 : (a : Int) + 1 < (s.size : Int) := by omega
      clear hDc hl hdf hD1 h3 h1
      go_enter Tryz.func58, Tryz.ntmps58
      go_wp2_with (first | (go_at_call 85; refine (HLC.out _).mono ?_; rintro e w2 ⟨rfl, rfl⟩) | (go_at_call 87; ((with_reducible refine (HD.out _).mono ?_); rintro e w2 ⟨rfl, rfl⟩)) | (go_at_call 87; ((with_reducible refine (HD1.out _).mono ?_); rintro e w2 ⟨rfl, rfl⟩)) | (go_at_call 88; refine (HN.out _).mono ?_; rintro e w2 ⟨rfl, rfl⟩))
      exact bodyPost_ret (v := .tuple #[.agg #[.int .i64 2, .string ⟨#[]⟩, .int .i64 v, .int .i64 0, .int .i64 0], .int .i64 (n : Int), .int .i64 0]) (by simp [results, Tryz.results58, go_sem]) rfl (rtok_yes HT.out ((Chg.refl [] _).alloc _) rfl rfl rfl rfl)

set_option maxHeartbeats 4000000 in
set_option maxRecDepth 100000 in
theorem r_token_mark (w : World) (ha : a < s.size) (hl : isLetter s[a] = false) (hdf : isDigit s[a] = false) (hd : s[a].toNat ≠ 45 ∨ (s[a].toNat = 45 ∧ ¬ a + 1 < s.size) ∨ (s[a].toNat = 45 ∧ ∃ h : a + 1 < s.size, isDigit s[a + 1] = false)) : Calls Tryz.prog 58 #[.string s, .int .i64 a] w (RTok w (L.drop a)) := by
  have hcons := drop_cons_of hL ha
  have j0 : (a : Int) < (s.size : Int) := by omega
  have hcond : ¬ (isDigit s[a] = true ∨ (s[a].toNat = 45 ∧ ∃ d ∈ (L.drop (a + 1)).head?, isDigit d = true)) := by
    rintro (h | ⟨h1, d, h2, h3⟩)
    · rw [hdf] at h; cases h
    · rcases hd with h | ⟨_, h⟩ | ⟨_, h, h4⟩
      · exact h h1
      · rw [List.drop_of_length_le (by rw [len_of hL]; omega)] at h2; cases h2
      · rw [drop_cons_of hL h] at h2
        simp at h2
        subst h2
        rw [h4] at h3; cases h3
  have hT := tokAt_mark (r := L.drop (a + 1)) hl hcond
  rw [← hcons] at hT
  have hLc := rlx_letter_calls s[a]
  rw [hl] at hLc
  have HLC := hid hLc
  have hDc := r_digit_calls s[a]
  rw [hdf] at hDc
  have HD := hid hDc
  have HM := hid (r_mark_calls s[a])
  obtain ⟨m, hm⟩ : ∃ m, markN s[a] = m := ⟨_, rfl⟩
  rw [hm] at hT HM
  have hdd : ((s[a].toNat : Int) == 45) = false ∨ (((s[a].toNat : Int) == 45) = true ∧ ¬ a + 1 < s.size) ∨ (((s[a].toNat : Int) == 45) = true ∧ ∃ h : a + 1 < s.size, Hid (∀ w, Calls Tryz.prog 87 #[.int .u8 s[a + 1].toNat] w fun e w' => e = .returned (.bool false) ∧ w = w')) := by
    rcases hd with h | ⟨h, h1⟩ | ⟨h, h1, h2⟩
    · exact .inl (by simp; omega)
    · exact .inr (.inl ⟨by simp; omega, h1⟩)
    · have := r_digit_calls s[a + 1]
      rw [h2] at this
      exact .inr (.inr ⟨by simp; omega, h1, hid this⟩)
  by_cases h0 : m = 0
  · rw [if_pos h0] at hT
    subst h0
    have HT := hid hT
    clear hT hcons hcond hLc hDc hm hd hl hdf
    rcases hdd with e45 | ⟨e45, j1⟩ | ⟨e45, j1, HD1⟩
    · go_enter Tryz.func58, Tryz.ntmps58
      go_wp2_with (first | (go_at_call 85; refine (HLC.out _).mono ?_; rintro e w2 ⟨rfl, rfl⟩) | (go_at_call 87; refine (HD.out _).mono ?_; rintro e w2 ⟨rfl, rfl⟩) | (go_at_call 89; refine (HM.out _).mono ?_; rintro e w2 ⟨rfl, rfl⟩))
      exact bodyPost_ret (v := .tuple #[.agg #[.int .i64 0, .string ⟨#[]⟩, .int .i64 0, .int .i64 0, .int .i64 0], .int .i64 0, .int .i64 70]) (by simp [results, Tryz.results58, go_sem]) rfl (rtok_no HT.out (by decide) ((Chg.refl [] _).alloc _) rfl)
    · go_enter Tryz.func58, Tryz.ntmps58
      go_wp2_with (first | (go_at_call 85; refine (HLC.out _).mono ?_; rintro e w2 ⟨rfl, rfl⟩) | (go_at_call 87; refine (HD.out _).mono ?_; rintro e w2 ⟨rfl, rfl⟩) | (go_at_call 89; refine (HM.out _).mono ?_; rintro e w2 ⟨rfl, rfl⟩))
      exact bodyPost_ret (v := .tuple #[.agg #[.int .i64 0, .string ⟨#[]⟩, .int .i64 0, .int .i64 0, .int .i64 0], .int .i64 0, .int .i64 70]) (by simp [results, Tryz.results58, go_sem]) rfl (rtok_no HT.out (by decide) ((Chg.refl [] _).alloc _) rfl)
    · have j3 : (a : Int) + 1 < (s.size : Int) := by omega
      go_enter Tryz.func58, Tryz.ntmps58
      go_wp2_with (first | (go_at_call 85; refine (HLC.out _).mono ?_; rintro e w2 ⟨rfl, rfl⟩) | (go_at_call 87; ((with_reducible refine (HD.out _).mono ?_); rintro e w2 ⟨rfl, rfl⟩)) | (go_at_call 87; ((with_reducible refine (HD1.out _).mono ?_); rintro e w2 ⟨rfl, rfl⟩)) | (go_at_call 89; refine (HM.out _).mono ?_; rintro e w2 ⟨rfl, rfl⟩))
      exact bodyPost_ret (v := .tuple #[.agg #[.int .i64 0, .string ⟨#[]⟩, .int .i64 0, .int .i64 0, .int .i64 0], .int .i64 0, .int .i64 70]) (by simp [results, Tryz.results58, go_sem]) rfl (rtok_no HT.out (by decide) ((Chg.refl [] _).alloc _) rfl)
  · rw [if_neg h0] at hT
    have HT := hid hT
    have m0 : ((m : Int) == 0) = false := by simp; omega
    clear hT hcons hcond hLc hDc hm hd hl hdf h0
    rcases hdd with e45 | ⟨e45, j1⟩ | ⟨e45, j1, HD1⟩
    · go_enter Tryz.func58, Tryz.ntmps58
      go_wp2_with (first | (go_at_call 85; refine (HLC.out _).mono ?_; rintro e w2 ⟨rfl, rfl⟩) | (go_at_call 87; refine (HD.out _).mono ?_; rintro e w2 ⟨rfl, rfl⟩) | (go_at_call 89; refine (HM.out _).mono ?_; rintro e w2 ⟨rfl, rfl⟩))
      exact bodyPost_ret (v := .tuple #[.agg #[.int .i64 m, .string ⟨#[]⟩, .int .i64 0, .int .i64 0, .int .i64 0], .int .i64 1, .int .i64 0]) (by simp [results, Tryz.results58, go_sem]) rfl (rtok_yes HT.out ((Chg.refl [] _).alloc _) rfl rfl rfl rfl)
    · go_enter Tryz.func58, Tryz.ntmps58
      go_wp2_with (first | (go_at_call 85; refine (HLC.out _).mono ?_; rintro e w2 ⟨rfl, rfl⟩) | (go_at_call 87; refine (HD.out _).mono ?_; rintro e w2 ⟨rfl, rfl⟩) | (go_at_call 89; refine (HM.out _).mono ?_; rintro e w2 ⟨rfl, rfl⟩))
      exact bodyPost_ret (v := .tuple #[.agg #[.int .i64 m, .string ⟨#[]⟩, .int .i64 0, .int .i64 0, .int .i64 0], .int .i64 1, .int .i64 0]) (by simp [results, Tryz.results58, go_sem]) rfl (rtok_yes HT.out ((Chg.refl [] _).alloc _) rfl rfl rfl rfl)
    · have j3 : (a : Int) + 1 < (s.size : Int) := by omega
      go_enter Tryz.func58, Tryz.ntmps58
      go_wp2_with (first | (go_at_call 85; refine (HLC.out _).mono ?_; rintro e w2 ⟨rfl, rfl⟩) | (go_at_call 87; ((with_reducible refine (HD.out _).mono ?_); rintro e w2 ⟨rfl, rfl⟩)) | (go_at_call 87; ((with_reducible refine (HD1.out _).mono ?_); rintro e w2 ⟨rfl, rfl⟩)) | (go_at_call 89; refine (HM.out _).mono ?_; rintro e w2 ⟨rfl, rfl⟩))
      exact bodyPost_ret (v := .tuple #[.agg #[.int .i64 m, .string ⟨#[]⟩, .int .i64 0, .int .i64 0, .int .i64 0], .int .i64 1, .int .i64 0]) (by simp [results, Tryz.results58, go_sem]) rfl (rtok_yes HT.out ((Chg.refl [] _).alloc _) rfl rfl rfl rfl)

/-- The reference's token at a place. -/
theorem r_token_calls (w : World) (ha : a ≤ s.size) : Calls Tryz.prog 58 #[.string s, .int .i64 a] w (RTok w (L.drop a)) := by
  by_cases h : a < s.size
  · rcases Bool.eq_false_or_eq_true (isLetter s[a]) with h1 | h1
    · exact r_token_letter hs L hL w h h1
    rcases Bool.eq_false_or_eq_true (isDigit s[a]) with h2 | h2
    · exact r_token_num hs L hL w h h1 (.inl h2)
    by_cases h3 : s[a].toNat = 45
    · by_cases h4 : a + 1 < s.size
      · rcases Bool.eq_false_or_eq_true (isDigit s[a + 1]) with h5 | h5
        · exact r_token_num hs L hL w h h1 (.inr ⟨h3, h4, h5⟩)
        · exact r_token_mark hs L hL w h h1 h2 (.inr (.inr ⟨h3, h4, h5⟩))
      · exact r_token_mark hs L hL w h h1 h2 (.inr (.inl ⟨h3, h4⟩))
    · exact r_token_mark hs L hL w h h1 h2 (.inl h3)
  · exact r_token_end hs L hL w (by omega)
end
end Go.Proofs.YtmahcabidggmeaaGreatDoor

/- Walks of the lexer's reference: all tokens up to the first place at which none can be taken. -/
namespace Go.Proofs.YtmahcabidggmeaaGreatDoor
open Go.RowKit Go.AB
set_option linter.unusedSimpArgs false
set_option linter.unusedVariables false
set_option linter.unusedSectionVars false

/-- Where the reference's loop over the source stands. -/
structure PAt (w : World) (s : ByteArray) (L : List UInt8) (gk : Nat) (wr : World) (a line begun : Nat) (T0 : List Tok) (r : Option Nat) (ao : Option Addr) (cap : Nat) : Prop where
  gh : gk + a = s.size + 1
  le : a ≤ s.size
  be : begun ≤ a
  ln : line ≤ a + 1
  row : Row wr 63 5 (.slice ao T0.length cap) r T0.length (T0.flatMap tokC)
  eq : scanD L 1 1 = (T0 ++ (scanD (L.drop a) line (a - begun + 1)).1, (scanD (L.drop a) line (a - begun + 1)).2)
  chg : Chg [] w wr
  fr : ∀ g, r = some g → w.heap.size + 1 ≤ g
  res : wr.heap[w.heap.size]? = some (.cells #[.int .i64 0, .int .i64 0, .int .i64 0] 30 (0, 0))

section
variable {w wr w2 : World} {s : ByteArray} {L : List UInt8} {gk a line begun : Nat} {T0 : List Tok} {r : Option Nat} {ao : Option Addr} {cap : Nat}
theorem PAt.len (h : PAt w s L gk wr a line begun T0 r ao cap) (hL : L.length = s.size) : T0.length ≤ s.size + 1 := by
  have h1 := scanD_len L 1 1
  rw [h.eq] at h1
  simp only [List.length_append] at h1
  omega
/-- Blanks and remarks are passed. -/
theorem PAt.skip (h : PAt w s L gk wr a line begun T0 r ao cap) {k : Nat} (hk : Skip L a k) (h1 : a ≤ k) (h2 : k ≤ s.size) : PAt w s L (gk - (k - a)) wr k line begun T0 r ao cap := by
  have hg := h.gh
  have hbe := h.be
  have hln := h.ln
  refine ⟨by omega, h2, by omega, by omega, h.row, ?_, h.chg, h.fr, h.res⟩
  rw [h.eq, hk.1, show a - begun + 1 + (k - a) = k - begun + 1 from by omega]
theorem PAt.tok (h : PAt w s L gk wr a line begun T0 r ao cap) (hL : L.length = s.size) {k : Nat} {t : List UInt8} {v : Int} {n : Nat} (h1 : act1 (L.drop a) = .tok k t v n) (hk : k ≠ 7) {line' begun' : Nat} (hlb : (k = 6 ∧ line' = line + 1 ∧ begun' = a + n) ∨ (k ≠ 6 ∧ line' = line ∧ begun' = begun))
    {r' : Option Nat} {ao' : Option Addr} {cap' : Nat} {xs : List Value} (hrow : Row w2 63 5 (.slice ao' (T0.length + 1) cap') r' (T0.length + 1) xs) (hxs : xs = (T0 ++ [(⟨k, t, v, line, a - begun + 1⟩ : Tok)]).flatMap tokC) (hch : Chg r.toList wr w2) (hf : Fresh wr r r') :
    PAt w s L (gk - n) w2 (a + n) line' begun' (T0 ++ [(⟨k, t, v, line, a - begun + 1⟩ : Tok)]) r' ao' cap' ∧ 1 ≤ n ∧ n ≤ gk := by
  have h2 : L.drop a ≠ [] ∧ 1 ≤ k ∧ k ≤ 6 ∧ 1 ≤ n ∧ n ≤ (L.drop a).length := by
    rcases act1_tok h1 with ⟨_, h3, _⟩ | h3
    · exact absurd h3 hk
    · exact h3
  have hn2 := h2.2.2.2.2
  rw [List.length_drop] at hn2
  have hg := h.gh
  have hln := h.ln
  have hbe := h.be
  have hn1 := h2.2.2.2.1
  have hsz := h.chg.size
  have hrs := blk_lt h.res
  refine ⟨⟨by omega, by omega, by rcases hlb with ⟨_, _, h3⟩ | ⟨_, _, h3⟩ <;> omega, by rcases hlb with ⟨_, h3, _⟩ | ⟨_, h3, _⟩ <;> omega, by rw [List.length_append, ← hxs]; exact hrow, ?_, h.chg.trans hch (fun x hx => .inr (by have := h.fr x (by simpa using hx); omega)), fun g hg => by rcases hf g hg with h3 | h3; exact h.fr g h3; omega, hch.heap h.res (by
    intro hm
    have := h.fr _ (by simpa using hm); omega)⟩, hn1, by omega⟩
  have e := h.eq
  rw [scanD_eq (L.drop a), h1] at e
  simp only [List.drop_drop, if_neg hk] at e
  rcases hlb with ⟨h3, rfl, rfl⟩ | ⟨h3, rfl, rfl⟩
  · rw [if_pos h3] at e
    rw [e]
    simp
  · rw [if_neg h3] at e
    rw [e, show a + n - begun' + 1 = a - begun' + 1 + n from by omega]
    simp
theorem newT_any {w w' : World} {p : List Tok × (Nat × Nat × Nat)} {ts : List Tok} {n cap : Nat} {r : Option Nat} {ao : Option Addr} (hts : ts = p.1) (hn : n = ts.length) {xs : List Value} (hrow : Row w' 63 5 (.slice ao n cap) r n xs) (hxs : xs = ts.flatMap tokC) (hf : Fresh w none r) (hc : Chg [] w w') {X Y Z : Int} (hX : X = (p.2.1 : Nat)) (hY : Y = (p.2.2.1 : Nat)) (hZ : Z = (p.2.2.2 : Nat)) :
    NewT w p (.returned (.tuple #[.slice ao n cap, .agg #[.int .i64 X, .int .i64 Y, .int .i64 Z]])) w' := by
  subst hn hxs hX hY hZ
  exact ⟨ts, ao, cap, r, rfl, hrow, hf, hc, hid hts⟩
theorem PAt.fault (h : PAt w s L gk wr a line begun T0 r ao cap) {e : Nat} (h1 : act1 (L.drop a) = .fault e) (hch : Chg [w.heap.size] wr w2) {X Y Z : Int} (hX : X = (e : Int)) (hY : Y = (line : Int)) (hZ : Z = (a : Int) - (begun : Int) + 1) :
    NewT w (scanD L 1 1) (.returned (.tuple #[.slice ao T0.length cap, .agg #[.int .i64 X, .int .i64 Y, .int .i64 Z]])) w2 := by
  have e1 := h.eq
  rw [scanD_eq (L.drop a), h1] at e1
  simp only [List.append_nil] at e1
  have hbe := h.be
  refine newT_any (ts := T0) (by rw [e1]) rfl (h.row.keep hch (fun g hg hm => by have := h.fr g hg; simp at hm; omega)) rfl (fun g hg => .inr (by have := h.fr g hg; omega)) (h.chg.trans hch (fun x hx => .inr (by simp at hx; omega))) (by rw [e1]; exact hX) (by rw [e1]; exact hY) (by rw [e1, hZ]; simp only []; omega)
theorem PAt.stop (h : PAt w s L gk wr a line begun T0 r ao cap) {kd : Nat} (hkd : kd = 7) {t : List UInt8} {v : Int} {n : Nat} (h1 : act1 (L.drop a) = .tok kd t v n) {r' : Option Nat} {ao' : Option Addr} {cap' : Nat} {xs : List Value} (hrow : Row w2 63 5 (.slice ao' (T0.length + 1) cap') r' (T0.length + 1) xs) (hxs : xs = (T0 ++ [(⟨kd, t, v, line, a - begun + 1⟩ : Tok)]).flatMap tokC) (hch : Chg (w.heap.size :: r.toList) wr w2) (hf : Fresh wr r r') :
    NewT w (scanD L 1 1) (.returned (.tuple #[.slice ao' (T0.length + 1) cap', .agg #[.int .i64 0, .int .i64 0, .int .i64 0]])) w2 := by
  subst hkd
  have e1 := h.eq
  have h2 : t = [] ∧ v = 0 := by
    rcases act1_tok h1 with ⟨_, _, h3, h4, _⟩ | ⟨_, _, h3, _⟩
    · exact ⟨h3, h4⟩
    · omega
  obtain ⟨rfl, rfl⟩ := h2
  rw [scanD_eq (L.drop a), h1] at e1
  simp only [if_true] at e1
  have hsz := h.chg.size
  refine newT_any (ts := T0 ++ [⟨7, [], 0, line, a - begun + 1⟩]) (by rw [e1]) (by simp) hrow hxs (fun g hg => .inr (by rcases hf g hg with h3 | h3; have := h.fr g h3; omega; omega)) (h.chg.trans hch (fun x hx => by
    rcases List.mem_cons.1 hx with h3 | h3
    · exact .inr (by omega)
    · exact .inr (by have := h.fr x (by simpa using h3); omega))) (by rw [e1]; rfl) (by rw [e1]; rfl) (by rw [e1]; rfl)
end

theorem tokAt_line {d t : List UInt8} {v : Int} {n : Nat} (h : tokAt d = (0, 6, t, v, n)) : n = 1 := by
  cases d with
  | nil => simp [tokAt] at h
  | cons c r =>
    simp only [tokAt] at h
    split at h
    · simp at h
    split at h
    · split at h <;> simp at h
    split at h
    · simp at h
    split at h
    · simp at h
    split at h
    · simp at h
    split at h
    · simp at h; exact h.2.2.symm
    · simp at h
section
variable {s : ByteArray} (hs : s.size ≤ 1048576) (L : List UInt8) (hL : Hid (s.data.toList = L))
include hs hL

set_option maxHeartbeats 4000000 in
set_option maxRecDepth 100000 in
theorem r_part_calls (w : World) : Calls Tryz.prog 30 #[.string s] w (NewT w (scanD L 1 1)) := by
  have HLN := hid (len_of hL)
  have hget : ∀ k (hk : k < s.size) (hk2 : k < L.length), s[k] = L[k] := fun k hk hk2 => by
    have := hL.out
    subst this
    rfl
  have HG := hid hget
  clear hget
  have hz : Chg [] w (w.alloc (.cells #[.int .i64 0, .int .i64 0, .int .i64 0] 30)) := (Chg.refl [] w).alloc _
  go_enter Tryz.func30, Tryz.ntmps30
  go_wp2_with fail
  go_loopg [4, 5, 6, 7] (s.size + 1) (fun gk vo va vl vb wr => ∃ a line begun T0 r ao cap, PAt w s L gk wr a line begun T0 r ao cap ∧ vo = .slice ao T0.length cap ∧ va = .int .i64 a ∧ vl = .int .i64 line ∧ vb = .int .i64 begun)
  case atStart => exact ⟨0, 1, 0, [], none, none, 0, ⟨by omega, by omega, by omega, by omega, Row.nil _ _ _, by simp, hz, (fun g hg => by cases hg), heap_alloc_new w _⟩, rfl, rfl, rfl, rfl⟩
  case round =>
    obtain ⟨a, line, begun, T0, r, ao, cap, hA, rfl, rfl, rfl, rfl⟩ := hrel
    have hle := hA.le
    have HX := hid hA
    have HK := hid (r_skipped_calls wr (by omega) L hL a hle)
    clear hA
    go_wp2_with (go_at_call 57; refine HK.out.mono ?_; rintro e w2 ⟨k, rfl, hk1, hk2, HS, HP, rfl⟩)
    obtain ⟨wo, rfl⟩ : ∃ wo : World, wo = wr := ⟨_, rfl⟩
    go_loop [6, 7, 9] (fun l b i => l = .int .i64 line ∧ b = .int .i64 begun ∧ ∃ j : Nat, a ≤ j ∧ j ≤ k ∧ i = .int .i64 j) (fun _ _ i => k - (intOf i).toNat)
    case atStart => exact ⟨rfl, rfl, a, Nat.le_refl _, hk1, rfl⟩
    case round =>
      obtain ⟨rfl, rfl, j, hj1, hj2, rfl⟩ := hrel
      by_cases hlt : j < k
      · have hjs : j < s.size := by omega
        have hjL : j < L.length := by rw [HLN.out]; exact hjs
        have h10 : s[j].toNat ≠ 10 := by rw [HG.out j hjs hjL]; exact HS.out.2 j hjL hj1 hlt
        have g1 : ((s[j].toNat : Int) == 10) = false := by simp; omega
        clear h10
        go_wp2
        go_round
        case rel => exact ⟨rfl, rfl, j + 1, by omega, by omega, by go_num⟩
        case measure => simp [intOf]; omega
      · have hA := HX.out.skip HS.out hk1 hk2
        have HA := hid hA
        have hrow := hA.row
        have hres := hA.res
        have hsz := hA.chg.size
        have hrs := blk_lt hA.res
        have hlen := hA.len HLN.out
        have hbe := hA.be
        have hln := hA.ln
        have hX := act1_x hL hk2
        have hTk := fun W => r_token_calls (by omega) L hL W hk2
        clear hA hj1 HK
        cases h1 : act1 (L.drop k) with
        | pass n => exact absurd h1 (HP.out n)
        | fault e =>
          rw [h1] at hX
          obtain ⟨_, _, he, htk⟩ := hX
          have HT := hid (fun W => (hTk W).mono (fun e' w' (hp : RTok W (L.drop k) e' w') => by unfold RTok at hp; rw [htk, if_pos he] at hp; exact hp))
          have g5 : ((e : Int) != 0) = true := by simp; omega
          have g6 : ((e : Int) == 0) = false := by simp; omega
          have HE := hid h1
          have HRS := hid hres
          have HRW := hid hrow
          clear htk he h1 hTk hres hrow HP HX HS
          go_wp2_with (go_at_call 58; refine (HT.out _).mono ?_; rintro e w2 ⟨rfl, hc2⟩; unfold zeroTok; have hrs2 := hc2.heap HRS.out (by simp); have z0 := fun o => (blk_cell (blk_alloc_old hrs2 o) 0).trans rfl; have z1 := fun o => (blk_cell (blk_alloc_old hrs2 o) 1).trans rfl; have z2 := fun o => (blk_cell (blk_alloc_old hrs2 o) 2).trans rfl; have zf := fun o i => blk_free (blk_alloc_old hrs2 o) i)
          have hc2n : Chg [w.heap.size] wo w2 := hc2.nil
          go_region
          go_wp2
          exact bodyPost_ret (v := .tuple #[.slice ao T0.length cap, .agg #[.int .i64 e, .int .i64 line, .int .i64 ((k : Int) - (begun : Int) + 1)]]) (by simp [results, Tryz.results30, go_sem, z0, z1, z2]) rfl (HA.out.fault HE.out (by repeat (first | with_reducible exact Chg.refl _ _ | with_reducible exact hc2n | with_reducible refine Chg.setCell ?_ (by first | exact .inr (Nat.le_refl _) | (refine .inr ?_; first | omega | (simp; done) | (simp; omega)) | (refine .inl ?_; simp; done)) _ | with_reducible refine Chg.drewN ?_ _ | with_reducible refine Chg.drew ?_ | with_reducible refine Chg.alloc ?_ _)) rfl rfl rfl)
        | tok kd t v n =>
          rw [h1] at hX
          obtain ⟨_, _, htk⟩ := hX
          have HT := hid (fun W => (hTk W).mono (fun e' w' (hp : RTok W (L.drop k) e' w') => by unfold RTok at hp; rw [htk, if_neg (by simp)] at hp; exact hp))
          have HE := hid h1
          have HRS := hid hres
          have HRW := hid hrow
          have HTK := hid htk
          clear htk h1 hTk hres hrow HP HX HS
          have hk3 : (((kd : Int) == 7) = true ∧ kd = 7) ∨ (((kd : Int) == 7) = false ∧ ((kd : Int) == 6) = true ∧ kd ≠ 7 ∧ kd = 6) ∨ (((kd : Int) == 7) = false ∧ ((kd : Int) == 6) = false ∧ kd ≠ 7 ∧ kd ≠ 6) := by
            simp only [beq_iff_eq, beq_eq_false_iff_ne]
            omega
          have hxs : (T0.flatMap tokC ++ [.int .i64 kd, .string ⟨t.toArray⟩, .int .i64 v, .int .i64 line, .int .i64 ((k : Int) - (begun : Int) + 1)]) = (T0 ++ [(⟨kd, t, v, line, k - begun + 1⟩ : Tok)]).flatMap tokC := by
            simp [tokC]; omega
          have HXS := hid hxs
          clear hxs
          rcases hk3 with ⟨q1, q2⟩ | ⟨q1, q2, q3, q4⟩ | ⟨q1, q2, q3, q4⟩
          · have HQ := hid q2
            clear q2
            go_wp2_with (first
              | (go_at_call 58; refine (HT.out _).mono ?_; rintro e w2 ⟨rfl, hc2⟩; unfold tokV)
              | (at_builtin; refine halt (fun X hX => ?_)))
            rw [hX.out]; clear hX
            have hv := View.struct (k := 5) (w2.alloc (.cells #[.int .i64 kd, .string ⟨t.toArray⟩, .int .i64 v, .int .i64 line, .int .i64 ((k : Int) - (begun : Int) + 1)] 63)) [.int .i64 kd, .string ⟨t.toArray⟩, .int .i64 v, .int .i64 line, .int .i64 ((k : Int) - (begun : Int) + 1)] 63 rfl
            rw [show (w2.alloc (.cells #[.int .i64 kd, .string ⟨t.toArray⟩, .int .i64 v, .int .i64 line, .int .i64 ((k : Int) - (begun : Int) + 1)] 63)).heap.size = w2.heap.size + 1 from by simp] at hv
            have hc22 : Chg [] wo ((w2.alloc (.cells #[.int .i64 kd, .string ⟨t.toArray⟩, .int .i64 v, .int .i64 line, .int .i64 ((k : Int) - (begun : Int) + 1)] 63)).alloc (.cells #[.int .i64 kd, .string ⟨t.toArray⟩, .int .i64 v, .int .i64 line, .int .i64 ((k : Int) - (begun : Int) + 1)] 63)) := (hc2.alloc _).alloc _
            refine wpList_grew rfl _ _ 55 rfl elem_tok rfl (HRW.out.keep hc22 (by simp)) rfl hv (by simp [Value.oneCell']) (by unfold maxLen; omega) (by omega) (fun ao' cap' r' w3 hr3 hg3 => ?_)
            have hz2 := hc2.size
            have hnr : ∀ b', wo.heap.size ≤ b' ∨ b' = w.heap.size → b' ∉ r.toList := by
              intro b' hb' hm
              have h4 : r = some b' := by simpa using hm
              have := HA.out.fr b' h4
              have := HRW.out.lt b' h4
              omega
            have hg3c := hg3.chg
            have yt : w3.heap[w2.heap.size]? = some (.cells #[.int .i64 kd, .string ⟨t.toArray⟩, .int .i64 v, .int .i64 line, .int .i64 ((k : Int) - (begun : Int) + 1)] 63 (0, 0)) := hg3c.heap (blk_alloc_old (heap_alloc_new w2 _) _) (hnr _ (.inl hz2))
            have yk : w3.cell? ⟨w2.heap.size, 0, none⟩ = some (.int .i64 (kd : Nat)) := (blk_cell yt 0).trans rfl
            have hC3 : Chg r.toList wo w3 := hc22.nil.trans' hg3c
            have hF3 : Fresh wo r r' := hg3.fresh.mono hc22.size
            have hres3 : w3.heap[w.heap.size]? = some (.cells #[.int .i64 0, .int .i64 0, .int .i64 0] 30 (0, 0)) := hC3.heap HRS.out (hnr _ (.inr rfl))
            have z0 := (blk_cell hres3 0).trans rfl
            have z1 := (blk_cell hres3 1).trans rfl
            have z2 := (blk_cell hres3 2).trans rfl
            have zf := fun i => blk_free hres3 i
            have hC3' : Chg (w.heap.size :: r.toList) wo w3 := hC3.mono (fun x hx => .inl (List.mem_cons_of_mem _ hx))
            have HRR := hid (And.intro hr3 (And.intro hC3' hF3))
            clear hv hc22 hnr hg3c yt hC3 hF3 hr3 hg3 hC3' hres3
            go_wp2
            exact bodyPost_ret (v := .tuple #[.slice ao' (T0.length + 1) cap', .agg #[.int .i64 0, .int .i64 0, .int .i64 0]]) (by simp [results, Tryz.results30, go_sem, z0, z1, z2]) rfl (by
              have hX := HRR.out
              have hset := (((Chg.refl [w.heap.size] w3).setCell (p := ⟨w.heap.size, 0, none⟩) (.inl (by simp)) (.int .i64 0)).setCell (p := ⟨w.heap.size, 1, none⟩) (.inl (by simp)) (.int .i64 0)).setCell (p := ⟨w.heap.size, 2, none⟩) (.inl (by simp)) (.int .i64 0)
              exact HA.out.stop HQ.out HE.out (hX.1.keep hset (fun g hg hm => by rcases hX.2.2 g hg with h3 | h3; have := HA.out.fr g h3; simp at hm; omega; simp at hm; omega)) HXS.out (hX.2.1.trans hset (fun x hx => .inl (by simp at hx; simp [hx]))) hX.2.2)
          · have HQ := hid q4
            have HQ7 := hid q3
            clear q3 q4
            go_wp2_with (first
              | (go_at_call 58; refine (HT.out _).mono ?_; rintro e w2 ⟨rfl, hc2⟩; unfold tokV)
              | (at_builtin; refine halt (fun X hX => ?_)))
            rw [hX.out]; clear hX
            have hv := View.struct (k := 5) (w2.alloc (.cells #[.int .i64 kd, .string ⟨t.toArray⟩, .int .i64 v, .int .i64 line, .int .i64 ((k : Int) - (begun : Int) + 1)] 63)) [.int .i64 kd, .string ⟨t.toArray⟩, .int .i64 v, .int .i64 line, .int .i64 ((k : Int) - (begun : Int) + 1)] 63 rfl
            rw [show (w2.alloc (.cells #[.int .i64 kd, .string ⟨t.toArray⟩, .int .i64 v, .int .i64 line, .int .i64 ((k : Int) - (begun : Int) + 1)] 63)).heap.size = w2.heap.size + 1 from by simp] at hv
            have hc22 : Chg [] wo ((w2.alloc (.cells #[.int .i64 kd, .string ⟨t.toArray⟩, .int .i64 v, .int .i64 line, .int .i64 ((k : Int) - (begun : Int) + 1)] 63)).alloc (.cells #[.int .i64 kd, .string ⟨t.toArray⟩, .int .i64 v, .int .i64 line, .int .i64 ((k : Int) - (begun : Int) + 1)] 63)) := (hc2.alloc _).alloc _
            refine wpList_grew rfl _ _ 55 rfl elem_tok rfl (HRW.out.keep hc22 (by simp)) rfl hv (by simp [Value.oneCell']) (by unfold maxLen; omega) (by omega) (fun ao' cap' r' w3 hr3 hg3 => ?_)
            have hz2 := hc2.size
            have hnr : ∀ b', wo.heap.size ≤ b' ∨ b' = w.heap.size → b' ∉ r.toList := by
              intro b' hb' hm
              have h4 : r = some b' := by simpa using hm
              have := HA.out.fr b' h4
              have := HRW.out.lt b' h4
              omega
            have hg3c := hg3.chg
            have yt : w3.heap[w2.heap.size]? = some (.cells #[.int .i64 kd, .string ⟨t.toArray⟩, .int .i64 v, .int .i64 line, .int .i64 ((k : Int) - (begun : Int) + 1)] 63 (0, 0)) := hg3c.heap (blk_alloc_old (heap_alloc_new w2 _) _) (hnr _ (.inl hz2))
            have yk : w3.cell? ⟨w2.heap.size, 0, none⟩ = some (.int .i64 (kd : Nat)) := (blk_cell yt 0).trans rfl
            have hC3 : Chg r.toList wo w3 := hc22.nil.trans' hg3c
            have hF3 : Fresh wo r r' := hg3.fresh.mono hc22.size
            have hn1 : n = 1 := by have := HTK.out; rw [HQ.out] at this; exact tokAt_line this
            have HN := hid (HA.out.tok HLN.out HE.out HQ7.out (.inl ⟨HQ.out, rfl, show k + 1 = k + n by rw [hn1]⟩) hr3 HXS.out hC3 hF3)
            have hnb : n ≤ 1 := by omega
            clear hn1
            clear hv hc22 hnr hg3c yt hC3 hF3 hr3 hg3
            go_wp2
            go_roundg (gk - (k - a) - n)
            case measure => have := HN.out.2; omega
            case rel => exact ⟨k + n, line + 1, k + 1, _, r', ao', cap', HN.out.1, by simp, by go_num, by go_num, by go_num⟩
          · have HQ := hid q4
            have HQ7 := hid q3
            clear q3 q4
            go_wp2_with (first
              | (go_at_call 58; refine (HT.out _).mono ?_; rintro e w2 ⟨rfl, hc2⟩; unfold tokV)
              | (at_builtin; refine halt (fun X hX => ?_)))
            rw [hX.out]; clear hX
            have hv := View.struct (k := 5) (w2.alloc (.cells #[.int .i64 kd, .string ⟨t.toArray⟩, .int .i64 v, .int .i64 line, .int .i64 ((k : Int) - (begun : Int) + 1)] 63)) [.int .i64 kd, .string ⟨t.toArray⟩, .int .i64 v, .int .i64 line, .int .i64 ((k : Int) - (begun : Int) + 1)] 63 rfl
            rw [show (w2.alloc (.cells #[.int .i64 kd, .string ⟨t.toArray⟩, .int .i64 v, .int .i64 line, .int .i64 ((k : Int) - (begun : Int) + 1)] 63)).heap.size = w2.heap.size + 1 from by simp] at hv
            have hc22 : Chg [] wo ((w2.alloc (.cells #[.int .i64 kd, .string ⟨t.toArray⟩, .int .i64 v, .int .i64 line, .int .i64 ((k : Int) - (begun : Int) + 1)] 63)).alloc (.cells #[.int .i64 kd, .string ⟨t.toArray⟩, .int .i64 v, .int .i64 line, .int .i64 ((k : Int) - (begun : Int) + 1)] 63)) := (hc2.alloc _).alloc _
            refine wpList_grew rfl _ _ 55 rfl elem_tok rfl (HRW.out.keep hc22 (by simp)) rfl hv (by simp [Value.oneCell']) (by unfold maxLen; omega) (by omega) (fun ao' cap' r' w3 hr3 hg3 => ?_)
            have hz2 := hc2.size
            have hnr : ∀ b', wo.heap.size ≤ b' ∨ b' = w.heap.size → b' ∉ r.toList := by
              intro b' hb' hm
              have h4 : r = some b' := by simpa using hm
              have := HA.out.fr b' h4
              have := HRW.out.lt b' h4
              omega
            have hg3c := hg3.chg
            have yt : w3.heap[w2.heap.size]? = some (.cells #[.int .i64 kd, .string ⟨t.toArray⟩, .int .i64 v, .int .i64 line, .int .i64 ((k : Int) - (begun : Int) + 1)] 63 (0, 0)) := hg3c.heap (blk_alloc_old (heap_alloc_new w2 _) _) (hnr _ (.inl hz2))
            have yk : w3.cell? ⟨w2.heap.size, 0, none⟩ = some (.int .i64 (kd : Nat)) := (blk_cell yt 0).trans rfl
            have hC3 : Chg r.toList wo w3 := hc22.nil.trans' hg3c
            have hF3 : Fresh wo r r' := hg3.fresh.mono hc22.size
            have HN := hid (HA.out.tok HLN.out HE.out HQ7.out (.inr ⟨HQ.out, rfl, rfl⟩) hr3 HXS.out hC3 hF3)
            have hnb : n ≤ 1048577 := by have := HN.out.2; have := HA.out.gh; omega
            clear hv hc22 hnr hg3c yt hC3 hF3 hr3 hg3
            go_wp2
            go_roundg (gk - (k - a) - n)
            case measure => have := HN.out.2; omega
            case rel => exact ⟨k + n, line, begun, _, r', ao', cap', HN.out.1, by simp, by go_num, rfl, rfl⟩
end
end Go.Proofs.YtmahcabidggmeaaGreatDoor

/- Walks of the lexer's reference: Tokens. -/
namespace Go.Proofs.YtmahcabidggmeaaGreatDoor
open Go.RowKit Go.AB
set_option linter.unusedSimpArgs false
set_option linter.unusedVariables false
set_option linter.unusedSectionVars false

theorem NewT.push {w w' w2 : World} {p : List Tok × (Nat × Nat × Nat)} {ts : List Tok} {cap : Nat} {r : Option Nat} {ao : Option Addr} (h : Row w' 63 5 (.slice ao ts.length cap) r ts.length (ts.flatMap tokC)) (hf : Fresh (w.alloc (.cells #[.int .i64 0, .int .i64 0, .int .i64 0] 30)) none r) (hc : Chg [] (w.alloc (.cells #[.int .i64 0, .int .i64 0, .int .i64 0] 30)) w')
    (h2 : Chg [w.heap.size] w' w2) {f0 f1 f2 : Nat} (hp : p = (ts, (f0, f1, f2))) {X Y Z : Int} (hX : X = f0) (hY : Y = f1) (hZ : Z = f2) : NewT w p (.returned (.tuple #[.slice ao ts.length cap, .agg #[.int .i64 X, .int .i64 Y, .int .i64 Z]])) w2 := by
  subst hp hX hY hZ
  have hfr : ∀ g, r = some g → w.heap.size + 1 ≤ g := fun g hg => by have := (hf g hg).resolve_left (by simp); simpa using this
  exact ⟨ts, ao, cap, r, rfl, h.keep h2 (fun g hg hm => by have := hfr g hg; simp at hm; omega), fun g hg => .inr (by have := hfr g hg; omega), (((Chg.refl [] w).alloc _).trans' hc).trans h2 (fun x hx => .inr (by simp at hx; omega)), hid rfl⟩
theorem NewT.none {w w' w2 : World} {p : List Tok × (Nat × Nat × Nat)} (hc : Chg [] (w.alloc (.cells #[.int .i64 0, .int .i64 0, .int .i64 0] 30)) w')
    (h2 : Chg [w.heap.size] w' w2) {f0 f1 f2 : Nat} (hp : p = ([], (f0, f1, f2))) {X Y Z : Int} (hX : X = f0) (hY : Y = f1) (hZ : Z = f2) : NewT w p (.returned (.tuple #[.slice none 0 0, .agg #[.int .i64 X, .int .i64 Y, .int .i64 Z]])) w2 := by
  subst hp hX hY hZ
  exact ⟨[], .none, 0, .none, rfl, Row.nil _ _ _, Fresh.refl _ _, (((Chg.refl [] w).alloc _).trans' hc).trans h2 (fun x hx => .inr (by simp at hx; omega)), hid rfl⟩

set_option maxHeartbeats 2000000 in
set_option maxRecDepth 100000 in
theorem r_tokens_calls {s : ByteArray} (w : World) (hs : s.size ≤ 1048576) (L : List UInt8) (hL : Hid (s.data.toList = L)) : Calls Tryz.prog 15 #[.string s] w (NewT w (tokensB L)) := by
  have HE := hid (r_part_calls hs L hL)
  have h0 := scanD_fault0 L
  obtain ⟨ts, p0, p1, p2, hp⟩ : ∃ ts p0 p1 p2, scanD L 1 1 = (ts, (p0, p1, p2)) := ⟨_, _, _, _, rfl⟩
  have hT : tokensB L = if p0 = 0 then (ts, (0, 0, 0)) else ([], (p0, p1, p2)) := by unfold tokensB; rw [hp]
  rw [hp] at HE h0
  have hres0 := blk_alloc_new w (.cells #[.int .i64 0, .int .i64 0, .int .i64 0] 30)
  by_cases hz : p0 = 0
  · rw [if_pos hz] at hT
    have h1 := h0 hz
    simp only [Prod.mk.injEq] at h1
    obtain ⟨rfl, rfl, rfl⟩ := h1
    have HT := hid hT
    clear hT hz h0 hp
    go_enter Tryz.func15, Tryz.ntmps15
    go_wp2_with (go_at_call 30; refine (HE.out _).mono ?_; rintro e w2 ⟨ts2, ao, cap, r, rfl, hr2, hf2, hc2, HL⟩; refine halt (fun X hX => ?_))
    rw [hX.out]; clear hX
    have hts : ts2 = ts := HL.out
    subst hts
    have hres := hc2.heap hres0 (by simp)
    have hsz := blk_lt hres
    have z0 := fun o => (blk_cell (blk_alloc_old hres o) 0).trans rfl
    have z1 := fun o => (blk_cell (blk_alloc_old hres o) 1).trans rfl
    have z2 := fun o => (blk_cell (blk_alloc_old hres o) 2).trans rfl
    have zf := fun o i => blk_free (blk_alloc_old hres o) i
    have hc2n : Chg [w.heap.size] w2 w2 := Chg.refl _ _
    clear hres hsz HL
    go_wp2
    go_region
    go_wp2
    exact bodyPost_ret (v := .tuple #[.slice ao ts2.length cap, .agg #[.int .i64 0, .int .i64 0, .int .i64 0]]) (by simp [results, Tryz.results15, go_sem, z0, z1, z2]) rfl (NewT.push hr2 hf2 hc2 (by repeat (first | with_reducible exact Chg.refl _ _ | with_reducible exact hc2n | with_reducible refine Chg.setCell ?_ (by first | exact .inr (Nat.le_refl _) | (refine .inr ?_; first | omega | (simp; done) | (simp; omega)) | (refine .inl ?_; simp; done)) _ | with_reducible refine Chg.drewN ?_ _ | with_reducible refine Chg.drew ?_ | with_reducible refine Chg.alloc ?_ _)) HT.out rfl rfl rfl)
  · rw [if_neg hz] at hT
    have HT := hid hT
    have g1 : ((p0 : Int) != 0) = true := by simp; omega
    have g2 : ((p0 : Int) == 0) = false := by simp; omega
    clear hT hz h0 hp
    go_enter Tryz.func15, Tryz.ntmps15
    go_wp2_with (go_at_call 30; refine (HE.out _).mono ?_; rintro e w2 ⟨ts2, ao, cap, r, rfl, hr2, hf2, hc2, HL⟩; refine halt (fun X hX => ?_))
    rw [hX.out]; clear hX
    have hres := hc2.heap hres0 (by simp)
    have z0 := fun o => (blk_cell (blk_alloc_old hres o) 0).trans rfl
    have z1 := fun o => (blk_cell (blk_alloc_old hres o) 1).trans rfl
    have z2 := fun o => (blk_cell (blk_alloc_old hres o) 2).trans rfl
    have zf := fun o i => blk_free (blk_alloc_old hres o) i
    have hc2n : Chg [w.heap.size] w2 w2 := Chg.refl _ _
    clear hres HL
    go_wp2
    go_region
    go_wp2
    exact bodyPost_ret (v := .tuple #[.slice none 0 0, .agg #[.int .i64 p0, .int .i64 p1, .int .i64 p2]]) (by simp [results, Tryz.results15, go_sem, z0, z1, z2]) rfl (NewT.none hc2 (by repeat (first | with_reducible exact Chg.refl _ _ | with_reducible exact hc2n | with_reducible refine Chg.setCell ?_ (by first | exact .inr (Nat.le_refl _) | (refine .inr ?_; first | omega | (simp; done) | (simp; omega)) | (refine .inl ?_; simp; done)) _ | with_reducible refine Chg.drewN ?_ _ | with_reducible refine Chg.drew ?_ | with_reducible refine Chg.alloc ?_ _)) HT.out rfl rfl rfl)
end Go.Proofs.YtmahcabidggmeaaGreatDoor
