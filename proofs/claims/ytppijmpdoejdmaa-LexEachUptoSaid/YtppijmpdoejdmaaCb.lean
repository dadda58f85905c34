/- Walks of the lexer's reference: the number that stands at a place. -/
import Derived.Test.YtppijmpdoejdmaaCa
namespace Go.Proofs.Ytppijmpdoejdmaa
open Go.RowKit Go.AB
set_option linter.unusedSimpArgs false
set_option linter.unusedVariables false
set_option linter.unusedSectionVars false

theorem hexNat_16 (l : List UInt8) (h : l.length ≤ 15) : hexNat l ≤ 1152921504606846975 := by
  have h1 := foldl_hex l 0
  have h2 : 16 ^ l.length ≤ 16 ^ 15 := Nat.pow_le_pow_right (by decide) h
  unfold hexNat
  omega
theorem hexVal_le (c : UInt8) : (hexVal c).getD 0 ≤ 15 := by
  unfold hexVal isDigit
  split
  · rename_i h; simp at h ⊢; omega
  · split
    · simp; omega
    · split
      · simp; omega
      · simp
/-- The hexadecimal number behind 0x. -/
def RHex (w : World) (d : List UInt8) (e : Ending) (w' : World) : Prop :=
  (if runLen isHex d ≤ 16 then e = .returned (.tuple #[.int .i64 (asI64 (hexNat (d.take (runLen isHex d)))), .int .i64 ((runLen isHex d + 2 : Nat) : Int), .bool (decide (0 < runLen isHex d))])
   else e = .returned (.tuple #[.int .i64 0, .int .i64 0, .bool false])) ∧ w = w'
theorem rhex_yes {w : World} {d : List UInt8} {n V : Nat} (hn : runLen isHex d = n) (hV : V = hexNat (d.take n)) (h16 : n ≤ 16) {X Y : Int} {z : Bool} (hX : X = wrap64 (V : Int)) (hY : Y = ((n + 2 : Nat) : Int)) (hz : z = decide (0 < n)) :
    RHex w d (.returned (.tuple #[.int .i64 X, .int .i64 Y, .bool z])) w := by
  subst hn hX hY hz
  refine ⟨?_, rfl⟩
  rw [if_pos h16, asI64_wrap _ (by rw [hV]; exact hexNat_lt _ (by rw [List.length_take]; omega)), hV]
theorem rhex_no {w : World} {d : List UInt8} (h : 16 < runLen isHex d) : RHex w d (.returned (.tuple #[.int .i64 0, .int .i64 0, .bool false])) w :=
  ⟨by rw [if_neg (by omega)], rfl⟩

set_option maxHeartbeats 2000000 in
set_option maxRecDepth 100000 in
theorem r_hexed_calls {s : ByteArray} (w : World) (hs : s.size ≤ 4294967296) (L : List UInt8) (hL : Hid (s.data.toList = L)) (a : Nat) (ha : a + 2 ≤ s.size) :
    Calls Try.prog 43 #[.string s, .int .i64 a] w (RHex w (L.drop (a + 2))) := by
  have HLN := hid (len_of hL)
  go_enter Try.func43, Try.ntmps43
  go_wp2
  go_loop [7, 8] (fun v i => ∃ k V : Nat, a + 2 + k ≤ s.size ∧ k ≤ 16 ∧ i = .int .i64 k ∧ v = .int .u64 V ∧ Hid (V = hexNat ((L.drop (a + 2)).take k)) ∧ Hid (runLen isHex (L.drop (a + 2)) = k + runLen isHex (L.drop (a + 2 + k))))
    (fun _ i => s.size - (intOf i).toNat)
  case atStart => exact ⟨0, 0, ha, by omega, rfl, rfl, hid (by simp [hexNat]), hid (by simp)⟩
  case round =>
    obtain ⟨k, V, hk1, hk, rfl, rfl, HV, HR⟩ := hrel
    by_cases hlt : a + 2 + k < s.size
    · have hd := drop_cons_of hL hlt
      have hr := HR.out
      rw [hd, runLen] at hr
      have j1 : (a : Int) + 2 + (k : Int) < (s.size : Int) := by omega
      have j2 : (0 : Int) ≤ (a : Int) + 2 + (k : Int) := by omega
      have hc := r_hex_calls s[a + 2 + k] w
      rcases Bool.eq_false_or_eq_true (isHex s[a + 2 + k]) with c1 | c1
      · rw [c1] at hr
        rw [hexI_yes c1] at hc
        have hts := take_step hL (j := a + 2) (k := a + 2 + k) (by omega) hlt
        have hsn := hexNat_snoc ((L.drop (a + 2)).take k) s[a + 2 + k]
        rw [show a + 2 + k + 1 - (a + 2) = k + 1 from by omega, show a + 2 + k - (a + 2) = k from by omega] at hts
        rw [← hts] at hsn
        have hle := hexVal_le s[a + 2 + k]
        by_cases h16 : k < 16
        · have hV : V ≤ 1152921504606846975 := by rw [HV.out]; exact hexNat_16 _ (by rw [List.length_take]; omega)
          obtain ⟨dv, hdv⟩ : ∃ dv, (hexVal s[a + 2 + k]).getD 0 = dv := ⟨_, rfl⟩
          rw [hdv] at hc hsn hle
          have HC := hid hc
          have HR2 := hid hr
          have HSN := hid hsn
          have g1 : ((k : Int) == 16) = false := by simp; omega
          clear hd hr hts hc hsn HR c1 hdv
          go_wp2_with (go_at_call 47; refine HC.out.mono ?_; rintro e w' ⟨rfl, rfl⟩)
          go_round
          case rel => exact ⟨k + 1, 16 * V + dv, by omega, by omega, by go_num, congrArg (Value.int .u64) (by omega), hid (by rw [HSN.out, HV.out]), hid (by rw [HR2.out, if_pos trivial, show a + 2 + (k + 1) = a + 2 + k + 1 from by omega]; omega)⟩
          case measure => simp [intOf]; omega
        · have g1 : ((k : Int) == 16) = true := by simp; omega
          obtain ⟨dv, hdv⟩ : ∃ dv, (hexVal s[a + 2 + k]).getD 0 = dv := ⟨_, rfl⟩
          rw [hdv] at hc hle
          have HC := hid hc
          have HN := hid (show 16 < runLen isHex (L.drop (a + 2)) by rw [hr, if_pos rfl]; omega)
          clear hd hr hts hc hsn HR c1 hdv h16
          go_wp2_with (go_at_call 47; refine HC.out.mono ?_; rintro e w' ⟨rfl, rfl⟩)
          go_ret3
          exact rhex_no HN.out
      · rw [c1] at hr
        rw [hexI_no c1] at hc
        have HC := hid hc
        have HR2 := hid hr
        clear hd hr hc HR c1
        go_wp2_with (go_at_call 47; refine HC.out.mono ?_; rintro e w' ⟨rfl, rfl⟩)
        all_goals go_ret3
        all_goals exact rhex_yes (n := k) (by have := HR2.out; simpa [runLen] using this) HV.out hk rfl (by omega) (by first | rfl | (rw [Bool.eq_iff_iff]; simp))
    · have hd : L.drop (a + 2 + k) = [] := List.drop_of_length_le (by rw [HLN.out]; omega)
      have hr := HR.out
      rw [hd] at hr
      have HR2 := hid hr
      clear hd hr HR
      go_wp2
      all_goals go_ret3
      all_goals exact rhex_yes (n := k) (by have := HR2.out; simpa [runLen] using this) HV.out hk rfl (by omega) (by first | rfl | (rw [Bool.eq_iff_iff]; simp))

/-- The decimal number at a place, with or without a sign. -/
def RDec (w : World) (neg : Bool) (n0 : Nat) (d : List UInt8) (e : Ending) (w' : World) : Prop :=
  (if decV d ≤ (if neg then 9223372036854775808 else 9223372036854775807) then e = .returned (.tuple #[.int .i64 (if neg then -(decV d : Int) else (decV d : Int)), .int .i64 ((runLen isDigit d + n0 : Nat) : Int), .bool true])
   else e = .returned (.tuple #[.int .i64 0, .int .i64 0, .bool false])) ∧ w = w'
theorem rdec_yes {w : World} {neg : Bool} {n0 n V : Nat} {d : List UInt8} (hn : runLen isDigit d = n) (hV : V = decNat (d.take n)) (hle : V ≤ (if neg then 9223372036854775808 else 9223372036854775807)) {X Y : Int} (hX : X = if neg then -(V : Int) else (V : Int)) (hY : Y = ((n + n0 : Nat) : Int)) :
    RDec w neg n0 d (.returned (.tuple #[.int .i64 X, .int .i64 Y, .bool true])) w := by
  subst hn hV hX hY
  refine ⟨?_, rfl⟩
  rw [if_pos (by unfold decV; exact hle)]
  rfl
theorem rdec_no {w : World} {neg : Bool} {n0 n V : Nat} {d : List UInt8} (hn : n ≤ runLen isDigit d) (hV : V = decNat (d.take n)) (hgt : (if neg then 9223372036854775808 else 9223372036854775807) < V) :
    RDec w neg n0 d (.returned (.tuple #[.int .i64 0, .int .i64 0, .bool false])) w := by
  refine ⟨?_, rfl⟩
  have h1 := decNat_mono (d.take n) ((d.take (runLen isDigit d)).drop n)
  have h2 : d.take n ++ (d.take (runLen isDigit d)).drop n = d.take (runLen isDigit d) := by
    have : d.take n = (d.take (runLen isDigit d)).take n := by rw [List.take_take, Nat.min_eq_left hn]
    rw [this, List.take_append_drop]
  rw [h2, ← hV] at h1
  rw [if_neg (by unfold decV; omega)]

theorem tdiv_low (x : Int) (V : Nat) (h1 : 48 ≤ x) (h2 : x ≤ 57) : decide (-(V : Int) < (-9223372036854775808 + (x - 48)).tdiv 10) = decide (9223372036854775808 < 10 * (V : Int) + (x - 48)) := by
  have h3 : (-9223372036854775808 + (x - 48)).tdiv 10 = -((9223372036854775808 - (x - 48)) / 10) := by
    rw [show -9223372036854775808 + (x - 48) = -(9223372036854775808 - (x - 48)) from by omega, Int.neg_tdiv, Int.tdiv_eq_ediv_of_nonneg (by omega)]
  rw [h3]
  congr 1
  apply propext
  omega

set_option maxHeartbeats 2000000 in
set_option maxRecDepth 100000 in
theorem r_tens_neg {s : ByteArray} (w : World) (hs : s.size ≤ 4294967296) (L : List UInt8) (hL : Hid (s.data.toList = L)) (a : Nat) (ha : a < s.size) (hneg : (s[a].toNat : Int) = 45) :
    Calls Try.prog 44 #[.string s, .int .i64 a] w (RDec w true 1 (L.drop (a + 1))) := by
  have HLN := hid (len_of hL)
  have hb : ((s[a].toNat : Int) == 45) = true := by simpa using hneg
  clear hneg
  go_enter Try.func44, Try.ntmps44
  go_wp2
  go_loop [8, 9, 10] (fun i v _ => ∃ k V : Nat, a + 1 + k ≤ s.size ∧ i = .int .i64 ((k : Int) + 1) ∧ v = .int .i64 (-(V : Int)) ∧ V ≤ 9223372036854775808 ∧ Hid (V = decNat ((L.drop (a + 1)).take k)) ∧ Hid (runLen isDigit (L.drop (a + 1)) = k + runLen isDigit (L.drop (a + 1 + k))))
    (fun i _ _ => s.size + 1 - (intOf i).toNat)
  case atStart => exact ⟨0, 0, by omega, rfl, rfl, by omega, hid (by simp [decNat]), hid (by simp)⟩
  case round =>
    obtain ⟨k, V, hk1, rfl, rfl, hV, HV, HR⟩ := hrel
    by_cases hlt : a + 1 + k < s.size
    · have hlt' : a + (k + 1) < s.size := by omega
      have hix : s[a + 1 + k] = s[a + (k + 1)] := by congr 1; omega
      have hd := drop_cons_of hL hlt
      have hr := HR.out
      rw [hd, runLen, hix] at hr
      have hts := take_step hL (j := a + 1) (k := a + 1 + k) (by omega) hlt
      rw [show a + 1 + k + 1 - (a + 1) = k + 1 from by omega, show a + 1 + k - (a + 1) = k from by omega, hix] at hts
      have hc := r_digit_calls s[a + (k + 1)] w
      have hx8 := s[a + (k + 1)].toNat_lt
      have hsn := decNat_snoc ((L.drop (a + 1)).take k) s[a + (k + 1)]
      rw [← hts] at hsn
      have j1 : (a : Int) + ((k : Int) + 1) < (s.size : Int) := by omega
      have j2 : (0 : Int) ≤ (a : Int) + ((k : Int) + 1) := by omega
      rcases Bool.eq_false_or_eq_true (isDigit s[a + (k + 1)]) with c1 | c1
      · rw [c1] at hc hr
        have hdd : 48 ≤ s[a + (k + 1)].toNat ∧ s[a + (k + 1)].toNat ≤ 57 := by simpa [isDigit] using c1
        have HC := hid hc
        have HR2 := hid hr
        have HSN := hid hsn
        obtain ⟨hd1, hd2⟩ := hdd
        have hq := tdiv_low (s[a + (k + 1)].toNat : Int) V (by omega) (by omega)
        by_cases hov : (9223372036854775808 : Int) < 10 * (V : Int) + ((s[a + (k + 1)].toNat : Int) - 48)
        · rw [decide_eq_true hov] at hq
          clear hd hr hts hc hsn HR c1 hix
          have HOV := hid hov
          clear hov
          go_wp2_with (go_at_call 36; refine HC.out.mono ?_; rintro e w' ⟨rfl, rfl⟩)
          go_ret3
          exact rdec_no (n := k + 1) (by have := HR2.out; rw [if_pos trivial] at this; omega) rfl (by have := HOV.out; rw [HSN.out, ← HV.out]; simp; omega)
        · rw [decide_eq_false hov] at hq
          clear hd hr hts hc hsn HR c1 hix
          have hov1 : 10 * (V : Int) + ((s[a + (k + 1)].toNat : Int) - 48) ≤ 9223372036854775808 := by omega
          clear hov
          go_wp2_with (go_at_call 36; refine HC.out.mono ?_; rintro e w' ⟨rfl, rfl⟩)
          go_round
          case rel => exact ⟨k + 1, 10 * V + (s[a + (k + 1)].toNat - 48), by omega, by go_num, congrArg (Value.int .i64) (by omega), by omega, hid (by rw [HSN.out, HV.out]), hid (by rw [HR2.out, if_pos trivial, show a + 1 + (k + 1) = a + 1 + k + 1 from by omega]; omega)⟩
          case measure => simp [intOf]; omega
      · rw [c1] at hc hr
        have HC := hid hc
        have HR2 := hid hr
        clear hd hr hts hc hsn HR c1 hix
        go_wp2_with (go_at_call 36; refine HC.out.mono ?_; rintro e w' ⟨rfl, rfl⟩)
        go_ret3
        exact rdec_yes (n := k) (by have := HR2.out; simpa [runLen] using this) HV.out (by simpa using hV) (by simp) (by omega)
    · have hd : L.drop (a + 1 + k) = [] := List.drop_of_length_le (by rw [HLN.out]; omega)
      have hr := HR.out
      rw [hd] at hr
      have HR2 := hid hr
      clear hd hr HR
      go_wp2
      go_ret3
      exact rdec_yes (n := k) (by have := HR2.out; simpa [runLen] using this) HV.out (by simpa using hV) (by simp) (by omega)

set_option maxHeartbeats 2000000 in
set_option maxRecDepth 100000 in
theorem r_tens_pos {s : ByteArray} (w : World) (hs : s.size ≤ 4294967296) (L : List UInt8) (hL : Hid (s.data.toList = L)) (a : Nat) (ha : a < s.size) (hneg : (s[a].toNat : Int) ≠ 45) :
    Calls Try.prog 44 #[.string s, .int .i64 a] w (RDec w false 0 (L.drop a)) := by
  have HLN := hid (len_of hL)
  have hb : ((s[a].toNat : Int) == 45) = false := by simpa using hneg
  clear hneg
  go_enter Try.func44, Try.ntmps44
  go_wp2
  go_loop [8, 9, 10] (fun i v _ => ∃ k V : Nat, a + k ≤ s.size ∧ i = .int .i64 k ∧ v = .int .i64 (-(V : Int)) ∧ V ≤ 9223372036854775808 ∧ Hid (V = decNat ((L.drop a).take k)) ∧ Hid (runLen isDigit (L.drop a) = k + runLen isDigit (L.drop (a + k))))
    (fun i _ _ => s.size - (intOf i).toNat)
  case atStart => exact ⟨0, 0, by omega, rfl, rfl, by omega, hid (by simp [decNat]), hid (by simp)⟩
  case round =>
    obtain ⟨k, V, hk1, rfl, rfl, hV, HV, HR⟩ := hrel
    by_cases hlt : a + k < s.size
    · have hix : True := trivial
      have hd := drop_cons_of hL hlt
      have hr := HR.out
      rw [hd, runLen] at hr
      have hts := take_step hL (j := a) (k := a + k) (by omega) hlt
      rw [show a + k + 1 - a = k + 1 from by omega, show a + k - a = k from by omega] at hts
      have hc := r_digit_calls s[a + k] w
      have hx8 := s[a + k].toNat_lt
      have hsn := decNat_snoc ((L.drop (a)).take k) s[a + k]
      rw [← hts] at hsn
      have j1 : (a : Int) + (k : Int) < (s.size : Int) := by omega
      have j2 : (0 : Int) ≤ (a : Int) + (k : Int) := by omega
      rcases Bool.eq_false_or_eq_true (isDigit s[a + k]) with c1 | c1
      · rw [c1] at hc hr
        have hdd : 48 ≤ s[a + k].toNat ∧ s[a + k].toNat ≤ 57 := by simpa [isDigit] using c1
        have HC := hid hc
        have HR2 := hid hr
        have HSN := hid hsn
        obtain ⟨hd1, hd2⟩ := hdd
        have hq := tdiv_low (s[a + k].toNat : Int) V (by omega) (by omega)
        by_cases hov : (9223372036854775808 : Int) < 10 * (V : Int) + ((s[a + k].toNat : Int) - 48)
        · rw [decide_eq_true hov] at hq
          clear hd hr hts hc hsn HR c1 hix
          have HOV := hid hov
          clear hov
          go_wp2_with (go_at_call 36; refine HC.out.mono ?_; rintro e w' ⟨rfl, rfl⟩)
          go_ret3
          exact rdec_no (n := k + 1) (by have := HR2.out; rw [if_pos trivial] at this; omega) rfl (by have := HOV.out; rw [HSN.out, ← HV.out]; simp; omega)
        · rw [decide_eq_false hov] at hq
          clear hd hr hts hc hsn HR c1 hix
          have hov1 : 10 * (V : Int) + ((s[a + k].toNat : Int) - 48) ≤ 9223372036854775808 := by omega
          clear hov
          go_wp2_with (go_at_call 36; refine HC.out.mono ?_; rintro e w' ⟨rfl, rfl⟩)
          go_round
          case rel => exact ⟨k + 1, 10 * V + (s[a + k].toNat - 48), by omega, by go_num, congrArg (Value.int .i64) (by omega), by omega, hid (by rw [HSN.out, HV.out]), hid (by rw [HR2.out, if_pos trivial, show a + (k + 1) = a + k + 1 from by omega]; omega)⟩
          case measure => simp [intOf]; omega
      · rw [c1] at hc hr
        have HC := hid hc
        have HR2 := hid hr
        clear hd hr hts hc hsn HR c1 hix
        by_cases hmx : V = 9223372036854775808
        · have hb1 : (-(V : Int) == -9223372036854775808) = true := by simp; omega
          have HMX := hid hmx
          clear hmx
          go_wp2_with (go_at_call 36; refine HC.out.mono ?_; rintro e w' ⟨rfl, rfl⟩)
          go_ret3
          exact rdec_no (n := k) (by have := HR2.out; simp [runLen] at this; omega) HV.out (by have := HMX.out; simp; omega)
        · have hb1 : (-(V : Int) == -9223372036854775808) = false := by simp; omega
          have hV2 : V ≤ 9223372036854775807 := by omega
          clear hmx
          go_wp2_with (go_at_call 36; refine HC.out.mono ?_; rintro e w' ⟨rfl, rfl⟩)
          go_ret3
          exact rdec_yes (n := k) (by have := HR2.out; simpa [runLen] using this) HV.out (by simpa using hV2) (by simp) (by omega)
    · have hd : L.drop (a + k) = [] := List.drop_of_length_le (by rw [HLN.out]; omega)
      have hr := HR.out
      rw [hd] at hr
      have HR2 := hid hr
      clear hd hr HR
      by_cases hmx : V = 9223372036854775808
      · have hb1 : (-(V : Int) == -9223372036854775808) = true := by simp; omega
        have HMX := hid hmx
        clear hmx
        go_wp2
        go_ret3
        exact rdec_no (n := k) (by have := HR2.out; simp [runLen] at this; omega) HV.out (by have := HMX.out; simp; omega)
      · have hb1 : (-(V : Int) == -9223372036854775808) = false := by simp; omega
        have hV2 : V ≤ 9223372036854775807 := by omega
        clear hmx
        go_wp2
        go_ret3
        exact rdec_yes (n := k) (by have := HR2.out; simpa [runLen] using this) HV.out (by simpa using hV2) (by simp) (by omega)

/-- What reading a number answers, before it is asked what stands behind it. -/
def RRead (w : World) (d : List UInt8) (e : Ending) (w' : World) : Prop :=
  (match numAt d with
   | none => ∃ X Y : Int, e = .returned (.tuple #[.int .i64 X, .int .i64 Y, .bool false])
   | some (v, n) => e = .returned (.tuple #[.int .i64 v, .int .i64 (n : Int), .bool true])) ∧ w = w'
section
variable {w : World} {s : ByteArray} {a : Nat} (hs : s.size ≤ 4294967296) (L : List UInt8) (hL : Hid (s.data.toList = L))
include hs hL
theorem r_hex_reads (w : World) (ha : a < s.size) (h0 : s[a].toNat = 48) (hx : (byteAtB s (a + 1)).toNat = 120) : Calls Try.prog 43 #[.string s, .int .i64 a] w (RRead w (L.drop a)) := by
  have ha2 : a + 2 ≤ s.size := by
    unfold byteAtB at hx
    split at hx
    · omega
    · simp at hx
  refine (r_hexed_calls w hs L hL a ha2).mono ?_
  rintro e w' ⟨hp, rfl⟩
  have hn : numAt (L.drop a) = if 1 ≤ runLen isHex (L.drop (a + 2)) ∧ runLen isHex (L.drop (a + 2)) ≤ 16 then some (asI64 (hexNat ((L.drop (a + 2)).take (runLen isHex (L.drop (a + 2))))), runLen isHex (L.drop (a + 2)) + 2) else none := by
    unfold numAt
    rw [if_pos ⟨by rw [head_of hL ha]; simp [← UInt8.toNat_inj, h0], (x_of hL a 1).2 hx⟩, List.drop_drop]
  refine ⟨?_, rfl⟩
  rw [hn]
  split at hp
  · rename_i h16
    by_cases hc : 1 ≤ runLen isHex (L.drop (a + 2))
    · rw [if_pos ⟨hc, h16⟩, hp, decide_eq_true (show 0 < runLen isHex (L.drop (a + 2)) from hc)]
    · rw [if_neg (fun h => hc h.1), hp, decide_eq_false (show ¬ 0 < runLen isHex (L.drop (a + 2)) from hc)]
      exact ⟨_, _, rfl⟩
  · rename_i h16
    rw [if_neg (fun h => h16 h.2), hp]
    exact ⟨_, _, rfl⟩
theorem r_dec_reads (w : World) (ha : a < s.size) (h0 : ¬ (s[a].toNat = 48 ∧ (byteAtB s (a + 1)).toNat = 120)) : Calls Try.prog 44 #[.string s, .int .i64 a] w (RRead w (L.drop a)) := by
  have hno : ¬ ((L.drop a).head? = some 48 ∧ (L.drop a)[1]? = some 120) := by
    rw [head_of hL ha, x_of hL a 1]
    intro ⟨h1, h2⟩
    exact h0 ⟨by simpa [← UInt8.toNat_inj] using h1, h2⟩
  by_cases hneg : s[a].toNat = 45
  · refine (r_tens_neg w hs L hL a ha (by omega)).mono ?_
    rintro e w' ⟨hp, rfl⟩
    have hn : numAt (L.drop a) = if decV (L.drop (a + 1)) ≤ 9223372036854775808 then some (-(decV (L.drop (a + 1)) : Int), runLen isDigit (L.drop (a + 1)) + 1) else none := by
      unfold numAt
      rw [if_neg hno, if_pos (by rw [head_of hL ha]; simp [← UInt8.toNat_inj, hneg]), List.drop_drop]
      rfl
    refine ⟨?_, rfl⟩
    rw [hn]
    simp only [if_true] at hp
    split at hp
    · rename_i hc
      rw [if_pos hc, hp]
    · rename_i hc
      rw [if_neg hc]
      exact ⟨0, 0, hp⟩
  · refine (r_tens_pos w hs L hL a ha (by omega)).mono ?_
    rintro e w' ⟨hp, rfl⟩
    have hn : numAt (L.drop a) = if decV (L.drop a) ≤ 9223372036854775807 then some ((decV (L.drop a) : Int), runLen isDigit (L.drop a)) else none := by
      unfold numAt
      rw [if_neg hno, if_neg (by rw [head_of hL ha]; simp [← UInt8.toNat_inj]; exact hneg)]
      rfl
    refine ⟨?_, rfl⟩
    rw [hn]
    simp only [Bool.false_eq_true, if_false] at hp
    split at hp
    · rename_i hc
      rw [if_pos hc, hp]
      rfl
    · rename_i hc
      rw [if_neg hc]
      exact ⟨0, 0, hp⟩
end
end Go.Proofs.Ytppijmpdoejdmaa
