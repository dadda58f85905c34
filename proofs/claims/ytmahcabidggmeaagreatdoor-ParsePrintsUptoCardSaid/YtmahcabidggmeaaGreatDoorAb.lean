/- Walks of the lexer: numbers in hexadecimal and in digits. -/
import Derived.Test.YtmahcabidggmeaaGreatDoorAa
set_option linter.unusedVariables false
set_option linter.unusedSectionVars false
set_option linter.unusedSimpArgs false
namespace Go.Proofs.YtmahcabidggmeaaGreatDoor
open Go.RowKit Go.AB
set_option linter.unusedSimpArgs false
set_option linter.unusedVariables false

theorem hexlet_iff : ∀ x : Nat, x < 256 → ¬ (48 ≤ x ∧ x ≤ 57) → ((97 ≤ (x ||| 32) ∧ (x ||| 32) ≤ 102) ↔ ((97 ≤ x ∧ x ≤ 102) ∨ (65 ≤ x ∧ x ≤ 70))) := by decide +kernel
theorem hexlet_val : ∀ x : Nat, x < 256 → ((97 ≤ x ∧ x ≤ 102) → (x ||| 32) = x) ∧ ((65 ≤ x ∧ x ≤ 70) → (x ||| 32) = x + 32) := by decide +kernel
theorem hex_step (V d : Nat) (hV : V < 18446744073709551616) (hd : d < 16) : bits .or .u64 (IntKind.u64.wrap ((V : Int) * 16)) (d : Int) = (((16 * V + d) % 18446744073709551616 : Nat) : Int) := by
  have e1 : IntKind.u64.wrap ((V : Int) * 16) = ((V % 1152921504606846976 * 16 : Nat) : Int) := by rw [IntKind.wrap_u64]; omega
  rw [e1, u64_or_nat _ _ (by omega) (by omega)]
  congr 1
  have h := Nat.shiftLeft_add_eq_or_of_lt (a := V % 1152921504606846976) (b := d) (i := 4) hd
  rw [Nat.shiftLeft_eq, show (2 : Nat) ^ 4 = 16 from rfl] at h
  omega
theorem drop_cons_of {L : List UInt8} {s : ByteArray} (hL : Hid (s.data.toList = L)) {k : Nat} (hk : k < s.size) : L.drop k = s[k] :: L.drop (k + 1) := by
  have h := hL.out
  subst h
  have hlt : k < s.data.toList.length := by rw [Array.length_toList]; exact hk
  rw [List.drop_eq_getElem_cons hlt]
  rfl
theorem len_of {L : List UInt8} {s : ByteArray} (hL : Hid (s.data.toList = L)) : L.length = s.size := by rw [← hL.out, Array.length_toList]; rfl
theorem take_step {L : List UInt8} {s : ByteArray} (hL : Hid (s.data.toList = L)) {j k : Nat} (hj : j ≤ k) (hk : k < s.size) : (L.drop j).take (k + 1 - j) = (L.drop j).take (k - j) ++ [s[k]] := by
  have h := hL.out
  subst h
  have hlt : k < s.data.toList.length := by rw [Array.length_toList]; exact hk
  rw [show k + 1 - j = (k - j) + 1 from by omega, take_snoc _ _ (by simp; omega)]
  congr 2
  simp only [List.getElem_drop]
  have : j + (k - j) = k := by omega
  simp only [this]
  rfl
theorem hexNat_snoc (l : List UInt8) (c : UInt8) : hexNat (l ++ [c]) = 16 * hexNat l + (hexVal c).getD 0 := by simp [hexNat]
theorem decNat_snoc (l : List UInt8) (c : UInt8) : decNat (l ++ [c]) = 10 * decNat l + (c.toNat - 48) := by simp [decNat]

/-- What is known of a byte by its kind. -/
theorem hex_cases (c : UInt8) : (isDigit c = true ∧ isHex c = true ∧ (hexVal c).getD 0 = c.toNat - 48 ∧ 48 ≤ c.toNat ∧ c.toNat ≤ 57) ∨
    (isDigit c = false ∧ isHex c = true ∧ ∃ y : Nat, bits .or .u8 (c.toNat : Int) 32 = (y : Int) ∧ 97 ≤ y ∧ y ≤ 102 ∧ (hexVal c).getD 0 = y - 87) ∨
    (isDigit c = false ∧ isHex c = false ∧ ∃ y : Nat, bits .or .u8 (c.toNat : Int) 32 = (y : Int) ∧ ¬ (97 ≤ y ∧ y ≤ 102) ∧ y < 256) := by
  have h := c.toNat_lt
  by_cases hd : 48 ≤ c.toNat ∧ c.toNat ≤ 57
  · refine .inl ⟨by simp [isDigit, hd], by simp [isHex, hexVal, isDigit, hd], by simp [hexVal, isDigit, hd], hd.1, hd.2⟩
  · have hdf : isDigit c = false := by simp [isDigit]; omega
    have h1 := hexlet_iff c.toNat h hd
    have h2 := hexlet_val c.toNat h
    have h3 := or32 c.toNat h
    by_cases hl : 97 ≤ (c.toNat ||| 32) ∧ (c.toNat ||| 32) ≤ 102
    · refine .inr (.inl ⟨hdf, ?_, _, h3, hl.1, hl.2, ?_⟩)
      · rcases h1.1 hl with h4 | h4
        · simp [isHex, hexVal, hdf, h4]
        · have : ¬ (97 ≤ c.toNat ∧ c.toNat ≤ 102) := by omega
          simp [isHex, hexVal, hdf, this, h4]
      · rcases h1.1 hl with h4 | h4
        · rw [h2.1 h4]; simp [hexVal, hdf, h4]
        · have : ¬ (97 ≤ c.toNat ∧ c.toNat ≤ 102) := by omega
          rw [h2.2 h4]; simp [hexVal, hdf, this, h4]
    · refine .inr (.inr ⟨hdf, ?_, _, h3, hl, Nat.or_lt_two_pow (n := 8) h (by omega)⟩)
      have h4 : ¬ ((97 ≤ c.toNat ∧ c.toNat ≤ 102) ∨ (65 ≤ c.toNat ∧ c.toNat ≤ 70)) := fun h5 => hl (h1.2 h5)
      have h5 : ¬ (97 ≤ c.toNat ∧ c.toNat ≤ 102) := fun h => h4 (.inl h)
      have h6 : ¬ (65 ≤ c.toNat ∧ c.toNat ≤ 70) := fun h => h4 (.inr h)
      simp [isHex, hexVal, hdf, h5, h6]
theorem asI64_wrap (n : Nat) (h : n < 18446744073709551616) : wrap64 (n : Int) = asI64 n := by
  unfold wrap64 asI64
  split <;> omega

def HexPost (w : World) (a : Nat) (d : List UInt8) (e : Ending) (w' : World) : Prop :=
  e = .returned (.tuple #[.int .i64 (asI64 (hexNat (d.take (runLen isHex d)) % 18446744073709551616)), .int .i64 ((a + 2 + runLen isHex d : Nat) : Int), .bool (decide (1 ≤ runLen isHex d ∧ runLen isHex d ≤ 16))]) ∧ Drew w w'
theorem hexPost_mk {w w' : World} {a n V : Nat} {d : List UInt8} (hn : runLen isHex d = n) (hV : V = hexNat (d.take n) % 18446744073709551616) (hd : Drew w w') {X Y : Int} {z : Bool} (hX : X = wrap64 (V : Int)) (hY : Y = ((a + 2 + n : Nat) : Int)) (hz : z = decide (1 ≤ n ∧ n ≤ 16)) :
    HexPost w a d (.returned (.tuple #[.int .i64 X, .int .i64 Y, .bool z])) w' := by
  subst hn hX hY hz
  refine ⟨?_, hd⟩
  rw [asI64_wrap _ (by rw [hV]; exact Nat.mod_lt _ (by decide)), hV]

/-- The decimal number at a place. -/
def decV (d : List UInt8) : Nat := decNat (d.take (runLen isDigit d))
theorem decNat_mono (l m : List UInt8) : decNat l ≤ decNat (l ++ m) := by
  unfold decNat
  rw [List.foldl_append]
  generalize l.foldl (fun v c => 10 * v + (c.toNat - 48)) 0 = v
  induction m generalizing v with
  | nil => exact Nat.le_refl _
  | cons c m ih => exact Nat.le_trans (by simp only []; omega) (ih _)
def DecPost (w : World) (neg : Bool) (k0 : Nat) (d : List UInt8) (e : Ending) (w' : World) : Prop :=
  (if decV d ≤ (if neg then 9223372036854775808 else 9223372036854775807) then e = .returned (.tuple #[.int .i64 (if neg then -(decV d : Int) else (decV d : Int)), .int .i64 ((k0 + runLen isDigit d : Nat) : Int), .bool true])
   else e = .returned (.tuple #[.int .i64 0, .int .i64 0, .bool false])) ∧ Drew w w'
theorem decPost_yes {w w' : World} {neg : Bool} {k0 n V : Nat} {d : List UInt8} (hn : runLen isDigit d = n) (hV : V = decNat (d.take n)) (hd : Drew w w') (hle : V ≤ (if neg then 9223372036854775808 else 9223372036854775807)) {X Y : Int} (hX : X = if neg then -(V : Int) else (V : Int)) (hY : Y = ((k0 + n : Nat) : Int)) :
    DecPost w neg k0 d (.returned (.tuple #[.int .i64 X, .int .i64 Y, .bool true])) w' := by
  subst hn hV hX hY
  refine ⟨?_, hd⟩
  rw [if_pos (by unfold decV; exact hle)]
  rfl
theorem decPost_no {w w' : World} {neg : Bool} {k0 n V : Nat} {d : List UInt8} (hd : Drew w w') (hn : n ≤ runLen isDigit d) (hV : V = decNat (d.take n)) (hgt : (if neg then 9223372036854775808 else 9223372036854775807) < V) :
    DecPost w neg k0 d (.returned (.tuple #[.int .i64 0, .int .i64 0, .bool false])) w' := by
  refine ⟨?_, hd⟩
  have h1 := decNat_mono (d.take n) ((d.take (runLen isDigit d)).drop n)
  have h2 : d.take n ++ (d.take (runLen isDigit d)).drop n = d.take (runLen isDigit d) := by
    have : d.take n = (d.take (runLen isDigit d)).take n := by rw [List.take_take, Nat.min_eq_left hn]
    rw [this, List.take_append_drop]
  rw [h2, ← hV] at h1
  rw [if_neg (by unfold decV; omega)]

section
variable {w : World} {b : Nat} {s : ByteArray} {a ln g : Nat} (h : Lx w b s a ln g) (hs : s.size ≤ 4294967296) (L : List UInt8) (hL : Hid (s.data.toList = L))
include h hs hL

set_option maxHeartbeats 2000000 in
set_option maxRecDepth 100000 in
theorem hex_calls (ha : a + 2 ≤ s.size) : Calls Tryz.prog 107 #[.pointer (some ⟨b, 0, none⟩)] w (HexPost w a (L.drop (a + 2))) := by
  have h0 := h.c0
  have h1 := h.c1
  go_enter Tryz.func107, Tryz.ntmps107
  go_wp2
  go_quiet (fail)
  go_wp2
  go_loopw [5, 6, 7] (fun v i _ wr => ∃ k V m : Nat, a + 2 ≤ k ∧ k ≤ s.size ∧ i = .int .i64 k ∧ v = .int .u64 V ∧ V < 18446744073709551616 ∧ Hid (V = hexNat ((L.drop (a + 2)).take (k - (a + 2))) % 18446744073709551616) ∧ Hid (runLen isHex (L.drop (a + 2)) = k - (a + 2) + runLen isHex (L.drop k)) ∧ wr = w.drewN m)
    (fun _ i _ _ => s.size - (intOf i).toNat)
  case atStart => exact ⟨a + 2, 0, _, Nat.le_refl _, ha, by go_num, rfl, by omega, hid (by simp [hexNat]), hid (by simp), rfl⟩
  case round =>
    obtain ⟨k, V, m, hk1, hk, rfl, rfl, hV, HV, HR, rfl⟩ := hrel
    by_cases hlt : k < s.size
    · have hd := drop_cons_of hL hlt
      have hr := HR.out
      rw [hd, runLen] at hr
      have hts := take_step hL hk1 hlt
      have hc := digit_calls s[k] (w.drewN m)
      have hx8 := s[k].toNat_lt
      have hsn := hexNat_snoc ((L.drop (a + 2)).take (k - (a + 2))) s[k]
      rw [← hts] at hsn
      rcases hex_cases s[k] with ⟨c1, c2, c3, c4, c5⟩ | ⟨c1, c2, y, c3, c4, c5, c6⟩ | ⟨c1, c2, y, c3, c4, c5⟩
      · rw [c1] at hc
        rw [c2] at hr
        rw [c3] at hsn
        have hst := hex_step V (s[k].toNat - 48) hV (by omega)
        rw [show ((s[k].toNat - 48 : Nat) : Int) = (s[k].toNat : Int) - 48 from by omega] at hst
        have HC := hid hc
        have HR2 := hid hr
        have HSN := hid hsn
        clear hd hr hts hc hsn HR c1 c2 c3
        go_wp2_with (go_at_call 93; refine HC.out.mono ?_; rintro e w' ⟨rfl, rfl⟩)
        go_roundw
        case rel => exact ⟨k + 1, (16 * V + (s[k].toNat - 48)) % 18446744073709551616, m, by omega, by omega, by go_num, congrArg (Value.int .u64) (by omega), Nat.mod_lt _ (by decide), hid (by rw [HSN.out, HV.out]; omega), hid (by rw [HR2.out]; simp; omega), rfl⟩
        case measure => simp [intOf]; omega
      · rw [c1] at hc
        rw [c2] at hr
        rw [c6] at hsn
        have hst := hex_step V (y - 87) hV (by omega)
        rw [show ((y - 87 : Nat) : Int) = (y : Int) - 97 + 10 from by omega] at hst
        have HC := hid hc
        have HR2 := hid hr
        have HSN := hid hsn
        have hg1 : (97 : Int) ≤ (y : Int) := by omega
        have hg2 : (y : Int) ≤ 102 := by omega
        clear hd hr hts hc hsn HR c1 c2 c6
        go_wp2_with (go_at_call 93; refine HC.out.mono ?_; rintro e w' ⟨rfl, rfl⟩)
        go_roundw
        case rel => exact ⟨k + 1, (16 * V + (y - 87)) % 18446744073709551616, m, by omega, by omega, by go_num, congrArg (Value.int .u64) (by omega), Nat.mod_lt _ (by decide), hid (by rw [HSN.out, HV.out]; omega), hid (by rw [HR2.out]; simp; omega), rfl⟩
        case measure => simp [intOf]; omega
      · rw [c1] at hc
        rw [c2] at hr
        have HC := hid hc
        have HR2 := hid hr
        clear hd hr hts hc hsn HR c1 c2
        go_wp2_with (go_at_call 93; refine HC.out.mono ?_; rintro e w' ⟨rfl, rfl⟩)
        all_goals go_ret3
        all_goals exact hexPost_mk (n := k - (a + 2)) (by have := HR2.out; simpa [runLen] using this) HV.out Drew.refl rfl (by omega) (by rw [Bool.eq_iff_iff]; simp; omega)
    · have hd : L.drop k = [] := List.drop_of_length_le (by rw [len_of hL]; omega)
      have hr := HR.out
      rw [hd] at hr
      have HR2 := hid hr
      clear hd hr HR
      go_wp2
      all_goals go_ret3
      all_goals exact hexPost_mk (n := k - (a + 2)) (by have := HR2.out; simpa [runLen] using this) HV.out Drew.refl rfl (by omega) (by rw [Bool.eq_iff_iff]; simp; omega)

set_option maxHeartbeats 2000000 in
set_option maxRecDepth 100000 in
theorem dec_calls_pos (ha : a < s.size) (hneg : (s[a].toNat : Int) ≠ 45) : Calls Tryz.prog 106 #[.pointer (some ⟨b, 0, none⟩)] w (DecPost w false (a) (L.drop (a))) := by
  have h0 := h.c0
  have h1 := h.c1
  have hb : ((s[a].toNat : Int) == 45) = false := by simpa using hneg
  clear hneg
  go_enter Tryz.func106, Tryz.ntmps106
  go_wp2
  go_quiet (fail)
  go_wp2
  go_loopw [5, 8, 9] (fun i v _ wr => ∃ k V m : Nat, a ≤ k ∧ k ≤ s.size ∧ i = .int .i64 k ∧ v = .int .u64 V ∧ V ≤ 9223372036854775807 ∧ Hid (V = decNat ((L.drop (a)).take (k - (a)))) ∧ Hid (runLen isDigit (L.drop (a)) = k - (a) + runLen isDigit (L.drop k)) ∧ wr = w.drewN m)
    (fun i _ _ _ => s.size - (intOf i).toNat)
  case atStart => exact ⟨a, 0, _, Nat.le_refl _, by omega, by go_num, rfl, by omega, hid (by simp [decNat]), hid (by simp), rfl⟩
  case round =>
    obtain ⟨k, V, m, hk1, hk, rfl, rfl, hV, HV, HR, rfl⟩ := hrel
    by_cases hlt : k < s.size
    · have hd := drop_cons_of hL hlt
      have hr := HR.out
      rw [hd, runLen] at hr
      have hts := take_step hL hk1 hlt
      have hc := digit_calls s[k] (w.drewN m)
      have hx8 := s[k].toNat_lt
      have hsn := decNat_snoc ((L.drop (a)).take (k - (a))) s[k]
      rw [← hts] at hsn
      rcases Bool.eq_false_or_eq_true (isDigit s[k]) with c1 | c1
      · rw [c1] at hc hr
        have hdd : 48 ≤ s[k].toNat ∧ s[k].toNat ≤ 57 := by simpa [isDigit] using c1
        have HC := hid hc
        have HR2 := hid hr
        have HSN := hid hsn
        obtain ⟨hd1, hd2⟩ := hdd
        clear hd hr hts hc hsn HR c1
        go_wp2_with (go_at_call 93; refine HC.out.mono ?_; rintro e w' ⟨rfl, rfl⟩)
        · go_ret3
          exact decPost_no (n := k + 1 - (a)) Drew.refl (by have := HR2.out; simp at this; omega) rfl (by rw [HSN.out, ← HV.out]; simp; omega)
        · go_roundw
          case rel => exact ⟨k + 1, 10 * V + (s[k].toNat - 48), m, by omega, by omega, by go_num, congrArg (Value.int .u64) (by omega), by omega, hid (by rw [HSN.out, HV.out]), hid (by rw [HR2.out]; simp; omega), rfl⟩
          case measure => simp [intOf]; omega
      · rw [c1] at hc hr
        have HC := hid hc
        have HR2 := hid hr
        clear hd hr hts hc hsn HR c1
        go_wp2_with (go_at_call 93; refine HC.out.mono ?_; rintro e w' ⟨rfl, rfl⟩)
        go_ret3
        exact decPost_yes (n := k - (a)) (by have := HR2.out; simpa [runLen] using this) HV.out Drew.refl (by simpa using hV) (by simp; try unfold wrap64; try omega) (by omega)
    · have hd : L.drop k = [] := List.drop_of_length_le (by rw [len_of hL]; omega)
      have hr := HR.out
      rw [hd] at hr
      have HR2 := hid hr
      clear hd hr HR
      go_wp2
      go_ret3
      exact decPost_yes (n := k - (a)) (by have := HR2.out; simpa [runLen] using this) HV.out Drew.refl (by simpa using hV) (by simp; try unfold wrap64; try omega) (by omega)
set_option maxHeartbeats 2000000 in
set_option maxRecDepth 100000 in
theorem dec_calls_neg (ha : a < s.size) (hneg : (s[a].toNat : Int) = 45) : Calls Tryz.prog 106 #[.pointer (some ⟨b, 0, none⟩)] w (DecPost w true (a + 1) (L.drop (a + 1))) := by
  have h0 := h.c0
  have h1 := h.c1
  have hb : ((s[a].toNat : Int) == 45) = true := by simpa using hneg
  clear hneg
  go_enter Tryz.func106, Tryz.ntmps106
  go_wp2
  go_quiet (fail)
  go_wp2
  go_loopw [5, 8, 9] (fun i v _ wr => ∃ k V m : Nat, a + 1 ≤ k ∧ k ≤ s.size ∧ i = .int .i64 k ∧ v = .int .u64 V ∧ V ≤ 9223372036854775808 ∧ Hid (V = decNat ((L.drop (a + 1)).take (k - (a + 1)))) ∧ Hid (runLen isDigit (L.drop (a + 1)) = k - (a + 1) + runLen isDigit (L.drop k)) ∧ wr = w.drewN m)
    (fun i _ _ _ => s.size - (intOf i).toNat)
  case atStart => exact ⟨a + 1, 0, _, Nat.le_refl _, by omega, by go_num, rfl, by omega, hid (by simp [decNat]), hid (by simp), rfl⟩
  case round =>
    obtain ⟨k, V, m, hk1, hk, rfl, rfl, hV, HV, HR, rfl⟩ := hrel
    by_cases hlt : k < s.size
    · have hd := drop_cons_of hL hlt
      have hr := HR.out
      rw [hd, runLen] at hr
      have hts := take_step hL hk1 hlt
      have hc := digit_calls s[k] (w.drewN m)
      have hx8 := s[k].toNat_lt
      have hsn := decNat_snoc ((L.drop (a + 1)).take (k - (a + 1))) s[k]
      rw [← hts] at hsn
      rcases Bool.eq_false_or_eq_true (isDigit s[k]) with c1 | c1
      · rw [c1] at hc hr
        have hdd : 48 ≤ s[k].toNat ∧ s[k].toNat ≤ 57 := by simpa [isDigit] using c1
        have HC := hid hc
        have HR2 := hid hr
        have HSN := hid hsn
        obtain ⟨hd1, hd2⟩ := hdd
        clear hd hr hts hc hsn HR c1
        go_wp2_with (go_at_call 93; refine HC.out.mono ?_; rintro e w' ⟨rfl, rfl⟩)
        · go_ret3
          exact decPost_no (n := k + 1 - (a + 1)) Drew.refl (by have := HR2.out; simp at this; omega) rfl (by rw [HSN.out, ← HV.out]; simp; omega)
        · go_roundw
          case rel => exact ⟨k + 1, 10 * V + (s[k].toNat - 48), m, by omega, by omega, by go_num, congrArg (Value.int .u64) (by omega), by omega, hid (by rw [HSN.out, HV.out]), hid (by rw [HR2.out]; simp; omega), rfl⟩
          case measure => simp [intOf]; omega
      · rw [c1] at hc hr
        have HC := hid hc
        have HR2 := hid hr
        clear hd hr hts hc hsn HR c1
        go_wp2_with (go_at_call 93; refine HC.out.mono ?_; rintro e w' ⟨rfl, rfl⟩)
        go_ret3
        exact decPost_yes (n := k - (a + 1)) (by have := HR2.out; simpa [runLen] using this) HV.out Drew.refl (by simpa using hV) (by simp; rw [IntKind.wrap_u64]; unfold wrap64; omega) (by omega)
    · have hd : L.drop k = [] := List.drop_of_length_le (by rw [len_of hL]; omega)
      have hr := HR.out
      rw [hd] at hr
      have HR2 := hid hr
      clear hd hr HR
      go_wp2
      go_ret3
      exact decPost_yes (n := k - (a + 1)) (by have := HR2.out; simpa [runLen] using this) HV.out Drew.refl (by simpa using hV) (by simp; rw [IntKind.wrap_u64]; unfold wrap64; omega) (by omega)
end
end Go.Proofs.YtmahcabidggmeaaGreatDoor
