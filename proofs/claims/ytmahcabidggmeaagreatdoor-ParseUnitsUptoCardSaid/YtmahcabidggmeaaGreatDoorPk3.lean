/- Joined by join.py out of Aa, Ab, Ac, Ad, Ae, Af, Ag, Bcut, Blexed. -/
import Derived.Test.YtmahcabidggmeaaGreatDoorPk2
import Derived.Test.YtmahcabidggmeaaGreatDoorRows
import Derived.Deep.QuietTactic
import Derived.BigQuiet
import Derived.RegionTactic
import Derived.Test.YtmahcabidggmeaaGreatDoorPk1
import Derived.Deep.LoopGhost
import Derived.WalkMore
import Derived.Outline
import Derived.Laws.StructEq
set_option linter.unusedSimpArgs false
set_option linter.unusedVariables false
set_option linter.unusedSectionVars false

/- Walks of the lexer: bytes' kinds. -/
set_option linter.unusedVariables false
set_option linter.unusedSectionVars false
set_option linter.unusedSimpArgs false
namespace Go.Proofs.YtmahcabidggmeaaGreatDoor
open Go.RowKit Go.AB
set_option linter.unusedSimpArgs false

def lettB (x : Nat) : Bool := (97 ≤ x && x ≤ 122) || (65 ≤ x && x ≤ 90)
theorem or32 : ∀ x : Nat, x < 256 → bits .or .u8 (x : Int) 32 = ((x ||| 32 : Nat) : Int) := by decide +kernel
theorem lett_or : ∀ x : Nat, x < 256 → ((97 ≤ (x ||| 32)) ∧ (x ||| 32) ≤ 122 ↔ lettB x = true) := by decide +kernel

theorem ret_i64 {a b : Int} (h : a = b) : Ending.returned (.int .i64 a) = .returned (.int .i64 b) := by rw [h]
theorem ret_bool {a b : Bool} (h : a = b) : Ending.returned (.bool a) = .returned (.bool b) := by rw [h]

theorem letter_calls (c : UInt8) (w : World) : Calls Tryz.prog 91 #[.int .u8 c.toNat] w fun e w' => e = .returned (.bool (isLetter c)) ∧ w = w' := by
  have h := c.toNat_lt
  have h2 := lett_or c.toNat h
  have h1 := or32 c.toNat h
  have h3 : isLetter c = lettB c.toNat := rfl
  rw [h3]
  clear h3
  revert h h1 h2
  generalize c.toNat = x
  generalize (x ||| 32) = y
  intro h h2 h1
  have H2 := hid h2
  clear h2
  go_enter Tryz.func91, Tryz.ntmps91
  go_wp2
  all_goals go_ret
  all_goals
    refine ⟨ret_bool ?_, rfl⟩
    have h2 := H2.out
    rw [Bool.eq_iff_iff, ← h2]
    simp
    omega
theorem digit_calls (c : UInt8) (w : World) : Calls Tryz.prog 93 #[.int .u8 c.toNat] w fun e w' => e = .returned (.bool (isDigit c)) ∧ w = w' := by
  go_enter Tryz.func93, Tryz.ntmps93
  go_wp2
  all_goals go_ret
  all_goals
    refine ⟨ret_bool ?_, rfl⟩
    rw [Bool.eq_iff_iff]
    simp [isDigit]
    omega
set_option maxHeartbeats 400000 in
theorem wordly_calls (c : UInt8) (w : World) : Calls Tryz.prog 92 #[.int .u8 c.toNat] w fun e w' => e = .returned (.bool (isWordly c)) ∧ w = w' := by
  have hL := letter_calls c w
  have hD := digit_calls c w
  rcases Bool.eq_false_or_eq_true (isLetter c) with h1 | h1
  · rw [h1] at hL
    have hw : isWordly c = true := by simp [isWordly, h1]
    rw [hw]
    have HL := hid hL
    clear hL hD hw
    go_enter Tryz.func92, Tryz.ntmps92
    go_wp2_with (go_at_call 91; refine HL.out.mono ?_; rintro e w' ⟨rfl, rfl⟩)
    go_ret
    exact ⟨rfl, rfl⟩
  · rcases Bool.eq_false_or_eq_true (isDigit c) with h2 | h2
    · rw [h1] at hL
      rw [h2] at hD
      have hw : isWordly c = true := by simp [isWordly, h2]
      rw [hw]
      have HL := hid hL
      have HD := hid hD
      clear hL hD hw
      go_enter Tryz.func92, Tryz.ntmps92
      go_wp2_with (first | (go_at_call 91; refine HL.out.mono ?_; rintro e w' ⟨rfl, rfl⟩) | (go_at_call 93; refine HD.out.mono ?_; rintro e w' ⟨rfl, rfl⟩))
      go_ret
      exact ⟨rfl, rfl⟩
    · rw [h1] at hL
      rw [h2] at hD
      have hw : isWordly c = (c.toNat == 95) := by simp [isWordly, h1, h2]
      rw [hw]
      have HL := hid hL
      have HD := hid hD
      clear hL hD hw
      go_enter Tryz.func92, Tryz.ntmps92
      go_wp2_with (first | (go_at_call 91; refine HL.out.mono ?_; rintro e w' ⟨rfl, rfl⟩) | (go_at_call 93; refine HD.out.mono ?_; rintro e w' ⟨rfl, rfl⟩))
      all_goals go_ret
      all_goals (refine ⟨ret_bool ?_, rfl⟩; rw [Bool.eq_iff_iff]; simp; omega)

/-- The lexer's reader: the source, the place, the line, where the line begins. -/
structure Lx (w : World) (b : Nat) (s : ByteArray) (at_ line begun : Nat) : Prop where
  blk : w.heap[b]? = some (.cells #[.string s, .int .i64 at_, .int .i64 line, .int .i64 begun] 120 (0, 0))
theorem Lx.keep {w w' : World} {b : Nat} {s : ByteArray} {a l g : Nat} {S : List Nat} (h : Lx w b s a l g) (hc : Chg S w w') (hb : b ∉ S) : Lx w' b s a l g := ⟨hc.heap h.blk hb⟩
theorem Lx.c0 {w : World} {b : Nat} {s : ByteArray} {a l g : Nat} (h : Lx w b s a l g) : w.cell? ⟨b, 0, none⟩ = some (.string s) := by rw [blk_cell h.blk]; rfl
theorem Lx.c1 {w : World} {b : Nat} {s : ByteArray} {a l g : Nat} (h : Lx w b s a l g) : w.cell? ⟨b, 1, none⟩ = some (.int .i64 a) := by rw [blk_cell h.blk]; rfl
theorem Lx.c2 {w : World} {b : Nat} {s : ByteArray} {a l g : Nat} (h : Lx w b s a l g) : w.cell? ⟨b, 2, none⟩ = some (.int .i64 l) := by rw [blk_cell h.blk]; rfl
theorem Lx.c3 {w : World} {b : Nat} {s : ByteArray} {a l g : Nat} (h : Lx w b s a l g) : w.cell? ⟨b, 3, none⟩ = some (.int .i64 g) := by rw [blk_cell h.blk]; rfl
theorem Lx.fr {w : World} {b : Nat} {s : ByteArray} {a l g : Nat} (h : Lx w b s a l g) (i : Nat) : w.frozen? ⟨b, i, none⟩ = false := blk_free h.blk i

/-- A byte, 0 behind the end. -/
def byteAtB (s : ByteArray) (i : Nat) : UInt8 := if h : i < s.size then s[i] else 0
theorem byteAt_calls {w : World} {b : Nat} {s : ByteArray} {a l g : Nat} (h : Lx w b s a l g) (hs : s.size ≤ 4294967296) (i : Nat) : Calls Tryz.prog 66 #[.pointer (some ⟨b, 0, none⟩), .int .i64 i] w fun e w' => e = .returned (.int .u8 (byteAtB s i).toNat) ∧ w = w' := by
  have h0 := h.c0
  by_cases hi : i < s.size
  · have he : byteAtB s i = s[i] := by unfold byteAtB; rw [dif_pos hi]
    rw [he]
    clear he
    go_enter Tryz.func66, Tryz.ntmps66
    go_wp2
    go_ret
    exact ⟨rfl, rfl⟩
  · have he : byteAtB s i = 0 := by unfold byteAtB; rw [dif_neg hi]
    rw [he]
    clear he
    go_enter Tryz.func66, Tryz.ntmps66
    go_wp2
    go_ret
    exact ⟨rfl, rfl⟩
theorem notLf_calls (c : UInt8) (w : World) : Calls Tryz.prog 68 #[.int .u8 c.toNat] w fun e w' => e = .returned (.bool (notLf c)) ∧ w = w' := by
  have hnl : notLf c = !(c.toNat == 10) := rfl
  rw [hnl]
  clear hnl
  go_enter Tryz.func68, Tryz.ntmps68
  go_wp2
  go_ret
  refine ⟨ret_bool ?_, rfl⟩
  rw [Bool.eq_iff_iff]
  simp
  try omega

set_option maxHeartbeats 1000000 in
theorem run_wordly {w : World} {b : Nat} {s : ByteArray} {a l g : Nat} (h : Lx w b s a l g) (hs : s.size ≤ 4294967296) (k0 : Nat) (hk0 : k0 ≤ s.size) (L : List UInt8) (hL : Hid (s.data.toList = L)) :
    Calls Tryz.prog 67 #[.pointer (some ⟨b, 0, none⟩), .int .i64 k0, .func (.func 92) #[] #[]] w fun e w' => e = .returned (.int .i64 (k0 + runLen isWordly (L.drop k0) : Nat)) ∧ w = w' := by
  have h0 := h.c0
  have hsz : L.length = s.size := by rw [← hL.out, Array.length_toList]; rfl
  have hget : ∀ k (hk : k < s.size) (hk2 : k < L.length), s[k] = L[k] := fun k hk hk2 => by
    have := hL.out
    subst this
    rfl
  have HSZ := hid hsz
  have HG := hid hget
  clear hsz hget
  go_enter Tryz.func67, Tryz.ntmps67
  go_wp2
  go_loop [1] (fun i => ∃ k : Nat, k0 ≤ k ∧ k ≤ s.size ∧ i = .int .i64 k ∧ Hid (k0 + runLen isWordly (L.drop k0) = k + runLen isWordly (L.drop k))) (fun i => s.size - (intOf i).toNat)
  case atStart => exact ⟨k0, Nat.le_refl _, hk0, rfl, hid rfl⟩
  case round =>
    obtain ⟨k, hk1, hk, rfl, HR⟩ := hrel
    by_cases hlt : k < s.size
    · have hd : L.drop k = s[k] :: L.drop (k + 1) := by rw [HG.out k hlt (by rw [HSZ.out]; exact hlt)]; exact List.drop_eq_getElem_cons _
      have hr := HR.out
      rw [hd, runLen] at hr
      have hc := wordly_calls s[k] w
      rcases Bool.eq_false_or_eq_true (isWordly s[k]) with h1 | h1
      · rw [h1] at hr hc
        have HR2 := hid hr
        have HC := hid hc
        clear hd hr hc HR
        go_wp2_with (go_at_call 92; refine HC.out.mono ?_; rintro e w' ⟨rfl, rfl⟩)
        go_round
        case rel => exact ⟨k + 1, by omega, by omega, by go_num, hid (by rw [HR2.out]; simp; omega)⟩
        case measure => simp [intOf]; omega
      · rw [h1] at hr hc
        have HR2 := hid hr
        have HC := hid hc
        clear hd hr hc HR
        go_wp2_with (go_at_call 92; refine HC.out.mono ?_; rintro e w' ⟨rfl, rfl⟩)
        go_ret
        exact ⟨ret_i64 (by have := HR2.out; simp [runLen] at this; omega), rfl⟩
    · have hd : L.drop k = [] := List.drop_of_length_le (by rw [HSZ.out]; omega)
      have hr := HR.out
      rw [hd] at hr
      have HR2 := hid hr
      clear hd hr HR
      go_wp2
      go_ret
      exact ⟨ret_i64 (by have := HR2.out; simp [runLen] at this; omega), rfl⟩

set_option maxHeartbeats 1000000 in
theorem run_notLf {w : World} {b : Nat} {s : ByteArray} {a l g : Nat} (h : Lx w b s a l g) (hs : s.size ≤ 4294967296) (k0 : Nat) (hk0 : k0 ≤ s.size) (L : List UInt8) (hL : Hid (s.data.toList = L)) :
    Calls Tryz.prog 67 #[.pointer (some ⟨b, 0, none⟩), .int .i64 k0, .func (.func 68) #[] #[]] w fun e w' => e = .returned (.int .i64 (k0 + runLen notLf (L.drop k0) : Nat)) ∧ w = w' := by
  have h0 := h.c0
  have hsz : L.length = s.size := by rw [← hL.out, Array.length_toList]; rfl
  have hget : ∀ k (hk : k < s.size) (hk2 : k < L.length), s[k] = L[k] := fun k hk hk2 => by
    have := hL.out
    subst this
    rfl
  have HSZ := hid hsz
  have HG := hid hget
  clear hsz hget
  go_enter Tryz.func67, Tryz.ntmps67
  go_wp2
  go_loop [1] (fun i => ∃ k : Nat, k0 ≤ k ∧ k ≤ s.size ∧ i = .int .i64 k ∧ Hid (k0 + runLen notLf (L.drop k0) = k + runLen notLf (L.drop k))) (fun i => s.size - (intOf i).toNat)
  case atStart => exact ⟨k0, Nat.le_refl _, hk0, rfl, hid rfl⟩
  case round =>
    obtain ⟨k, hk1, hk, rfl, HR⟩ := hrel
    by_cases hlt : k < s.size
    · have hd : L.drop k = s[k] :: L.drop (k + 1) := by rw [HG.out k hlt (by rw [HSZ.out]; exact hlt)]; exact List.drop_eq_getElem_cons _
      have hr := HR.out
      rw [hd, runLen] at hr
      have hc := notLf_calls s[k] w
      rcases Bool.eq_false_or_eq_true (notLf s[k]) with h1 | h1
      · rw [h1] at hr hc
        have HR2 := hid hr
        have HC := hid hc
        clear hd hr hc HR
        go_wp2_with (go_at_call 68; refine HC.out.mono ?_; rintro e w' ⟨rfl, rfl⟩)
        go_round
        case rel => exact ⟨k + 1, by omega, by omega, by go_num, hid (by rw [HR2.out]; simp; omega)⟩
        case measure => simp [intOf]; omega
      · rw [h1] at hr hc
        have HR2 := hid hr
        have HC := hid hc
        clear hd hr hc HR
        go_wp2_with (go_at_call 68; refine HC.out.mono ?_; rintro e w' ⟨rfl, rfl⟩)
        go_ret
        exact ⟨ret_i64 (by have := HR2.out; simp [runLen] at this; omega), rfl⟩
    · have hd : L.drop k = [] := List.drop_of_length_le (by rw [HSZ.out]; omega)
      have hr := HR.out
      rw [hd] at hr
      have HR2 := hid hr
      clear hd hr HR
      go_wp2
      go_ret
      exact ⟨ret_i64 (by have := HR2.out; simp [runLen] at this; omega), rfl⟩
end Go.Proofs.YtmahcabidggmeaaGreatDoor

/- Walks of the lexer: numbers in hexadecimal and in digits. -/
set_option linter.unusedVariables false
set_option linter.unusedSectionVars false
set_option linter.unusedSimpArgs false
namespace Go.Proofs.YtmahcabidggmeaaGreatDoor
open Go.RowKit Go.AB
set_option linter.unusedSimpArgs false
set_option linter.unusedVariables false

theorem hexlet_iff : ∀ x : Nat, x < 256 → ¬ (48 ≤ x ∧ x ≤ 57) → ((97 ≤ (x ||| 32) ∧ (x ||| 32) ≤ 102) ↔ ((97 ≤ x ∧ x ≤ 102) ∨ (65 ≤ x ∧ x ≤ 70))) := by decide +kernel
theorem hexlet_val : ∀ x : Nat, x < 256 → ((97 ≤ x ∧ x ≤ 102) → (x ||| 32) = x) ∧ ((65 ≤ x ∧ x ≤ 70) → (x ||| 32) = x + 32) := by decide +kernel
theorem hex_step (V d : Nat) (hV : V < 18446744073709551616) (hd : d < 16) : bits .or .u64 (IntKind.u64.wrap ((V : Int) * 16)) (d : Int) = (((16 * V + d) % 18446744073709551616 : Nat) : Int) := by
  have e1 : IntKind.u64.wrap ((V : Int) * 16) = ((V % 1152921504606846976 * 16 : Nat) : Int) := by rw [IntKind.wrap_u64]; omega
  rw [e1, u64_or_nat _ _ (by omega) (by omega)]
  congr 1
  have h := Nat.shiftLeft_add_eq_or_of_lt (a := V % 1152921504606846976) (b := d) (i := 4) hd
  rw [Nat.shiftLeft_eq, show (2 : Nat) ^ 4 = 16 from rfl] at h
  omega
theorem drop_cons_of {L : List UInt8} {s : ByteArray} (hL : Hid (s.data.toList = L)) {k : Nat} (hk : k < s.size) : L.drop k = s[k] :: L.drop (k + 1) := by
  have h := hL.out
  subst h
  have hlt : k < s.data.toList.length := by rw [Array.length_toList]; exact hk
  rw [List.drop_eq_getElem_cons hlt]
  rfl
theorem len_of {L : List UInt8} {s : ByteArray} (hL : Hid (s.data.toList = L)) : L.length = s.size := by rw [← hL.out, Array.length_toList]; rfl
theorem take_step {L : List UInt8} {s : ByteArray} (hL : Hid (s.data.toList = L)) {j k : Nat} (hj : j ≤ k) (hk : k < s.size) : (L.drop j).take (k + 1 - j) = (L.drop j).take (k - j) ++ [s[k]] := by
  have h := hL.out
  subst h
  have hlt : k < s.data.toList.length := by rw [Array.length_toList]; exact hk
  rw [show k + 1 - j = (k - j) + 1 from by omega, take_snoc _ _ (by simp; omega)]
  congr 2
  simp only [List.getElem_drop]
  have : j + (k - j) = k := by omega
  simp only [this]
  rfl
theorem hexNat_snoc (l : List UInt8) (c : UInt8) : hexNat (l ++ [c]) = 16 * hexNat l + (hexVal c).getD 0 := by simp [hexNat]
theorem decNat_snoc (l : List UInt8) (c : UInt8) : decNat (l ++ [c]) = 10 * decNat l + (c.toNat - 48) := by simp [decNat]

/-- What is known of a byte by its kind. -/
theorem hex_cases (c : UInt8) : (isDigit c = true ∧ isHex c = true ∧ (hexVal c).getD 0 = c.toNat - 48 ∧ 48 ≤ c.toNat ∧ c.toNat ≤ 57) ∨
    (isDigit c = false ∧ isHex c = true ∧ ∃ y : Nat, bits .or .u8 (c.toNat : Int) 32 = (y : Int) ∧ 97 ≤ y ∧ y ≤ 102 ∧ (hexVal c).getD 0 = y - 87) ∨
    (isDigit c = false ∧ isHex c = false ∧ ∃ y : Nat, bits .or .u8 (c.toNat : Int) 32 = (y : Int) ∧ ¬ (97 ≤ y ∧ y ≤ 102) ∧ y < 256) := by
  have h := c.toNat_lt
  by_cases hd : 48 ≤ c.toNat ∧ c.toNat ≤ 57
  · refine .inl ⟨by simp [isDigit, hd], by simp [isHex, hexVal, isDigit, hd], by simp [hexVal, isDigit, hd], hd.1, hd.2⟩
  · have hdf : isDigit c = false := by simp [isDigit]; omega
    have h1 := hexlet_iff c.toNat h hd
    have h2 := hexlet_val c.toNat h
    have h3 := or32 c.toNat h
    by_cases hl : 97 ≤ (c.toNat ||| 32) ∧ (c.toNat ||| 32) ≤ 102
    · refine .inr (.inl ⟨hdf, ?_, _, h3, hl.1, hl.2, ?_⟩)
      · rcases h1.1 hl with h4 | h4
        · simp [isHex, hexVal, hdf, h4]
        · have : ¬ (97 ≤ c.toNat ∧ c.toNat ≤ 102) := by omega
          simp [isHex, hexVal, hdf, this, h4]
      · rcases h1.1 hl with h4 | h4
        · rw [h2.1 h4]; simp [hexVal, hdf, h4]
        · have : ¬ (97 ≤ c.toNat ∧ c.toNat ≤ 102) := by omega
          rw [h2.2 h4]; simp [hexVal, hdf, this, h4]
    · refine .inr (.inr ⟨hdf, ?_, _, h3, hl, Nat.or_lt_two_pow (n := 8) h (by omega)⟩)
      have h4 : ¬ ((97 ≤ c.toNat ∧ c.toNat ≤ 102) ∨ (65 ≤ c.toNat ∧ c.toNat ≤ 70)) := fun h5 => hl (h1.2 h5)
      have h5 : ¬ (97 ≤ c.toNat ∧ c.toNat ≤ 102) := fun h => h4 (.inl h)
      have h6 : ¬ (65 ≤ c.toNat ∧ c.toNat ≤ 70) := fun h => h4 (.inr h)
      simp [isHex, hexVal, hdf, h5, h6]
theorem asI64_wrap (n : Nat) (h : n < 18446744073709551616) : wrap64 (n : Int) = asI64 n := by
  unfold wrap64 asI64
  split <;> omega

def HexPost (w : World) (a : Nat) (d : List UInt8) (e : Ending) (w' : World) : Prop :=
  e = .returned (.tuple #[.int .i64 (asI64 (hexNat (d.take (runLen isHex d)) % 18446744073709551616)), .int .i64 ((a + 2 + runLen isHex d : Nat) : Int), .bool (decide (1 ≤ runLen isHex d ∧ runLen isHex d ≤ 16))]) ∧ Drew w w'
theorem hexPost_mk {w w' : World} {a n V : Nat} {d : List UInt8} (hn : runLen isHex d = n) (hV : V = hexNat (d.take n) % 18446744073709551616) (hd : Drew w w') {X Y : Int} {z : Bool} (hX : X = wrap64 (V : Int)) (hY : Y = ((a + 2 + n : Nat) : Int)) (hz : z = decide (1 ≤ n ∧ n ≤ 16)) :
    HexPost w a d (.returned (.tuple #[.int .i64 X, .int .i64 Y, .bool z])) w' := by
  subst hn hX hY hz
  refine ⟨?_, hd⟩
  rw [asI64_wrap _ (by rw [hV]; exact Nat.mod_lt _ (by decide)), hV]

/-- The decimal number at a place. -/
def decV (d : List UInt8) : Nat := decNat (d.take (runLen isDigit d))
theorem decNat_mono (l m : List UInt8) : decNat l ≤ decNat (l ++ m) := by
  unfold decNat
  rw [List.foldl_append]
  generalize l.foldl (fun v c => 10 * v + (c.toNat - 48)) 0 = v
  induction m generalizing v with
  | nil => exact Nat.le_refl _
  | cons c m ih => exact Nat.le_trans (by simp only []; omega) (ih _)
def DecPost (w : World) (neg : Bool) (k0 : Nat) (d : List UInt8) (e : Ending) (w' : World) : Prop :=
  (if decV d ≤ (if neg then 9223372036854775808 else 9223372036854775807) then e = .returned (.tuple #[.int .i64 (if neg then -(decV d : Int) else (decV d : Int)), .int .i64 ((k0 + runLen isDigit d : Nat) : Int), .bool true])
   else e = .returned (.tuple #[.int .i64 0, .int .i64 0, .bool false])) ∧ Drew w w'
theorem decPost_yes {w w' : World} {neg : Bool} {k0 n V : Nat} {d : List UInt8} (hn : runLen isDigit d = n) (hV : V = decNat (d.take n)) (hd : Drew w w') (hle : V ≤ (if neg then 9223372036854775808 else 9223372036854775807)) {X Y : Int} (hX : X = if neg then -(V : Int) else (V : Int)) (hY : Y = ((k0 + n : Nat) : Int)) :
    DecPost w neg k0 d (.returned (.tuple #[.int .i64 X, .int .i64 Y, .bool true])) w' := by
  subst hn hV hX hY
  refine ⟨?_, hd⟩
  rw [if_pos (by unfold decV; exact hle)]
  rfl
theorem decPost_no {w w' : World} {neg : Bool} {k0 n V : Nat} {d : List UInt8} (hd : Drew w w') (hn : n ≤ runLen isDigit d) (hV : V = decNat (d.take n)) (hgt : (if neg then 9223372036854775808 else 9223372036854775807) < V) :
    DecPost w neg k0 d (.returned (.tuple #[.int .i64 0, .int .i64 0, .bool false])) w' := by
  refine ⟨?_, hd⟩
  have h1 := decNat_mono (d.take n) ((d.take (runLen isDigit d)).drop n)
  have h2 : d.take n ++ (d.take (runLen isDigit d)).drop n = d.take (runLen isDigit d) := by
    have : d.take n = (d.take (runLen isDigit d)).take n := by rw [List.take_take, Nat.min_eq_left hn]
    rw [this, List.take_append_drop]
  rw [h2, ← hV] at h1
  rw [if_neg (by unfold decV; omega)]

section
variable {w : World} {b : Nat} {s : ByteArray} {a ln g : Nat} (h : Lx w b s a ln g) (hs : s.size ≤ 4294967296) (L : List UInt8) (hL : Hid (s.data.toList = L))
include h hs hL

set_option maxHeartbeats 2000000 in
set_option maxRecDepth 100000 in
theorem hex_calls (ha : a + 2 ≤ s.size) : Calls Tryz.prog 107 #[.pointer (some ⟨b, 0, none⟩)] w (HexPost w a (L.drop (a + 2))) := by
  have h0 := h.c0
  have h1 := h.c1
  go_enter Tryz.func107, Tryz.ntmps107
  go_wp2
  go_quiet (fail)
  go_wp2
  go_loopw [5, 6, 7] (fun v i _ wr => ∃ k V m : Nat, a + 2 ≤ k ∧ k ≤ s.size ∧ i = .int .i64 k ∧ v = .int .u64 V ∧ V < 18446744073709551616 ∧ Hid (V = hexNat ((L.drop (a + 2)).take (k - (a + 2))) % 18446744073709551616) ∧ Hid (runLen isHex (L.drop (a + 2)) = k - (a + 2) + runLen isHex (L.drop k)) ∧ wr = w.drewN m)
    (fun _ i _ _ => s.size - (intOf i).toNat)
  case atStart => exact ⟨a + 2, 0, _, Nat.le_refl _, ha, by go_num, rfl, by omega, hid (by simp [hexNat]), hid (by simp), rfl⟩
  case round =>
    obtain ⟨k, V, m, hk1, hk, rfl, rfl, hV, HV, HR, rfl⟩ := hrel
    by_cases hlt : k < s.size
    · have hd := drop_cons_of hL hlt
      have hr := HR.out
      rw [hd, runLen] at hr
      have hts := take_step hL hk1 hlt
      have hc := digit_calls s[k] (w.drewN m)
      have hx8 := s[k].toNat_lt
      have hsn := hexNat_snoc ((L.drop (a + 2)).take (k - (a + 2))) s[k]
      rw [← hts] at hsn
      rcases hex_cases s[k] with ⟨c1, c2, c3, c4, c5⟩ | ⟨c1, c2, y, c3, c4, c5, c6⟩ | ⟨c1, c2, y, c3, c4, c5⟩
      · rw [c1] at hc
        rw [c2] at hr
        rw [c3] at hsn
        have hst := hex_step V (s[k].toNat - 48) hV (by omega)
        rw [show ((s[k].toNat - 48 : Nat) : Int) = (s[k].toNat : Int) - 48 from by omega] at hst
        have HC := hid hc
        have HR2 := hid hr
        have HSN := hid hsn
        clear hd hr hts hc hsn HR c1 c2 c3
        go_wp2_with (go_at_call 93; refine HC.out.mono ?_; rintro e w' ⟨rfl, rfl⟩)
        go_roundw
        case rel => exact ⟨k + 1, (16 * V + (s[k].toNat - 48)) % 18446744073709551616, m, by omega, by omega, by go_num, congrArg (Value.int .u64) (by omega), Nat.mod_lt _ (by decide), hid (by rw [HSN.out, HV.out]; omega), hid (by rw [HR2.out]; simp; omega), rfl⟩
        case measure => simp [intOf]; omega
      · rw [c1] at hc
        rw [c2] at hr
        rw [c6] at hsn
        have hst := hex_step V (y - 87) hV (by omega)
        rw [show ((y - 87 : Nat) : Int) = (y : Int) - 97 + 10 from by omega] at hst
        have HC := hid hc
        have HR2 := hid hr
        have HSN := hid hsn
        have hg1 : (97 : Int) ≤ (y : Int) := by omega
        have hg2 : (y : Int) ≤ 102 := by omega
        clear hd hr hts hc hsn HR c1 c2 c6
        go_wp2_with (go_at_call 93; refine HC.out.mono ?_; rintro e w' ⟨rfl, rfl⟩)
        go_roundw
        case rel => exact ⟨k + 1, (16 * V + (y - 87)) % 18446744073709551616, m, by omega, by omega, by go_num, congrArg (Value.int .u64) (by omega), Nat.mod_lt _ (by decide), hid (by rw [HSN.out, HV.out]; omega), hid (by rw [HR2.out]; simp; omega), rfl⟩
        case measure => simp [intOf]; omega
      · rw [c1] at hc
        rw [c2] at hr
        have HC := hid hc
        have HR2 := hid hr
        clear hd hr hts hc hsn HR c1 c2
        go_wp2_with (go_at_call 93; refine HC.out.mono ?_; rintro e w' ⟨rfl, rfl⟩)
        all_goals go_ret3
        all_goals exact hexPost_mk (n := k - (a + 2)) (by have := HR2.out; simpa [runLen] using this) HV.out Drew.refl rfl (by omega) (by rw [Bool.eq_iff_iff]; simp; omega)
    · have hd : L.drop k = [] := List.drop_of_length_le (by rw [len_of hL]; omega)
      have hr := HR.out
      rw [hd] at hr
      have HR2 := hid hr
      clear hd hr HR
      go_wp2
      all_goals go_ret3
      all_goals exact hexPost_mk (n := k - (a + 2)) (by have := HR2.out; simpa [runLen] using this) HV.out Drew.refl rfl (by omega) (by rw [Bool.eq_iff_iff]; simp; omega)

set_option maxHeartbeats 2000000 in
set_option maxRecDepth 100000 in
theorem dec_calls_pos (ha : a < s.size) (hneg : (s[a].toNat : Int) ≠ 45) : Calls Tryz.prog 106 #[.pointer (some ⟨b, 0, none⟩)] w (DecPost w false (a) (L.drop (a))) := by
  have h0 := h.c0
  have h1 := h.c1
  have hb : ((s[a].toNat : Int) == 45) = false := by simpa using hneg
  clear hneg
  go_enter Tryz.func106, Tryz.ntmps106
  go_wp2
  go_quiet (fail)
  go_wp2
  go_loopw [5, 8, 9] (fun i v _ wr => ∃ k V m : Nat, a ≤ k ∧ k ≤ s.size ∧ i = .int .i64 k ∧ v = .int .u64 V ∧ V ≤ 9223372036854775807 ∧ Hid (V = decNat ((L.drop (a)).take (k - (a)))) ∧ Hid (runLen isDigit (L.drop (a)) = k - (a) + runLen isDigit (L.drop k)) ∧ wr = w.drewN m)
    (fun i _ _ _ => s.size - (intOf i).toNat)
  case atStart => exact ⟨a, 0, _, Nat.le_refl _, by omega, by go_num, rfl, by omega, hid (by simp [decNat]), hid (by simp), rfl⟩
  case round =>
    obtain ⟨k, V, m, hk1, hk, rfl, rfl, hV, HV, HR, rfl⟩ := hrel
    by_cases hlt : k < s.size
    · have hd := drop_cons_of hL hlt
      have hr := HR.out
      rw [hd, runLen] at hr
      have hts := take_step hL hk1 hlt
      have hc := digit_calls s[k] (w.drewN m)
      have hx8 := s[k].toNat_lt
      have hsn := decNat_snoc ((L.drop (a)).take (k - (a))) s[k]
      rw [← hts] at hsn
      rcases Bool.eq_false_or_eq_true (isDigit s[k]) with c1 | c1
      · rw [c1] at hc hr
        have hdd : 48 ≤ s[k].toNat ∧ s[k].toNat ≤ 57 := by simpa [isDigit] using c1
        have HC := hid hc
        have HR2 := hid hr
        have HSN := hid hsn
        obtain ⟨hd1, hd2⟩ := hdd
        clear hd hr hts hc hsn HR c1
        go_wp2_with (go_at_call 93; refine HC.out.mono ?_; rintro e w' ⟨rfl, rfl⟩)
        · go_ret3
          exact decPost_no (n := k + 1 - (a)) Drew.refl (by have := HR2.out; simp at this; omega) rfl (by rw [HSN.out, ← HV.out]; simp; omega)
        · go_roundw
          case rel => exact ⟨k + 1, 10 * V + (s[k].toNat - 48), m, by omega, by omega, by go_num, congrArg (Value.int .u64) (by omega), by omega, hid (by rw [HSN.out, HV.out]), hid (by rw [HR2.out]; simp; omega), rfl⟩
          case measure => simp [intOf]; omega
      · rw [c1] at hc hr
        have HC := hid hc
        have HR2 := hid hr
        clear hd hr hts hc hsn HR c1
        go_wp2_with (go_at_call 93; refine HC.out.mono ?_; rintro e w' ⟨rfl, rfl⟩)
        go_ret3
        exact decPost_yes (n := k - (a)) (by have := HR2.out; simpa [runLen] using this) HV.out Drew.refl (by simpa using hV) (by simp; try unfold wrap64; try omega) (by omega)
    · have hd : L.drop k = [] := List.drop_of_length_le (by rw [len_of hL]; omega)
      have hr := HR.out
      rw [hd] at hr
      have HR2 := hid hr
      clear hd hr HR
      go_wp2
      go_ret3
      exact decPost_yes (n := k - (a)) (by have := HR2.out; simpa [runLen] using this) HV.out Drew.refl (by simpa using hV) (by simp; try unfold wrap64; try omega) (by omega)
set_option maxHeartbeats 2000000 in
set_option maxRecDepth 100000 in
theorem dec_calls_neg (ha : a < s.size) (hneg : (s[a].toNat : Int) = 45) : Calls Tryz.prog 106 #[.pointer (some ⟨b, 0, none⟩)] w (DecPost w true (a + 1) (L.drop (a + 1))) := by
  have h0 := h.c0
  have h1 := h.c1
  have hb : ((s[a].toNat : Int) == 45) = true := by simpa using hneg
  clear hneg
  go_enter Tryz.func106, Tryz.ntmps106
  go_wp2
  go_quiet (fail)
  go_wp2
  go_loopw [5, 8, 9] (fun i v _ wr => ∃ k V m : Nat, a + 1 ≤ k ∧ k ≤ s.size ∧ i = .int .i64 k ∧ v = .int .u64 V ∧ V ≤ 9223372036854775808 ∧ Hid (V = decNat ((L.drop (a + 1)).take (k - (a + 1)))) ∧ Hid (runLen isDigit (L.drop (a + 1)) = k - (a + 1) + runLen isDigit (L.drop k)) ∧ wr = w.drewN m)
    (fun i _ _ _ => s.size - (intOf i).toNat)
  case atStart => exact ⟨a + 1, 0, _, Nat.le_refl _, by omega, by go_num, rfl, by omega, hid (by simp [decNat]), hid (by simp), rfl⟩
  case round =>
    obtain ⟨k, V, m, hk1, hk, rfl, rfl, hV, HV, HR, rfl⟩ := hrel
    by_cases hlt : k < s.size
    · have hd := drop_cons_of hL hlt
      have hr := HR.out
      rw [hd, runLen] at hr
      have hts := take_step hL hk1 hlt
      have hc := digit_calls s[k] (w.drewN m)
      have hx8 := s[k].toNat_lt
      have hsn := decNat_snoc ((L.drop (a + 1)).take (k - (a + 1))) s[k]
      rw [← hts] at hsn
      rcases Bool.eq_false_or_eq_true (isDigit s[k]) with c1 | c1
      · rw [c1] at hc hr
        have hdd : 48 ≤ s[k].toNat ∧ s[k].toNat ≤ 57 := by simpa [isDigit] using c1
        have HC := hid hc
        have HR2 := hid hr
        have HSN := hid hsn
        obtain ⟨hd1, hd2⟩ := hdd
        clear hd hr hts hc hsn HR c1
        go_wp2_with (go_at_call 93; refine HC.out.mono ?_; rintro e w' ⟨rfl, rfl⟩)
        · go_ret3
          exact decPost_no (n := k + 1 - (a + 1)) Drew.refl (by have := HR2.out; simp at this; omega) rfl (by rw [HSN.out, ← HV.out]; simp; omega)
        · go_roundw
          case rel => exact ⟨k + 1, 10 * V + (s[k].toNat - 48), m, by omega, by omega, by go_num, congrArg (Value.int .u64) (by omega), by omega, hid (by rw [HSN.out, HV.out]), hid (by rw [HR2.out]; simp; omega), rfl⟩
          case measure => simp [intOf]; omega
      · rw [c1] at hc hr
        have HC := hid hc
        have HR2 := hid hr
        clear hd hr hts hc hsn HR c1
        go_wp2_with (go_at_call 93; refine HC.out.mono ?_; rintro e w' ⟨rfl, rfl⟩)
        go_ret3
        exact decPost_yes (n := k - (a + 1)) (by have := HR2.out; simpa [runLen] using this) HV.out Drew.refl (by simpa using hV) (by simp; rw [IntKind.wrap_u64]; unfold wrap64; omega) (by omega)
    · have hd : L.drop k = [] := List.drop_of_length_le (by rw [len_of hL]; omega)
      have hr := HR.out
      rw [hd] at hr
      have HR2 := hid hr
      clear hd hr HR
      go_wp2
      go_ret3
      exact decPost_yes (n := k - (a + 1)) (by have := HR2.out; simpa [runLen] using this) HV.out Drew.refl (by simpa using hV) (by simp; rw [IntKind.wrap_u64]; unfold wrap64; omega) (by omega)
end
end Go.Proofs.YtmahcabidggmeaaGreatDoor

/- Walks of the lexer: the number that stands at a place. -/
set_option linter.unusedVariables false
set_option linter.unusedSectionVars false
set_option linter.unusedSimpArgs false
namespace Go.Proofs.YtmahcabidggmeaaGreatDoor
open Go.RowKit Go.AB
set_option linter.unusedSimpArgs false
set_option linter.unusedVariables false

theorem head_of {L : List UInt8} {s : ByteArray} (hL : Hid (s.data.toList = L)) {a : Nat} (ha : a < s.size) : (L.drop a).head? = some s[a] := by rw [drop_cons_of hL ha]; rfl
theorem get_of {L : List UInt8} {s : ByteArray} (hL : Hid (s.data.toList = L)) (i : Nat) : L[i]? = if h : i < s.size then some s[i] else none := by
  have h := hL.out
  subst h
  split
  · rename_i h; rw [List.getElem?_eq_getElem (by rw [Array.length_toList]; exact h)]; rfl
  · rename_i h; rw [List.getElem?_eq_none (by rw [Array.length_toList]; exact Nat.le_of_not_lt h)]
theorem at_of {L : List UInt8} {s : ByteArray} (hL : Hid (s.data.toList = L)) (a n : Nat) : (L.drop a)[n]? = if h : a + n < s.size then some s[a + n] else none := by
  rw [List.getElem?_drop, get_of hL]
theorem wordly_of {L : List UInt8} {s : ByteArray} (hL : Hid (s.data.toList = L)) (a n : Nat) : wAt (L.drop a) n = isWordly (byteAtB s (a + n)) := by
  unfold wAt byteAtB
  rw [at_of hL]
  split
  · rename_i c hc; split at hc
    · rename_i h; rw [dif_pos h]; cases hc; rfl
    · cases hc
  · rename_i hc; split at hc
    · cases hc
    · rename_i h; rw [dif_neg h]; decide
theorem x_of {L : List UInt8} {s : ByteArray} (hL : Hid (s.data.toList = L)) (a n : Nat) : ((L.drop a)[n]? = some 120) ↔ ((byteAtB s (a + n)).toNat = 120) := by
  rw [at_of hL]
  unfold byteAtB
  split
  · simp [← UInt8.toNat_inj]
  · simp

def zeroTok : Value := .agg #[.int .i64 0, .string ⟨#[]⟩, .int .i64 0, .int .i64 0, .int .i64 0]
def tokV (k : Nat) (t : List UInt8) (v : Int) (line col : Nat) : Value := .agg #[.int .i64 k, .string ⟨t.toArray⟩, .int .i64 v, .int .i64 line, .int .i64 col]
def NumPost (w : World) (a : Nat) (d : List UInt8) (e : Ending) (w' : World) : Prop :=
  (match numTokAt d with
   | none => e = .returned (.tuple #[zeroTok, .int .i64 0, .int .i64 71])
   | some (v, n) => e = .returned (.tuple #[tokV 2 [] v 0 0, .int .i64 ((a + n : Nat) : Int), .int .i64 0])) ∧ Chg [] w w'
theorem numPost_no {w w' : World} {a : Nat} {d : List UInt8} (h : numTokAt d = none) (hc : Chg [] w w') : NumPost w a d (.returned (.tuple #[.agg #[.int .i64 0, .string ⟨#[]⟩, .int .i64 0, .int .i64 0, .int .i64 0], .int .i64 0, .int .i64 71])) w' := by
  unfold NumPost; rw [h]; exact ⟨rfl, hc⟩
theorem numPost_yes {w w' : World} {a : Nat} {d : List UInt8} {v : Int} {n : Nat} (h : numTokAt d = some (v, n)) (hc : Chg [] w w') {X Y : Int} (hX : X = v) (hY : Y = ((a + n : Nat) : Int)) : NumPost w a d (.returned (.tuple #[.agg #[.int .i64 2, .string ⟨#[]⟩, .int .i64 X, .int .i64 0, .int .i64 0], .int .i64 Y, .int .i64 0])) w' := by
  subst hX hY; unfold NumPost; rw [h]; exact ⟨rfl, hc⟩
/-- What reading the number answers, before it is asked what stands behind it. -/
def ReadPost (w : World) (a : Nat) (d : List UInt8) (e : Ending) (w' : World) : Prop :=
  (match numAt d with
   | none => ∃ X Y : Int, e = .returned (.tuple #[.int .i64 X, .int .i64 Y, .bool false])
   | some (v, n) => e = .returned (.tuple #[.int .i64 v, .int .i64 ((a + n : Nat) : Int), .bool true])) ∧ Drew w w'

section
variable {w : World} {b : Nat} {s : ByteArray} {a ln g : Nat} (h : Lx w b s a ln g) (hs : s.size ≤ 4294967296) (L : List UInt8) (hL : Hid (s.data.toList = L))
include h hs hL
theorem hex_reads (ha : a < s.size) (h0 : s[a].toNat = 48) (hx : (byteAtB s (a + 1)).toNat = 120) : Calls Tryz.prog 107 #[.pointer (some ⟨b, 0, none⟩)] w (ReadPost w a (L.drop a)) := by
  have ha2 : a + 2 ≤ s.size := by
    unfold byteAtB at hx
    split at hx
    · omega
    · simp at hx
  refine (hex_calls h hs L hL ha2).mono ?_
  rintro e w' ⟨rfl, hd⟩
  have hn : numAt (L.drop a) = if 1 ≤ runLen isHex (L.drop (a + 2)) ∧ runLen isHex (L.drop (a + 2)) ≤ 16 then some (asI64 (hexNat ((L.drop (a + 2)).take (runLen isHex (L.drop (a + 2))))), runLen isHex (L.drop (a + 2)) + 2) else none := by
    unfold numAt
    rw [if_pos ⟨by rw [head_of hL ha]; simp [← UInt8.toNat_inj, h0], (x_of hL a 1).2 hx⟩, List.drop_drop]
  refine ⟨?_, hd⟩
  rw [hn]
  by_cases hc : 1 ≤ runLen isHex (L.drop (a + 2)) ∧ runLen isHex (L.drop (a + 2)) ≤ 16
  · rw [if_pos hc]
    have hm : hexNat ((L.drop (a + 2)).take (runLen isHex (L.drop (a + 2)))) % 18446744073709551616 = hexNat ((L.drop (a + 2)).take (runLen isHex (L.drop (a + 2)))) :=
      Nat.mod_eq_of_lt (hexNat_lt _ (by rw [List.length_take]; omega))
    rw [hm, decide_eq_true hc, show a + 2 + runLen isHex (L.drop (a + 2)) = a + (runLen isHex (L.drop (a + 2)) + 2) from by omega]
  · rw [if_neg hc, decide_eq_false hc]
    exact ⟨_, _, rfl⟩
theorem dec_reads (ha : a < s.size) (h0 : ¬ (s[a].toNat = 48 ∧ (byteAtB s (a + 1)).toNat = 120)) : Calls Tryz.prog 106 #[.pointer (some ⟨b, 0, none⟩)] w (ReadPost w a (L.drop a)) := by
  have hno : ¬ ((L.drop a).head? = some 48 ∧ (L.drop a)[1]? = some 120) := by
    rw [head_of hL ha, x_of hL a 1]
    intro ⟨h1, h2⟩
    exact h0 ⟨by simpa [← UInt8.toNat_inj] using h1, h2⟩
  by_cases hneg : s[a].toNat = 45
  · refine (dec_calls_neg h hs L hL ha (by omega)).mono ?_
    rintro e w' ⟨hp, hd⟩
    have hn : numAt (L.drop a) = if decV (L.drop (a + 1)) ≤ 9223372036854775808 then some (-(decV (L.drop (a + 1)) : Int), runLen isDigit (L.drop (a + 1)) + 1) else none := by
      unfold numAt
      rw [if_neg hno, if_pos (by rw [head_of hL ha]; simp [← UInt8.toNat_inj, hneg]), List.drop_drop]
      rfl
    refine ⟨?_, hd⟩
    rw [hn]
    simp only [if_true] at hp
    split at hp
    · rename_i hc
      rw [if_pos hc, hp, show a + 1 + runLen isDigit (L.drop (a + 1)) = a + (runLen isDigit (L.drop (a + 1)) + 1) from by omega]
    · rename_i hc
      rw [if_neg hc]
      exact ⟨0, 0, hp⟩
  · refine (dec_calls_pos h hs L hL ha (by omega)).mono ?_
    rintro e w' ⟨hp, hd⟩
    have hn : numAt (L.drop a) = if decV (L.drop a) ≤ 9223372036854775807 then some ((decV (L.drop a) : Int), runLen isDigit (L.drop a)) else none := by
      unfold numAt
      rw [if_neg hno, if_neg (by rw [head_of hL ha]; simp [← UInt8.toNat_inj]; exact hneg)]
      rfl
    refine ⟨?_, hd⟩
    rw [hn]
    simp only [Bool.false_eq_true, if_false] at hp
    split at hp
    · rename_i hc
      rw [if_pos hc, hp]
    · rename_i hc
      rw [if_neg hc]
      exact ⟨0, 0, hp⟩
end

section
variable {w : World} {b : Nat} {s : ByteArray} {a ln g : Nat} (h : Lx w b s a ln g) (hs : s.size ≤ 4294967296) (L : List UInt8) (hL : Hid (s.data.toList = L))
include h hs hL
omit h hL in
theorem byteAt_quiet {W : World} (hW : Lx W b s a ln g) (i : Nat) (n : Nat) : Calls Tryz.prog 66 #[.pointer (some ⟨b, 0, none⟩), .int .i64 i] (W.drewN n) fun e w' => e = .returned (.int .u8 (byteAtB s i).toNat) ∧ ∃ m, w' = W.drewN m :=
  (byteAt_calls (hW.keep (Chg.of_drewN [] W n) (by simp)) hs i).mono fun e w' ⟨h1, h2⟩ => ⟨h1, n, h2.symm⟩
set_option maxHeartbeats 2000000 in
set_option maxRecDepth 100000 in
theorem number_hex (ha : a < s.size) (c1 : s[a].toNat = 48) (c2 : (byteAtB s (a + 1)).toNat = 120) : Calls Tryz.prog 94 #[.pointer (some ⟨b, 0, none⟩)] w (NumPost w a (L.drop a)) := by
  have hca := (Chg.refl [] w).alloc (.cells #[.int .i64 0, .string ⟨#[]⟩, .int .i64 0, .int .i64 0, .int .i64 0] 63)
  have hx := h.keep hca (by simp)
  have h0 := hx.c0
  have h1 := hx.c1
  have e1 : ((s[a].toNat : Int) == 48) = true := by simp; omega
  have hq := fun W (hW : Lx W b s a ln g) n => byteAt_quiet hs hW (a + 1) n
  have HQ := hid (hq _ hx)
  have e2 : (((byteAtB s (a + 1)).toNat : Int) == 120) = true := by simp; omega
  have hr := fun W (hW : Lx W b s a ln g) => hex_reads hW hs L hL ha c1 c2
  have HR := hid hr
  clear hr c1 c2 hq
  go_enter Tryz.func94, Tryz.ntmps94
  go_wp2
  go_quiet ((go_at_call 66; exact HQ.out _))
  rcases hN : numAt (L.drop a) with _ | ⟨v, n⟩
  · have hr := fun W (hW : Lx W b s a ln g) => (HR.out W hW).mono (fun e w' hp => by unfold ReadPost at hp; rw [hN] at hp; exact hp)
    have hno : numTokAt (L.drop a) = none := by unfold numTokAt; rw [hN]
    have HR2 := hid hr
    have HNO := hid hno
    clear hr hN hno HR
    go_wp2_with (go_at_call 107; refine (HR2.out _ (hx.keep (Chg.of_drewN [] _ _) (by simp))).mono ?_; rintro e w1 ⟨⟨X, Y, rfl⟩, hd1⟩; have hd1' := hd1; obtain ⟨n1, rfl⟩ := hd1)
    exact bodyPost_ret (v := .tuple #[.agg #[.int .i64 0, .string ⟨#[]⟩, .int .i64 0, .int .i64 0, .int .i64 0], .int .i64 0, .int .i64 71]) (by simp [results, Tryz.results94, go_sem]) rfl (numPost_no HNO.out ((((((hca.drewN _).setCell (p := ⟨w.heap.size, 0, none⟩) (.inr (Nat.le_refl _)) _).setCell (p := ⟨w.heap.size, 1, none⟩) (.inr (Nat.le_refl _)) _).setCell (p := ⟨w.heap.size, 2, none⟩) (.inr (Nat.le_refl _)) _).setCell (p := ⟨w.heap.size, 3, none⟩) (.inr (Nat.le_refl _)) _).setCell (p := ⟨w.heap.size, 4, none⟩) (.inr (Nat.le_refl _)) _))
  · have hr := fun W (hW : Lx W b s a ln g) => (HR.out W hW).mono (fun e w' hp => by unfold ReadPost at hp; rw [hN] at hp; exact hp)
    have HR2 := hid hr
    have hW := wordly_of hL a n
    have hwc := wordly_calls (byteAtB s (a + n))
    have hba := fun W (hW : Lx W b s a ln g) => byteAt_calls hW hs (a + n)
    rcases Bool.eq_false_or_eq_true (isWordly (byteAtB s (a + n))) with hw | hw
    · rw [hw] at hW hwc
      have hno : numTokAt (L.drop a) = none := by unfold numTokAt; rw [hN]; simp [hW]
      have HNO := hid hno
      have HWC := hid hwc
      have HBA := hid hba
      clear hr hN HR hW hwc hba hw hno
      go_wp2_with (first
        | (go_at_call 107; refine (HR2.out _ (hx.keep (Chg.of_drewN [] _ _) (by simp))).mono ?_; rintro e w1 ⟨rfl, hd1⟩; obtain ⟨n1, rfl⟩ := hd1)
        | (go_at_call 66; refine (HBA.out _ (hx.keep (Chg.of_drewN [] _ _) (by simp))).mono ?_; rintro e w2 ⟨rfl, rfl⟩)
        | (go_at_call 92; refine (HWC.out _).mono ?_; rintro e w2 ⟨rfl, rfl⟩))
      exact bodyPost_ret (v := .tuple #[.agg #[.int .i64 0, .string ⟨#[]⟩, .int .i64 0, .int .i64 0, .int .i64 0], .int .i64 0, .int .i64 71]) (by simp [results, Tryz.results94, go_sem]) rfl (numPost_no HNO.out ((((((hca.drewN _).setCell (p := ⟨w.heap.size, 0, none⟩) (.inr (Nat.le_refl _)) _).setCell (p := ⟨w.heap.size, 1, none⟩) (.inr (Nat.le_refl _)) _).setCell (p := ⟨w.heap.size, 2, none⟩) (.inr (Nat.le_refl _)) _).setCell (p := ⟨w.heap.size, 3, none⟩) (.inr (Nat.le_refl _)) _).setCell (p := ⟨w.heap.size, 4, none⟩) (.inr (Nat.le_refl _)) _))
    · rw [hw] at hW hwc
      have hyes : numTokAt (L.drop a) = some (v, n) := by unfold numTokAt; rw [hN]; simp [hW]
      have HY := hid hyes
      have HWC := hid hwc
      have HBA := hid hba
      clear hr hN HR hW hwc hba hw hyes
      go_wp2_with (first
        | (go_at_call 107; refine (HR2.out _ (hx.keep (Chg.of_drewN [] _ _) (by simp))).mono ?_; rintro e w1 ⟨rfl, hd1⟩; obtain ⟨n1, rfl⟩ := hd1)
        | (go_at_call 66; refine (HBA.out _ (hx.keep (Chg.of_drewN [] _ _) (by simp))).mono ?_; rintro e w2 ⟨rfl, rfl⟩)
        | (go_at_call 92; refine (HWC.out _).mono ?_; rintro e w2 ⟨rfl, rfl⟩))
      exact bodyPost_ret (v := .tuple #[.agg #[.int .i64 2, .string ⟨#[]⟩, .int .i64 v, .int .i64 0, .int .i64 0], .int .i64 ((a : Int) + (n : Int)), .int .i64 0]) (by simp [results, Tryz.results94, go_sem]) rfl (numPost_yes HY.out ((((((hca.drewN _).setCell (p := ⟨w.heap.size, 0, none⟩) (.inr (Nat.le_refl _)) _).setCell (p := ⟨w.heap.size, 1, none⟩) (.inr (Nat.le_refl _)) _).setCell (p := ⟨w.heap.size, 2, none⟩) (.inr (Nat.le_refl _)) _).setCell (p := ⟨w.heap.size, 3, none⟩) (.inr (Nat.le_refl _)) _).setCell (p := ⟨w.heap.size, 4, none⟩) (.inr (Nat.le_refl _)) _) rfl (by omega))
set_option maxHeartbeats 2000000 in
set_option maxRecDepth 100000 in
theorem number_dec0 (ha : a < s.size) (c1 : s[a].toNat = 48) (c2 : (byteAtB s (a + 1)).toNat ≠ 120) : Calls Tryz.prog 94 #[.pointer (some ⟨b, 0, none⟩)] w (NumPost w a (L.drop a)) := by
  have hca := (Chg.refl [] w).alloc (.cells #[.int .i64 0, .string ⟨#[]⟩, .int .i64 0, .int .i64 0, .int .i64 0] 63)
  have hx := h.keep hca (by simp)
  have h0 := hx.c0
  have h1 := hx.c1
  have e1 : ((s[a].toNat : Int) == 48) = true := by simp; omega
  have hq := fun W (hW : Lx W b s a ln g) n => byteAt_quiet hs hW (a + 1) n
  have HQ := hid (hq _ hx)
  have e2 : (((byteAtB s (a + 1)).toNat : Int) == 120) = false := by simp; omega
  have hr := fun W (hW : Lx W b s a ln g) => dec_reads hW hs L hL ha (fun h => c2 h.2)
  have HR := hid hr
  clear hr c1 c2 hq
  go_enter Tryz.func94, Tryz.ntmps94
  go_wp2
  go_quiet ((go_at_call 66; exact HQ.out _))
  rcases hN : numAt (L.drop a) with _ | ⟨v, n⟩
  · have hr := fun W (hW : Lx W b s a ln g) => (HR.out W hW).mono (fun e w' hp => by unfold ReadPost at hp; rw [hN] at hp; exact hp)
    have hno : numTokAt (L.drop a) = none := by unfold numTokAt; rw [hN]
    have HR2 := hid hr
    have HNO := hid hno
    clear hr hN hno HR
    go_wp2_with (go_at_call 106; refine (HR2.out _ (hx.keep (Chg.of_drewN [] _ _) (by simp))).mono ?_; rintro e w1 ⟨⟨X, Y, rfl⟩, hd1⟩; have hd1' := hd1; obtain ⟨n1, rfl⟩ := hd1)
    exact bodyPost_ret (v := .tuple #[.agg #[.int .i64 0, .string ⟨#[]⟩, .int .i64 0, .int .i64 0, .int .i64 0], .int .i64 0, .int .i64 71]) (by simp [results, Tryz.results94, go_sem]) rfl (numPost_no HNO.out ((((((hca.drewN _).setCell (p := ⟨w.heap.size, 0, none⟩) (.inr (Nat.le_refl _)) _).setCell (p := ⟨w.heap.size, 1, none⟩) (.inr (Nat.le_refl _)) _).setCell (p := ⟨w.heap.size, 2, none⟩) (.inr (Nat.le_refl _)) _).setCell (p := ⟨w.heap.size, 3, none⟩) (.inr (Nat.le_refl _)) _).setCell (p := ⟨w.heap.size, 4, none⟩) (.inr (Nat.le_refl _)) _))
  · have hr := fun W (hW : Lx W b s a ln g) => (HR.out W hW).mono (fun e w' hp => by unfold ReadPost at hp; rw [hN] at hp; exact hp)
    have HR2 := hid hr
    have hW := wordly_of hL a n
    have hwc := wordly_calls (byteAtB s (a + n))
    have hba := fun W (hW : Lx W b s a ln g) => byteAt_calls hW hs (a + n)
    rcases Bool.eq_false_or_eq_true (isWordly (byteAtB s (a + n))) with hw | hw
    · rw [hw] at hW hwc
      have hno : numTokAt (L.drop a) = none := by unfold numTokAt; rw [hN]; simp [hW]
      have HNO := hid hno
      have HWC := hid hwc
      have HBA := hid hba
      clear hr hN HR hW hwc hba hw hno
      go_wp2_with (first
        | (go_at_call 106; refine (HR2.out _ (hx.keep (Chg.of_drewN [] _ _) (by simp))).mono ?_; rintro e w1 ⟨rfl, hd1⟩; obtain ⟨n1, rfl⟩ := hd1)
        | (go_at_call 66; refine (HBA.out _ (hx.keep (Chg.of_drewN [] _ _) (by simp))).mono ?_; rintro e w2 ⟨rfl, rfl⟩)
        | (go_at_call 92; refine (HWC.out _).mono ?_; rintro e w2 ⟨rfl, rfl⟩))
      exact bodyPost_ret (v := .tuple #[.agg #[.int .i64 0, .string ⟨#[]⟩, .int .i64 0, .int .i64 0, .int .i64 0], .int .i64 0, .int .i64 71]) (by simp [results, Tryz.results94, go_sem]) rfl (numPost_no HNO.out ((((((hca.drewN _).setCell (p := ⟨w.heap.size, 0, none⟩) (.inr (Nat.le_refl _)) _).setCell (p := ⟨w.heap.size, 1, none⟩) (.inr (Nat.le_refl _)) _).setCell (p := ⟨w.heap.size, 2, none⟩) (.inr (Nat.le_refl _)) _).setCell (p := ⟨w.heap.size, 3, none⟩) (.inr (Nat.le_refl _)) _).setCell (p := ⟨w.heap.size, 4, none⟩) (.inr (Nat.le_refl _)) _))
    · rw [hw] at hW hwc
      have hyes : numTokAt (L.drop a) = some (v, n) := by unfold numTokAt; rw [hN]; simp [hW]
      have HY := hid hyes
      have HWC := hid hwc
      have HBA := hid hba
      clear hr hN HR hW hwc hba hw hyes
      go_wp2_with (first
        | (go_at_call 106; refine (HR2.out _ (hx.keep (Chg.of_drewN [] _ _) (by simp))).mono ?_; rintro e w1 ⟨rfl, hd1⟩; obtain ⟨n1, rfl⟩ := hd1)
        | (go_at_call 66; refine (HBA.out _ (hx.keep (Chg.of_drewN [] _ _) (by simp))).mono ?_; rintro e w2 ⟨rfl, rfl⟩)
        | (go_at_call 92; refine (HWC.out _).mono ?_; rintro e w2 ⟨rfl, rfl⟩))
      exact bodyPost_ret (v := .tuple #[.agg #[.int .i64 2, .string ⟨#[]⟩, .int .i64 v, .int .i64 0, .int .i64 0], .int .i64 ((a : Int) + (n : Int)), .int .i64 0]) (by simp [results, Tryz.results94, go_sem]) rfl (numPost_yes HY.out ((((((hca.drewN _).setCell (p := ⟨w.heap.size, 0, none⟩) (.inr (Nat.le_refl _)) _).setCell (p := ⟨w.heap.size, 1, none⟩) (.inr (Nat.le_refl _)) _).setCell (p := ⟨w.heap.size, 2, none⟩) (.inr (Nat.le_refl _)) _).setCell (p := ⟨w.heap.size, 3, none⟩) (.inr (Nat.le_refl _)) _).setCell (p := ⟨w.heap.size, 4, none⟩) (.inr (Nat.le_refl _)) _) rfl (by omega))
set_option maxHeartbeats 2000000 in
set_option maxRecDepth 100000 in
theorem number_dec (ha : a < s.size) (c1 : s[a].toNat ≠ 48) : Calls Tryz.prog 94 #[.pointer (some ⟨b, 0, none⟩)] w (NumPost w a (L.drop a)) := by
  have hca := (Chg.refl [] w).alloc (.cells #[.int .i64 0, .string ⟨#[]⟩, .int .i64 0, .int .i64 0, .int .i64 0] 63)
  have hx := h.keep hca (by simp)
  have h0 := hx.c0
  have h1 := hx.c1
  have e1 : ((s[a].toNat : Int) == 48) = false := by simp; omega
  have hr := fun W (hW : Lx W b s a ln g) => dec_reads hW hs L hL ha (by omega)
  have HR := hid hr
  clear hr c1
  go_enter Tryz.func94, Tryz.ntmps94
  go_wp2
  go_quiet (fail)
  rcases hN : numAt (L.drop a) with _ | ⟨v, n⟩
  · have hr := fun W (hW : Lx W b s a ln g) => (HR.out W hW).mono (fun e w' hp => by unfold ReadPost at hp; rw [hN] at hp; exact hp)
    have hno : numTokAt (L.drop a) = none := by unfold numTokAt; rw [hN]
    have HR2 := hid hr
    have HNO := hid hno
    clear hr hN hno HR
    go_wp2_with (go_at_call 106; refine (HR2.out _ (hx.keep (Chg.of_drewN [] _ _) (by simp))).mono ?_; rintro e w1 ⟨⟨X, Y, rfl⟩, hd1⟩; have hd1' := hd1; obtain ⟨n1, rfl⟩ := hd1)
    exact bodyPost_ret (v := .tuple #[.agg #[.int .i64 0, .string ⟨#[]⟩, .int .i64 0, .int .i64 0, .int .i64 0], .int .i64 0, .int .i64 71]) (by simp [results, Tryz.results94, go_sem]) rfl (numPost_no HNO.out ((((((hca.drewN _).setCell (p := ⟨w.heap.size, 0, none⟩) (.inr (Nat.le_refl _)) _).setCell (p := ⟨w.heap.size, 1, none⟩) (.inr (Nat.le_refl _)) _).setCell (p := ⟨w.heap.size, 2, none⟩) (.inr (Nat.le_refl _)) _).setCell (p := ⟨w.heap.size, 3, none⟩) (.inr (Nat.le_refl _)) _).setCell (p := ⟨w.heap.size, 4, none⟩) (.inr (Nat.le_refl _)) _))
  · have hr := fun W (hW : Lx W b s a ln g) => (HR.out W hW).mono (fun e w' hp => by unfold ReadPost at hp; rw [hN] at hp; exact hp)
    have HR2 := hid hr
    have hW := wordly_of hL a n
    have hwc := wordly_calls (byteAtB s (a + n))
    have hba := fun W (hW : Lx W b s a ln g) => byteAt_calls hW hs (a + n)
    rcases Bool.eq_false_or_eq_true (isWordly (byteAtB s (a + n))) with hw | hw
    · rw [hw] at hW hwc
      have hno : numTokAt (L.drop a) = none := by unfold numTokAt; rw [hN]; simp [hW]
      have HNO := hid hno
      have HWC := hid hwc
      have HBA := hid hba
      clear hr hN HR hW hwc hba hw hno
      go_wp2_with (first
        | (go_at_call 106; refine (HR2.out _ (hx.keep (Chg.of_drewN [] _ _) (by simp))).mono ?_; rintro e w1 ⟨rfl, hd1⟩; obtain ⟨n1, rfl⟩ := hd1)
        | (go_at_call 66; refine (HBA.out _ (hx.keep (Chg.of_drewN [] _ _) (by simp))).mono ?_; rintro e w2 ⟨rfl, rfl⟩)
        | (go_at_call 92; refine (HWC.out _).mono ?_; rintro e w2 ⟨rfl, rfl⟩))
      exact bodyPost_ret (v := .tuple #[.agg #[.int .i64 0, .string ⟨#[]⟩, .int .i64 0, .int .i64 0, .int .i64 0], .int .i64 0, .int .i64 71]) (by simp [results, Tryz.results94, go_sem]) rfl (numPost_no HNO.out ((((((hca.drewN _).setCell (p := ⟨w.heap.size, 0, none⟩) (.inr (Nat.le_refl _)) _).setCell (p := ⟨w.heap.size, 1, none⟩) (.inr (Nat.le_refl _)) _).setCell (p := ⟨w.heap.size, 2, none⟩) (.inr (Nat.le_refl _)) _).setCell (p := ⟨w.heap.size, 3, none⟩) (.inr (Nat.le_refl _)) _).setCell (p := ⟨w.heap.size, 4, none⟩) (.inr (Nat.le_refl _)) _))
    · rw [hw] at hW hwc
      have hyes : numTokAt (L.drop a) = some (v, n) := by unfold numTokAt; rw [hN]; simp [hW]
      have HY := hid hyes
      have HWC := hid hwc
      have HBA := hid hba
      clear hr hN HR hW hwc hba hw hyes
      go_wp2_with (first
        | (go_at_call 106; refine (HR2.out _ (hx.keep (Chg.of_drewN [] _ _) (by simp))).mono ?_; rintro e w1 ⟨rfl, hd1⟩; obtain ⟨n1, rfl⟩ := hd1)
        | (go_at_call 66; refine (HBA.out _ (hx.keep (Chg.of_drewN [] _ _) (by simp))).mono ?_; rintro e w2 ⟨rfl, rfl⟩)
        | (go_at_call 92; refine (HWC.out _).mono ?_; rintro e w2 ⟨rfl, rfl⟩))
      exact bodyPost_ret (v := .tuple #[.agg #[.int .i64 2, .string ⟨#[]⟩, .int .i64 v, .int .i64 0, .int .i64 0], .int .i64 ((a : Int) + (n : Int)), .int .i64 0]) (by simp [results, Tryz.results94, go_sem]) rfl (numPost_yes HY.out ((((((hca.drewN _).setCell (p := ⟨w.heap.size, 0, none⟩) (.inr (Nat.le_refl _)) _).setCell (p := ⟨w.heap.size, 1, none⟩) (.inr (Nat.le_refl _)) _).setCell (p := ⟨w.heap.size, 2, none⟩) (.inr (Nat.le_refl _)) _).setCell (p := ⟨w.heap.size, 3, none⟩) (.inr (Nat.le_refl _)) _).setCell (p := ⟨w.heap.size, 4, none⟩) (.inr (Nat.le_refl _)) _) rfl (by omega))
theorem number_calls (ha : a < s.size) : Calls Tryz.prog 94 #[.pointer (some ⟨b, 0, none⟩)] w (NumPost w a (L.drop a)) := by
  by_cases c1 : s[a].toNat = 48
  · by_cases c2 : (byteAtB s (a + 1)).toNat = 120
    · exact number_hex h hs L hL ha c1 c2
    · exact number_dec0 h hs L hL ha c1 c2
  · exact number_dec h hs L hL ha c1
end
end Go.Proofs.YtmahcabidggmeaaGreatDoor

/- Walks of the lexer: the token that stands at a place. -/
set_option linter.unusedVariables false
set_option linter.unusedSectionVars false
set_option linter.unusedSimpArgs false
namespace Go.Proofs.YtmahcabidggmeaaGreatDoor
open Go.RowKit Go.AB
set_option linter.unusedSimpArgs false
set_option linter.unusedVariables false
set_option linter.unusedSectionVars false

/-- What the token answers. -/
def TokPost (w : World) (a : Nat) (d : List UInt8) (e : Ending) (w' : World) : Prop :=
  (if (tokAt d).1 ≠ 0 then e = .returned (.tuple #[zeroTok, .int .i64 0, .int .i64 (tokAt d).1])
   else e = .returned (.tuple #[tokV (tokAt d).2.1 (tokAt d).2.2.1 (tokAt d).2.2.2.1 0 0, .int .i64 ((a + (tokAt d).2.2.2.2 : Nat) : Int), .int .i64 0])) ∧ Chg [] w w'
theorem tokPost_no {w w' : World} {a c : Nat} {d : List UInt8} {p : Nat × List UInt8 × Int × Nat} (h : tokAt d = (c, p)) (hc : c ≠ 0) (h2 : Chg [] w w') {X : Int} (hX : X = (c : Int)) : TokPost w a d (.returned (.tuple #[.agg #[.int .i64 0, .string ⟨#[]⟩, .int .i64 0, .int .i64 0, .int .i64 0], .int .i64 0, .int .i64 X])) w' := by
  subst hX; unfold TokPost; rw [h, if_pos hc]; exact ⟨rfl, h2⟩
theorem tokPost_yes {w w' : World} {a k n : Nat} {t : List UInt8} {v : Int} {d : List UInt8} (h : tokAt d = (0, k, t, v, n)) (h2 : Chg [] w w') {S : ByteArray} {X Y Z : Int} (hX : X = (k : Int)) (hS : S = ⟨t.toArray⟩) (hY : Y = v) (hZ : Z = ((a + n : Nat) : Int)) : TokPost w a d (.returned (.tuple #[.agg #[.int .i64 X, .string S, .int .i64 Y, .int .i64 0, .int .i64 0], .int .i64 Z, .int .i64 0])) w' := by
  subst hX hS hY hZ; unfold TokPost; rw [h, if_neg (by simp)]; exact ⟨rfl, h2⟩
theorem extract_data_ (s : ByteArray) (a b : Nat) : (s.extract a b).data = s.data.extract a b := by simp
theorem extract_take {L : List UInt8} {s : ByteArray} (hL : Hid (s.data.toList = L)) (a n : Nat) (h : a + n ≤ s.size) : s.extract a (a + n) = ⟨((L.drop a).take n).toArray⟩ := by
  have h1 := hL.out
  subst h1
  have e : (s.extract a (a + n)).data = s.data.extract a (a + n) := extract_data_ s a (a + n)
  cases hs : s.extract a (a + n) with
  | mk d =>
    rw [hs] at e
    simp only at e
    subst e
    congr 1
    apply Array.ext'
    rw [Array.toList_extract, List.extract_eq_take_drop]
    congr 1
    omega

section
variable {w : World} {b : Nat} {s : ByteArray} {a ln g : Nat} (h : Lx w b s a ln g) (hs : s.size ≤ 4294967296) (L : List UInt8) (hL : Hid (s.data.toList = L))
include h hs hL

set_option maxHeartbeats 2000000 in
set_option maxRecDepth 100000 in
theorem token_end (ha : a = s.size) : Calls Tryz.prog 69 #[.pointer (some ⟨b, 0, none⟩)] w (TokPost w a (L.drop a)) := by
  have hd : L.drop a = [] := List.drop_of_length_le (by rw [len_of hL]; omega)
  have HT := hid (show tokAt (L.drop a) = (0, 7, [], 0, 0) by rw [hd]; rfl)
  have hca := (Chg.refl [] w).alloc (.cells #[.int .i64 0, .string ⟨#[]⟩, .int .i64 0, .int .i64 0, .int .i64 0] 63)
  have hx := h.keep hca (by simp)
  have h0 := hx.c0
  have h1 := hx.c1
  have n1 : b ≠ w.heap.size := by have := blk_lt h.blk; omega
  have n2 : w.heap.size ≠ b := by omega
  subst ha
  clear hd
  go_enter Tryz.func69, Tryz.ntmps69
  go_wp2
  go_quiet (fail)
  go_wp2
  go_region
  go_wp2
  exact bodyPost_ret (v := .tuple #[.agg #[.int .i64 7, .string ⟨#[]⟩, .int .i64 0, .int .i64 0, .int .i64 0], .int .i64 (s.size : Int), .int .i64 0]) (by simp [results, Tryz.results69, go_sem]) rfl (tokPost_yes HT.out (by repeat (first | with_reducible exact Chg.refl _ _ | with_reducible exact hca | with_reducible refine Chg.setCell ?_ (by first | exact .inr (Nat.le_refl _) | (refine .inr ?_; first | omega | (simp; done) | (simp; omega)) | (refine .inl ?_; simp; done)) _ | with_reducible refine Chg.drewN ?_ _ | with_reducible refine Chg.drew ?_ | with_reducible refine Chg.alloc ?_ _)) rfl rfl rfl (by omega))

set_option maxHeartbeats 2000000 in
set_option maxRecDepth 100000 in
theorem token_letter (ha : a < s.size) (hl : isLetter s[a] = true) : Calls Tryz.prog 69 #[.pointer (some ⟨b, 0, none⟩)] w (TokPost w a (L.drop a)) := by
  have hcons := drop_cons_of hL ha
  have hca := (Chg.refl [] w).alloc (.cells #[.int .i64 0, .string ⟨#[]⟩, .int .i64 0, .int .i64 0, .int .i64 0] 63)
  have hx := h.keep hca (by simp)
  have h0 := hx.c0
  have h1 := hx.c1
  have n1 : b ≠ w.heap.size := by have := blk_lt h.blk; omega
  have n2 : w.heap.size ≠ b := by omega
  have g1 : ((a : Int) == (s.size : Int)) = false := by simp; omega
  have g2 : (a == s.size) = false := by simp; omega
  have htk : tokAt (L.drop a) = (0, 1, (L.drop a).take (runLen isWordly (L.drop a)), 0, runLen isWordly (L.drop a)) := by
    rw [hcons]; simp only [tokAt, hl, if_true]
  have hn := runLen_le isWordly (L.drop a)
  rw [List.length_drop, len_of hL] at hn
  have hr := fun W (hW : Lx W b s a ln g) => run_wordly hW hs a (by omega) L hL
  have hex := extract_take hL a (runLen isWordly (L.drop a)) (by omega)
  obtain ⟨n, hne⟩ : ∃ n, runLen isWordly (L.drop a) = n := ⟨_, rfl⟩
  rw [hne] at htk hn hr hex
  have HT := hid htk
  have HR := hid hr
  have HE := hid hex
  have hLc := fun W => letter_calls s[a] W
  rw [hl] at hLc
  have HLC := hid hLc
  clear hLc hl hcons htk hr hex hne
  go_enter Tryz.func69, Tryz.ntmps69
  go_wp2
  go_quiet (fail)
  go_wp2
  go_quiet (fail)
  go_wp2_with (first
    | (go_at_call 91; refine (HLC.out _).mono ?_; rintro e w2 ⟨rfl, rfl⟩)
    | (go_at_call 67; refine (HR.out _ (hx.keep (Chg.of_drewN [] _ _) (by simp))).mono ?_; rintro e w2 ⟨rfl, rfl⟩))
  go_region
  go_wp2
  exact bodyPost_ret (v := .tuple #[.agg #[.int .i64 1, .string (s.extract a (a + n)), .int .i64 0, .int .i64 0, .int .i64 0], .int .i64 ((a : Int) + (n : Int)), .int .i64 0]) (by simp [results, Tryz.results69, go_sem]) rfl (tokPost_yes HT.out (by repeat (first | with_reducible exact Chg.refl _ _ | with_reducible exact hca | with_reducible refine Chg.setCell ?_ (by first | exact .inr (Nat.le_refl _) | (refine .inr ?_; first | omega | (simp; done) | (simp; omega)) | (refine .inl ?_; simp; done)) _ | with_reducible refine Chg.drewN ?_ _ | with_reducible refine Chg.drew ?_ | with_reducible refine Chg.alloc ?_ _)) rfl HE.out rfl (by omega))

set_option maxHeartbeats 2000000 in
set_option maxRecDepth 100000 in
theorem token_comma (ha : a < s.size) (hc : s[a].toNat = 44) : Calls Tryz.prog 69 #[.pointer (some ⟨b, 0, none⟩)] w (TokPost w a (L.drop a)) := by
  have hcons := drop_cons_of hL ha
  have hca := (Chg.refl [] w).alloc (.cells #[.int .i64 0, .string ⟨#[]⟩, .int .i64 0, .int .i64 0, .int .i64 0] 63)
  have hx := h.keep hca (by simp)
  have h0 := hx.c0
  have h1 := hx.c1
  have n1 : b ≠ w.heap.size := by have := blk_lt h.blk; omega
  have n2 : w.heap.size ≠ b := by omega
  have g1 : ((a : Int) == (s.size : Int)) = false := by simp; omega
  have g2 : (a == s.size) = false := by simp; omega
  have hl : isLetter s[a] = false := by simp [isLetter, hc]
  have hdg : isDigit s[a] = false := by simp [isDigit, hc]
  have HT := hid (show tokAt (L.drop a) = (0, 3, [], 0, 1) by rw [hcons]; simp [tokAt, hl, hdg, hc])
  have hLc := fun W => letter_calls s[a] W
  rw [hl] at hLc
  have HLC := hid hLc
  have hDc := fun W => digit_calls s[a] W
  rw [hdg] at hDc
  have HDC := hid hDc
  clear hDc
  have e45 : ((s[a].toNat : Int) == 45) = false := by simp; omega
  have e44 : ((s[a].toNat : Int) == 44) = true := by simp; omega
  have e58 : ((s[a].toNat : Int) == 58) = false := by simp; omega
  have e61 : ((s[a].toNat : Int) == 61) = false := by simp; omega
  have e10 : ((s[a].toNat : Int) == 10) = false := by simp; omega
  clear hLc hl hcons hdg hc
  go_enter Tryz.func69, Tryz.ntmps69
  go_wp2
  go_quiet (fail)
  go_wp2
  go_quiet (fail)
  go_wp2_with (first
    | (go_at_call 91; refine (HLC.out _).mono ?_; rintro e w2 ⟨rfl, rfl⟩)
    | (go_at_call 93; refine (HDC.out _).mono ?_; rintro e w2 ⟨rfl, rfl⟩))
  go_region
  go_wp2
  exact bodyPost_ret (v := .tuple #[.agg #[.int .i64 3, .string ⟨#[]⟩, .int .i64 0, .int .i64 0, .int .i64 0], .int .i64 ((a : Int) + 1), .int .i64 0]) (by simp [results, Tryz.results69, go_sem]) rfl (tokPost_yes HT.out (by repeat (first | with_reducible exact Chg.refl _ _ | with_reducible exact hca | with_reducible refine Chg.setCell ?_ (by first | exact .inr (Nat.le_refl _) | (refine .inr ?_; first | omega | (simp; done) | (simp; omega)) | (refine .inl ?_; simp; done)) _ | with_reducible refine Chg.drewN ?_ _ | with_reducible refine Chg.drew ?_ | with_reducible refine Chg.alloc ?_ _)) rfl rfl rfl (by omega))

set_option maxHeartbeats 2000000 in
set_option maxRecDepth 100000 in
theorem token_colon (ha : a < s.size) (hc : s[a].toNat = 58) : Calls Tryz.prog 69 #[.pointer (some ⟨b, 0, none⟩)] w (TokPost w a (L.drop a)) := by
  have hcons := drop_cons_of hL ha
  have hca := (Chg.refl [] w).alloc (.cells #[.int .i64 0, .string ⟨#[]⟩, .int .i64 0, .int .i64 0, .int .i64 0] 63)
  have hx := h.keep hca (by simp)
  have h0 := hx.c0
  have h1 := hx.c1
  have n1 : b ≠ w.heap.size := by have := blk_lt h.blk; omega
  have n2 : w.heap.size ≠ b := by omega
  have g1 : ((a : Int) == (s.size : Int)) = false := by simp; omega
  have g2 : (a == s.size) = false := by simp; omega
  have hl : isLetter s[a] = false := by simp [isLetter, hc]
  have hdg : isDigit s[a] = false := by simp [isDigit, hc]
  have HT := hid (show tokAt (L.drop a) = (0, 4, [], 0, 1) by rw [hcons]; simp [tokAt, hl, hdg, hc])
  have hLc := fun W => letter_calls s[a] W
  rw [hl] at hLc
  have HLC := hid hLc
  have hDc := fun W => digit_calls s[a] W
  rw [hdg] at hDc
  have HDC := hid hDc
  clear hDc
  have e45 : ((s[a].toNat : Int) == 45) = false := by simp; omega
  have e44 : ((s[a].toNat : Int) == 44) = false := by simp; omega
  have e58 : ((s[a].toNat : Int) == 58) = true := by simp; omega
  have e61 : ((s[a].toNat : Int) == 61) = false := by simp; omega
  have e10 : ((s[a].toNat : Int) == 10) = false := by simp; omega
  clear hLc hl hcons hdg hc
  go_enter Tryz.func69, Tryz.ntmps69
  go_wp2
  go_quiet (fail)
  go_wp2
  go_quiet (fail)
  go_wp2_with (first
    | (go_at_call 91; refine (HLC.out _).mono ?_; rintro e w2 ⟨rfl, rfl⟩)
    | (go_at_call 93; refine (HDC.out _).mono ?_; rintro e w2 ⟨rfl, rfl⟩))
  go_region
  go_wp2
  exact bodyPost_ret (v := .tuple #[.agg #[.int .i64 4, .string ⟨#[]⟩, .int .i64 0, .int .i64 0, .int .i64 0], .int .i64 ((a : Int) + 1), .int .i64 0]) (by simp [results, Tryz.results69, go_sem]) rfl (tokPost_yes HT.out (by repeat (first | with_reducible exact Chg.refl _ _ | with_reducible exact hca | with_reducible refine Chg.setCell ?_ (by first | exact .inr (Nat.le_refl _) | (refine .inr ?_; first | omega | (simp; done) | (simp; omega)) | (refine .inl ?_; simp; done)) _ | with_reducible refine Chg.drewN ?_ _ | with_reducible refine Chg.drew ?_ | with_reducible refine Chg.alloc ?_ _)) rfl rfl rfl (by omega))

set_option maxHeartbeats 2000000 in
set_option maxRecDepth 100000 in
theorem token_equal (ha : a < s.size) (hc : s[a].toNat = 61) : Calls Tryz.prog 69 #[.pointer (some ⟨b, 0, none⟩)] w (TokPost w a (L.drop a)) := by
  have hcons := drop_cons_of hL ha
  have hca := (Chg.refl [] w).alloc (.cells #[.int .i64 0, .string ⟨#[]⟩, .int .i64 0, .int .i64 0, .int .i64 0] 63)
  have hx := h.keep hca (by simp)
  have h0 := hx.c0
  have h1 := hx.c1
  have n1 : b ≠ w.heap.size := by have := blk_lt h.blk; omega
  have n2 : w.heap.size ≠ b := by omega
  have g1 : ((a : Int) == (s.size : Int)) = false := by simp; omega
  have g2 : (a == s.size) = false := by simp; omega
  have hl : isLetter s[a] = false := by simp [isLetter, hc]
  have hdg : isDigit s[a] = false := by simp [isDigit, hc]
  have HT := hid (show tokAt (L.drop a) = (0, 5, [], 0, 1) by rw [hcons]; simp [tokAt, hl, hdg, hc])
  have hLc := fun W => letter_calls s[a] W
  rw [hl] at hLc
  have HLC := hid hLc
  have hDc := fun W => digit_calls s[a] W
  rw [hdg] at hDc
  have HDC := hid hDc
  clear hDc
  have e45 : ((s[a].toNat : Int) == 45) = false := by simp; omega
  have e44 : ((s[a].toNat : Int) == 44) = false := by simp; omega
  have e58 : ((s[a].toNat : Int) == 58) = false := by simp; omega
  have e61 : ((s[a].toNat : Int) == 61) = true := by simp; omega
  have e10 : ((s[a].toNat : Int) == 10) = false := by simp; omega
  clear hLc hl hcons hdg hc
  go_enter Tryz.func69, Tryz.ntmps69
  go_wp2
  go_quiet (fail)
  go_wp2
  go_quiet (fail)
  go_wp2_with (first
    | (go_at_call 91; refine (HLC.out _).mono ?_; rintro e w2 ⟨rfl, rfl⟩)
    | (go_at_call 93; refine (HDC.out _).mono ?_; rintro e w2 ⟨rfl, rfl⟩))
  go_region
  go_wp2
  exact bodyPost_ret (v := .tuple #[.agg #[.int .i64 5, .string ⟨#[]⟩, .int .i64 0, .int .i64 0, .int .i64 0], .int .i64 ((a : Int) + 1), .int .i64 0]) (by simp [results, Tryz.results69, go_sem]) rfl (tokPost_yes HT.out (by repeat (first | with_reducible exact Chg.refl _ _ | with_reducible exact hca | with_reducible refine Chg.setCell ?_ (by first | exact .inr (Nat.le_refl _) | (refine .inr ?_; first | omega | (simp; done) | (simp; omega)) | (refine .inl ?_; simp; done)) _ | with_reducible refine Chg.drewN ?_ _ | with_reducible refine Chg.drew ?_ | with_reducible refine Chg.alloc ?_ _)) rfl rfl rfl (by omega))

set_option maxHeartbeats 2000000 in
set_option maxRecDepth 100000 in
theorem token_line (ha : a < s.size) (hc : s[a].toNat = 10) : Calls Tryz.prog 69 #[.pointer (some ⟨b, 0, none⟩)] w (TokPost w a (L.drop a)) := by
  have hcons := drop_cons_of hL ha
  have hca := (Chg.refl [] w).alloc (.cells #[.int .i64 0, .string ⟨#[]⟩, .int .i64 0, .int .i64 0, .int .i64 0] 63)
  have hx := h.keep hca (by simp)
  have h0 := hx.c0
  have h1 := hx.c1
  have n1 : b ≠ w.heap.size := by have := blk_lt h.blk; omega
  have n2 : w.heap.size ≠ b := by omega
  have g1 : ((a : Int) == (s.size : Int)) = false := by simp; omega
  have g2 : (a == s.size) = false := by simp; omega
  have hl : isLetter s[a] = false := by simp [isLetter, hc]
  have hdg : isDigit s[a] = false := by simp [isDigit, hc]
  have HT := hid (show tokAt (L.drop a) = (0, 6, [], 0, 1) by rw [hcons]; simp [tokAt, hl, hdg, hc])
  have hLc := fun W => letter_calls s[a] W
  rw [hl] at hLc
  have HLC := hid hLc
  have hDc := fun W => digit_calls s[a] W
  rw [hdg] at hDc
  have HDC := hid hDc
  clear hDc
  have e45 : ((s[a].toNat : Int) == 45) = false := by simp; omega
  have e44 : ((s[a].toNat : Int) == 44) = false := by simp; omega
  have e58 : ((s[a].toNat : Int) == 58) = false := by simp; omega
  have e61 : ((s[a].toNat : Int) == 61) = false := by simp; omega
  have e10 : ((s[a].toNat : Int) == 10) = true := by simp; omega
  clear hLc hl hcons hdg hc
  go_enter Tryz.func69, Tryz.ntmps69
  go_wp2
  go_quiet (fail)
  go_wp2
  go_quiet (fail)
  go_wp2_with (first
    | (go_at_call 91; refine (HLC.out _).mono ?_; rintro e w2 ⟨rfl, rfl⟩)
    | (go_at_call 93; refine (HDC.out _).mono ?_; rintro e w2 ⟨rfl, rfl⟩))
  go_region
  go_wp2
  exact bodyPost_ret (v := .tuple #[.agg #[.int .i64 6, .string ⟨#[]⟩, .int .i64 0, .int .i64 0, .int .i64 0], .int .i64 ((a : Int) + 1), .int .i64 0]) (by simp [results, Tryz.results69, go_sem]) rfl (tokPost_yes HT.out (by repeat (first | with_reducible exact Chg.refl _ _ | with_reducible exact hca | with_reducible refine Chg.setCell ?_ (by first | exact .inr (Nat.le_refl _) | (refine .inr ?_; first | omega | (simp; done) | (simp; omega)) | (refine .inl ?_; simp; done)) _ | with_reducible refine Chg.drewN ?_ _ | with_reducible refine Chg.drew ?_ | with_reducible refine Chg.alloc ?_ _)) rfl rfl rfl (by omega))

set_option maxHeartbeats 2000000 in
set_option maxRecDepth 100000 in
theorem token_other (ha : a < s.size) (hl : isLetter s[a] = false) (hdg : isDigit s[a] = false) (h45 : s[a].toNat ≠ 45) (h44 : s[a].toNat ≠ 44) (h58 : s[a].toNat ≠ 58) (h61 : s[a].toNat ≠ 61) (h10 : s[a].toNat ≠ 10) : Calls Tryz.prog 69 #[.pointer (some ⟨b, 0, none⟩)] w (TokPost w a (L.drop a)) := by
  have hcons := drop_cons_of hL ha
  have hca := (Chg.refl [] w).alloc (.cells #[.int .i64 0, .string ⟨#[]⟩, .int .i64 0, .int .i64 0, .int .i64 0] 63)
  have hx := h.keep hca (by simp)
  have h0 := hx.c0
  have h1 := hx.c1
  have n1 : b ≠ w.heap.size := by have := blk_lt h.blk; omega
  have n2 : w.heap.size ≠ b := by omega
  have g1 : ((a : Int) == (s.size : Int)) = false := by simp; omega
  have g2 : (a == s.size) = false := by simp; omega
  have HT := hid (show tokAt (L.drop a) = (70, 0, [], 0, 0) by rw [hcons]; simp [tokAt, hl, hdg, h45, h44, h58, h61, h10])
  have hLc := fun W => letter_calls s[a] W
  rw [hl] at hLc
  have HLC := hid hLc
  have hDc := fun W => digit_calls s[a] W
  rw [hdg] at hDc
  have HDC := hid hDc
  clear hDc
  have e45 : ((s[a].toNat : Int) == 45) = false := by simp; omega
  have e44 : ((s[a].toNat : Int) == 44) = false := by simp; omega
  have e58 : ((s[a].toNat : Int) == 58) = false := by simp; omega
  have e61 : ((s[a].toNat : Int) == 61) = false := by simp; omega
  have e10 : ((s[a].toNat : Int) == 10) = false := by simp; omega
  clear hLc hl hcons hdg h45 h44 h58 h61 h10
  go_enter Tryz.func69, Tryz.ntmps69
  go_wp2
  go_quiet (fail)
  go_wp2
  go_quiet (fail)
  go_wp2_with (first
    | (go_at_call 91; refine (HLC.out _).mono ?_; rintro e w2 ⟨rfl, rfl⟩)
    | (go_at_call 93; refine (HDC.out _).mono ?_; rintro e w2 ⟨rfl, rfl⟩))
  exact bodyPost_ret (v := .tuple #[.agg #[.int .i64 0, .string ⟨#[]⟩, .int .i64 0, .int .i64 0, .int .i64 0], .int .i64 0, .int .i64 70]) (by simp [results, Tryz.results69, go_sem]) rfl (tokPost_no HT.out (by decide) (by repeat (first | with_reducible exact Chg.refl _ _ | with_reducible exact hca | with_reducible refine Chg.setCell ?_ (by first | exact .inr (Nat.le_refl _) | (refine .inr ?_; first | omega | (simp; done) | (simp; omega)) | (refine .inl ?_; simp; done)) _ | with_reducible refine Chg.drewN ?_ _ | with_reducible refine Chg.drew ?_ | with_reducible refine Chg.alloc ?_ _)) rfl)

set_option maxHeartbeats 2000000 in
set_option maxRecDepth 100000 in
theorem token_digit (ha : a < s.size) (hdg : isDigit s[a] = true) : Calls Tryz.prog 69 #[.pointer (some ⟨b, 0, none⟩)] w (TokPost w a (L.drop a)) := by
  have hcons := drop_cons_of hL ha
  have hca := (Chg.refl [] w).alloc (.cells #[.int .i64 0, .string ⟨#[]⟩, .int .i64 0, .int .i64 0, .int .i64 0] 63)
  have hx := h.keep hca (by simp)
  have h0 := hx.c0
  have h1 := hx.c1
  have n1 : b ≠ w.heap.size := by have := blk_lt h.blk; omega
  have n2 : w.heap.size ≠ b := by omega
  have g1 : ((a : Int) == (s.size : Int)) = false := by simp; omega
  have g2 : (a == s.size) = false := by simp; omega
  have hc48 : 48 ≤ s[a].toNat ∧ s[a].toNat ≤ 57 := by simpa [isDigit] using hdg
  have hl : isLetter s[a] = false := by simp [isLetter]; omega
  have hDc := fun W => digit_calls s[a] W
  rw [hdg] at hDc
  have HDC := hid hDc
  clear hDc
  have e45 : ((s[a].toNat : Int) == 45) = false := by simp; omega
  have hLc := fun W => letter_calls s[a] W
  rw [hl] at hLc
  have HLC := hid hLc
  have hN := fun W (hW : Lx W b s a ln g) => number_calls hW hs L hL ha
  rcases hn : numTokAt (L.drop a) with _ | ⟨v, n⟩
  · have hN2 := fun W (hW : Lx W b s a ln g) => (hN W hW).mono (fun e w' hp => by unfold NumPost at hp; rw [hn] at hp; exact hp)
    have HN := hid hN2
    have HT := hid (show tokAt (L.drop a) = (71, 0, [], 0, 0) by rw [hcons] at hn ⊢; simp only [tokAt]; rw [if_neg (by simp [hl]), if_pos (.inl hdg), hn])
    clear hN hN2 hn
    clear hLc hl hcons hdg
    go_enter Tryz.func69, Tryz.ntmps69
    go_wp2
    go_quiet (fail)
    go_wp2
    go_quiet (fail)
    go_wp2_with (first
      | (go_at_call 91; refine (HLC.out _).mono ?_; rintro e w2 ⟨rfl, rfl⟩)
      | (go_at_call 94; refine (HN.out _ (hx.keep (Chg.of_drewN [] _ _) (by simp))).mono ?_; rintro e w3 ⟨rfl, hc3⟩; have hc3' := (hca.drewN _).trans' hc3; have hz : w.heap.size + 1 ≤ w3.heap.size := (by have := hc3.size; simpa using this); (try unfold zeroTok); (try unfold tokV); have yb : w3.heap[w.heap.size]? = some (.cells #[.int .i64 0, .string ⟨#[]⟩, .int .i64 0, .int .i64 0, .int .i64 0] 63 (0, 0)) := hc3.heap (heap_alloc_new w _) (by simp); have yf := fun i => blk_free yb i; have y0 : w3.cell? ⟨w.heap.size, 0, none⟩ = some (.int .i64 0) := (blk_cell yb 0).trans rfl; have y1 : w3.cell? ⟨w.heap.size, 1, none⟩ = some (.string ⟨#[]⟩) := (blk_cell yb 1).trans rfl; have y2 : w3.cell? ⟨w.heap.size, 2, none⟩ = some (.int .i64 0) := (blk_cell yb 2).trans rfl; have y3 : w3.cell? ⟨w.heap.size, 3, none⟩ = some (.int .i64 0) := (blk_cell yb 3).trans rfl; have y4 : w3.cell? ⟨w.heap.size, 4, none⟩ = some (.int .i64 0) := (blk_cell yb 4).trans rfl; clear yb)
      | (go_at_call 93; refine (HDC.out _).mono ?_; rintro e w2 ⟨rfl, rfl⟩))
    exact bodyPost_ret (v := .tuple #[.agg #[.int .i64 0, .string ⟨#[]⟩, .int .i64 0, .int .i64 0, .int .i64 0], .int .i64 0, .int .i64 71]) (by simp [results, Tryz.results69, go_sem, y0, y1, y2, y3, y4]) rfl (tokPost_no HT.out (by decide) (by repeat (first | with_reducible exact Chg.refl _ _ | with_reducible exact hc3' | with_reducible refine Chg.setCell ?_ (by first | exact .inr (Nat.le_refl _) | (refine .inr ?_; first | omega | (simp; done) | (simp; omega)) | (refine .inl ?_; simp; done)) _ | with_reducible refine Chg.drewN ?_ _ | with_reducible refine Chg.drew ?_ | with_reducible refine Chg.alloc ?_ _)) rfl)
  · have hN2 := fun W (hW : Lx W b s a ln g) => (hN W hW).mono (fun e w' hp => by unfold NumPost at hp; rw [hn] at hp; exact hp)
    have HN := hid hN2
    have HT := hid (show tokAt (L.drop a) = (0, 2, [], v, n) by rw [hcons] at hn ⊢; simp only [tokAt]; rw [if_neg (by simp [hl]), if_pos (.inl hdg), hn])
    clear hN hN2 hn
    clear hLc hl hcons hdg
    go_enter Tryz.func69, Tryz.ntmps69
    go_wp2
    go_quiet (fail)
    go_wp2
    go_quiet (fail)
    go_wp2_with (first
      | (go_at_call 91; refine (HLC.out _).mono ?_; rintro e w2 ⟨rfl, rfl⟩)
      | (go_at_call 94; refine (HN.out _ (hx.keep (Chg.of_drewN [] _ _) (by simp))).mono ?_; rintro e w3 ⟨rfl, hc3⟩; have hc3' := (hca.drewN _).trans' hc3; have hz : w.heap.size + 1 ≤ w3.heap.size := (by have := hc3.size; simpa using this); (try unfold zeroTok); (try unfold tokV); have yb : w3.heap[w.heap.size]? = some (.cells #[.int .i64 0, .string ⟨#[]⟩, .int .i64 0, .int .i64 0, .int .i64 0] 63 (0, 0)) := hc3.heap (heap_alloc_new w _) (by simp); have yf := fun i => blk_free yb i; have y0 : w3.cell? ⟨w.heap.size, 0, none⟩ = some (.int .i64 0) := (blk_cell yb 0).trans rfl; have y1 : w3.cell? ⟨w.heap.size, 1, none⟩ = some (.string ⟨#[]⟩) := (blk_cell yb 1).trans rfl; have y2 : w3.cell? ⟨w.heap.size, 2, none⟩ = some (.int .i64 0) := (blk_cell yb 2).trans rfl; have y3 : w3.cell? ⟨w.heap.size, 3, none⟩ = some (.int .i64 0) := (blk_cell yb 3).trans rfl; have y4 : w3.cell? ⟨w.heap.size, 4, none⟩ = some (.int .i64 0) := (blk_cell yb 4).trans rfl; clear yb)
      | (go_at_call 93; refine (HDC.out _).mono ?_; rintro e w2 ⟨rfl, rfl⟩))
    exact bodyPost_ret (v := .tuple #[.agg #[.int .i64 2, .string ⟨#[]⟩, .int .i64 v, .int .i64 0, .int .i64 0], .int .i64 ((a : Int) + (n : Int)), .int .i64 0]) (by simp [results, Tryz.results69, go_sem, y0, y1, y2, y3, y4]) rfl (tokPost_yes HT.out (by repeat (first | with_reducible exact Chg.refl _ _ | with_reducible exact hc3' | with_reducible refine Chg.setCell ?_ (by first | exact .inr (Nat.le_refl _) | (refine .inr ?_; first | omega | (simp; done) | (simp; omega)) | (refine .inl ?_; simp; done)) _ | with_reducible refine Chg.drewN ?_ _ | with_reducible refine Chg.drew ?_ | with_reducible refine Chg.alloc ?_ _)) rfl rfl rfl (by omega))

set_option maxHeartbeats 2000000 in
set_option maxRecDepth 100000 in
theorem token_minus (ha : a < s.size) (hc : s[a].toNat = 45) (hdn : isDigit (byteAtB s (a + 1)) = true) : Calls Tryz.prog 69 #[.pointer (some ⟨b, 0, none⟩)] w (TokPost w a (L.drop a)) := by
  have hcons := drop_cons_of hL ha
  have hca := (Chg.refl [] w).alloc (.cells #[.int .i64 0, .string ⟨#[]⟩, .int .i64 0, .int .i64 0, .int .i64 0] 63)
  have hx := h.keep hca (by simp)
  have h0 := hx.c0
  have h1 := hx.c1
  have n1 : b ≠ w.heap.size := by have := blk_lt h.blk; omega
  have n2 : w.heap.size ≠ b := by omega
  have g1 : ((a : Int) == (s.size : Int)) = false := by simp; omega
  have g2 : (a == s.size) = false := by simp; omega
  have hl : isLetter s[a] = false := by simp [isLetter, hc]
  have hdg : isDigit s[a] = false := by simp [isDigit, hc]
  have hnx : ∃ d ∈ (L.drop (a + 1)).head?, isDigit d = true := by
    unfold byteAtB at hdn
    split at hdn
    · rename_i h1
      exact ⟨s[a + 1], by rw [head_of hL h1]; rfl, hdn⟩
    · exact absurd hdn (by decide)
  have e45 : ((s[a].toNat : Int) == 45) = true := by simp; omega
  have hDc := fun W => digit_calls (byteAtB s (a + 1)) W
  rw [hdn] at hDc
  have HDC := hid hDc
  have HBA := hid (fun W (hW : Lx W b s a ln g) => byteAt_calls hW hs (a + 1))
  have hLc := fun W => letter_calls s[a] W
  rw [hl] at hLc
  have HLC := hid hLc
  have hN := fun W (hW : Lx W b s a ln g) => number_calls hW hs L hL ha
  rcases hn : numTokAt (L.drop a) with _ | ⟨v, n⟩
  · have hN2 := fun W (hW : Lx W b s a ln g) => (hN W hW).mono (fun e w' hp => by unfold NumPost at hp; rw [hn] at hp; exact hp)
    have HN := hid hN2
    have HT := hid (show tokAt (L.drop a) = (71, 0, [], 0, 0) by rw [hcons] at hn ⊢; simp only [tokAt]; rw [if_neg (by simp [hl]), if_pos (.inr ⟨hc, hnx⟩), hn])
    clear hN hN2 hn
    clear hLc hl hcons hdg hc hdn hnx hDc
    go_enter Tryz.func69, Tryz.ntmps69
    go_wp2
    go_quiet (fail)
    go_wp2
    go_quiet (fail)
    go_wp2_with (first
      | (go_at_call 91; refine (HLC.out _).mono ?_; rintro e w2 ⟨rfl, rfl⟩)
      | (go_at_call 94; refine (HN.out _ (hx.keep (Chg.of_drewN [] _ _) (by simp))).mono ?_; rintro e w3 ⟨rfl, hc3⟩; have hc3' := (hca.drewN _).trans' hc3; have hz : w.heap.size + 1 ≤ w3.heap.size := (by have := hc3.size; simpa using this); (try unfold zeroTok); (try unfold tokV); have yb : w3.heap[w.heap.size]? = some (.cells #[.int .i64 0, .string ⟨#[]⟩, .int .i64 0, .int .i64 0, .int .i64 0] 63 (0, 0)) := hc3.heap (heap_alloc_new w _) (by simp); have yf := fun i => blk_free yb i; have y0 : w3.cell? ⟨w.heap.size, 0, none⟩ = some (.int .i64 0) := (blk_cell yb 0).trans rfl; have y1 : w3.cell? ⟨w.heap.size, 1, none⟩ = some (.string ⟨#[]⟩) := (blk_cell yb 1).trans rfl; have y2 : w3.cell? ⟨w.heap.size, 2, none⟩ = some (.int .i64 0) := (blk_cell yb 2).trans rfl; have y3 : w3.cell? ⟨w.heap.size, 3, none⟩ = some (.int .i64 0) := (blk_cell yb 3).trans rfl; have y4 : w3.cell? ⟨w.heap.size, 4, none⟩ = some (.int .i64 0) := (blk_cell yb 4).trans rfl; clear yb)
      | (go_at_call 66; refine (HBA.out _ (hx.keep (Chg.of_drewN [] _ _) (by simp))).mono ?_; rintro e w2 ⟨rfl, rfl⟩)
      | (go_at_call 93; refine (HDC.out _).mono ?_; rintro e w2 ⟨rfl, rfl⟩))
    exact bodyPost_ret (v := .tuple #[.agg #[.int .i64 0, .string ⟨#[]⟩, .int .i64 0, .int .i64 0, .int .i64 0], .int .i64 0, .int .i64 71]) (by simp [results, Tryz.results69, go_sem, y0, y1, y2, y3, y4]) rfl (tokPost_no HT.out (by decide) (by repeat (first | with_reducible exact Chg.refl _ _ | with_reducible exact hc3' | with_reducible refine Chg.setCell ?_ (by first | exact .inr (Nat.le_refl _) | (refine .inr ?_; first | omega | (simp; done) | (simp; omega)) | (refine .inl ?_; simp; done)) _ | with_reducible refine Chg.drewN ?_ _ | with_reducible refine Chg.drew ?_ | with_reducible refine Chg.alloc ?_ _)) rfl)
  · have hN2 := fun W (hW : Lx W b s a ln g) => (hN W hW).mono (fun e w' hp => by unfold NumPost at hp; rw [hn] at hp; exact hp)
    have HN := hid hN2
    have HT := hid (show tokAt (L.drop a) = (0, 2, [], v, n) by rw [hcons] at hn ⊢; simp only [tokAt]; rw [if_neg (by simp [hl]), if_pos (.inr ⟨hc, hnx⟩), hn])
    clear hN hN2 hn
    clear hLc hl hcons hdg hc hdn hnx hDc
    go_enter Tryz.func69, Tryz.ntmps69
    go_wp2
    go_quiet (fail)
    go_wp2
    go_quiet (fail)
    go_wp2_with (first
      | (go_at_call 91; refine (HLC.out _).mono ?_; rintro e w2 ⟨rfl, rfl⟩)
      | (go_at_call 94; refine (HN.out _ (hx.keep (Chg.of_drewN [] _ _) (by simp))).mono ?_; rintro e w3 ⟨rfl, hc3⟩; have hc3' := (hca.drewN _).trans' hc3; have hz : w.heap.size + 1 ≤ w3.heap.size := (by have := hc3.size; simpa using this); (try unfold zeroTok); (try unfold tokV); have yb : w3.heap[w.heap.size]? = some (.cells #[.int .i64 0, .string ⟨#[]⟩, .int .i64 0, .int .i64 0, .int .i64 0] 63 (0, 0)) := hc3.heap (heap_alloc_new w _) (by simp); have yf := fun i => blk_free yb i; have y0 : w3.cell? ⟨w.heap.size, 0, none⟩ = some (.int .i64 0) := (blk_cell yb 0).trans rfl; have y1 : w3.cell? ⟨w.heap.size, 1, none⟩ = some (.string ⟨#[]⟩) := (blk_cell yb 1).trans rfl; have y2 : w3.cell? ⟨w.heap.size, 2, none⟩ = some (.int .i64 0) := (blk_cell yb 2).trans rfl; have y3 : w3.cell? ⟨w.heap.size, 3, none⟩ = some (.int .i64 0) := (blk_cell yb 3).trans rfl; have y4 : w3.cell? ⟨w.heap.size, 4, none⟩ = some (.int .i64 0) := (blk_cell yb 4).trans rfl; clear yb)
      | (go_at_call 66; refine (HBA.out _ (hx.keep (Chg.of_drewN [] _ _) (by simp))).mono ?_; rintro e w2 ⟨rfl, rfl⟩)
      | (go_at_call 93; refine (HDC.out _).mono ?_; rintro e w2 ⟨rfl, rfl⟩))
    exact bodyPost_ret (v := .tuple #[.agg #[.int .i64 2, .string ⟨#[]⟩, .int .i64 v, .int .i64 0, .int .i64 0], .int .i64 ((a : Int) + (n : Int)), .int .i64 0]) (by simp [results, Tryz.results69, go_sem, y0, y1, y2, y3, y4]) rfl (tokPost_yes HT.out (by repeat (first | with_reducible exact Chg.refl _ _ | with_reducible exact hc3' | with_reducible refine Chg.setCell ?_ (by first | exact .inr (Nat.le_refl _) | (refine .inr ?_; first | omega | (simp; done) | (simp; omega)) | (refine .inl ?_; simp; done)) _ | with_reducible refine Chg.drewN ?_ _ | with_reducible refine Chg.drew ?_ | with_reducible refine Chg.alloc ?_ _)) rfl rfl rfl (by omega))

set_option maxHeartbeats 2000000 in
set_option maxRecDepth 100000 in
theorem token_dash (ha : a < s.size) (hc : s[a].toNat = 45) (hdn : isDigit (byteAtB s (a + 1)) = false) : Calls Tryz.prog 69 #[.pointer (some ⟨b, 0, none⟩)] w (TokPost w a (L.drop a)) := by
  have hcons := drop_cons_of hL ha
  have hca := (Chg.refl [] w).alloc (.cells #[.int .i64 0, .string ⟨#[]⟩, .int .i64 0, .int .i64 0, .int .i64 0] 63)
  have hx := h.keep hca (by simp)
  have h0 := hx.c0
  have h1 := hx.c1
  have n1 : b ≠ w.heap.size := by have := blk_lt h.blk; omega
  have n2 : w.heap.size ≠ b := by omega
  have g1 : ((a : Int) == (s.size : Int)) = false := by simp; omega
  have g2 : (a == s.size) = false := by simp; omega
  have hl : isLetter s[a] = false := by simp [isLetter, hc]
  have hdg : isDigit s[a] = false := by simp [isDigit, hc]
  have hnx : ¬ ∃ d ∈ (L.drop (a + 1)).head?, isDigit d = true := by
    rintro ⟨d, hd, hd2⟩
    unfold byteAtB at hdn
    split at hdn
    · rename_i h1
      rw [head_of hL h1] at hd
      cases hd
      rw [hdn] at hd2; cases hd2
    · rename_i h1
      rw [List.drop_of_length_le (by rw [len_of hL]; omega)] at hd
      cases hd
  have HT := hid (show tokAt (L.drop a) = (70, 0, [], 0, 0) by rw [hcons]; simp only [tokAt]; rw [if_neg (by simp [hl]), if_neg (by intro h; rcases h with h | h; rw [hdg] at h; cases h; exact hnx h.2)]; simp [hc])
  have hLc := fun W => letter_calls s[a] W
  rw [hl] at hLc
  have HLC := hid hLc
  have e45 : ((s[a].toNat : Int) == 45) = true := by simp; omega
  have e44 : ((s[a].toNat : Int) == 44) = false := by simp; omega
  have e58 : ((s[a].toNat : Int) == 58) = false := by simp; omega
  have e61 : ((s[a].toNat : Int) == 61) = false := by simp; omega
  have e10 : ((s[a].toNat : Int) == 10) = false := by simp; omega
  have hDc := fun W => digit_calls (byteAtB s (a + 1)) W
  rw [hdn] at hDc
  have HDC := hid hDc
  have HBA := hid (fun W (hW : Lx W b s a ln g) => byteAt_calls hW hs (a + 1))
  clear hDc hdg
  clear hLc hl hcons hc hdn hnx
  go_enter Tryz.func69, Tryz.ntmps69
  go_wp2
  go_quiet (fail)
  go_wp2
  go_quiet (fail)
  go_wp2_with (first
    | (go_at_call 91; refine (HLC.out _).mono ?_; rintro e w2 ⟨rfl, rfl⟩)
    | (go_at_call 66; refine (HBA.out _ (hx.keep (Chg.of_drewN [] _ _) (by simp))).mono ?_; rintro e w2 ⟨rfl, rfl⟩)
    | (go_at_call 93; refine (HDC.out _).mono ?_; rintro e w2 ⟨rfl, rfl⟩))
  exact bodyPost_ret (v := .tuple #[.agg #[.int .i64 0, .string ⟨#[]⟩, .int .i64 0, .int .i64 0, .int .i64 0], .int .i64 0, .int .i64 70]) (by simp [results, Tryz.results69, go_sem]) rfl (tokPost_no HT.out (by decide) (by repeat (first | with_reducible exact Chg.refl _ _ | with_reducible exact hca | with_reducible refine Chg.setCell ?_ (by first | exact .inr (Nat.le_refl _) | (refine .inr ?_; first | omega | (simp; done) | (simp; omega)) | (refine .inl ?_; simp; done)) _ | with_reducible refine Chg.drewN ?_ _ | with_reducible refine Chg.drew ?_ | with_reducible refine Chg.alloc ?_ _)) rfl)

theorem token_calls (ha : a ≤ s.size) : Calls Tryz.prog 69 #[.pointer (some ⟨b, 0, none⟩)] w (TokPost w a (L.drop a)) := by
  by_cases h1 : a < s.size
  · rcases Bool.eq_false_or_eq_true (isLetter s[a]) with hl | hl
    · exact token_letter h hs L hL h1 hl
    rcases Bool.eq_false_or_eq_true (isDigit s[a]) with hdg | hdg
    · exact token_digit h hs L hL h1 hdg
    by_cases h45 : s[a].toNat = 45
    · rcases Bool.eq_false_or_eq_true (isDigit (byteAtB s (a + 1))) with hn | hn
      · exact token_minus h hs L hL h1 h45 hn
      · exact token_dash h hs L hL h1 h45 hn
    by_cases h44 : s[a].toNat = 44
    · exact token_comma h hs L hL h1 h44
    by_cases h58 : s[a].toNat = 58
    · exact token_colon h hs L hL h1 h58
    by_cases h61 : s[a].toNat = 61
    · exact token_equal h hs L hL h1 h61
    by_cases h10 : s[a].toNat = 10
    · exact token_line h hs L hL h1 h10
    exact token_other h hs L hL h1 hl hdg h45 h44 h58 h61 h10
  · exact token_end h hs L hL (by omega)
end
end Go.Proofs.YtmahcabidggmeaaGreatDoor

/- Walks of the lexer: a token is put behind the others. -/
set_option linter.unusedVariables false
set_option linter.unusedSectionVars false
set_option linter.unusedSimpArgs false
namespace Go.Proofs.YtmahcabidggmeaaGreatDoor
open Go.RowKit Go.AB
set_option linter.unusedSimpArgs false
set_option linter.unusedVariables false
set_option linter.unusedSectionVars false

theorem info_tok : (Tryz.prog.info? 63).map (fun i => (i.zero, i.size, i.bytes)) = some (some (.agg #[.int .i64 0, .string ⟨#[]⟩, .int .i64 0, .int .i64 0, .int .i64 0]), 5, 48) := by kernel_rfl
theorem elem_tok : ElemOk Tryz.prog 55 63 5 48 := .of Tryz.underlying55 info_tok rfl (by decide)
/-- One new struct, as a slice of one element. -/
theorem View.struct (w : World) (cs : List Value) (t : TypeId) {k : Nat} (hk : cs.length = k) : View (w.alloc (.cells cs.toArray t)) k (.slice (some ⟨w.heap.size, 0, none⟩) 1 1) 1 cs := by
  subst hk
  refine ⟨by simp, by simp [maxLen], _, _, rfl, Nat.le_refl _, by simp [maxLen], (fun h => by cases h), fun _ => ⟨_, _, rfl, fun j hj => ?_⟩⟩
  have hj' : j < cs.length := by omega
  rw [blk_cell (blk_alloc_new w _)]
  simp [List.getD, hj']

/-- A variable that holds a list of tokens: block c, the row r, n tokens, their cells xs. -/
structure Col (w : World) (c : Nat) (r : Option Nat) (n : Nat) (xs : List Value) (ao : Option Addr) (cap : Nat) : Prop where
  blk : w.heap[c]? = some (.cells #[.slice ao n cap] 55 (0, 0))
  row : Row w 63 5 (.slice ao n cap) r n xs
  ne : r ≠ some c
theorem Col.keep {w w' : World} {c : Nat} {r : Option Nat} {n : Nat} {xs : List Value} {ao : Option Addr} {cap : Nat} {S : List Nat} (h : Col w c r n xs ao cap) (hc : Chg S w w') (hb : c ∉ S) (hr : ∀ g, r = some g → g ∉ S) : Col w' c r n xs ao cap :=
  ⟨hc.heap h.blk hb, h.row.keep hc hr, h.ne⟩
theorem Col.cell {w : World} {c : Nat} {r : Option Nat} {n : Nat} {xs : List Value} {ao : Option Addr} {cap : Nat} (h : Col w c r n xs ao cap) : w.cell? ⟨c, 0, none⟩ = some (.slice ao n cap) := by rw [blk_cell h.blk]; rfl
theorem Col.put {w w1 w2 : World} {c : Nat} {r r' : Option Nat} {n n' : Nat} {xs xs' : List Value} {ao ao' : Option Addr} {cap cap' : Nat} (h : Col w c r n xs ao cap) (h1 : Chg [] w w1) (hrow : Row w2 63 5 (.slice ao' n' cap') r' n' xs') (hc : Chg r.toList w1 w2) (hf : Fresh w1 r r') :
    Col (w2.setCell ⟨c, 0, none⟩ (.slice ao' n' cap')) c r' n' xs' ao' cap' ∧ Chg (c :: r.toList) w (w2.setCell ⟨c, 0, none⟩ (.slice ao' n' cap')) ∧ Fresh w r r' := by
  have hbr : c ∉ r.toList := fun hm => h.ne (by simpa using hm)
  have hb2 : w2.heap[c]? = some (.cells #[.slice ao n cap] 55 (0, 0)) := hc.heap (h1.heap h.blk (by simp)) hbr
  have hne : r' ≠ some c := fun e => by
    rcases hf c e with h3 | h3
    · exact h.ne h3
    · have := blk_lt h.blk; have := h1.size; omega
  refine ⟨⟨by rw [blk_set hb2]; rfl, hrow.keep (S := [c]) ((Chg.refl _ _).setCell (p := ⟨c, 0, none⟩) (.inl (by simp)) _) (fun g hg hm => hne (by simp at hm; rw [hg, hm])), hne⟩, ?_, hf.mono h1.size⟩
  exact ((h1.nil.trans hc (fun x hx => .inl (List.mem_cons_of_mem _ hx))).setCell (p := ⟨c, 0, none⟩) (.inl (by simp)) _)
theorem Col.put_cell {w w1 w2 : World} {c : Nat} {r : Option Nat} {n : Nat} {xs : List Value} {ao : Option Addr} {cap : Nat} (h : Col w c r n xs ao cap) (h1 : Chg [] w w1) (hc : Chg r.toList w1 w2) :
    w2.cell? ⟨c, 0, none⟩ = some (.slice ao n cap) ∧ w2.frozen? ⟨c, 0, none⟩ = false := by
  have hbr : c ∉ r.toList := fun hm => h.ne (by simpa using hm)
  have hb2 : w2.heap[c]? = some (.cells #[.slice ao n cap] 55 (0, 0)) := hc.heap (h1.heap h.blk (by simp)) hbr
  exact ⟨by rw [blk_cell hb2]; rfl, blk_free hb2 0⟩

/-- Behind the put: the list is longer by one. -/
def PutPost (w : World) (c : Nat) (r : Option Nat) (n : Nat) (xs : List Value) (e : Ending) (w' : World) : Prop :=
  e = .returned (.bool true) ∧ ∃ r' ao' cap', Col w' c r' (n + 1) xs ao' cap' ∧ Chg (c :: r.toList) w w' ∧ Fresh w r r'

set_option maxHeartbeats 1000000 in
set_option maxRecDepth 100000 in
theorem put_calls {w : World} {c : Nat} {r : Option Nat} {n : Nat} {xs : List Value} {ao : Option Addr} {cap : Nat} (h : Col w c r n xs ao cap) (hn : n ≤ 16777216) (c0 c2 c3 c4 : Int) (c1 : ByteArray) :
    Calls Tryz.prog 39 #[.agg #[.int .i64 c0, .string c1, .int .i64 c2, .int .i64 c3, .int .i64 c4], .pointer (some ⟨c, 0, none⟩)] w (PutPost w c r n (xs ++ [.int .i64 c0, .string c1, .int .i64 c2, .int .i64 c3, .int .i64 c4])) := by
  have hca := (Chg.refl [] w).alloc (.cells #[.int .i64 c0, .string c1, .int .i64 c2, .int .i64 c3, .int .i64 c4] 63)
  have h0 := (h.keep hca (by simp) (by simp)).cell
  have hrow := fun o => (h.keep hca (by simp) (by simp)).row.keep ((Chg.refl [] _).alloc o) (by simp)
  have hv := View.struct (w.alloc (.cells #[.int .i64 c0, .string c1, .int .i64 c2, .int .i64 c3, .int .i64 c4] 63)) [.int .i64 c0, .string c1, .int .i64 c2, .int .i64 c3, .int .i64 c4] 63 rfl
  rw [show (w.alloc (.cells #[.int .i64 c0, .string c1, .int .i64 c2, .int .i64 c3, .int .i64 c4] 63)).heap.size = w.heap.size + 1 from by simp] at hv
  go_enter Tryz.func39, Tryz.ntmps39
  go_wp2_with (at_builtin; refine wpList_grew rfl _ _ 55 rfl elem_tok rfl (hrow _) rfl hv (by simp [Value.oneCell']) (by unfold maxLen; omega) (by omega) (fun ao' cap' r' w2 hr2 hg2 => halt (fun X hX => ?_)))
  rw [hX.out]; clear hX
  have hc1 := hca.alloc (.cells #[.int .i64 c0, .string c1, .int .i64 c2, .int .i64 c3, .int .i64 c4] 63)
  obtain ⟨p1, p2⟩ := h.put_cell hc1 hg2.chg
  have hp := h.put hc1 hr2 hg2.chg hg2.fresh
  go_wp2
  go_ret
  exact ⟨rfl, r', ao', cap', hp⟩
end Go.Proofs.YtmahcabidggmeaaGreatDoor

/- Walks of the lexer: all tokens. -/
set_option linter.unusedVariables false
set_option linter.unusedSectionVars false
set_option linter.unusedSimpArgs false
namespace Go.Proofs.YtmahcabidggmeaaGreatDoor
open Go.RowKit Go.AB
set_option linter.unusedSimpArgs false
set_option linter.unusedVariables false
set_option linter.unusedSectionVars false

def tokC (x : Tok) : List Value := [.int .i64 x.kind, .string ⟨x.text.toArray⟩, .int .i64 x.num, .int .i64 x.line, .int .i64 x.col]
/-- All tokens are put; what is wrong is answered. -/
def EachPost (w : World) (c : Nat) (p : List Tok × (Nat × Nat × Nat)) (e : Ending) (w' : World) : Prop :=
  ∃ r' ao' cap', Col w' c r' p.1.length (p.1.flatMap tokC) ao' cap' ∧ e = .returned (.agg #[.int .i64 p.2.1, .int .i64 p.2.2.1, .int .i64 p.2.2.2]) ∧ Chg [c] w w' ∧ Fresh w none r'

/-- Where the loop over the source stands. -/
structure At (w : World) (c : Nat) (s : ByteArray) (L : List UInt8) (gk : Nat) (wr : World) (a line begun : Nat) (T0 : List Tok) (r : Option Nat) (ao : Option Addr) (cap : Nat) : Prop where
  gh : gk + a = s.size + 1
  le : a ≤ s.size
  be : begun ≤ a
  ln : line ≤ a + 1
  lx : Lx wr (w.heap.size + 1) s a line begun
  col : Col wr c r T0.length (T0.flatMap tokC) ao cap
  eq : scanD L 1 1 = (T0 ++ (scanD (L.drop a) line (a - begun + 1)).1, (scanD (L.drop a) line (a - begun + 1)).2)
  chg : Chg [c] w wr
  fr : ∀ g, r = some g → w.heap.size + 2 ≤ g
  res : wr.heap[w.heap.size]? = some (.cells #[.int .i64 0, .int .i64 0, .int .i64 0] 30 (0, 0))

theorem At.len {w wr : World} {c : Nat} {s : ByteArray} {L : List UInt8} {gk a line begun : Nat} {T0 : List Tok} {r : Option Nat} {ao : Option Addr} {cap : Nat} (h : At w c s L gk wr a line begun T0 r ao cap) (hL : L.length = s.size) : T0.length ≤ s.size + 1 := by
  have h1 := scanD_len L 1 1
  rw [h.eq] at h1
  simp only [List.length_append] at h1
  omega

theorem Lx.set1 {w : World} {b : Nat} {s : ByteArray} {a l g : Nat} (h : Lx w b s a l g) (a' : Nat) : Lx (w.setCell ⟨b, 1, none⟩ (.int .i64 a')) b s a' l g ∧ Chg [b] w (w.setCell ⟨b, 1, none⟩ (.int .i64 a')) :=
  ⟨⟨by rw [blk_set h.blk]; rfl⟩, (Chg.refl [b] w).setCell (p := ⟨b, 1, none⟩) (.inl (by simp)) _⟩
theorem Lx.set23 {w : World} {b : Nat} {s : ByteArray} {a l g : Nat} (h : Lx w b s a l g) (l' g' : Nat) : Lx ((w.setCell ⟨b, 2, none⟩ (.int .i64 l')).setCell ⟨b, 3, none⟩ (.int .i64 g')) b s a l' g' ∧ Chg [b] w ((w.setCell ⟨b, 2, none⟩ (.int .i64 l')).setCell ⟨b, 3, none⟩ (.int .i64 g')) :=
  ⟨⟨by rw [blk_set (blk_set h.blk _ _)]; rfl⟩, ((Chg.refl [b] w).setCell (p := ⟨b, 2, none⟩) (.inl (by simp)) _).setCell (p := ⟨b, 3, none⟩) (.inl (by simp)) _⟩
theorem act1_x {L : List UInt8} {s : ByteArray} (hL : Hid (s.data.toList = L)) {a : Nat} (ha : a ≤ s.size) :
    match act1 (L.drop a) with
    | .pass n => a < s.size ∧ ((isBlank (byteAtB s a) = true ∧ n = 1) ∨ (isBlank (byteAtB s a) = false ∧ (byteAtB s a).toNat = 59 ∧ n = runLen notLf (L.drop a)))
    | .fault e => isBlank (byteAtB s a) = false ∧ (byteAtB s a).toNat ≠ 59 ∧ e ≠ 0 ∧ (tokAt (L.drop a)).1 = e
    | .tok k t v n => isBlank (byteAtB s a) = false ∧ (byteAtB s a).toNat ≠ 59 ∧ tokAt (L.drop a) = (0, k, t, v, n) := by
  by_cases h : a < s.size
  · have hd := drop_cons_of hL h
    have hx : byteAtB s a = s[a] := by unfold byteAtB; rw [dif_pos h]
    rw [hx]
    generalize s[a] = x at *
    rw [hd]
    generalize L.drop (a + 1) = r
    cases h1 : act1 (x :: r) with
    | pass n =>
      unfold act1 at h1
      simp only [List.head?_cons] at h1
      split at h1
      · rename_i hb; simp only [Act1.pass.injEq] at h1; exact ⟨h, .inl ⟨hb, h1.symm⟩⟩
      · split at h1
        · rename_i hb hc; simp only [Act1.pass.injEq] at h1; exact ⟨h, .inr ⟨by simpa using hb, hc, h1.symm⟩⟩
        · split at h1 <;> cases h1
    | fault e =>
      unfold act1 at h1
      simp only [List.head?_cons] at h1
      split at h1
      · cases h1
      · split at h1
        · cases h1
        · split at h1
          · rename_i hb hc he; simp only [Act1.fault.injEq] at h1; exact ⟨by simpa using hb, hc, by rw [← h1]; exact he, h1⟩
          · cases h1
    | tok k t v n =>
      unfold act1 at h1
      simp only [List.head?_cons] at h1
      split at h1
      · cases h1
      · split at h1
        · cases h1
        · split at h1
          · cases h1
          · rename_i hb hc he
            simp only [Act1.tok.injEq] at h1
            obtain ⟨rfl, rfl, rfl, rfl⟩ := h1
            simp only [ne_eq, Classical.not_not] at he
            refine ⟨by simpa using hb, hc, ?_⟩
            rw [← he]
  · have hx : byteAtB s a = 0 := by unfold byteAtB; rw [dif_neg h]
    rw [hx, List.drop_of_length_le (by rw [len_of hL]; omega)]
    exact ⟨by decide, by decide, rfl⟩

section
variable {w wr w2 : World} {c : Nat} {s : ByteArray} {L : List UInt8} {gk a line begun : Nat} {T0 : List Tok} {r : Option Nat} {ao : Option Addr} {cap : Nat}
theorem At.two (h : At w c s L gk wr a line begun T0 r ao cap) : w.heap.size + 2 ≤ wr.heap.size := by have := blk_lt h.lx.blk; omega
theorem At.pass (h : At w c s L gk wr a line begun T0 r ao cap) (hL : L.length = s.size) {n : Nat} (h1 : act1 (L.drop a) = .pass n) (hlx : Lx w2 (w.heap.size + 1) s (a + n) line begun) (hch : Chg [w.heap.size + 1] wr w2) (hcl : c < w.heap.size) :
    At w c s L (gk - n) w2 (a + n) line begun T0 r ao cap := by
  obtain ⟨hn1, hn2⟩ := act1_pass h1
  rw [List.length_drop] at hn2
  have hg := h.gh
  have hbe := h.be
  have hln := h.ln
  refine ⟨by omega, by omega, by omega, by omega, hlx, h.col.keep hch (by simp; omega) (fun g hg hm => by have := h.fr g hg; simp at hm; omega), ?_, h.chg.trans hch (fun x hx => .inr (by simp at hx; omega)), h.fr, hch.heap h.res (by simp)⟩
  have e := h.eq
  rw [scanD_eq (L.drop a), h1] at e
  simp only [List.drop_drop] at e
  rw [e, show a + n - begun + 1 = a - begun + 1 + n from by omega]
theorem At.tok (h : At w c s L gk wr a line begun T0 r ao cap) (hL : L.length = s.size) {k : Nat} {t : List UInt8} {v : Int} {n : Nat} (h1 : act1 (L.drop a) = .tok k t v n) (hk : k ≠ 7) {line' begun' : Nat} (hlb : (k = 6 ∧ line' = line + 1 ∧ begun' = a + n) ∨ (k ≠ 6 ∧ line' = line ∧ begun' = begun))
    (hlx : Lx w2 (w.heap.size + 1) s (a + n) line' begun') {r' : Option Nat} {ao' : Option Addr} {cap' : Nat} {xs : List Value} (hcol : Col w2 c r' (T0.length + 1) xs ao' cap') (hxs : xs = (T0 ++ [(⟨k, t, v, line, a - begun + 1⟩ : Tok)]).flatMap tokC) (hch : Chg ((w.heap.size + 1) :: c :: r.toList) wr w2) (hf : Fresh wr r r') (hcl : c < w.heap.size) :
    At w c s L (gk - n) w2 (a + n) line' begun' (T0 ++ [(⟨k, t, v, line, a - begun + 1⟩ : Tok)]) r' ao' cap' := by
  have h2 : L.drop a ≠ [] ∧ 1 ≤ k ∧ k ≤ 6 ∧ 1 ≤ n ∧ n ≤ (L.drop a).length := by
    rcases act1_tok h1 with ⟨_, h3, _⟩ | h3
    · exact absurd h3 hk
    · exact h3
  have hn2 := h2.2.2.2.2
  rw [List.length_drop] at hn2
  have hg := h.gh
  have hln := h.ln
  have hbe := h.be
  have hn1 := h2.2.2.2.1
  have hsz := h.two
  refine ⟨by omega, by omega, by rcases hlb with ⟨_, _, h3⟩ | ⟨_, _, h3⟩ <;> omega, by rcases hlb with ⟨_, h3, _⟩ | ⟨_, h3, _⟩ <;> omega, hlx, by rw [List.length_append]; rw [← hxs]; exact hcol, ?_, h.chg.trans hch (fun x hx => by
    rcases List.mem_cons.1 hx with h3 | h3
    · exact .inr (by omega)
    · rcases List.mem_cons.1 h3 with h4 | h4
      · exact .inl (by simp [h4])
      · exact .inr (by have := h.fr x (by simpa using h4); omega)), fun g hg => by rcases hf g hg with h3 | h3; exact h.fr g h3; omega, hch.heap h.res (by
    intro hm
    rcases List.mem_cons.1 hm with h3 | h3
    · omega
    · rcases List.mem_cons.1 h3 with h4 | h4
      · omega
      · have := h.fr _ (by simpa using h4); omega)⟩
  have e := h.eq
  rw [scanD_eq (L.drop a), h1] at e
  simp only [List.drop_drop, if_neg hk] at e
  rcases hlb with ⟨h3, rfl, rfl⟩ | ⟨h3, rfl, rfl⟩
  · rw [if_pos h3] at e
    rw [e]
    simp
  · rw [if_neg h3] at e
    rw [e, show a + n - begun' + 1 = a - begun' + 1 + n from by omega]
    simp
end

section
variable {w wr w2 : World} {c : Nat} {s : ByteArray} {L : List UInt8} {gk a line begun : Nat} {T0 : List Tok} {r : Option Nat} {ao : Option Addr} {cap : Nat}
theorem At.fault (h : At w c s L gk wr a line begun T0 r ao cap) {e : Nat} (h1 : act1 (L.drop a) = .fault e) (hch : Chg [w.heap.size] wr w2) (hcl : c < w.heap.size) {X Y Z : Int} (hX : X = (e : Int)) (hY : Y = (line : Int)) (hZ : Z = (a : Int) - (begun : Int) + 1) :
    EachPost w c (scanD L 1 1) (.returned (.agg #[.int .i64 X, .int .i64 Y, .int .i64 Z])) w2 := by
  have e1 := h.eq
  rw [scanD_eq (L.drop a), h1] at e1
  simp only [List.append_nil] at e1
  have hbe := h.be
  rw [e1]
  subst hX hY
  refine ⟨r, ao, cap, h.col.keep hch (by simp; omega) (fun g hg hm => by have := h.fr g hg; simp at hm; omega), by rw [hZ, show ((a - begun + 1 : Nat) : Int) = (a : Int) - (begun : Int) + 1 from by omega], h.chg.trans hch (fun x hx => .inr (by simp at hx; omega)), fun g hg => .inr (by have := h.fr g hg; omega)⟩
theorem At.stop (h : At w c s L gk wr a line begun T0 r ao cap) {t : List UInt8} {v : Int} {n : Nat} (h1 : act1 (L.drop a) = .tok 7 t v n) {r' : Option Nat} {ao' : Option Addr} {cap' : Nat} {xs : List Value} (hcol : Col w2 c r' (T0.length + 1) xs ao' cap') (hxs : xs = (T0 ++ [(⟨7, t, v, line, a - begun + 1⟩ : Tok)]).flatMap tokC) (hch : Chg (w.heap.size :: c :: r.toList) wr w2) (hf : Fresh wr r r') (hcl : c < w.heap.size) :
    EachPost w c (scanD L 1 1) (.returned (.agg #[.int .i64 0, .int .i64 0, .int .i64 0])) w2 := by
  have e1 := h.eq
  have h2 : t = [] ∧ v = 0 := by
    rcases act1_tok h1 with ⟨_, _, h3, h4, _⟩ | ⟨_, _, h3, _⟩
    · exact ⟨h3, h4⟩
    · omega
  obtain ⟨rfl, rfl⟩ := h2
  rw [scanD_eq (L.drop a), h1] at e1
  simp only [if_true] at e1
  have hsz := h.two
  rw [e1]
  refine ⟨r', ao', cap', by rw [List.length_append]; rw [← hxs]; exact hcol, rfl, h.chg.trans hch (fun x hx => by
    rcases List.mem_cons.1 hx with h3 | h3
    · exact .inr (by omega)
    · rcases List.mem_cons.1 h3 with h4 | h4
      · exact .inl (by simp [h4])
      · exact .inr (by have := h.fr x (by simpa using h4); omega)), fun g hg => .inr (by rcases hf g hg with h3 | h3; have := h.fr g h3; omega; omega)⟩
end

section
variable {w : World} {c : Nat} {s : ByteArray} (hc : Col w c none 0 [] none 0) (hs : s.size ≤ 1048576) (L : List UInt8) (hL : Hid (s.data.toList = L))
include hc hs hL

set_option maxHeartbeats 4000000 in
set_option maxRecDepth 100000 in
theorem each_calls : Calls Tryz.prog 38 #[.string s, .func (.func 39) #[] #[.pointer (some ⟨c, 0, none⟩)]] w (EachPost w c (scanD L 1 1)) := by
  have hlt := blk_lt hc.blk
  have HLN := hid (len_of hL)
  have hz : Chg [] w ((w.alloc (.cells #[.int .i64 0, .int .i64 0, .int .i64 0] 30)).alloc (.cells #[.string s, .int .i64 0, .int .i64 1, .int .i64 0] 120)) := ((Chg.refl [] w).alloc _).alloc _
  go_enter Tryz.func38, Tryz.ntmps38
  go_wp2_with fail
  go_step3
  go_wp2_with fail
  go_step3
  go_wp2_with fail
  go_loopg [] (s.size + 1) (fun gk wr => ∃ a line begun T0 r ao cap, At w c s L gk wr a line begun T0 r ao cap)
  case atStart => exact ⟨0, 1, 0, [], none, none, 0, ⟨by omega, by omega, by omega, by omega, ⟨by rw [show w.heap.size + 1 = (w.alloc (.cells #[.int .i64 0, .int .i64 0, .int .i64 0] 30)).heap.size from by simp]; exact heap_alloc_new _ _⟩, hc.keep hz (by simp) (by simp), by simp, hz.nil, fun g hg => by simp at hg, blk_alloc_old (heap_alloc_new w _) _⟩⟩
  case round =>
    obtain ⟨a, line, begun, T0, r, ao, cap, hA⟩ := hrel
    have x0 := hA.lx.c0
    have x1 := hA.lx.c1
    have x2 := hA.lx.c2
    have x3 := hA.lx.c3
    have xf := hA.lx.fr
    have hBA := byteAt_calls hA.lx (by omega) a
    have hbl := blk_lt hA.lx.blk
    have hX := act1_x hL hA.le
    have HX := hid hA
    obtain ⟨x, hx⟩ : ∃ x, byteAtB s a = x := ⟨_, rfl⟩
    rw [hx] at hBA hX
    have hax := hA.le
    have hbe := hA.be
    have hln := hA.ln
    have HBA := hid hBA
    have HXE := hid hx
    clear hBA hx
    cases h1 : act1 (L.drop a) with
    | pass n =>
      rw [h1] at hX
      obtain ⟨hal, hX⟩ := hX
      rcases hX with ⟨hb, rfl⟩ | ⟨hb, h59, hn⟩
      · have hs1 := hA.lx.set1 (a + 1)
        have HN := hid (HX.out.pass HLN.out h1 hs1.1 hs1.2 hlt)
        have hgk := hA.gh
        clear h1 hs1 HX hA
        have hbb : ((x.toNat : Int) == 9) = true ∨ (((x.toNat : Int) == 9) = false ∧ ((x.toNat : Int) == 13) = true) ∨ (((x.toNat : Int) == 9) = false ∧ ((x.toNat : Int) == 13) = false ∧ ((x.toNat : Int) == 32) = true) := by
          simp only [isBlank, Bool.or_eq_true, beq_iff_eq] at hb
          simp only [beq_iff_eq, beq_eq_false_iff_ne]
          omega
        clear hb
        rcases hbb with g1 | ⟨g1, g2⟩ | ⟨g1, g2, g3⟩
        all_goals
          go_wp2_with (go_at_call 66; refine HBA.out.mono ?_; rintro e w2 ⟨rfl, rfl⟩)
          go_roundg (gk - 1)
          case measure => omega
          case rel => exact ⟨a + 1, line, begun, T0, r, ao, cap, HN.out⟩
      · have hs1 := hA.lx.set1 (a + n)
        have HN := hid (HX.out.pass HLN.out h1 hs1.1 hs1.2 hlt)
        have hgk := (act1_pass h1).1
        have HR := hid (fun W (hW : Lx W (w.heap.size + 1) s a line begun) => run_notLf hW (by omega) a hax L hL)
        rw [← hn] at HR
        have hlx := hA.lx
        have g1 : ((x.toNat : Int) == 9) = false := by simp; omega
        have g2 : ((x.toNat : Int) == 13) = false := by simp; omega
        have g3 : ((x.toNat : Int) == 32) = false := by simp; omega
        have g4 : ((x.toNat : Int) == 59) = true := by simp; omega
        clear h1 hs1 hA hb h59 hn
        go_wp2_with (first
          | (go_at_call 66; refine HBA.out.mono ?_; rintro e w2 ⟨rfl, rfl⟩)
          | (go_at_call 67; refine (HR.out _ hlx).mono ?_; rintro e w2 ⟨rfl, rfl⟩))
        go_roundg (gk - n)
        case measure => have := HX.out.gh; omega
        case rel => exact ⟨a + n, line, begun, T0, r, ao, cap, HN.out⟩
    | fault e =>
      rw [h1] at hX
      obtain ⟨hb, h59, he, htk⟩ := hX
      have HT := hid (fun W (hW : Lx W (w.heap.size + 1) s a line begun) => (token_calls hW (by omega) L hL hax).mono (fun e' w' (hp : TokPost W a (L.drop a) e' w') => by unfold TokPost at hp; rw [htk, if_pos he] at hp; exact hp))
      have hlx := hA.lx
      have g1 : ((x.toNat : Int) == 9) = false := by simp [isBlank] at hb; simp; omega
      have g2 : ((x.toNat : Int) == 13) = false := by simp [isBlank] at hb; simp; omega
      have g3 : ((x.toNat : Int) == 32) = false := by simp [isBlank] at hb; simp; omega
      have g4 : ((x.toNat : Int) == 59) = false := by simp; omega
      have g5 : ((e : Int) != 0) = true := by simp; omega
      have g6 : ((e : Int) == 0) = false := by simp; omega
      have HE := hid h1
      clear hA hb h59 htk he h1
      go_wp2_with (first
        | (go_at_call 66; refine HBA.out.mono ?_; rintro e w2 ⟨rfl, rfl⟩)
        | (go_at_call 69; refine (HT.out _ hlx).mono ?_; rintro e w2 ⟨rfl, hc2⟩; unfold zeroTok; have hrs := fun o => blk_alloc_old (hc2.heap HX.out.res (by simp)) o; have z0 := fun o => (blk_cell (hrs o) 0).trans rfl; have z1 := fun o => (blk_cell (hrs o) 1).trans rfl; have z2 := fun o => (blk_cell (hrs o) 2).trans rfl; have zf := fun o i => blk_free (hrs o) i; clear hrs; have x1' := fun o => (hlx.keep (hc2.alloc o) (by simp)).c1; have x2' := fun o => (hlx.keep (hc2.alloc o) (by simp)).c2; have x3' := fun o => (hlx.keep (hc2.alloc o) (by simp)).c3; have hz2 : w.heap.size + 2 ≤ w2.heap.size := (by have := HX.out.two; have := hc2.size; omega); have n1 : w.heap.size + 1 ≠ w2.heap.size := (by omega); have n2 : w2.heap.size ≠ w.heap.size + 1 := (by omega)))
      go_region
      go_wp2
      rw [Exit.noGoto_ret]
      have hc2n : Chg [w.heap.size] wr w2 := hc2.nil
      exact bodyPost_ret (v := .agg #[.int .i64 e, .int .i64 line, .int .i64 ((a : Int) - (begun : Int) + 1)]) (by simp [results, Tryz.results38, go_sem, z0, z1, z2]) rfl (HX.out.fault HE.out (by repeat (first | with_reducible exact Chg.refl _ _ | with_reducible exact hc2n | with_reducible refine Chg.setCell ?_ (by first | exact .inr (Nat.le_refl _) | (refine .inr ?_; first | omega | (simp; done) | (simp; omega)) | (refine .inl ?_; simp; done)) _ | with_reducible refine Chg.drewN ?_ _ | with_reducible refine Chg.drew ?_ | with_reducible refine Chg.alloc ?_ _)) hlt rfl rfl rfl)
    | tok k t v n =>
      rw [h1] at hX
      obtain ⟨hb, h59, htk⟩ := hX
      have HT := hid (fun W (hW : Lx W (w.heap.size + 1) s a line begun) => (token_calls hW (by omega) L hL hax).mono (fun e' w' (hp : TokPost W a (L.drop a) e' w') => by unfold TokPost at hp; rw [htk, if_neg (by simp)] at hp; exact hp))
      have hlx := hA.lx
      have hcol := hA.col
      have hlen := hA.len HLN.out
      have hfr := hA.fr
      have hkn := act1_tok h1
      have g1 : ((x.toNat : Int) == 9) = false := by simp [isBlank] at hb; simp; omega
      have g2 : ((x.toNat : Int) == 13) = false := by simp [isBlank] at hb; simp; omega
      have g3 : ((x.toNat : Int) == 32) = false := by simp [isBlank] at hb; simp; omega
      have g4 : ((x.toNat : Int) == 59) = false := by simp; omega
      have HE := hid h1
      have HF := hid hfr
      have HK := hid hkn
      clear hA hb h59 htk h1 hfr hkn
      have hk3 : (((k : Int) == 7) = true ∧ k = 7) ∨ (((k : Int) == 7) = false ∧ ((k : Int) == 6) = true ∧ k ≠ 7 ∧ k = 6) ∨ (((k : Int) == 7) = false ∧ ((k : Int) == 6) = false ∧ k ≠ 7 ∧ k ≠ 6) := by
        simp only [beq_iff_eq, beq_eq_false_iff_ne]
        omega
      rcases hk3 with ⟨q1, q2⟩ | ⟨q1, q2, q3, q4⟩ | ⟨q1, q2, q3, q4⟩
      · have HQ := hid q2
        clear q2
        go_wp2_with (first
          | (go_at_call 66; refine HBA.out.mono ?_; rintro e w2 ⟨rfl, rfl⟩)
          | (go_at_call 69; refine (HT.out _ hlx).mono ?_; rintro e w2 ⟨rfl, hc2⟩; unfold tokV; have x1' := fun o => (hlx.keep (hc2.alloc o) (by simp)).c1; have x2' := fun o => (hlx.keep (hc2.alloc o) (by simp)).c2; have x3' := fun o => (hlx.keep (hc2.alloc o) (by simp)).c3; have hz2 : w.heap.size + 2 ≤ w2.heap.size := (by have := HX.out.two; have := hc2.size; omega); have n1 : w.heap.size + 1 ≠ w2.heap.size := (by omega); have n2 : w2.heap.size ≠ w.heap.size + 1 := (by omega)))
        go_region
        have hcol4 := fun o => (hcol.keep (hc2.alloc o) (by simp) (by simp)).keep (Chg.of_drewN [] _ 1) (by simp) (by simp)
        go_wp2_with (go_at_call 39; refine halt (fun X hX => ?_))
        rw [hX.out]; clear hX
        have hrl := hcol.row.lt
        have hnr : ∀ b', w2.heap.size ≤ b' ∨ b' = w.heap.size ∨ b' = w.heap.size + 1 → b' ∉ c :: r.toList := by
          intro b' hb' hm
          have hz3 := hc2.size
          rcases List.mem_cons.1 hm with h3 | h3
          · omega
          · have h4 : r = some b' := by simpa using h3
            have := HF.out b' h4
            have := hrl b' h4
            omega
        refine (put_calls (hcol4 _) (by omega) _ _ _ _ _).mono ?_
        rintro e w5 ⟨rfl, r5, ao5, cap5, hcol5, hc5, hf5⟩
        have hc24 : Chg [] w2 _ := ((Chg.refl [] w2).alloc (.cells #[.int .i64 k, .string ⟨t.toArray⟩, .int .i64 v, .int .i64 line, .int .i64 ((a : Int) - (begun : Int) + 1)] 63)).drewN 1
        have yt : w5.heap[w2.heap.size]? = some (.cells #[.int .i64 k, .string ⟨t.toArray⟩, .int .i64 v, .int .i64 line, .int .i64 ((a : Int) - (begun : Int) + 1)] 63 (0, 0)) := hc5.heap (heap_alloc_new w2 _) (hnr _ (.inl (Nat.le_refl _)))
        have yk : w5.cell? ⟨w2.heap.size, 0, none⟩ = some (.int .i64 (k : Nat)) := (blk_cell yt 0).trans rfl
        have hres5 : w5.heap[w.heap.size]? = some (.cells #[.int .i64 0, .int .i64 0, .int .i64 0] 30 (0, 0)) := hc5.heap (hc24.heap (hc2.heap HX.out.res (by simp)) (by simp)) (hnr _ (.inr (.inl rfl)))
        have hlx5 : Lx w5 (w.heap.size + 1) s a line begun := (hlx.keep (hc2.trans' hc24) (by simp)).keep hc5 (hnr _ (.inr (.inr rfl)))
        have hC5 : Chg (c :: r.toList) wr w5 := (hc2.trans' hc24).nil.trans' hc5
        have hxs : (T0.flatMap tokC ++ [.int .i64 k, .string ⟨t.toArray⟩, .int .i64 v, .int .i64 line, .int .i64 ((a : Int) - (begun : Int) + 1)]) = (T0 ++ [(⟨k, t, v, line, a - begun + 1⟩ : Tok)]).flatMap tokC := by
          simp [tokC]; omega
        have hf5' : Fresh wr r r5 := hf5.mono (by have := hc2.size; have := hc24.size; exact Nat.le_trans hc2.size hc24.size)
        have HXS := hid hxs
        clear hxs yt hc24 hnr hrl hcol4 hcol hlx
        have z0 := (blk_cell hres5 0).trans rfl
        have z1 := (blk_cell hres5 1).trans rfl
        have z2 := (blk_cell hres5 2).trans rfl
        have zf := fun i => blk_free hres5 i
        clear hres5 hlx5
        go_wp2
        rw [Exit.noGoto_ret]
        have hC5n : Chg (w.heap.size :: c :: r.toList) wr w5 := hC5.mono (fun x hx => .inl (List.mem_cons_of_mem _ hx))
        obtain rfl : k = 7 := HQ.out
        have hcw : Chg [w.heap.size] w5 (((w5.setCell ⟨w.heap.size, 0, none⟩ (.int .i64 0)).setCell ⟨w.heap.size, 1, none⟩ (.int .i64 0)).setCell ⟨w.heap.size, 2, none⟩ (.int .i64 0)) := (by repeat (first | with_reducible exact Chg.refl _ _ | with_reducible exact Chg.refl _ _ | with_reducible refine Chg.setCell ?_ (by first | exact .inr (Nat.le_refl _) | (refine .inr ?_; first | omega | (simp; done) | (simp; omega)) | (refine .inl ?_; simp; done)) _ | with_reducible refine Chg.drewN ?_ _ | with_reducible refine Chg.drew ?_ | with_reducible refine Chg.alloc ?_ _))
        exact bodyPost_ret (v := .agg #[.int .i64 0, .int .i64 0, .int .i64 0]) (by simp [results, Tryz.results38, go_sem, z0, z1, z2]) rfl (HX.out.stop HE.out (hcol5.keep hcw (by simp; omega) (fun g hg hm => by rcases hf5' g hg with h3 | h3; have := HF.out g h3; simp at hm; omega; simp at hm; have := HX.out.two; omega)) HXS.out (hC5n.trans hcw (fun x hx => .inl (by simp at hx; simp [hx]))) hf5' hlt)
      · have HQ := hid q4
        have HQ7 := hid q3
        clear q3 q4
        go_wp2_with (first
          | (go_at_call 66; refine HBA.out.mono ?_; rintro e w2 ⟨rfl, rfl⟩)
          | (go_at_call 69; refine (HT.out _ hlx).mono ?_; rintro e w2 ⟨rfl, hc2⟩; unfold tokV; have x1' := fun o => (hlx.keep (hc2.alloc o) (by simp)).c1; have x2' := fun o => (hlx.keep (hc2.alloc o) (by simp)).c2; have x3' := fun o => (hlx.keep (hc2.alloc o) (by simp)).c3; have hz2 : w.heap.size + 2 ≤ w2.heap.size := (by have := HX.out.two; have := hc2.size; omega); have n1 : w.heap.size + 1 ≠ w2.heap.size := (by omega); have n2 : w2.heap.size ≠ w.heap.size + 1 := (by omega)))
        go_region
        have hcol4 := fun o => (hcol.keep (hc2.alloc o) (by simp) (by simp)).keep (Chg.of_drewN [] _ 1) (by simp) (by simp)
        go_wp2_with (go_at_call 39; refine halt (fun X hX => ?_))
        rw [hX.out]; clear hX
        have hrl := hcol.row.lt
        have hnr : ∀ b', w2.heap.size ≤ b' ∨ b' = w.heap.size ∨ b' = w.heap.size + 1 → b' ∉ c :: r.toList := by
          intro b' hb' hm
          have hz3 := hc2.size
          rcases List.mem_cons.1 hm with h3 | h3
          · omega
          · have h4 : r = some b' := by simpa using h3
            have := HF.out b' h4
            have := hrl b' h4
            omega
        refine (put_calls (hcol4 _) (by omega) _ _ _ _ _).mono ?_
        rintro e w5 ⟨rfl, r5, ao5, cap5, hcol5, hc5, hf5⟩
        have hc24 : Chg [] w2 _ := ((Chg.refl [] w2).alloc (.cells #[.int .i64 k, .string ⟨t.toArray⟩, .int .i64 v, .int .i64 line, .int .i64 ((a : Int) - (begun : Int) + 1)] 63)).drewN 1
        have yt : w5.heap[w2.heap.size]? = some (.cells #[.int .i64 k, .string ⟨t.toArray⟩, .int .i64 v, .int .i64 line, .int .i64 ((a : Int) - (begun : Int) + 1)] 63 (0, 0)) := hc5.heap (heap_alloc_new w2 _) (hnr _ (.inl (Nat.le_refl _)))
        have yk : w5.cell? ⟨w2.heap.size, 0, none⟩ = some (.int .i64 (k : Nat)) := (blk_cell yt 0).trans rfl
        have hres5 : w5.heap[w.heap.size]? = some (.cells #[.int .i64 0, .int .i64 0, .int .i64 0] 30 (0, 0)) := hc5.heap (hc24.heap (hc2.heap HX.out.res (by simp)) (by simp)) (hnr _ (.inr (.inl rfl)))
        have hlx5 : Lx w5 (w.heap.size + 1) s a line begun := (hlx.keep (hc2.trans' hc24) (by simp)).keep hc5 (hnr _ (.inr (.inr rfl)))
        have hC5 : Chg (c :: r.toList) wr w5 := (hc2.trans' hc24).nil.trans' hc5
        have hxs : (T0.flatMap tokC ++ [.int .i64 k, .string ⟨t.toArray⟩, .int .i64 v, .int .i64 line, .int .i64 ((a : Int) - (begun : Int) + 1)]) = (T0 ++ [(⟨k, t, v, line, a - begun + 1⟩ : Tok)]).flatMap tokC := by
          simp [tokC]; omega
        have hf5' : Fresh wr r r5 := hf5.mono (by have := hc2.size; have := hc24.size; exact Nat.le_trans hc2.size hc24.size)
        have HXS := hid hxs
        clear hxs yt hc24 hnr hrl hcol4 hcol hlx
        have y1 := hlx5.c1
        have y2 := hlx5.c2
        have y3 := hlx5.c3
        have yf := hlx5.fr
        have hC5n : Chg ((w.heap.size + 1) :: c :: r.toList) wr w5 := hC5.mono (fun x hx => .inl (List.mem_cons_of_mem _ hx))
        have hr5b : ∀ g, r5 = some g → g ∉ [w.heap.size + 1] := fun g hg hm => by rcases hf5' g hg with h3 | h3; have := HF.out g h3; simp at hm; omega; simp at hm; have := HX.out.two; omega
        have hgk := HX.out.gh
        have hs1 := hlx5.set1 (a + n)
        have hs2 := hs1.1.set23 (line + 1) (a + n)
        have hs12 := hs1.2.trans' hs2.2
        have HN := hid (HX.out.tok HLN.out HE.out HQ7.out (.inl ⟨HQ.out, rfl, rfl⟩) hs2.1 (hcol5.keep hs12 (by simp; omega) hr5b) HXS.out (hC5n.trans hs12 (fun x hx => .inl (by simp at hx; simp [hx]))) hf5' hlt)
        have hn1 : 1 ≤ n := by rcases HK.out with ⟨_, h3, _⟩ | h3; exact absurd h3 HQ7.out; exact h3.2.2.2.1
        have hn2 : n ≤ s.size - a := by rcases HK.out with ⟨_, h3, _⟩ | h3; exact absurd h3 HQ7.out; have := h3.2.2.2.2; rw [List.length_drop, HLN.out] at this; exact this
        clear hs1 hs2 hs12 hcol5 hC5 hC5n hf5 hf5' hr5b hc5 HT HK hc2
        go_wp2
        go_roundg (gk - n)
        case measure => omega
        case rel => exact ⟨a + n, line + 1, a + n, _, r5, ao5, cap5, HN.out⟩
      · have HQ := hid q4
        have HQ7 := hid q3
        clear q3 q4
        go_wp2_with (first
          | (go_at_call 66; refine HBA.out.mono ?_; rintro e w2 ⟨rfl, rfl⟩)
          | (go_at_call 69; refine (HT.out _ hlx).mono ?_; rintro e w2 ⟨rfl, hc2⟩; unfold tokV; have x1' := fun o => (hlx.keep (hc2.alloc o) (by simp)).c1; have x2' := fun o => (hlx.keep (hc2.alloc o) (by simp)).c2; have x3' := fun o => (hlx.keep (hc2.alloc o) (by simp)).c3; have hz2 : w.heap.size + 2 ≤ w2.heap.size := (by have := HX.out.two; have := hc2.size; omega); have n1 : w.heap.size + 1 ≠ w2.heap.size := (by omega); have n2 : w2.heap.size ≠ w.heap.size + 1 := (by omega)))
        go_region
        have hcol4 := fun o => (hcol.keep (hc2.alloc o) (by simp) (by simp)).keep (Chg.of_drewN [] _ 1) (by simp) (by simp)
        go_wp2_with (go_at_call 39; refine halt (fun X hX => ?_))
        rw [hX.out]; clear hX
        have hrl := hcol.row.lt
        have hnr : ∀ b', w2.heap.size ≤ b' ∨ b' = w.heap.size ∨ b' = w.heap.size + 1 → b' ∉ c :: r.toList := by
          intro b' hb' hm
          have hz3 := hc2.size
          rcases List.mem_cons.1 hm with h3 | h3
          · omega
          · have h4 : r = some b' := by simpa using h3
            have := HF.out b' h4
            have := hrl b' h4
            omega
        refine (put_calls (hcol4 _) (by omega) _ _ _ _ _).mono ?_
        rintro e w5 ⟨rfl, r5, ao5, cap5, hcol5, hc5, hf5⟩
        have hc24 : Chg [] w2 _ := ((Chg.refl [] w2).alloc (.cells #[.int .i64 k, .string ⟨t.toArray⟩, .int .i64 v, .int .i64 line, .int .i64 ((a : Int) - (begun : Int) + 1)] 63)).drewN 1
        have yt : w5.heap[w2.heap.size]? = some (.cells #[.int .i64 k, .string ⟨t.toArray⟩, .int .i64 v, .int .i64 line, .int .i64 ((a : Int) - (begun : Int) + 1)] 63 (0, 0)) := hc5.heap (heap_alloc_new w2 _) (hnr _ (.inl (Nat.le_refl _)))
        have yk : w5.cell? ⟨w2.heap.size, 0, none⟩ = some (.int .i64 (k : Nat)) := (blk_cell yt 0).trans rfl
        have hres5 : w5.heap[w.heap.size]? = some (.cells #[.int .i64 0, .int .i64 0, .int .i64 0] 30 (0, 0)) := hc5.heap (hc24.heap (hc2.heap HX.out.res (by simp)) (by simp)) (hnr _ (.inr (.inl rfl)))
        have hlx5 : Lx w5 (w.heap.size + 1) s a line begun := (hlx.keep (hc2.trans' hc24) (by simp)).keep hc5 (hnr _ (.inr (.inr rfl)))
        have hC5 : Chg (c :: r.toList) wr w5 := (hc2.trans' hc24).nil.trans' hc5
        have hxs : (T0.flatMap tokC ++ [.int .i64 k, .string ⟨t.toArray⟩, .int .i64 v, .int .i64 line, .int .i64 ((a : Int) - (begun : Int) + 1)]) = (T0 ++ [(⟨k, t, v, line, a - begun + 1⟩ : Tok)]).flatMap tokC := by
          simp [tokC]; omega
        have hf5' : Fresh wr r r5 := hf5.mono (by have := hc2.size; have := hc24.size; exact Nat.le_trans hc2.size hc24.size)
        have HXS := hid hxs
        clear hxs yt hc24 hnr hrl hcol4 hcol hlx
        have y1 := hlx5.c1
        have yf := hlx5.fr
        have hC5n : Chg ((w.heap.size + 1) :: c :: r.toList) wr w5 := hC5.mono (fun x hx => .inl (List.mem_cons_of_mem _ hx))
        have hr5b : ∀ g, r5 = some g → g ∉ [w.heap.size + 1] := fun g hg hm => by rcases hf5' g hg with h3 | h3; have := HF.out g h3; simp at hm; omega; simp at hm; have := HX.out.two; omega
        have hgk := HX.out.gh
        have hs1 := hlx5.set1 (a + n)
        have hs12 := hs1.2
        have HN := hid (HX.out.tok HLN.out HE.out HQ7.out (.inr ⟨HQ.out, rfl, rfl⟩) hs1.1 (hcol5.keep hs12 (by simp; omega) hr5b) HXS.out (hC5n.trans hs12 (fun x hx => .inl (by simp at hx; simp [hx]))) hf5' hlt)
        have hn1 : 1 ≤ n := by rcases HK.out with ⟨_, h3, _⟩ | h3; exact absurd h3 HQ7.out; exact h3.2.2.2.1
        have hn2 : n ≤ s.size - a := by rcases HK.out with ⟨_, h3, _⟩ | h3; exact absurd h3 HQ7.out; have := h3.2.2.2.2; rw [List.length_drop, HLN.out] at this; exact this
        clear hs1 hs12 hcol5 hC5 hC5n hf5 hf5' hr5b hc5 HT HK hc2
        go_wp2
        go_roundg (gk - n)
        case measure => omega
        case rel => exact ⟨a + n, line, begun, _, r5, ao5, cap5, HN.out⟩
end
end Go.Proofs.YtmahcabidggmeaaGreatDoor

/- Walks of the lexer: Tokens. -/
set_option linter.unusedVariables false
set_option linter.unusedSectionVars false
set_option linter.unusedSimpArgs false
namespace Go.Proofs.YtmahcabidggmeaaGreatDoor
open Go.RowKit Go.AB
set_option linter.unusedSimpArgs false
set_option linter.unusedVariables false
set_option linter.unusedSectionVars false

/-- The tokens, or the fault and none. -/
def tokensB (L : List UInt8) : List Tok × (Nat × Nat × Nat) := if (scanD L 1 1).2.1 = 0 then (scanD L 1 1).1 |> fun l => (l, (0, 0, 0)) else ([], (scanD L 1 1).2)
/-- A list of tokens in new memory, and a fault. -/
def NewT (w : World) (p : List Tok × (Nat × Nat × Nat)) (e : Ending) (w' : World) : Prop :=
  ∃ ts ao cap r, e = .returned (.tuple #[.slice ao ts.length cap, .agg #[.int .i64 p.2.1, .int .i64 p.2.2.1, .int .i64 p.2.2.2]]) ∧ Row w' 63 5 (.slice ao ts.length cap) r ts.length (ts.flatMap tokC) ∧ Fresh w none r ∧ Chg [] w w' ∧ Hid (ts = p.1)

theorem scanD_fault0 (L : List UInt8) : (scanD L 1 1).2.1 = 0 → (scanD L 1 1).2 = (0, 0, 0) := by
  intro h
  rcases scan_end (L.length + 1) L 1 1 (by omega) with ⟨h1, _⟩ | ⟨h1, _⟩
  · exact absurd h h1
  · exact h1

theorem newT_mk {w w2 w3 : World} {p : List Tok × (Nat × Nat × Nat)} {ts : List Tok} {f0 f1 f2 c cap : Nat} {r : Option Nat} {ao : Option Addr} (hp : p = (ts, (f0, f1, f2))) (hcol : Col w2 c r ts.length (ts.flatMap tokC) ao cap) (hf : ∀ g, r = some g → w.heap.size + 2 ≤ g) (h2 : Chg [] w w2) (h3 : Chg [w.heap.size] w2 w3)
    {X Y Z : Int} (hX : X = f0) (hY : Y = f1) (hZ : Z = f2) : NewT w p (.returned (.tuple #[.slice ao ts.length cap, .agg #[.int .i64 X, .int .i64 Y, .int .i64 Z]])) w3 := by
  subst hp hX hY hZ
  exact ⟨ts, ao, cap, r, rfl, hcol.row.keep h3 (fun g hg hm => by have := hf g hg; simp at hm; omega), fun g hg => .inr (by have := hf g hg; omega), h2.trans h3 (fun x hx => .inr (by simp at hx; omega)), hid rfl⟩
theorem newT_no {w w2 w3 : World} {p : List Tok × (Nat × Nat × Nat)} {f0 f1 f2 : Nat} (hp : p = ([], (f0, f1, f2))) (h2 : Chg [] w w2) (h3 : Chg [w.heap.size] w2 w3)
    {X Y Z : Int} (hX : X = f0) (hY : Y = f1) (hZ : Z = f2) : NewT w p (.returned (.tuple #[.slice none 0 0, .agg #[.int .i64 X, .int .i64 Y, .int .i64 Z]])) w3 := by
  subst hp hX hY hZ
  exact ⟨[], none, 0, none, rfl, Row.nil _ _ _, Fresh.refl _ _, h2.trans h3 (fun x hx => .inr (by simp at hx; omega)), hid rfl⟩

set_option maxHeartbeats 2000000 in
set_option maxRecDepth 100000 in
theorem tokens_calls {s : ByteArray} (w : World) (hs : s.size ≤ 1048576) (L : List UInt8) (hL : Hid (s.data.toList = L)) : Calls Tryz.prog 18 #[.string s] w (NewT w (tokensB L)) := by
  have hca : Chg [] w ((w.alloc (.cells #[.int .i64 0, .int .i64 0, .int .i64 0] 30)).alloc (.cells #[.slice none 0 0] 55)) := ((Chg.refl [] w).alloc _).alloc _
  have hcol : Col ((w.alloc (.cells #[.int .i64 0, .int .i64 0, .int .i64 0] 30)).alloc (.cells #[.slice none 0 0] 55)) (w.heap.size + 1) none 0 [] none 0 :=
    ⟨by rw [show w.heap.size + 1 = (w.alloc (.cells #[.int .i64 0, .int .i64 0, .int .i64 0] 30)).heap.size from by simp]; exact heap_alloc_new _ _, Row.nil _ _ _, by simp⟩
  have HE := hid (each_calls hcol hs L hL)
  have h0 := scanD_fault0 L
  obtain ⟨ts, p0, p1, p2, hp⟩ : ∃ ts p0 p1 p2, scanD L 1 1 = (ts, (p0, p1, p2)) := ⟨_, _, _, _, rfl⟩
  have hT : tokensB L = if p0 = 0 then (ts, (0, 0, 0)) else ([], (p0, p1, p2)) := by unfold tokensB; rw [hp]
  rw [hp] at HE h0
  have hres0 : ((w.alloc (.cells #[.int .i64 0, .int .i64 0, .int .i64 0] 30)).alloc (.cells #[.slice none 0 0] 55)).heap[w.heap.size]? = some (.cells #[.int .i64 0, .int .i64 0, .int .i64 0] 30 (0, 0)) := blk_alloc_old (heap_alloc_new w _) _
  by_cases hz : p0 = 0
  · rw [if_pos hz] at hT
    have h1 := h0 hz
    simp only [Prod.mk.injEq] at h1
    obtain ⟨rfl, rfl, rfl⟩ := h1
    have HT := hid hT
    clear hT hz h0 hp hcol
    go_enter Tryz.func18, Tryz.ntmps18
    go_wp2_with (go_at_call 38; refine HE.out.mono ?_; rintro e w2 ⟨r, ao, cap, hcol2, rfl, hc2, hf2⟩; refine halt (fun X hX => ?_))
    rw [hX.out]; clear hX
    have hsz : w.heap.size + 2 ≤ w2.heap.size := by have := hc2.size; simp at this; omega
    have hres := hc2.heap hres0 (by simp)
    have z0 := fun o => (blk_cell (blk_alloc_old hres o) 0).trans rfl
    have z1 := fun o => (blk_cell (blk_alloc_old hres o) 1).trans rfl
    have z2 := fun o => (blk_cell (blk_alloc_old hres o) 2).trans rfl
    have zf := fun o i => blk_free (blk_alloc_old hres o) i
    have n1 : w.heap.size ≠ w2.heap.size := by omega
    have n2 : w2.heap.size ≠ w.heap.size := by omega
    have n3 : w.heap.size ≠ w.heap.size + 1 := by omega
    have n4 : w.heap.size + 1 ≠ w.heap.size := by omega
    have hcl := fun o => (hcol2.keep ((Chg.refl [] w2).alloc o) (by simp) (by simp)).cell
    have hc2n : Chg [w.heap.size] w w2 := hca.nil.trans hc2 (fun x hx => .inr (by simp at hx; omega))
    have hc2e : Chg [] w w2 := hca.trans hc2 (fun x hx => .inr (by simp at hx; omega))
    have hfr : ∀ g, r = some g → w.heap.size + 2 ≤ g := fun g hg => by have := (hf2 g hg).resolve_left (by simp); simpa using this
    go_wp2
    go_region
    go_wp2
    exact bodyPost_ret (v := .tuple #[.slice ao ts.length cap, .agg #[.int .i64 0, .int .i64 0, .int .i64 0]]) (by simp [results, Tryz.results18, go_sem, z0, z1, z2]) rfl (newT_mk HT.out hcol2 hfr hc2e (by repeat (first | with_reducible exact Chg.refl _ _ | with_reducible exact Chg.refl _ _ | with_reducible refine Chg.setCell ?_ (by first | exact .inr (Nat.le_refl _) | (refine .inr ?_; first | omega | (simp; done) | (simp; omega)) | (refine .inl ?_; simp; done)) _ | with_reducible refine Chg.drewN ?_ _ | with_reducible refine Chg.drew ?_ | with_reducible refine Chg.alloc ?_ _)) rfl rfl rfl)
  · rw [if_neg hz] at hT
    have HT := hid hT
    have g1 : ((p0 : Int) != 0) = true := by simp; omega
    have g2 : ((p0 : Int) == 0) = false := by simp; omega
    clear hT hz h0 hp hcol
    go_enter Tryz.func18, Tryz.ntmps18
    go_wp2_with (go_at_call 38; refine HE.out.mono ?_; rintro e w2 ⟨r, ao, cap, hcol2, rfl, hc2, hf2⟩; refine halt (fun X hX => ?_))
    rw [hX.out]; clear hX
    have hsz : w.heap.size + 2 ≤ w2.heap.size := by have := hc2.size; simp at this; omega
    have hres := hc2.heap hres0 (by simp)
    have z0 := fun o => (blk_cell (blk_alloc_old hres o) 0).trans rfl
    have z1 := fun o => (blk_cell (blk_alloc_old hres o) 1).trans rfl
    have z2 := fun o => (blk_cell (blk_alloc_old hres o) 2).trans rfl
    have zf := fun o i => blk_free (blk_alloc_old hres o) i
    have n1 : w.heap.size ≠ w2.heap.size := by omega
    have n2 : w2.heap.size ≠ w.heap.size := by omega
    have hc2e : Chg [] w w2 := hca.trans hc2 (fun x hx => .inr (by simp at hx; omega))
    go_wp2
    go_region
    go_wp2
    exact bodyPost_ret (v := .tuple #[.slice none 0 0, .agg #[.int .i64 p0, .int .i64 p1, .int .i64 p2]]) (by simp [results, Tryz.results18, go_sem, z0, z1, z2]) rfl (newT_no HT.out hc2e (by repeat (first | with_reducible exact Chg.refl _ _ | with_reducible exact Chg.refl _ _ | with_reducible refine Chg.setCell ?_ (by first | exact .inr (Nat.le_refl _) | (refine .inr ?_; first | omega | (simp; done) | (simp; omega)) | (refine .inl ?_; simp; done)) _ | with_reducible refine Chg.drewN ?_ _ | with_reducible refine Chg.drew ?_ | with_reducible refine Chg.alloc ?_ _)) rfl rfl rfl)
end Go.Proofs.YtmahcabidggmeaaGreatDoor

/- What a token is, cut off behind its last byte. No program in sight. -/
namespace Go.AB
open Go.RowKit

/-- What follows begins with nothing that may stand in a name. -/
def nonw (z : List UInt8) : Prop := ∀ c, z.head? = some c → isWordly c = false
theorem nonw_nil : nonw [] := fun c h => by cases h
theorem nonw_cons {c : UInt8} {z : List UInt8} (h : isWordly c = false) : nonw (c :: z) := fun d hd => by cases hd; exact h
theorem runLen_append {p : UInt8 → Bool} {z : List UInt8} (hz : ∀ c, z.head? = some c → p c = false) : ∀ l : List UInt8, (∀ c ∈ l, p c = true) → runLen p (l ++ z) = l.length
  | [], _ => by
    cases z with
    | nil => rfl
    | cons c z => rw [List.nil_append, runLen, if_neg (by rw [hz c rfl]; simp)]; rfl
  | c :: l, h => by rw [List.cons_append, runLen, if_pos (h c (by simp)), runLen_append hz l (fun d hd => h d (by simp [hd])), List.length_cons]
theorem runLen_all (p : UInt8 → Bool) : ∀ l : List UInt8, ∀ c ∈ l.take (runLen p l), p c = true
  | [], c, h => by simp at h
  | x :: l, c, h => by
    rw [runLen] at h
    split at h
    · rename_i hx
      rw [List.take_succ_cons] at h
      rcases List.mem_cons.1 h with rfl | h
      · exact hx
      · exact runLen_all p l c h
    · simp at h
theorem runLen_cut {p : UInt8 → Bool} {z : List UInt8} (hz : ∀ c, z.head? = some c → p c = false) (l : List UInt8) : runLen p (l.take (runLen p l) ++ z) = runLen p l := by
  rw [runLen_append hz _ (runLen_all p l), List.length_take, Nat.min_eq_left (runLen_le p l)]
theorem runLen_next {p : UInt8 → Bool} : ∀ (l : List UInt8) (c : UInt8), l[runLen p l]? = some c → p c = false
  | [], c, h => by simp at h
  | x :: l, c, h => by
    rw [runLen] at h
    split at h
    · exact runLen_next l c (by simpa using h)
    · rename_i hx
      simp only [List.getElem?_cons_zero, Option.some.injEq] at h
      subst h
      simpa using hx
theorem take_app {l z : List UInt8} {n : Nat} (h : n ≤ l.length) : (l.take n ++ z).take n = l.take n := by
  rw [List.take_append_of_le_length (by rw [List.length_take]; omega), List.take_take, Nat.min_self]
theorem wordly_digit {c : UInt8} (h : isWordly c = false) : isDigit c = false := by
  cases hd : isDigit c with
  | false => rfl
  | true => simp [isWordly, hd] at h
theorem wordly_hex {c : UInt8} (h : isWordly c = false) : isHex c = false := by
  cases hd : isHex c with
  | false => rfl
  | true =>
    exfalso
    unfold isHex hexVal at hd
    simp only [isWordly, isLetter, Bool.or_eq_false_iff, beq_eq_false_iff_ne, Bool.and_eq_false_iff, decide_eq_false_iff_not] at h
    rw [if_neg (by rw [h.1.2]; simp)] at hd
    split at hd
    · omega
    · split at hd
      · omega
      · cases hd

theorem wAt_cut {l z : List UInt8} (hz : nonw z) {n : Nat} (hn : n ≤ l.length) : wAt (l.take n ++ z) n = false := by
  unfold wAt
  rw [List.getElem?_append_right (by rw [List.length_take]; omega), List.length_take, Nat.min_eq_left hn, Nat.sub_self]
  cases z with
  | nil => rfl
  | cons c z => exact hz c rfl
theorem numAt_cut {l z : List UInt8} {v : Int} {n : Nat} (h : numAt l = some (v, n)) (hz : nonw z) (hl : ∀ c, l.head? = some c → isDigit c = true ∨ c.toNat = 45) (hn : 1 ≤ n ∧ n ≤ l.length) : numAt (l.take n ++ z) = some (v, n) := by
  cases l with
  | nil => simp at hn; omega
  | cons c r =>
  have hzd : ∀ c, z.head? = some c → isDigit c = false := fun c h => wordly_digit (hz c h)
  have hzh : ∀ c, z.head? = some c → isHex c = false := fun c h => wordly_hex (hz c h)
  unfold numAt at h
  split at h
  · rename_i h0
    split at h
    · rename_i h1
      simp only [Option.some.injEq, Prod.mk.injEq] at h
      obtain ⟨hv, rfl⟩ := h
      obtain ⟨hc, hx⟩ := h0
      cases r with
      | nil => simp at hx
      | cons x r =>
        simp only [List.drop_succ_cons, List.drop_zero] at h1 hv hn ⊢
        have e : (c :: x :: r).take (runLen isHex r + 2) ++ z = c :: x :: (r.take (runLen isHex r) ++ z) := rfl
        rw [e]
        unfold numAt
        simp only [List.drop_succ_cons, List.drop_zero]
        rw [runLen_cut hzh, if_pos ⟨hc, by simpa using hx⟩, if_pos h1, take_app (runLen_le _ _), hv]
    · cases h
  · rename_i h0
    split at h
    · rename_i h45
      split at h
      · rename_i h1
        simp only [Option.some.injEq, Prod.mk.injEq] at h
        obtain ⟨hv, rfl⟩ := h
        simp only [List.drop_succ_cons, List.drop_zero] at h1 hv hn ⊢
        have e : (c :: r).take (runLen isDigit r + 1) ++ z = c :: (r.take (runLen isDigit r) ++ z) := rfl
        rw [e]
        unfold numAt
        simp only [List.drop_succ_cons, List.drop_zero]
        rw [if_neg (by intro h; have := h45.symm.trans h.1; simp at this), if_pos (show (c :: (r.take (runLen isDigit r) ++ z)).head? = some 45 from h45), runLen_cut hzd, take_app (runLen_le _ _), if_pos h1, hv]
      · cases h
    · rename_i h45
      split at h
      · rename_i h1
        simp only [Option.some.injEq, Prod.mk.injEq] at h
        obtain ⟨hv, hne⟩ := h
        have hc := hl c rfl
        have hcd : isDigit c = true := by
          rcases hc with h | h
          · exact h
          · exfalso; apply h45; simp only [List.head?_cons, Option.some.injEq]; exact UInt8.toNat_inj.1 (by simpa using h)
        have hrl : runLen isDigit (c :: r) = runLen isDigit r + 1 := by rw [runLen, if_pos hcd]
        unfold numAt
        have hh : (List.take n (c :: r) ++ z).head? = some c := by
          obtain ⟨m, rfl⟩ : ∃ m, n = m + 1 := ⟨n - 1, by omega⟩
          rfl
        rw [hh]
        rw [if_neg (by
          rintro ⟨h3, h4⟩
          apply h0
          refine ⟨h3, ?_⟩
          by_cases hn2 : 2 ≤ n
          · rw [List.getElem?_append_left (by rw [List.length_take]; omega), List.getElem?_take, if_pos (by omega)] at h4
            exact h4
          · exfalso
            rw [List.getElem?_append_right (by rw [List.length_take]; omega), List.length_take, show 1 - min n (c :: r).length = 0 from by simp; omega] at h4
            have := hz 120 (by rw [List.head?_eq_getElem?]; exact h4)
            exact absurd this (by decide)), if_neg (show ¬ (some c = some 45) from h45)]
        subst hne
        rw [runLen_cut hzd, take_app (runLen_le _ _), if_pos h1, hv]
      · cases h
theorem numTok_some {l : List UInt8} {v : Int} {n : Nat} (h : numTokAt l = some (v, n)) : numAt l = some (v, n) ∧ wAt l n = false := by
  unfold numTokAt at h
  split at h
  · cases h
  · rename_i v' n' h4
    split at h
    · cases h
    · rename_i hw
      cases h
      exact ⟨h4, by simpa using hw⟩
/-- A token, cut off, is the same token, whatever follows that may not stand in a name. -/
theorem tokAt_cut {c : UInt8} {r z : List UInt8} {k : Nat} {t : List UInt8} {v : Int} {n : Nat} (h : tokAt (c :: r) = (0, k, t, v, n)) (hz : k ≤ 2 → nonw z) : 1 ≤ n ∧ n ≤ (c :: r).length ∧ tokAt ((c :: r).take n ++ z) = (0, k, t, v, n) := by
  simp only [tokAt] at h
  split at h
  · rename_i hl
    simp only [Prod.mk.injEq, true_and] at h
    obtain ⟨rfl, rfl, rfl, hne⟩ := h
    have hz := hz (by omega)
    have hzw : ∀ c, z.head? = some c → isWordly c = false := hz
    have hw : isWordly c = true := by simp [isWordly, hl]
    have hrl : runLen isWordly (c :: r) = runLen isWordly r + 1 := by rw [runLen, if_pos hw]
    have hle := runLen_le isWordly (c :: r)
    subst hne
    refine ⟨by omega, hle, ?_⟩
    have e1 := runLen_cut hzw (c :: r)
    have e2 := take_app (z := z) (runLen_le isWordly (c :: r))
    have e3 : (c :: r).take (runLen isWordly (c :: r)) ++ z = c :: (r.take (runLen isWordly r) ++ z) := by rw [hrl]; rfl
    rw [e3] at e1 e2 ⊢
    simp only [tokAt]
    rw [if_pos hl, e1, e2]
  · rename_i hl
    split at h
    · rename_i hd
      cases hn : numTokAt (c :: r) with
      | none => rw [hn] at h; simp at h
      | some p =>
        obtain ⟨v', n'⟩ := p
        rw [hn] at h
        simp only [Prod.mk.injEq, true_and] at h
        obtain ⟨rfl, rfl, rfl, rfl⟩ := h
        have hz := hz (by omega)
        obtain ⟨h1, h2⟩ := numTok_some hn
        have hp := numAt_pos (hd.imp id (fun h => h.1)) h1
        have h3 := numAt_cut h1 hz (fun c' hc' => by cases hc'; exact hd.imp id (fun h => h.1)) hp
        have h4 : numTokAt ((c :: r).take n' ++ z) = some (v', n') := by unfold numTokAt; rw [h3]; simp [wAt_cut hz hp.2]
        refine ⟨hp.1, hp.2, ?_⟩
        have hd2 : isDigit c = true ∨ (c.toNat = 45 ∧ ∃ d ∈ (r.take (n' - 1) ++ z).head?, isDigit d = true) := by
          rcases hd with hd | ⟨hc, d, hd, hdd⟩
          · exact .inl hd
          · refine .inr ⟨hc, d, ?_, hdd⟩
            cases r with
            | nil => cases hd
            | cons x r =>
              simp only [List.head?_cons, Option.mem_def, Option.some.injEq] at hd
              subst hd
              have hn2 : 2 ≤ n' := by
                unfold numAt at h1
                have hc2 : c = 45 := UInt8.toNat_inj.1 (by simpa using hc)
                rw [if_neg (by rintro ⟨h5, _⟩; simp only [List.head?_cons, Option.some.injEq] at h5; rw [h5] at hc2; exact absurd hc2 (by decide)), if_pos (by simp [hc2])] at h1
                split at h1
                · simp only [Option.some.injEq, Prod.mk.injEq, List.drop_succ_cons, List.drop_zero] at h1
                  have := h1.2
                  rw [runLen, if_pos hdd] at this
                  omega
                · cases h1
              obtain ⟨m, rfl⟩ : ∃ m, n' = m + 2 := ⟨n' - 2, by omega⟩
              rfl
        have e : (c :: r).take n' ++ z = c :: (r.take (n' - 1) ++ z) := by
          obtain ⟨m, rfl⟩ : ∃ m, n' = m + 1 := ⟨n' - 1, by omega⟩
          rfl
        rw [e] at h4 ⊢
        simp only [tokAt]
        rw [if_neg hl, if_pos hd2, h4]
    · rename_i hd
      have hone : ∀ k', (0, k', ([] : List UInt8), (0 : Int), 1) = (0, k, t, v, n) → (c.toNat = 44 ∧ k' = 3 ∨ c.toNat = 58 ∧ k' = 4 ∨ c.toNat = 61 ∧ k' = 5 ∨ c.toNat = 10 ∧ k' = 6) → 1 ≤ n ∧ n ≤ (c :: r).length ∧ tokAt ((c :: r).take n ++ z) = (0, k, t, v, n) := by
        intro k' he hc
        simp only [Prod.mk.injEq, true_and] at he
        obtain ⟨rfl, rfl, rfl, rfl⟩ := he
        refine ⟨Nat.le_refl _, by simp, ?_⟩
        show tokAt (c :: z) = _
        simp only [tokAt]
        rw [if_neg hl, if_neg (by
          rintro (h3 | ⟨h3, _⟩)
          · exact hd (.inl h3)
          · omega)]
        rcases hc with ⟨h1, rfl⟩ | ⟨h1, rfl⟩ | ⟨h1, rfl⟩ | ⟨h1, rfl⟩ <;> simp [h1]
      split at h
      · rename_i h1; exact hone 3 h (.inl ⟨h1, rfl⟩)
      split at h
      · rename_i h1; exact hone 4 h (.inr (.inl ⟨h1, rfl⟩))
      split at h
      · rename_i h1; exact hone 5 h (.inr (.inr (.inl ⟨h1, rfl⟩)))
      split at h
      · rename_i h1; exact hone 6 h (.inr (.inr (.inr ⟨h1, rfl⟩)))
      · simp at h
/-- Behind a name or a number stands nothing that may stand in a name. -/
theorem tokAt_next {l : List UInt8} {k : Nat} {t : List UInt8} {v : Int} {n : Nat} (h : tokAt l = (0, k, t, v, n)) (hk : k ≤ 2) : nonw (l.drop n) := by
  intro x hx
  rw [List.head?_drop] at hx
  cases l with
  | nil => simp at hx
  | cons c r =>
    simp only [tokAt] at h
    split at h
    · simp only [Prod.mk.injEq, true_and] at h
      obtain ⟨_, _, _, hne⟩ := h
      subst hne
      exact runLen_next _ _ hx
    · split at h
      · cases hn : numTokAt (c :: r) with
        | none => rw [hn] at h; simp at h
        | some p =>
          obtain ⟨v', n'⟩ := p
          rw [hn] at h
          simp only [Prod.mk.injEq, true_and] at h
          obtain ⟨_, _, _, rfl⟩ := h
          have h2 := (numTok_some hn).2
          unfold wAt at h2
          rw [hx] at h2
          exact h2
      · repeat (first | (split at h; (simp only [Prod.mk.injEq, true_and] at h; omega)) | (simp at h; done))
/-- The bytes of a number. -/
theorem numAt_bytes {l : List UInt8} {v : Int} {n : Nat} (h : numAt l = some (v, n)) : ∀ c ∈ l.take n, isWordly c = true ∨ c.toNat = 45 := by
  have hd : ∀ c, isDigit c = true → isWordly c = true := fun c h => by simp [isWordly, h]
  have hx : ∀ c, isHex c = true → isWordly c = true := fun c h => by
    cases hw : isWordly c with
    | true => rfl
    | false => rw [wordly_hex hw] at h; cases h
  intro c hc
  unfold numAt at h
  split at h
  · rename_i h0
    split at h
    · simp only [Option.some.injEq, Prod.mk.injEq] at h
      obtain ⟨_, rfl⟩ := h
      match l, h0 with
      | x :: y :: r, h0 =>
        simp only [List.drop_succ_cons, List.drop_zero, List.take_succ_cons, List.mem_cons] at hc
        obtain ⟨h1, h2⟩ := h0
        simp only [List.head?_cons, Option.some.injEq, List.getElem?_cons_succ, List.getElem?_cons_zero] at h1 h2
        rcases hc with rfl | rfl | hc
        · rw [h1]; exact .inl (by decide)
        · rw [h2]; exact .inl (by decide)
        · exact .inl (hx c (runLen_all _ _ c hc))
      | [x], h0 => simp at h0
      | [], h0 => simp at h0
    · cases h
  · split at h
    · rename_i h45
      split at h
      · simp only [Option.some.injEq, Prod.mk.injEq] at h
        obtain ⟨_, rfl⟩ := h
        cases l with
        | nil => simp at hc
        | cons x r =>
          simp only [List.drop_succ_cons, List.drop_zero, List.take_succ_cons, List.mem_cons] at hc
          rcases hc with rfl | hc
          · simp only [List.head?_cons, Option.some.injEq] at h45
            rw [h45]; exact .inr rfl
          · exact .inl (hd c (runLen_all _ _ c hc))
      · cases h
    · split at h
      · simp only [Option.some.injEq, Prod.mk.injEq] at h
        obtain ⟨_, rfl⟩ := h
        exact .inl (hd c (runLen_all _ _ c hc))
      · cases h
theorem wordly_ne10 {c : UInt8} (h : isWordly c = true ∨ c.toNat = 45) : c.toNat ≠ 10 := by
  intro e
  rcases h with h | h
  · simp [isWordly, isLetter, isDigit, e] at h
  · omega

theorem act1_tokAt {c : UInt8} {r : List UInt8} {k : Nat} {t : List UInt8} {v : Int} {n : Nat} (h : act1 (c :: r) = .tok k t v n) : isBlank c = false ∧ c.toNat ≠ 59 ∧ tokAt (c :: r) = (0, k, t, v, n) := by
  unfold act1 at h
  simp only [List.head?_cons] at h
  split at h
  · cases h
  · split at h
    · cases h
    · split at h
      · cases h
      · rename_i hb hc he
        simp only [Act1.tok.injEq] at h
        obtain ⟨rfl, rfl, rfl, rfl⟩ := h
        simp only [ne_eq, Classical.not_not] at he
        exact ⟨by simpa using hb, hc, by rw [← he]⟩
theorem act1_of_tokAt {c : UInt8} {r : List UInt8} {k : Nat} {t : List UInt8} {v : Int} {n : Nat} (hb : isBlank c = false) (hc : c.toNat ≠ 59) (h : tokAt (c :: r) = (0, k, t, v, n)) : act1 (c :: r) = .tok k t v n := by
  unfold act1
  simp only [List.head?_cons]
  rw [if_neg (by rw [hb]; simp), if_neg hc, if_neg (by rw [h]; simp), h]
/-- A token at a place, cut off, whatever follows. -/
theorem act1_cut {d z : List UInt8} {k : Nat} {t : List UInt8} {v : Int} {n : Nat} (h : act1 d = .tok k t v n) (hk : k ≠ 7) (hz : k ≤ 2 → nonw z) : act1 (d.take n ++ z) = .tok k t v n := by
  cases d with
  | nil => simp [act1] at h; omega
  | cons c r =>
    obtain ⟨hb, hc, ht⟩ := act1_tokAt h
    obtain ⟨h1, h2, h3⟩ := tokAt_cut ht hz
    obtain ⟨m, rfl⟩ : ∃ m, n = m + 1 := ⟨n - 1, by omega⟩
    exact act1_of_tokAt hb hc h3
theorem act1_next {d : List UInt8} {k : Nat} {t : List UInt8} {v : Int} {n : Nat} (h : act1 d = .tok k t v n) (hk : k ≤ 2) : nonw (d.drop n) := by
  cases d with
  | nil => simp [act1] at h; omega
  | cons c r => exact tokAt_next (act1_tokAt h).2.2 hk
/-- What follows may be another, if what follows a name or a number begins as it should. -/
theorem act1_app {d z : List UInt8} {k : Nat} {t : List UInt8} {v : Int} {n : Nat} (h : act1 d = .tok k t v n) (hk : k ≠ 7) (hz : nonw z) : act1 (d ++ z) = .tok k t v n ∧ n ≤ d.length := by
  have hn : n ≤ d.length := by
    rcases act1_tok h with ⟨_, h1, _⟩ | h1
    · exact absurd h1 hk
    · exact h1.2.2.2.2
  refine ⟨?_, hn⟩
  have := act1_cut (z := d.drop n ++ z) h hk (fun hk2 => by
    have h1 := act1_next h hk2
    cases hd : d.drop n with
    | nil => exact hz
    | cons x y => rw [hd] at h1; exact fun c hc => h1 c hc)
  rwa [← List.append_assoc, List.take_append_drop] at this
theorem act1_tok_bytes {d : List UInt8} {k : Nat} {t : List UInt8} {v : Int} {n : Nat} (h : act1 d = .tok k t v n) (hk : k ≠ 7) : (k = 6 ∧ n = 1 ∧ ∃ r, d = 10 :: r) ∨ (k ≠ 6 ∧ ∀ c ∈ d.take n, c.toNat ≠ 10) := by
  cases d with
  | nil => simp [act1] at h; omega
  | cons c r =>
    obtain ⟨hb, hc, ht⟩ := act1_tokAt h
    simp only [tokAt] at ht
    split at ht
    · simp only [Prod.mk.injEq, true_and] at ht
      obtain ⟨rfl, _, _, hne⟩ := ht
      subst hne
      exact .inr ⟨by omega, fun x hx => wordly_ne10 (.inl (runLen_all _ _ x hx))⟩
    · split at ht
      · cases hn : numTokAt (c :: r) with
        | none => rw [hn] at ht; simp at ht
        | some p =>
          obtain ⟨v', n'⟩ := p
          rw [hn] at ht
          simp only [Prod.mk.injEq, true_and] at ht
          obtain ⟨rfl, _, _, rfl⟩ := ht
          exact .inr ⟨by omega, fun x hx => wordly_ne10 (numAt_bytes (numTok_some hn).1 x hx)⟩
      · have hone : ∀ k', k' ≠ 6 → c.toNat ≠ 10 → (0, k', ([] : List UInt8), (0 : Int), 1) = (0, k, t, v, n) → k ≠ 6 ∧ ∀ x ∈ (c :: r).take n, x.toNat ≠ 10 := by
          intro k' hk' hc' he
          simp only [Prod.mk.injEq, true_and] at he
          obtain ⟨rfl, _, _, rfl⟩ := he
          refine ⟨hk', fun x hx => ?_⟩
          simp only [List.take_succ_cons, List.take_zero, List.mem_singleton] at hx
          rw [hx]; exact hc'
        split at ht
        · exact .inr (hone 3 (by omega) (by omega) ht)
        split at ht
        · exact .inr (hone 4 (by omega) (by omega) ht)
        split at ht
        · exact .inr (hone 5 (by omega) (by omega) ht)
        split at ht
        · rename_i h10
          simp only [Prod.mk.injEq, true_and] at ht
          obtain ⟨rfl, _, _, rfl⟩ := ht
          exact .inl ⟨rfl, rfl, r, by rw [show c = 10 from UInt8.toNat_inj.1 (by simpa using h10)]⟩
        · simp at ht
theorem act1_pass_form {d : List UInt8} {n : Nat} (h : act1 d = .pass n) : ∃ c r, d = c :: r ∧ ((isBlank c = true ∧ n = 1) ∨ (isBlank c = false ∧ c.toNat = 59 ∧ n = runLen notLf d)) := by
  cases d with
  | nil => simp [act1] at h
  | cons c r =>
    refine ⟨c, r, rfl, ?_⟩
    unfold act1 at h
    simp only [List.head?_cons] at h
    split at h
    · rename_i hb; simp only [Act1.pass.injEq] at h; exact .inl ⟨hb, h.symm⟩
    · split at h
      · rename_i hb hc; simp only [Act1.pass.injEq] at h; exact .inr ⟨by simpa using hb, hc, h.symm⟩
      · split at h <;> cases h
theorem act1_pass_bytes {d : List UInt8} {n : Nat} (h : act1 d = .pass n) : ∀ c ∈ d.take n, c.toNat ≠ 10 := by
  obtain ⟨c, r, rfl, h1⟩ := act1_pass_form h
  rcases h1 with ⟨hb, rfl⟩ | ⟨_, _, rfl⟩
  · intro x hx
    simp only [List.take_succ_cons, List.take_zero, List.mem_singleton] at hx
    subst hx
    intro e
    simp [isBlank, e] at hb
  · intro x hx e
    have := runLen_all _ _ x hx
    simp [notLf, e] at this
theorem act1_blank {c : UInt8} {r : List UInt8} (h : isBlank c = true) : act1 (c :: r) = .pass 1 := by unfold act1; simp [h]
theorem act1_remark {c : UInt8} {r : List UInt8} (h : c.toNat = 59) : act1 (c :: r) = .pass (runLen notLf (c :: r)) := by
  unfold act1
  simp only [List.head?_cons]
  rw [if_neg (by simp [isBlank, h]), if_pos h]
/-- Blanks and remarks are passed over alike, if a line's end follows. -/
theorem act1_pass_lf {d r : List UInt8} {n : Nat} (h : act1 d = .pass n) : act1 (d ++ 10 :: r) = .pass n := by
  obtain ⟨c, q, rfl, h1⟩ := act1_pass_form h
  rcases h1 with ⟨hb, rfl⟩ | ⟨_, h59, rfl⟩
  · exact act1_blank hb
  · rw [List.cons_append, act1_remark h59]
    congr 1
    have key : ∀ l : List UInt8, runLen notLf (l ++ 10 :: r) = runLen notLf l := fun l => by
      induction l with
      | nil => rfl
      | cons x l ih => rw [List.cons_append, runLen, runLen, ih]
    exact key (c :: q)
end Go.AB

/- A source without fault, token by token. No program in sight. -/
namespace Go.AB
open Go.RowKit

def adv (p : Nat × Nat) (c : UInt8) : Nat × Nat := if c.toNat = 10 then (p.1 + 1, 1) else (p.1, p.2 + 1)
/-- Where one stands behind some bytes. -/
def pos (p : Nat × Nat) (l : List UInt8) : Nat × Nat := l.foldl adv p
theorem pos_append (p : Nat × Nat) (l m : List UInt8) : pos p (l ++ m) = pos (pos p l) m := by simp [pos, List.foldl_append]
theorem pos_no10 (l : List UInt8) : ∀ p : Nat × Nat, (∀ c ∈ l, c.toNat ≠ 10) → pos p l = (p.1, p.2 + l.length) := by
  induction l with
  | nil => intro p _; rfl
  | cons c l ih =>
    intro p h
    show pos (adv p c) l = _
    rw [ih _ (fun x hx => h x (by simp [hx])), adv, if_neg (h c (by simp))]
    simp only [List.length_cons]
    congr 1
    omega
theorem pos_take (p : Nat × Nat) (d : List UInt8) (n : Nat) : pos (pos p (d.take n)) (d.drop n) = pos p d := by rw [← pos_append, List.take_append_drop]
def lfs (l : List UInt8) : Nat := (l.filter fun c => c.toNat == 10).length
theorem pos_line (l : List UInt8) : ∀ p : Nat × Nat, (pos p l).1 = p.1 + lfs l := by
  induction l with
  | nil => intro p; rfl
  | cons c l ih =>
    intro p
    show (pos (adv p c) l).1 = _
    rw [ih]
    unfold adv lfs
    rw [List.filter_cons]
    by_cases h : c.toNat = 10
    · simp [h]; omega
    · simp [h]

inductive Lexed : List UInt8 → Nat × Nat → List Tok → Prop
  | stop (p : Nat × Nat) : Lexed [] p [⟨7, [], 0, p.1, p.2⟩]
  | pass {d : List UInt8} {n : Nat} {p : Nat × Nat} {ts : List Tok} (h : act1 d = .pass n) (hr : Lexed (d.drop n) (pos p (d.take n)) ts) : Lexed d p ts
  | tok {d : List UInt8} {k : Nat} {t : List UInt8} {v : Int} {n : Nat} {p : Nat × Nat} {ts : List Tok} (h : act1 d = .tok k t v n) (hk : k ≠ 7) (hr : Lexed (d.drop n) (pos p (d.take n)) ts) : Lexed d p (⟨k, t, v, p.1, p.2⟩ :: ts)

theorem pos_pass {d : List UInt8} {n : Nat} (h : act1 d = .pass n) (p : Nat × Nat) : pos p (d.take n) = (p.1, p.2 + n) := by
  rw [pos_no10 _ _ (act1_pass_bytes h), List.length_take, Nat.min_eq_left (act1_pass h).2]
theorem tok_le {d : List UInt8} {k : Nat} {t : List UInt8} {v : Int} {n : Nat} (h : act1 d = .tok k t v n) (hk : k ≠ 7) : 1 ≤ n ∧ n ≤ d.length ∧ 1 ≤ k ∧ k ≤ 6 := by
  rcases act1_tok h with ⟨_, h1, _⟩ | ⟨_, h1, h2, h3, h4⟩
  · exact absurd h1 hk
  · exact ⟨h3, h4, h1, h2⟩
theorem pos_tok {d : List UInt8} {k : Nat} {t : List UInt8} {v : Int} {n : Nat} (h : act1 d = .tok k t v n) (hk : k ≠ 7) (p : Nat × Nat) : pos p (d.take n) = if k = 6 then (p.1 + 1, 1) else (p.1, p.2 + n) := by
  rcases act1_tok_bytes h hk with ⟨h1, rfl, r, rfl⟩ | ⟨h1, h2⟩
  · rw [if_pos h1]; rfl
  · rw [if_neg h1, pos_no10 _ _ h2, List.length_take, Nat.min_eq_left (tok_le h hk).2.1]

theorem Lexed.scan {d : List UInt8} {p : Nat × Nat} {ts : List Tok} (h : Lexed d p ts) : scanD d p.1 p.2 = (ts, (0, 0, 0)) := by
  induction h with
  | stop p => rw [scanD_eq]; rfl
  | @pass d n p ts h _ ih =>
    rw [scanD_eq, h]
    rw [pos_pass h] at ih
    exact ih
  | @tok d k t v n p ts h hk _ ih =>
    rw [scanD_eq, h]
    rw [pos_tok h hk] at ih
    simp only [if_neg hk]
    by_cases h6 : k = 6
    · rw [if_pos h6] at ih ⊢; rw [ih]
    · rw [if_neg h6] at ih ⊢; rw [ih]
theorem lexed_of_scan : ∀ m (d : List UInt8) (p : Nat × Nat), d.length < m → (scanD d p.1 p.2).2.1 = 0 → Lexed d p (scanD d p.1 p.2).1
  | 0, d, p, h, _ => by omega
  | m + 1, d, p, hm, h0 => by
    rw [scanD_eq] at h0 ⊢
    cases ha : act1 d with
    | pass n =>
      rw [ha] at h0
      simp only at h0 ⊢
      refine .pass ha ?_
      rw [pos_pass ha]
      exact lexed_of_scan m (d.drop n) (p.1, p.2 + n) (by have := act1_pass ha; rw [List.length_drop]; omega) h0
    | fault e =>
      rw [ha] at h0
      simp only at h0
      unfold act1 at ha
      split at ha
      · split at ha
        · cases ha
        · split at ha
          · cases ha
          · split at ha
            · rename_i he; cases ha; exact absurd h0 he
            · cases ha
      · cases ha
    | tok k t v n =>
      rw [ha] at h0
      simp only at h0 ⊢
      by_cases hk : k = 7
      · rw [if_pos hk]
        have hd : d = [] := by
          rcases act1_tok ha with ⟨h1, _⟩ | ⟨_, _, h1, _⟩
          · exact h1
          · omega
        subst hd
        exact .stop p
      · rw [if_neg hk] at h0 ⊢
        have hl := tok_le ha hk
        have hdl : (d.drop n).length < m := by rw [List.length_drop]; omega
        by_cases h6 : k = 6
        · rw [if_pos h6] at h0 ⊢
          refine .tok ha hk ?_
          rw [pos_tok ha hk, if_pos h6]
          exact lexed_of_scan m (d.drop n) (p.1 + 1, 1) hdl h0
        · rw [if_neg h6] at h0 ⊢
          refine .tok ha hk ?_
          rw [pos_tok ha hk, if_neg h6]
          exact lexed_of_scan m (d.drop n) (p.1, p.2 + n) hdl h0

/-- Two sources with a line's end between. -/
theorem Lexed.join {d : List UInt8} {p : Nat × Nat} {ts : List Tok} (h : Lexed d p ts) : ∀ (r : List UInt8) (us : List Tok), Lexed r ((pos p d).1 + 1, 1) us →
    ∃ ts0, ts = ts0 ++ [⟨7, [], 0, (pos p d).1, (pos p d).2⟩] ∧ Lexed (d ++ 10 :: r) p (ts0 ++ ⟨6, [], 0, (pos p d).1, (pos p d).2⟩ :: us) := by
  induction h with
  | stop p =>
    intro r us hu
    refine ⟨[], rfl, ?_⟩
    exact Lexed.tok (d := 10 :: r) (k := 6) (t := []) (v := 0) (n := 1) (act1_of_tokAt (by decide) (by decide) (by simp [tokAt, isLetter, isDigit])) (by omega) hu
  | @pass d n p ts h _ ih =>
    intro r us hu
    obtain ⟨ts0, h1, h2⟩ := ih r us (by rw [pos_take]; exact hu)
    rw [pos_take] at h1 h2
    have hle := (act1_pass h).2
    refine ⟨ts0, h1, .pass (act1_pass_lf h) ?_⟩
    rw [List.drop_append_of_le_length hle, List.take_append_of_le_length hle]
    exact h2
  | @tok d k t v n p ts h hk _ ih =>
    intro r us hu
    obtain ⟨ts0, h1, h2⟩ := ih r us (by rw [pos_take]; exact hu)
    rw [pos_take] at h1 h2
    have hle := (tok_le h hk).2.1
    refine ⟨⟨k, t, v, p.1, p.2⟩ :: ts0, by rw [h1]; rfl, ?_⟩
    refine Lexed.tok (act1_app h hk (nonw_cons (by decide))).1 hk ?_
    rw [List.drop_append_of_le_length hle, List.take_append_of_le_length hle]
    exact h2

def Tok.down (m : Nat) (t : Tok) : Tok := { t with line := t.line + m }
theorem pos_down (l : List UInt8) (m : Nat) : ∀ p : Nat × Nat, pos (p.1 + m, p.2) l = ((pos p l).1 + m, (pos p l).2) := by
  induction l with
  | nil => intro p; rfl
  | cons c l ih =>
    intro p
    show pos (adv (p.1 + m, p.2) c) l = ((pos (adv p c) l).1 + m, (pos (adv p c) l).2)
    rw [← ih]
    congr 1
    unfold adv
    split
    · simp only; congr 1; omega
    · rfl
theorem Lexed.down {d : List UInt8} {p : Nat × Nat} {ts : List Tok} (h : Lexed d p ts) (m : Nat) : Lexed d (p.1 + m, p.2) (ts.map (Tok.down m)) := by
  induction h with
  | stop p => exact .stop _
  | @pass d n p ts h _ ih => exact .pass h (by rw [pos_down]; exact ih)
  | @tok d k t v n p ts h hk _ ih => exact .tok h hk (by rw [pos_down]; exact ih)

theorem lfs_le (l : List UInt8) : lfs l ≤ l.length := List.length_filter_le _ _
theorem Lexed.line {d : List UInt8} {p : Nat × Nat} {ts : List Tok} (h : Lexed d p ts) : ∀ t ∈ ts, t.line ≤ p.1 + d.length := by
  have key : ∀ (d : List UInt8) (n : Nat) (p : Nat × Nat), (pos p (d.take n)).1 + (d.drop n).length ≤ p.1 + d.length := fun d n p => by
    rw [pos_line]
    have := lfs_le (d.take n)
    rw [List.length_take] at this
    rw [List.length_drop]
    omega
  induction h with
  | stop p => intro t ht; rw [List.mem_singleton.1 ht]; simp
  | @pass d n p ts h _ ih => intro t ht; have := ih t ht; have := key d n p; omega
  | @tok d k t v n p ts h hk _ ih =>
    intro t ht
    rcases List.mem_cons.1 ht with rfl | ht
    · simp
    · have := ih t ht; have := key d n p; omega
/-- What the law on two joined sources wants. -/
theorem joined_tokens {A Bb : List UInt8} {ta tb : List Tok} (ha : Lexed A (1, 1) ta) (hb : Lexed Bb (1, 1) tb) : ∃ ta0 x, ta = ta0 ++ [x] ∧ x.kind = 7 ∧ x.text = [] ∧ x.num = 0 ∧ scanD (A ++ 10 :: Bb) 1 1 = (ta0 ++ { x with kind := 6 } :: tb.map (Tok.down (lfs A + 1)), (0, 0, 0)) := by
  have h1 := hb.down (lfs A + 1)
  have e : (pos (1, 1) A).1 + 1 = 1 + (lfs A + 1) := by rw [pos_line]; omega
  obtain ⟨ts0, h2, h3⟩ := ha.join Bb _ (by rw [e]; exact h1)
  exact ⟨ts0, _, h2, rfl, rfl, rfl, h3.scan⟩
end Go.AB
