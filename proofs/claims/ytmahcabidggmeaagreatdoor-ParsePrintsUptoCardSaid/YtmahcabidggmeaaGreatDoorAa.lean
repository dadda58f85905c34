/- Walks of the lexer: bytes' kinds. -/
import Derived.Test.YtmahcabidggmeaaGreatDoorAplain
import Derived.Test.YtmahcabidggmeaaGreatDoorRows
import Derived.Deep.QuietTactic
import Derived.BigQuiet
set_option linter.unusedVariables false
set_option linter.unusedSectionVars false
set_option linter.unusedSimpArgs false
namespace Go.Proofs.YtmahcabidggmeaaGreatDoor
open Go.RowKit Go.AB
set_option linter.unusedSimpArgs false

def lettB (x : Nat) : Bool := (97 ≤ x && x ≤ 122) || (65 ≤ x && x ≤ 90)
theorem or32 : ∀ x : Nat, x < 256 → bits .or .u8 (x : Int) 32 = ((x ||| 32 : Nat) : Int) := by decide +kernel
theorem lett_or : ∀ x : Nat, x < 256 → ((97 ≤ (x ||| 32)) ∧ (x ||| 32) ≤ 122 ↔ lettB x = true) := by decide +kernel

theorem ret_i64 {a b : Int} (h : a = b) : Ending.returned (.int .i64 a) = .returned (.int .i64 b) := by rw [h]
theorem ret_bool {a b : Bool} (h : a = b) : Ending.returned (.bool a) = .returned (.bool b) := by rw [h]

theorem letter_calls (c : UInt8) (w : World) : Calls Tryz.prog 91 #[.int .u8 c.toNat] w fun e w' => e = .returned (.bool (isLetter c)) ∧ w = w' := by
  have h := c.toNat_lt
  have h2 := lett_or c.toNat h
  have h1 := or32 c.toNat h
  have h3 : isLetter c = lettB c.toNat := rfl
  rw [h3]
  clear h3
  revert h h1 h2
  generalize c.toNat = x
  generalize (x ||| 32) = y
  intro h h2 h1
  have H2 := hid h2
  clear h2
  go_enter Tryz.func91, Tryz.ntmps91
  go_wp2
  all_goals go_ret
  all_goals
    refine ⟨ret_bool ?_, rfl⟩
    have h2 := H2.out
    rw [Bool.eq_iff_iff, ← h2]
    simp
    omega
theorem digit_calls (c : UInt8) (w : World) : Calls Tryz.prog 93 #[.int .u8 c.toNat] w fun e w' => e = .returned (.bool (isDigit c)) ∧ w = w' := by
  go_enter Tryz.func93, Tryz.ntmps93
  go_wp2
  all_goals go_ret
  all_goals
    refine ⟨ret_bool ?_, rfl⟩
    rw [Bool.eq_iff_iff]
    simp [isDigit]
    omega
set_option maxHeartbeats 400000 in
theorem wordly_calls (c : UInt8) (w : World) : Calls Tryz.prog 92 #[.int .u8 c.toNat] w fun e w' => e = .returned (.bool (isWordly c)) ∧ w = w' := by
  have hL := letter_calls c w
  have hD := digit_calls c w
  rcases Bool.eq_false_or_eq_true (isLetter c) with h1 | h1
  · rw [h1] at hL
    have hw : isWordly c = true := by simp [isWordly, h1]
    rw [hw]
    have HL := hid hL
    clear hL hD hw
    go_enter Tryz.func92, Tryz.ntmps92
    go_wp2_with (go_at_call 91; refine HL.out.mono ?_; rintro e w' ⟨rfl, rfl⟩)
    go_ret
    exact ⟨rfl, rfl⟩
  · rcases Bool.eq_false_or_eq_true (isDigit c) with h2 | h2
    · rw [h1] at hL
      rw [h2] at hD
      have hw : isWordly c = true := by simp [isWordly, h2]
      rw [hw]
      have HL := hid hL
      have HD := hid hD
      clear hL hD hw
      go_enter Tryz.func92, Tryz.ntmps92
      go_wp2_with (first | (go_at_call 91; refine HL.out.mono ?_; rintro e w' ⟨rfl, rfl⟩) | (go_at_call 93; refine HD.out.mono ?_; rintro e w' ⟨rfl, rfl⟩))
      go_ret
      exact ⟨rfl, rfl⟩
    · rw [h1] at hL
      rw [h2] at hD
      have hw : isWordly c = (c.toNat == 95) := by simp [isWordly, h1, h2]
      rw [hw]
      have HL := hid hL
      have HD := hid hD
      clear hL hD hw
      go_enter Tryz.func92, Tryz.ntmps92
      go_wp2_with (first | (go_at_call 91; refine HL.out.mono ?_; rintro e w' ⟨rfl, rfl⟩) | (go_at_call 93; refine HD.out.mono ?_; rintro e w' ⟨rfl, rfl⟩))
      all_goals go_ret
      all_goals (refine ⟨ret_bool ?_, rfl⟩; rw [Bool.eq_iff_iff]; simp; omega)

/-- The lexer's reader: the source, the place, the line, where the line begins. -/
structure Lx (w : World) (b : Nat) (s : ByteArray) (at_ line begun : Nat) : Prop where
  blk : w.heap[b]? = some (.cells #[.string s, .int .i64 at_, .int .i64 line, .int .i64 begun] 120 (0, 0))
theorem Lx.keep {w w' : World} {b : Nat} {s : ByteArray} {a l g : Nat} {S : List Nat} (h : Lx w b s a l g) (hc : Chg S w w') (hb : b ∉ S) : Lx w' b s a l g := ⟨hc.heap h.blk hb⟩
theorem Lx.c0 {w : World} {b : Nat} {s : ByteArray} {a l g : Nat} (h : Lx w b s a l g) : w.cell? ⟨b, 0, none⟩ = some (.string s) := by rw [blk_cell h.blk]; rfl
theorem Lx.c1 {w : World} {b : Nat} {s : ByteArray} {a l g : Nat} (h : Lx w b s a l g) : w.cell? ⟨b, 1, none⟩ = some (.int .i64 a) := by rw [blk_cell h.blk]; rfl
theorem Lx.c2 {w : World} {b : Nat} {s : ByteArray} {a l g : Nat} (h : Lx w b s a l g) : w.cell? ⟨b, 2, none⟩ = some (.int .i64 l) := by rw [blk_cell h.blk]; rfl
theorem Lx.c3 {w : World} {b : Nat} {s : ByteArray} {a l g : Nat} (h : Lx w b s a l g) : w.cell? ⟨b, 3, none⟩ = some (.int .i64 g) := by rw [blk_cell h.blk]; rfl
theorem Lx.fr {w : World} {b : Nat} {s : ByteArray} {a l g : Nat} (h : Lx w b s a l g) (i : Nat) : w.frozen? ⟨b, i, none⟩ = false := blk_free h.blk i

/-- A byte, 0 behind the end. -/
def byteAtB (s : ByteArray) (i : Nat) : UInt8 := if h : i < s.size then s[i] else 0
theorem byteAt_calls {w : World} {b : Nat} {s : ByteArray} {a l g : Nat} (h : Lx w b s a l g) (hs : s.size ≤ 4294967296) (i : Nat) : Calls Tryz.prog 66 #[.pointer (some ⟨b, 0, none⟩), .int .i64 i] w fun e w' => e = .returned (.int .u8 (byteAtB s i).toNat) ∧ w = w' := by
  have h0 := h.c0
  by_cases hi : i < s.size
  · have he : byteAtB s i = s[i] := by unfold byteAtB; rw [dif_pos hi]
    rw [he]
    clear he
    go_enter Tryz.func66, Tryz.ntmps66
    go_wp2
    go_ret
    exact ⟨rfl, rfl⟩
  · have he : byteAtB s i = 0 := by unfold byteAtB; rw [dif_neg hi]
    rw [he]
    clear he
    go_enter Tryz.func66, Tryz.ntmps66
    go_wp2
    go_ret
    exact ⟨rfl, rfl⟩
theorem notLf_calls (c : UInt8) (w : World) : Calls Tryz.prog 68 #[.int .u8 c.toNat] w fun e w' => e = .returned (.bool (notLf c)) ∧ w = w' := by
  have hnl : notLf c = !(c.toNat == 10) := rfl
  rw [hnl]
  clear hnl
  go_enter Tryz.func68, Tryz.ntmps68
  go_wp2
  go_ret
  refine ⟨ret_bool ?_, rfl⟩
  rw [Bool.eq_iff_iff]
  simp
  try omega

set_option maxHeartbeats 1000000 in
theorem run_wordly {w : World} {b : Nat} {s : ByteArray} {a l g : Nat} (h : Lx w b s a l g) (hs : s.size ≤ 4294967296) (k0 : Nat) (hk0 : k0 ≤ s.size) (L : List UInt8) (hL : Hid (s.data.toList = L)) :
    Calls Tryz.prog 67 #[.pointer (some ⟨b, 0, none⟩), .int .i64 k0, .func (.func 92) #[] #[]] w fun e w' => e = .returned (.int .i64 (k0 + runLen isWordly (L.drop k0) : Nat)) ∧ w = w' := by
  have h0 := h.c0
  have hsz : L.length = s.size := by rw [← hL.out, Array.length_toList]; rfl
  have hget : ∀ k (hk : k < s.size) (hk2 : k < L.length), s[k] = L[k] := fun k hk hk2 => by
    have := hL.out
    subst this
    rfl
  have HSZ := hid hsz
  have HG := hid hget
  clear hsz hget
  go_enter Tryz.func67, Tryz.ntmps67
  go_wp2
  go_loop [1] (fun i => ∃ k : Nat, k0 ≤ k ∧ k ≤ s.size ∧ i = .int .i64 k ∧ Hid (k0 + runLen isWordly (L.drop k0) = k + runLen isWordly (L.drop k))) (fun i => s.size - (intOf i).toNat)
  case atStart => exact ⟨k0, Nat.le_refl _, hk0, rfl, hid rfl⟩
  case round =>
    obtain ⟨k, hk1, hk, rfl, HR⟩ := hrel
    by_cases hlt : k < s.size
    · have hd : L.drop k = s[k] :: L.drop (k + 1) := by rw [HG.out k hlt (by rw [HSZ.out]; exact hlt)]; exact List.drop_eq_getElem_cons _
      have hr := HR.out
      rw [hd, runLen] at hr
      have hc := wordly_calls s[k] w
      rcases Bool.eq_false_or_eq_true (isWordly s[k]) with h1 | h1
      · rw [h1] at hr hc
        have HR2 := hid hr
        have HC := hid hc
        clear hd hr hc HR
        go_wp2_with (go_at_call 92; refine HC.out.mono ?_; rintro e w' ⟨rfl, rfl⟩)
        go_round
        case rel => exact ⟨k + 1, by omega, by omega, by go_num, hid (by rw [HR2.out]; simp; omega)⟩
        case measure => simp [intOf]; omega
      · rw [h1] at hr hc
        have HR2 := hid hr
        have HC := hid hc
        clear hd hr hc HR
        go_wp2_with (go_at_call 92; refine HC.out.mono ?_; rintro e w' ⟨rfl, rfl⟩)
        go_ret
        exact ⟨ret_i64 (by have := HR2.out; simp [runLen] at this; omega), rfl⟩
    · have hd : L.drop k = [] := List.drop_of_length_le (by rw [HSZ.out]; omega)
      have hr := HR.out
      rw [hd] at hr
      have HR2 := hid hr
      clear hd hr HR
      go_wp2
      go_ret
      exact ⟨ret_i64 (by have := HR2.out; simp [runLen] at this; omega), rfl⟩

set_option maxHeartbeats 1000000 in
theorem run_notLf {w : World} {b : Nat} {s : ByteArray} {a l g : Nat} (h : Lx w b s a l g) (hs : s.size ≤ 4294967296) (k0 : Nat) (hk0 : k0 ≤ s.size) (L : List UInt8) (hL : Hid (s.data.toList = L)) :
    Calls Tryz.prog 67 #[.pointer (some ⟨b, 0, none⟩), .int .i64 k0, .func (.func 68) #[] #[]] w fun e w' => e = .returned (.int .i64 (k0 + runLen notLf (L.drop k0) : Nat)) ∧ w = w' := by
  have h0 := h.c0
  have hsz : L.length = s.size := by rw [← hL.out, Array.length_toList]; rfl
  have hget : ∀ k (hk : k < s.size) (hk2 : k < L.length), s[k] = L[k] := fun k hk hk2 => by
    have := hL.out
    subst this
    rfl
  have HSZ := hid hsz
  have HG := hid hget
  clear hsz hget
  go_enter Tryz.func67, Tryz.ntmps67
  go_wp2
  go_loop [1] (fun i => ∃ k : Nat, k0 ≤ k ∧ k ≤ s.size ∧ i = .int .i64 k ∧ Hid (k0 + runLen notLf (L.drop k0) = k + runLen notLf (L.drop k))) (fun i => s.size - (intOf i).toNat)
  case atStart => exact ⟨k0, Nat.le_refl _, hk0, rfl, hid rfl⟩
  case round =>
    obtain ⟨k, hk1, hk, rfl, HR⟩ := hrel
    by_cases hlt : k < s.size
    · have hd : L.drop k = s[k] :: L.drop (k + 1) := by rw [HG.out k hlt (by rw [HSZ.out]; exact hlt)]; exact List.drop_eq_getElem_cons _
      have hr := HR.out
      rw [hd, runLen] at hr
      have hc := notLf_calls s[k] w
      rcases Bool.eq_false_or_eq_true (notLf s[k]) with h1 | h1
      · rw [h1] at hr hc
        have HR2 := hid hr
        have HC := hid hc
        clear hd hr hc HR
        go_wp2_with (go_at_call 68; refine HC.out.mono ?_; rintro e w' ⟨rfl, rfl⟩)
        go_round
        case rel => exact ⟨k + 1, by omega, by omega, by go_num, hid (by rw [HR2.out]; simp; omega)⟩
        case measure => simp [intOf]; omega
      · rw [h1] at hr hc
        have HR2 := hid hr
        have HC := hid hc
        clear hd hr hc HR
        go_wp2_with (go_at_call 68; refine HC.out.mono ?_; rintro e w' ⟨rfl, rfl⟩)
        go_ret
        exact ⟨ret_i64 (by have := HR2.out; simp [runLen] at this; omega), rfl⟩
    · have hd : L.drop k = [] := List.drop_of_length_le (by rw [HSZ.out]; omega)
      have hr := HR.out
      rw [hd] at hr
      have HR2 := hid hr
      clear hd hr HR
      go_wp2
      go_ret
      exact ⟨ret_i64 (by have := HR2.out; simp [runLen] at this; omega), rfl⟩
end Go.Proofs.YtmahcabidggmeaaGreatDoor
