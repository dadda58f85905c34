/- Walks of the lexer's reference: the number with what stands behind it, the token that stands at a place. -/
import Derived.Test.YtppijmpdoejdmaaCb
import Derived.RegionTactic
namespace Go.Proofs.Ytppijmpdoejdmaa
open Go.RowKit Go.AB
set_option linter.unusedSimpArgs false
set_option linter.unusedVariables false
set_option linter.unusedSectionVars false

def RNum (w : World) (d : List UInt8) (e : Ending) (w' : World) : Prop :=
  (match numTokAt d with
   | none => e = .returned (.tuple #[.int .i64 0, .int .i64 0, .bool false])
   | some (v, n) => e = .returned (.tuple #[.int .i64 v, .int .i64 (n : Int), .bool true])) ∧ w = w'
theorem rnum_no {w : World} {d : List UInt8} (h : numTokAt d = none) : RNum w d (.returned (.tuple #[.int .i64 0, .int .i64 0, .bool false])) w := by
  unfold RNum; rw [h]; exact ⟨rfl, rfl⟩
theorem rnum_yes {w : World} {d : List UInt8} {v : Int} {n : Nat} (h : numTokAt d = some (v, n)) : RNum w d (.returned (.tuple #[.int .i64 v, .int .i64 (n : Int), .bool true])) w := by
  unfold RNum; rw [h]; exact ⟨rfl, rfl⟩
theorem numTok_none {d : List UInt8} (h : numAt d = none) : numTokAt d = none := by unfold numTokAt; rw [h]
theorem numTok_w {d : List UInt8} {v : Int} {n : Nat} (h : numAt d = some (v, n)) (hw : wAt d n = true) : numTokAt d = none := by unfold numTokAt; rw [h]; simp [hw]
theorem numTok_y {d : List UInt8} {v : Int} {n : Nat} (h : numAt d = some (v, n)) (hw : wAt d n = false) : numTokAt d = some (v, n) := by unfold numTokAt; rw [h]; simp [hw]

section
variable {w : World} {s : ByteArray} {a : Nat} (hs : s.size ≤ 4294967296) (L : List UInt8) (hL : Hid (s.data.toList = L))
include hs hL
set_option maxHeartbeats 4000000 in
set_option maxRecDepth 100000 in
theorem r_number_calls (w : World) (ha : a < s.size) (hd : isDigit s[a] = true ∨ s[a].toNat = 45) : Calls Try.prog 37 #[.string s, .int .i64 a] w (RNum w (L.drop a)) := by
  have hcons := drop_cons_of hL ha
  have hpos : ∀ v n, numAt (L.drop a) = some (v, n) → 1 ≤ n ∧ n ≤ s.size - a := fun v n h => by
    rw [hcons] at h
    have h1 := numAt_pos hd h
    rw [← hcons, List.length_drop, len_of hL] at h1
    exact h1
  have HPOS := hid hpos
  have HCONS := hid hcons
  have j0 : (a : Int) < (s.size : Int) := by omega
  clear hpos hcons hd
  -- which of the two is asked, and by which tests
  have hrd : (a + 1 < s.size ∧ ((s[a].toNat : Int) == 48) = true ∧ (∃ h1 : a + 1 < s.size, ((s[a + 1].toNat : Int) == 120) = true) ∧ Hid (Calls Try.prog 43 #[.string s, .int .i64 a] w (RRead w (L.drop a)))) ∨
      ((¬ a + 1 < s.size ∨ (a + 1 < s.size ∧ ((s[a].toNat : Int) == 48) = false) ∨ (a + 1 < s.size ∧ ((s[a].toNat : Int) == 48) = true ∧ ∃ h1 : a + 1 < s.size, ((s[a + 1].toNat : Int) == 120) = false)) ∧ Hid (Calls Try.prog 44 #[.string s, .int .i64 a] w (RRead w (L.drop a)))) := by
    by_cases h1 : a + 1 < s.size
    · have hb1 : byteAtB s (a + 1) = s[a + 1] := by unfold byteAtB; rw [dif_pos h1]
      by_cases h2 : s[a].toNat = 48
      · by_cases h3 : s[a + 1].toNat = 120
        · exact .inl ⟨h1, by simp; omega, ⟨h1, by simp; omega⟩, hid (r_hex_reads hs L hL w ha h2 (by rw [hb1]; exact h3))⟩
        · exact .inr ⟨.inr (.inr ⟨h1, by simp; omega, h1, by simp; omega⟩), hid (r_dec_reads hs L hL w ha (by rw [hb1]; exact fun h => h3 h.2))⟩
      · exact .inr ⟨.inr (.inl ⟨h1, by simp; omega⟩), hid (r_dec_reads hs L hL w ha (fun h => h2 h.1))⟩
    · have hb1 : byteAtB s (a + 1) = 0 := by unfold byteAtB; rw [dif_neg h1]
      exact .inr ⟨.inl h1, hid (r_dec_reads hs L hL w ha (by rw [hb1]; simp))⟩
  cases hn : numAt (L.drop a) with
  | none =>
    have HT := hid (numTok_none hn)
    unfold RRead at hrd
    rw [hn] at hrd
    clear hn
    rcases hrd with ⟨h1, h2, ⟨h3, h4⟩, HC⟩ | ⟨h1 | ⟨h1, h2⟩ | ⟨h1, h2, h3, h4⟩, HC⟩
    all_goals
      go_enter Try.func37, Try.ntmps37
      go_wp2_with (first | (go_at_call 43; refine HC.out.mono ?_; rintro e w' ⟨⟨X, Y, rfl⟩, rfl⟩) | (go_at_call 44; refine HC.out.mono ?_; rintro e w' ⟨⟨X, Y, rfl⟩, rfl⟩))
      go_ret3
      exact rnum_no HT.out
  | some p =>
    obtain ⟨v, n⟩ := p
    have hp := HPOS.out v n hn
    have hw := wordly_of hL a n
    unfold RRead at hrd
    rw [hn] at hrd
    by_cases hend : a + n < s.size
    · have hb : byteAtB s (a + n) = s[a + n] := by unfold byteAtB; rw [dif_pos hend]
      rw [hb] at hw
      have j1 : (a : Int) + (n : Int) < (s.size : Int) := by omega
      have j2 : (0 : Int) ≤ (a : Int) + (n : Int) := by omega
      have hc := r_wordly_calls s[a + n] w
      rcases Bool.eq_false_or_eq_true (isWordly s[a + n]) with c1 | c1
      · rw [c1] at hc hw
        have HT := hid (numTok_w hn hw)
        have HW := hid hc
        clear hn hc hw hb c1
        rcases hrd with ⟨h1, h2, ⟨h3, h4⟩, HC⟩ | ⟨h1 | ⟨h1, h2⟩ | ⟨h1, h2, h3, h4⟩, HC⟩
        all_goals
          try (exfalso; omega)
        all_goals
          go_enter Try.func37, Try.ntmps37
          go_wp2_with (first | (go_at_call 43; refine HC.out.mono ?_; rintro e w' ⟨rfl, rfl⟩) | (go_at_call 44; refine HC.out.mono ?_; rintro e w' ⟨rfl, rfl⟩) | (go_at_call 35; refine HW.out.mono ?_; rintro e w' ⟨rfl, rfl⟩))
          go_ret3
          exact rnum_no HT.out
      · rw [c1] at hc hw
        have HT := hid (numTok_y hn hw)
        have HW := hid hc
        clear hn hc hw hb c1
        rcases hrd with ⟨h1, h2, ⟨h3, h4⟩, HC⟩ | ⟨h1 | ⟨h1, h2⟩ | ⟨h1, h2, h3, h4⟩, HC⟩
        all_goals
          try (exfalso; omega)
        all_goals
          go_enter Try.func37, Try.ntmps37
          go_wp2_with (first | (go_at_call 43; refine HC.out.mono ?_; rintro e w' ⟨rfl, rfl⟩) | (go_at_call 44; refine HC.out.mono ?_; rintro e w' ⟨rfl, rfl⟩) | (go_at_call 35; refine HW.out.mono ?_; rintro e w' ⟨rfl, rfl⟩))
          go_ret3
          exact rnum_yes HT.out
    · have hb : byteAtB s (a + n) = 0 := by unfold byteAtB; rw [dif_neg hend]
      rw [hb] at hw
      have HT := hid (numTok_y hn (hw.trans (by decide)))
      clear hn hw hb
      rcases hrd with ⟨h1, h2, ⟨h3, h4⟩, HC⟩ | ⟨h1 | ⟨h1, h2⟩ | ⟨h1, h2, h3, h4⟩, HC⟩
      all_goals
        go_enter Try.func37, Try.ntmps37
        go_wp2_with (first | (go_at_call 43; refine HC.out.mono ?_; rintro e w' ⟨rfl, rfl⟩) | (go_at_call 44; refine HC.out.mono ?_; rintro e w' ⟨rfl, rfl⟩))
        go_ret3
        exact rnum_yes HT.out
end

def markN (c : UInt8) : Nat := if c.toNat = 44 then 3 else if c.toNat = 58 then 4 else if c.toNat = 61 then 5 else if c.toNat = 10 then 6 else 0
theorem tokAt_mark {c : UInt8} {r : List UInt8} (hl : isLetter c = false) (hd : ¬ (isDigit c = true ∨ (c.toNat = 45 ∧ ∃ d ∈ r.head?, isDigit d = true))) : tokAt (c :: r) = if markN c = 0 then (70, 0, [], 0, 0) else (0, markN c, [], 0, 1) := by
  simp only [tokAt, hl, Bool.false_eq_true, if_false, hd, markN]
  by_cases h1 : c.toNat = 44
  · simp [h1]
  by_cases h2 : c.toNat = 58
  · simp [h2]
  by_cases h3 : c.toNat = 61
  · simp [h3]
  by_cases h4 : c.toNat = 10
  · simp [h4]
  simp [h1, h2, h3, h4]
theorem r_mark_calls (c : UInt8) (w : World) : Calls Try.prog 38 #[.int .u8 c.toNat] w fun e w' => e = .returned (.int .i64 (markN c : Nat)) ∧ w = w' := by
  unfold markN
  by_cases h1 : c.toNat = 44
  · have e1 : ((c.toNat : Int) == 44) = true := by simp; omega
    rw [if_pos h1]
    clear h1
    go_enter Try.func38, Try.ntmps38
    go_wp2
    go_ret
    exact ⟨rfl, rfl⟩
  have e1 : ((c.toNat : Int) == 44) = false := by simp; omega
  rw [if_neg h1]
  clear h1
  by_cases h2 : c.toNat = 58
  · have e2 : ((c.toNat : Int) == 58) = true := by simp; omega
    rw [if_pos h2]
    clear h2
    go_enter Try.func38, Try.ntmps38
    go_wp2
    go_ret
    exact ⟨rfl, rfl⟩
  have e2 : ((c.toNat : Int) == 58) = false := by simp; omega
  rw [if_neg h2]
  clear h2
  by_cases h3 : c.toNat = 61
  · have e3 : ((c.toNat : Int) == 61) = true := by simp; omega
    rw [if_pos h3]
    clear h3
    go_enter Try.func38, Try.ntmps38
    go_wp2
    go_ret
    exact ⟨rfl, rfl⟩
  have e3 : ((c.toNat : Int) == 61) = false := by simp; omega
  rw [if_neg h3]
  clear h3
  by_cases h4 : c.toNat = 10
  · have e4 : ((c.toNat : Int) == 10) = true := by simp; omega
    rw [if_pos h4]
    clear h4
    go_enter Try.func38, Try.ntmps38
    go_wp2
    go_ret
    exact ⟨rfl, rfl⟩
  · have e4 : ((c.toNat : Int) == 10) = false := by simp; omega
    rw [if_neg h4]
    clear h4
    go_enter Try.func38, Try.ntmps38
    go_wp2
    go_ret
    exact ⟨rfl, rfl⟩
end Go.Proofs.Ytppijmpdoejdmaa
