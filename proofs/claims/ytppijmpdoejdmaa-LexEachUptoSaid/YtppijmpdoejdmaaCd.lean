/- Walks of the lexer's reference: the token that stands at a place. -/
import Derived.Test.YtppijmpdoejdmaaCc
namespace Go.Proofs.Ytppijmpdoejdmaa
open Go.RowKit Go.AB
set_option linter.unusedSimpArgs false
set_option linter.unusedVariables false
set_option linter.unusedSectionVars false

/-- What the reference's token answers. -/
def RTok (w : World) (d : List UInt8) (e : Ending) (w' : World) : Prop :=
  (if (tokAt d).1 ≠ 0 then e = .returned (.tuple #[zeroTok, .int .i64 0, .int .i64 (tokAt d).1])
   else e = .returned (.tuple #[tokV (tokAt d).2.1 (tokAt d).2.2.1 (tokAt d).2.2.2.1 0 0, .int .i64 ((tokAt d).2.2.2.2 : Nat), .int .i64 0])) ∧ Chg [] w w'
theorem rtok_no {w w' : World} {c : Nat} {d : List UInt8} {p : Nat × List UInt8 × Int × Nat} (h : tokAt d = (c, p)) (hc : c ≠ 0) (h2 : Chg [] w w') {X : Int} (hX : X = (c : Int)) : RTok w d (.returned (.tuple #[.agg #[.int .i64 0, .string ⟨#[]⟩, .int .i64 0, .int .i64 0, .int .i64 0], .int .i64 0, .int .i64 X])) w' := by
  subst hX; unfold RTok; rw [h, if_pos hc]; exact ⟨rfl, h2⟩
theorem rtok_yes {w w' : World} {k n : Nat} {t : List UInt8} {v : Int} {d : List UInt8} (h : tokAt d = (0, k, t, v, n)) (h2 : Chg [] w w') {S : ByteArray} {X Y Z : Int} (hX : X = (k : Int)) (hS : S = ⟨t.toArray⟩) (hY : Y = v) (hZ : Z = (n : Int)) : RTok w d (.returned (.tuple #[.agg #[.int .i64 X, .string S, .int .i64 Y, .int .i64 0, .int .i64 0], .int .i64 Z, .int .i64 0])) w' := by
  subst hX hS hY hZ; unfold RTok; rw [h, if_neg (by simp)]; exact ⟨rfl, h2⟩

section
variable {s : ByteArray} {a : Nat} (hs : s.size ≤ 4294967296) (L : List UInt8) (hL : Hid (s.data.toList = L))
include hs hL

set_option maxHeartbeats 2000000 in
set_option maxRecDepth 100000 in
theorem r_token_end (w : World) (ha : a = s.size) : Calls Try.prog 26 #[.string s, .int .i64 a] w (RTok w (L.drop a)) := by
  have hd : L.drop a = [] := List.drop_of_length_le (by rw [len_of hL]; omega)
  have HT := hid (show tokAt (L.drop a) = (0, 7, [], 0, 0) by rw [hd]; rfl)
  have hca := (Chg.refl [] w).alloc (.cells #[.int .i64 7, .string ⟨#[]⟩, .int .i64 0, .int .i64 0, .int .i64 0] 38)
  subst ha
  clear hd
  go_enter Try.func26, Try.ntmps26
  go_wp2
  exact bodyPost_ret (v := .tuple #[.agg #[.int .i64 7, .string ⟨#[]⟩, .int .i64 0, .int .i64 0, .int .i64 0], .int .i64 0, .int .i64 0]) (by simp [results, Try.results26, go_sem]) rfl (rtok_yes HT.out hca rfl rfl rfl rfl)

set_option maxHeartbeats 2000000 in
set_option maxRecDepth 100000 in
theorem r_token_letter (w : World) (ha : a < s.size) (hl : isLetter s[a] = true) : Calls Try.prog 26 #[.string s, .int .i64 a] w (RTok w (L.drop a)) := by
  have hcons := drop_cons_of hL ha
  have htk : tokAt (L.drop a) = (0, 1, (L.drop a).take (runLen isWordly (L.drop a)), 0, runLen isWordly (L.drop a)) := by
    rw [hcons]; simp only [tokAt, hl, if_true]
  have hn := runLen_le isWordly (L.drop a)
  rw [List.length_drop, len_of hL] at hn
  have hex := extract_take hL a (runLen isWordly (L.drop a)) (by omega)
  have h1 : runLen isWordly (L.drop a) = 1 + runLen isWordly (L.drop (a + 1)) := by rw [hcons, runLen, if_pos (by simp [isWordly, hl])]; omega
  obtain ⟨n, hne⟩ : ∃ n, runLen isWordly (L.drop a) = n := ⟨_, rfl⟩
  rw [hne] at htk hn hex h1
  have HT := hid htk
  have HE := hid hex
  have H1 := hid h1
  have HLN := hid (len_of hL)
  have j0 : (a : Int) < (s.size : Int) := by omega
  have hLc := r_letter_calls s[a]
  rw [hl] at hLc
  have HLC := hid hLc
  clear hLc hl hcons htk hex hne h1
  go_enter Try.func26, Try.ntmps26
  go_wp2_with (go_at_call 34; refine (HLC.out _).mono ?_; rintro e w2 ⟨rfl, rfl⟩)
  go_loop [8] (fun i => ∃ k : Nat, 1 ≤ k ∧ a + k ≤ s.size ∧ i = .int .i64 k ∧ Hid (n = k + runLen isWordly (L.drop (a + k)))) (fun i => s.size - (intOf i).toNat)
  case atStart => exact ⟨1, Nat.le_refl _, by omega, rfl, H1⟩
  case round =>
    obtain ⟨k, hk1, hk, rfl, HR⟩ := hrel
    by_cases hlt : a + k < s.size
    · have hd := drop_cons_of hL hlt
      have hr := HR.out
      rw [hd, runLen] at hr
      have j1 : (a : Int) + (k : Int) < (s.size : Int) := by omega
      have j2 : (0 : Int) ≤ (a : Int) + (k : Int) := by omega
      have hc := r_wordly_calls s[a + k]
      rcases Bool.eq_false_or_eq_true (isWordly s[a + k]) with c1 | c1
      · rw [c1] at hc hr
        have HC := hid hc
        have HR2 := hid hr
        clear hd hr hc HR c1
        go_wp2_with (go_at_call 35; refine (HC.out _).mono ?_; rintro e w2 ⟨rfl, rfl⟩)
        go_round
        case rel => exact ⟨k + 1, by omega, by omega, by go_num, hid (by rw [HR2.out, if_pos trivial, show a + (k + 1) = a + k + 1 from by omega]; omega)⟩
        case measure => simp [intOf]; omega
      · rw [c1] at hc hr
        have HC := hid hc
        have hnk : n = k := by simpa using hr
        clear hd hr hc HR c1 H1
        subst hnk
        go_wp2_with (go_at_call 35; refine (HC.out _).mono ?_; rintro e w2 ⟨rfl, rfl⟩)
        exact bodyPost_ret (v := .tuple #[.agg #[.int .i64 1, .string (s.extract a (a + n)), .int .i64 0, .int .i64 0, .int .i64 0], .int .i64 (n : Int), .int .i64 0]) (by simp [results, Try.results26, go_sem]) rfl (rtok_yes HT.out ((Chg.refl [] _).alloc _) rfl HE.out rfl rfl)
    · have hd : L.drop (a + k) = [] := List.drop_of_length_le (by rw [HLN.out]; omega)
      have hr := HR.out
      rw [hd] at hr
      have hnk : n = k := by simpa [runLen] using hr
      clear hd hr HR H1
      subst hnk
      go_wp2
      exact bodyPost_ret (v := .tuple #[.agg #[.int .i64 1, .string (s.extract a (a + n)), .int .i64 0, .int .i64 0, .int .i64 0], .int .i64 (n : Int), .int .i64 0]) (by simp [results, Try.results26, go_sem]) rfl (rtok_yes HT.out ((Chg.refl [] _).alloc _) rfl HE.out rfl rfl)

set_option maxHeartbeats 4000000 in
set_option maxRecDepth 100000 in
theorem r_token_num (w : World) (ha : a < s.size) (hl : isLetter s[a] = false) (hd : isDigit s[a] = true ∨ (s[a].toNat = 45 ∧ ∃ h : a + 1 < s.size, isDigit s[a + 1] = true)) : Calls Try.prog 26 #[.string s, .int .i64 a] w (RTok w (L.drop a)) := by
  have hcons := drop_cons_of hL ha
  have j0 : (a : Int) < (s.size : Int) := by omega
  have hcond : isDigit s[a] = true ∨ (s[a].toNat = 45 ∧ ∃ d ∈ (L.drop (a + 1)).head?, isDigit d = true) := by
    rcases hd with h | ⟨h1, h2, h3⟩
    · exact .inl h
    · refine .inr ⟨h1, s[a + 1], ?_, h3⟩
      rw [drop_cons_of hL h2]; rfl
  have hNum := fun w => r_number_calls hs L hL w ha (hd.imp id (fun h => h.1))
  have hsp : tokAt (L.drop a) = match numTokAt (L.drop a) with | none => (71, 0, [], 0, 0) | some (v, n) => (0, 2, [], v, n) := by
    rw [hcons]; simp only [tokAt, hl, Bool.false_eq_true, if_false]; rw [if_pos hcond]; generalize numTokAt _ = o; rcases o with _ | ⟨v, n⟩ <;> rfl
  have hLc := r_letter_calls s[a]
  rw [hl] at hLc
  have HLC := hid hLc
  have hDc := r_digit_calls s[a]
  unfold RNum at hNum
  cases hn : numTokAt (L.drop a) with
  | none =>
    rw [hn] at hsp hNum
    have HT := hid hsp
    have HN := hid hNum
    clear hNum hLc hcons hcond hsp hn
    rcases hd with h | ⟨h1, h2, h3⟩
    · rw [h] at hDc
      have HD := hid hDc
      clear hDc h hl
      go_enter Try.func26, Try.ntmps26
      go_wp2_with (first | (go_at_call 34; refine (HLC.out _).mono ?_; rintro e w2 ⟨rfl, rfl⟩) | (go_at_call 36; refine (HD.out _).mono ?_; rintro e w2 ⟨rfl, rfl⟩) | (go_at_call 37; refine (HN.out _).mono ?_; rintro e w2 ⟨rfl, rfl⟩))
      exact bodyPost_ret (v := .tuple #[.agg #[.int .i64 0, .string ⟨#[]⟩, .int .i64 0, .int .i64 0, .int .i64 0], .int .i64 0, .int .i64 71]) (by simp [results, Try.results26, go_sem]) rfl (rtok_no HT.out (by decide) ((Chg.refl [] _).alloc _) rfl)
    · have hdf : isDigit s[a] = false := by simp [isDigit, h1]
      rw [hdf] at hDc
      have HD := hid hDc
      have hD1 := r_digit_calls s[a + 1]
      rw [h3] at hD1
      have HD1 := hid hD1
      have e45 : ((s[a].toNat : Int) == 45) = true := by simp; omega
      have j1 : (a : Int) + 1 < (s.size : Int) := by omega
      clear hDc hl hdf hD1 h3 h1
      go_enter Try.func26, Try.ntmps26
      go_wp2_with (first | (go_at_call 34; refine (HLC.out _).mono ?_; rintro e w2 ⟨rfl, rfl⟩) | (go_at_call 36; ((with_reducible refine (HD.out _).mono ?_); rintro e w2 ⟨rfl, rfl⟩)) | (go_at_call 36; ((with_reducible refine (HD1.out _).mono ?_); rintro e w2 ⟨rfl, rfl⟩)) | (go_at_call 37; refine (HN.out _).mono ?_; rintro e w2 ⟨rfl, rfl⟩))
      exact bodyPost_ret (v := .tuple #[.agg #[.int .i64 0, .string ⟨#[]⟩, .int .i64 0, .int .i64 0, .int .i64 0], .int .i64 0, .int .i64 71]) (by simp [results, Try.results26, go_sem]) rfl (rtok_no HT.out (by decide) ((Chg.refl [] _).alloc _) rfl)
  | some p =>
    obtain ⟨v, n⟩ := p
    rw [hn] at hsp hNum
    have HT := hid hsp
    have HN := hid hNum
    clear hNum hLc hcons hcond hsp hn
    rcases hd with h | ⟨h1, h2, h3⟩
    · rw [h] at hDc
      have HD := hid hDc
      clear hDc h hl
      go_enter Try.func26, Try.ntmps26
      go_wp2_with (first | (go_at_call 34; refine (HLC.out _).mono ?_; rintro e w2 ⟨rfl, rfl⟩) | (go_at_call 36; refine (HD.out _).mono ?_; rintro e w2 ⟨rfl, rfl⟩) | (go_at_call 37; refine (HN.out _).mono ?_; rintro e w2 ⟨rfl, rfl⟩))
      exact bodyPost_ret (v := .tuple #[.agg #[.int .i64 2, .string ⟨#[]⟩, .int .i64 v, .int .i64 0, .int .i64 0], .int .i64 (n : Int), .int .i64 0]) (by simp [results, Try.results26, go_sem]) rfl (rtok_yes HT.out ((Chg.refl [] _).alloc _) rfl rfl rfl rfl)
    · have hdf : isDigit s[a] = false := by simp [isDigit, h1]
      rw [hdf] at hDc
      have HD := hid hDc
      have hD1 := r_digit_calls s[a + 1]
      rw [h3] at hD1
      have HD1 := hid hD1
      have e45 : ((s[a].toNat : Int) == 45) = true := by simp; omega
      have j1 : (a : Int) + 1 < (s.size : Int) := by omega
      clear hDc hl hdf hD1 h3 h1
      go_enter Try.func26, Try.ntmps26
      go_wp2_with (first | (go_at_call 34; refine (HLC.out _).mono ?_; rintro e w2 ⟨rfl, rfl⟩) | (go_at_call 36; ((with_reducible refine (HD.out _).mono ?_); rintro e w2 ⟨rfl, rfl⟩)) | (go_at_call 36; ((with_reducible refine (HD1.out _).mono ?_); rintro e w2 ⟨rfl, rfl⟩)) | (go_at_call 37; refine (HN.out _).mono ?_; rintro e w2 ⟨rfl, rfl⟩))
      exact bodyPost_ret (v := .tuple #[.agg #[.int .i64 2, .string ⟨#[]⟩, .int .i64 v, .int .i64 0, .int .i64 0], .int .i64 (n : Int), .int .i64 0]) (by simp [results, Try.results26, go_sem]) rfl (rtok_yes HT.out ((Chg.refl [] _).alloc _) rfl rfl rfl rfl)

set_option maxHeartbeats 4000000 in
set_option maxRecDepth 100000 in
theorem r_token_mark (w : World) (ha : a < s.size) (hl : isLetter s[a] = false) (hdf : isDigit s[a] = false) (hd : s[a].toNat ≠ 45 ∨ (s[a].toNat = 45 ∧ ¬ a + 1 < s.size) ∨ (s[a].toNat = 45 ∧ ∃ h : a + 1 < s.size, isDigit s[a + 1] = false)) : Calls Try.prog 26 #[.string s, .int .i64 a] w (RTok w (L.drop a)) := by
  have hcons := drop_cons_of hL ha
  have j0 : (a : Int) < (s.size : Int) := by omega
  have hcond : ¬ (isDigit s[a] = true ∨ (s[a].toNat = 45 ∧ ∃ d ∈ (L.drop (a + 1)).head?, isDigit d = true)) := by
    rintro (h | ⟨h1, d, h2, h3⟩)
    · rw [hdf] at h; cases h
    · rcases hd with h | ⟨_, h⟩ | ⟨_, h, h4⟩
      · exact h h1
      · rw [List.drop_of_length_le (by rw [len_of hL]; omega)] at h2; cases h2
      · rw [drop_cons_of hL h] at h2
        simp at h2
        subst h2
        rw [h4] at h3; cases h3
  have hT := tokAt_mark (r := L.drop (a + 1)) hl hcond
  rw [← hcons] at hT
  have hLc := r_letter_calls s[a]
  rw [hl] at hLc
  have HLC := hid hLc
  have hDc := r_digit_calls s[a]
  rw [hdf] at hDc
  have HD := hid hDc
  have HM := hid (r_mark_calls s[a])
  obtain ⟨m, hm⟩ : ∃ m, markN s[a] = m := ⟨_, rfl⟩
  rw [hm] at hT HM
  have hdd : ((s[a].toNat : Int) == 45) = false ∨ (((s[a].toNat : Int) == 45) = true ∧ ¬ a + 1 < s.size) ∨ (((s[a].toNat : Int) == 45) = true ∧ ∃ h : a + 1 < s.size, Hid (∀ w, Calls Try.prog 36 #[.int .u8 s[a + 1].toNat] w fun e w' => e = .returned (.bool false) ∧ w = w')) := by
    rcases hd with h | ⟨h, h1⟩ | ⟨h, h1, h2⟩
    · exact .inl (by simp; omega)
    · exact .inr (.inl ⟨by simp; omega, h1⟩)
    · have := r_digit_calls s[a + 1]
      rw [h2] at this
      exact .inr (.inr ⟨by simp; omega, h1, hid this⟩)
  by_cases h0 : m = 0
  · rw [if_pos h0] at hT
    subst h0
    have HT := hid hT
    clear hT hcons hcond hLc hDc hm hd hl hdf
    rcases hdd with e45 | ⟨e45, j1⟩ | ⟨e45, j1, HD1⟩
    · go_enter Try.func26, Try.ntmps26
      go_wp2_with (first | (go_at_call 34; refine (HLC.out _).mono ?_; rintro e w2 ⟨rfl, rfl⟩) | (go_at_call 36; refine (HD.out _).mono ?_; rintro e w2 ⟨rfl, rfl⟩) | (go_at_call 38; refine (HM.out _).mono ?_; rintro e w2 ⟨rfl, rfl⟩))
      exact bodyPost_ret (v := .tuple #[.agg #[.int .i64 0, .string ⟨#[]⟩, .int .i64 0, .int .i64 0, .int .i64 0], .int .i64 0, .int .i64 70]) (by simp [results, Try.results26, go_sem]) rfl (rtok_no HT.out (by decide) ((Chg.refl [] _).alloc _) rfl)
    · go_enter Try.func26, Try.ntmps26
      go_wp2_with (first | (go_at_call 34; refine (HLC.out _).mono ?_; rintro e w2 ⟨rfl, rfl⟩) | (go_at_call 36; refine (HD.out _).mono ?_; rintro e w2 ⟨rfl, rfl⟩) | (go_at_call 38; refine (HM.out _).mono ?_; rintro e w2 ⟨rfl, rfl⟩))
      exact bodyPost_ret (v := .tuple #[.agg #[.int .i64 0, .string ⟨#[]⟩, .int .i64 0, .int .i64 0, .int .i64 0], .int .i64 0, .int .i64 70]) (by simp [results, Try.results26, go_sem]) rfl (rtok_no HT.out (by decide) ((Chg.refl [] _).alloc _) rfl)
    · have j3 : (a : Int) + 1 < (s.size : Int) := by omega
      go_enter Try.func26, Try.ntmps26
      go_wp2_with (first | (go_at_call 34; refine (HLC.out _).mono ?_; rintro e w2 ⟨rfl, rfl⟩) | (go_at_call 36; ((with_reducible refine (HD.out _).mono ?_); rintro e w2 ⟨rfl, rfl⟩)) | (go_at_call 36; ((with_reducible refine (HD1.out _).mono ?_); rintro e w2 ⟨rfl, rfl⟩)) | (go_at_call 38; refine (HM.out _).mono ?_; rintro e w2 ⟨rfl, rfl⟩))
      exact bodyPost_ret (v := .tuple #[.agg #[.int .i64 0, .string ⟨#[]⟩, .int .i64 0, .int .i64 0, .int .i64 0], .int .i64 0, .int .i64 70]) (by simp [results, Try.results26, go_sem]) rfl (rtok_no HT.out (by decide) ((Chg.refl [] _).alloc _) rfl)
  · rw [if_neg h0] at hT
    have HT := hid hT
    have m0 : ((m : Int) == 0) = false := by simp; omega
    clear hT hcons hcond hLc hDc hm hd hl hdf h0
    rcases hdd with e45 | ⟨e45, j1⟩ | ⟨e45, j1, HD1⟩
    · go_enter Try.func26, Try.ntmps26
      go_wp2_with (first | (go_at_call 34; refine (HLC.out _).mono ?_; rintro e w2 ⟨rfl, rfl⟩) | (go_at_call 36; refine (HD.out _).mono ?_; rintro e w2 ⟨rfl, rfl⟩) | (go_at_call 38; refine (HM.out _).mono ?_; rintro e w2 ⟨rfl, rfl⟩))
      exact bodyPost_ret (v := .tuple #[.agg #[.int .i64 m, .string ⟨#[]⟩, .int .i64 0, .int .i64 0, .int .i64 0], .int .i64 1, .int .i64 0]) (by simp [results, Try.results26, go_sem]) rfl (rtok_yes HT.out ((Chg.refl [] _).alloc _) rfl rfl rfl rfl)
    · go_enter Try.func26, Try.ntmps26
      go_wp2_with (first | (go_at_call 34; refine (HLC.out _).mono ?_; rintro e w2 ⟨rfl, rfl⟩) | (go_at_call 36; refine (HD.out _).mono ?_; rintro e w2 ⟨rfl, rfl⟩) | (go_at_call 38; refine (HM.out _).mono ?_; rintro e w2 ⟨rfl, rfl⟩))
      exact bodyPost_ret (v := .tuple #[.agg #[.int .i64 m, .string ⟨#[]⟩, .int .i64 0, .int .i64 0, .int .i64 0], .int .i64 1, .int .i64 0]) (by simp [results, Try.results26, go_sem]) rfl (rtok_yes HT.out ((Chg.refl [] _).alloc _) rfl rfl rfl rfl)
    · have j3 : (a : Int) + 1 < (s.size : Int) := by omega
      go_enter Try.func26, Try.ntmps26
      go_wp2_with (first | (go_at_call 34; refine (HLC.out _).mono ?_; rintro e w2 ⟨rfl, rfl⟩) | (go_at_call 36; ((with_reducible refine (HD.out _).mono ?_); rintro e w2 ⟨rfl, rfl⟩)) | (go_at_call 36; ((with_reducible refine (HD1.out _).mono ?_); rintro e w2 ⟨rfl, rfl⟩)) | (go_at_call 38; refine (HM.out _).mono ?_; rintro e w2 ⟨rfl, rfl⟩))
      exact bodyPost_ret (v := .tuple #[.agg #[.int .i64 m, .string ⟨#[]⟩, .int .i64 0, .int .i64 0, .int .i64 0], .int .i64 1, .int .i64 0]) (by simp [results, Try.results26, go_sem]) rfl (rtok_yes HT.out ((Chg.refl [] _).alloc _) rfl rfl rfl rfl)

/-- The reference's token at a place. -/
theorem r_token_calls (w : World) (ha : a ≤ s.size) : Calls Try.prog 26 #[.string s, .int .i64 a] w (RTok w (L.drop a)) := by
  by_cases h : a < s.size
  · rcases Bool.eq_false_or_eq_true (isLetter s[a]) with h1 | h1
    · exact r_token_letter hs L hL w h h1
    rcases Bool.eq_false_or_eq_true (isDigit s[a]) with h2 | h2
    · exact r_token_num hs L hL w h h1 (.inl h2)
    by_cases h3 : s[a].toNat = 45
    · by_cases h4 : a + 1 < s.size
      · rcases Bool.eq_false_or_eq_true (isDigit s[a + 1]) with h5 | h5
        · exact r_token_num hs L hL w h h1 (.inr ⟨h3, h4, h5⟩)
        · exact r_token_mark hs L hL w h h1 h2 (.inr (.inr ⟨h3, h4, h5⟩))
      · exact r_token_mark hs L hL w h h1 h2 (.inr (.inl ⟨h3, h4⟩))
    · exact r_token_mark hs L hL w h h1 h2 (.inl h3)
  · exact r_token_end hs L hL w (by omega)
end
end Go.Proofs.Ytppijmpdoejdmaa
