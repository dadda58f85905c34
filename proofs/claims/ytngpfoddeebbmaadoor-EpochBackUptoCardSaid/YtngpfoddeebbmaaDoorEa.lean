/- Walks of the epochs: packed, taken apart, the next one. -/
import Derived.Test.YtngpfoddeebbmaaDoorEp
import Derived.Test.YtngpfoddeebbmaaDoorRows
import Derived.Deep.QuietTactic
import Derived.BigQuiet
namespace Go.Proofs.YtngpfoddeebbmaaDoor
open Go.RowKit Go.AB
set_option linter.unusedSimpArgs false
set_option linter.unusedVariables false

theorem ret_bool {a b : Bool} (h : a = b) : Ending.returned (.bool a) = .returned (.bool b) := by rw [h]
theorem ret_u64 {a b : Int} (h : a = b) : Ending.returned (.int .u64 a) = .returned (.int .u64 b) := by rw [h]
theorem ret_i64 {a b : Int} (h : a = b) : Ending.returned (.int .i64 a) = .returned (.int .i64 b) := by rw [h]
theorem ret_u64i64 {a a' b b' : Int} (h1 : a = a') (h2 : b = b') : Ending.returned (.tuple #[.int .u64 a, .int .i64 b]) = .returned (.tuple #[.int .u64 a', .int .i64 b']) := by rw [h1, h2]
theorem or_int {t c : Int} (h0 : 0 ≤ t) (h1 : t < 65535) (h2 : 0 ≤ c) (h3 : c ≤ 281474976710655) : bits .or .u64 (t * 281474976710656) c = t * 281474976710656 + c := by
  obtain ⟨t, rfl⟩ : ∃ u : Nat, t = (u : Int) := ⟨t.toNat, by omega⟩
  obtain ⟨c, rfl⟩ : ∃ u : Nat, c = (u : Int) := ⟨c.toNat, by omega⟩
  rw [show (t : Int) * 281474976710656 = ((t * 281474976710656 : Nat) : Int) from by omega, u64_or_nat _ _ (by omega) (by omega), or_add _ _ (by omega)]
  omega
theorem and_int {E : Int} (h0 : 0 ≤ E) (h1 : E < 18446744073709551616) : bits .and .u64 E 281474976710655 = E % 281474976710656 := by
  obtain ⟨E, rfl⟩ : ∃ u : Nat, E = (u : Int) := ⟨E.toNat, by omega⟩
  rw [show (281474976710655 : Int) = ((281474976710655 : Nat) : Int) from rfl, u64_and_nat _ _ (by omega) (by omega), show (281474976710655 : Nat) = 2 ^ 48 - 1 from rfl, Nat.and_two_pow_sub_one_eq_mod]
  omega

set_option maxHeartbeats 1000000 in
set_option maxRecDepth 100000 in
theorem pack_calls (t c : Int) (hc : 0 ≤ c) (w : World) : Calls Tryd.prog 10 #[.int .i64 t, .int .u64 c] w fun e w' => e = .returned (.tuple #[.int .u64 (packE t c).1, .int .i64 (packE t c).2]) ∧ w = w' := by
  by_cases h0 : t < 0
  · rw [packE_no (.inl h0)]
    go_enter Tryd.func10, Tryd.ntmps10
    go_wp2
    go_ret2
    exact ⟨rfl, rfl⟩
  by_cases h1 : 65535 ≤ t
  · rw [packE_no (.inr (.inl h1))]
    go_enter Tryd.func10, Tryd.ntmps10
    go_wp2
    go_ret2
    exact ⟨rfl, rfl⟩
  by_cases h2 : c = 0
  · rw [packE_no (.inr (.inr (.inl h2)))]
    have g1 : (c == 0) = true := by simpa using h2
    clear h2
    go_enter Tryd.func10, Tryd.ntmps10
    go_wp2
    go_ret2
    exact ⟨rfl, rfl⟩
  have g1 : (c == 0) = false := by simpa using h2
  by_cases h3 : 281474976710655 < c
  · rw [packE_no (.inr (.inr (.inr h3)))]
    clear h2
    go_enter Tryd.func10, Tryd.ntmps10
    go_wp2
    go_ret2
    exact ⟨rfl, rfl⟩
  · rw [packE_yes (by omega) (by omega) h2 (by omega)]
    have hor := or_int (t := t) (c := c) (by omega) (by omega) hc (by omega)
    obtain ⟨E, hE⟩ : ∃ E, t * 281474976710656 + c = E := ⟨_, rfl⟩
    rw [hE] at hor ⊢
    have HOR := hid hor
    have h0' : 0 ≤ t := by omega
    have h1' : t < 65535 := by omega
    have h3' : c ≤ 281474976710655 := by omega
    clear hE h2 h0 h1 h3 hor
    go_enter Tryd.func10, Tryd.ntmps10
    go_wp2
    go_ret2
    exact ⟨ret_u64i64 HOR.out rfl, rfl⟩

set_option maxHeartbeats 1000000 in
set_option maxRecDepth 100000 in
theorem r_pack_calls (t c : Int) (hc : 0 ≤ c) (w : World) : Calls Tryd.prog 11 #[.int .i64 t, .int .u64 c] w fun e w' => e = .returned (.tuple #[.int .u64 (packE t c).1, .int .i64 (packE t c).2]) ∧ w = w' := by
  by_cases h0 : t < 0
  · rw [packE_no (.inl h0)]
    go_enter Tryd.func11, Tryd.ntmps11
    go_wp2
    go_ret2
    exact ⟨rfl, rfl⟩
  by_cases h1 : 65535 ≤ t
  · rw [packE_no (.inr (.inl h1))]
    go_enter Tryd.func11, Tryd.ntmps11
    go_wp2
    go_ret2
    exact ⟨rfl, rfl⟩
  by_cases h2 : c < 1
  · rw [packE_no (.inr (.inr (.inl (by omega))))]
    go_enter Tryd.func11, Tryd.ntmps11
    go_wp2
    go_ret2
    exact ⟨rfl, rfl⟩
  by_cases h3 : 281474976710655 < c
  · rw [packE_no (.inr (.inr (.inr h3)))]
    go_enter Tryd.func11, Tryd.ntmps11
    go_wp2
    go_ret2
    exact ⟨rfl, rfl⟩
  · rw [packE_yes (by omega) (by omega) (by omega) (by omega)]
    obtain ⟨E, hE⟩ : ∃ E, t * 281474976710656 + c = E := ⟨_, rfl⟩
    rw [hE]
    have HE := hid hE
    have h0' : 0 ≤ t := by omega
    have h1' : t < 65535 := by omega
    have h3' : c ≤ 281474976710655 := by omega
    have h2' : 1 ≤ c := by omega
    clear hE h2 h0 h1 h3
    go_enter Tryd.func11, Tryd.ntmps11
    go_wp2
    go_ret2
    exact ⟨ret_u64i64 HE.out rfl, rfl⟩

/-- The four ways of an epoch. -/
theorem parts_cases (E : Int) (h0 : 0 ≤ E) (h1 : E < 18446744073709551616) : E = 0 ∨ ∃ T C : Int, E / 281474976710656 = T ∧ E % 281474976710656 = C ∧ bits .and .u64 E 281474976710655 = C ∧ 0 ≤ T ∧ T ≤ 65535 ∧ 0 ≤ C ∧ C ≤ 281474976710655 ∧ (E == 0) = false ∧
    ((65535 ≤ T ∧ Hid (partsE E = (0, 0, false))) ∨ (T < 65535 ∧ (C == 0) = true ∧ C ≤ 0 ∧ Hid (partsE E = (0, 0, false))) ∨ (T < 65535 ∧ (C == 0) = false ∧ 0 < C ∧ Hid (partsE E = (T, C, true)))) := by
  by_cases h : E = 0
  · exact .inl h
  · refine .inr ⟨_, _, rfl, rfl, and_int h0 h1, by omega, by omega, by omega, by omega, by simpa using h, ?_⟩
    by_cases h2 : 65535 ≤ E / 281474976710656
    · exact .inl ⟨h2, partsE_no h (.inl h2)⟩
    · by_cases h3 : E % 281474976710656 = 0
      · exact .inr (.inl ⟨by omega, by simpa using h3, by omega, partsE_no h (.inr h3)⟩)
      · exact .inr (.inr ⟨by omega, by simpa using h3, by omega, partsE_yes h (by omega) h3⟩)

set_option maxHeartbeats 1000000 in
set_option maxRecDepth 100000 in
theorem parts_calls (E : Int) (h0 : 0 ≤ E) (h1 : E < 18446744073709551616) (w : World) : Calls Tryd.prog 36 #[.int .u64 E] w fun e w' => e = .returned (.tuple #[.int .u16 (partsE E).1, .int .u64 (partsE E).2.1, .bool (partsE E).2.2]) ∧ w = w' := by
  rcases parts_cases E h0 h1 with rfl | ⟨T, C, e1, e2, e3, b1, b2, b3, b4, g0, ⟨c1, HP⟩ | ⟨c1, c2, c3, HP⟩ | ⟨c1, c2, c3, HP⟩⟩
  · rw [partsE_zero]
    clear h1
    go_enter Tryd.func36, Tryd.ntmps36
    go_wp2
    go_ret3
    exact ⟨rfl, rfl⟩
  all_goals
    rw [HP.out]
    clear h1 e2
    go_enter Tryd.func36, Tryd.ntmps36
    go_wp2
    go_ret3
    exact ⟨rfl, rfl⟩

set_option maxHeartbeats 1000000 in
set_option maxRecDepth 100000 in
theorem valid_calls (E : Int) (h0 : 0 ≤ E) (h1 : E < 18446744073709551616) (w : World) : Calls Tryd.prog 19 #[.int .u64 E] w fun e w' => e = .returned (.bool (partsE E).2.2) ∧ w = w' := by
  have HP := hid (parts_calls E h0 h1)
  have hb := partsE_bd E h0
  obtain ⟨⟨T, C, b⟩, hp⟩ : ∃ p : Int × Int × Bool, partsE E = p := ⟨_, rfl⟩
  rw [hp] at HP hb ⊢
  obtain ⟨b1, b2, b3, b4⟩ := hb
  simp only at b1 b2 b3 b4
  clear hp h1
  go_enter Tryd.func19, Tryd.ntmps19
  go_wp2_with (go_at_call 36; refine (HP.out _).mono ?_; rintro e w' ⟨rfl, rfl⟩)
  go_ret
  exact ⟨rfl, rfl⟩

set_option maxHeartbeats 1000000 in
set_option maxRecDepth 100000 in
theorem thread_calls (E : Int) (h0 : 0 ≤ E) (h1 : E < 18446744073709551616) (w : World) : Calls Tryd.prog 21 #[.int .u64 E] w fun e w' => e = .returned (.int .i64 (partsE E).1) ∧ w = w' := by
  have HP := hid (parts_calls E h0 h1)
  have hb := partsE_bd E h0
  obtain ⟨⟨T, C, b⟩, hp⟩ : ∃ p : Int × Int × Bool, partsE E = p := ⟨_, rfl⟩
  rw [hp] at HP hb ⊢
  obtain ⟨b1, b2, b3, b4⟩ := hb
  simp only at b1 b2 b3 b4
  clear hp h1
  go_enter Tryd.func21, Tryd.ntmps21
  go_wp2_with (go_at_call 36; refine (HP.out _).mono ?_; rintro e w' ⟨rfl, rfl⟩)
  go_ret
  exact ⟨rfl, rfl⟩

set_option maxHeartbeats 1000000 in
set_option maxRecDepth 100000 in
theorem clock_calls (E : Int) (h0 : 0 ≤ E) (h1 : E < 18446744073709551616) (w : World) : Calls Tryd.prog 23 #[.int .u64 E] w fun e w' => e = .returned (.int .u64 (partsE E).2.1) ∧ w = w' := by
  have HP := hid (parts_calls E h0 h1)
  have hb := partsE_bd E h0
  obtain ⟨⟨T, C, b⟩, hp⟩ : ∃ p : Int × Int × Bool, partsE E = p := ⟨_, rfl⟩
  rw [hp] at HP hb ⊢
  obtain ⟨b1, b2, b3, b4⟩ := hb
  simp only at b1 b2 b3 b4
  clear hp h1
  go_enter Tryd.func23, Tryd.ntmps23
  go_wp2_with (go_at_call 36; refine (HP.out _).mono ?_; rintro e w' ⟨rfl, rfl⟩)
  go_ret
  exact ⟨rfl, rfl⟩

/-- The ways of the next one. -/
theorem next_cases (E : Int) (h0 : 0 ≤ E) (h1 : E < 18446744073709551616) : ∃ C : Int, (partsE E).2.1 = C ∧ 0 ≤ C ∧ C ≤ 281474976710655 ∧
    (((C == 0) = true ∧ Hid (nextE E = (0, 2))) ∨ ((C == 0) = false ∧ (C == 281474976710655) = true ∧ Hid (nextE E = (0, 20))) ∨ ((C == 0) = false ∧ (C == 281474976710655) = false ∧ Hid (nextE E = (E + 1, 0)) ∧ Hid (E + 1 < 18446744073709551616))) := by
  have hb := partsE_bd E h0
  refine ⟨_, rfl, hb.2.2.1, hb.2.2.2, ?_⟩
  by_cases h2 : (partsE E).2.1 = 0
  · exact .inl ⟨by simpa using h2, by unfold nextE; rw [if_pos h2]; rfl⟩
  by_cases h3 : (partsE E).2.1 = 281474976710655
  · exact .inr (.inl ⟨by simpa using h2, by simpa using h3, by unfold nextE; rw [if_neg h2, if_pos h3]; rfl⟩)
  · refine .inr (.inr ⟨by simpa using h2, by simpa using h3, by unfold nextE; rw [if_neg h2, if_neg h3]; rfl, ?_⟩)
    have h4 : E < 65535 * 281474976710656 := by
      unfold partsE at h2
      split at h2
      · simp at h2
      split at h2
      · simp at h2
      · omega
    show E + 1 < 18446744073709551616
    omega

set_option maxHeartbeats 1000000 in
set_option maxRecDepth 100000 in
theorem next_calls (E : Int) (h0 : 0 ≤ E) (h1 : E < 18446744073709551616) (w : World) : Calls Tryd.prog 13 #[.int .u64 E] w fun e w' => e = .returned (.tuple #[.int .u64 (nextE E).1, .int .i64 (nextE E).2]) ∧ w = w' := by
  have hc := clock_calls E h0 h1
  obtain ⟨C, h2, b1, b2, h3⟩ := next_cases E h0 h1
  rw [h2] at hc
  have HC := hid hc
  have H1 := hid h1
  clear hc h1 h2
  rcases h3 with ⟨g1, HN⟩ | ⟨g1, g2, HN⟩ | ⟨g1, g2, HN, HB⟩
  · rw [HN.out]
    go_enter Tryd.func13, Tryd.ntmps13
    go_wp2_with (go_at_call 23; refine (HC.out _).mono ?_; rintro e w' ⟨rfl, rfl⟩)
    go_ret2
    exact ⟨rfl, rfl⟩
  · rw [HN.out]
    go_enter Tryd.func13, Tryd.ntmps13
    go_wp2_with (go_at_call 23; refine (HC.out _).mono ?_; rintro e w' ⟨rfl, rfl⟩)
    go_ret2
    exact ⟨rfl, rfl⟩
  · rw [HN.out]
    have hw : IntKind.u64.wrap (E + 1) = E + 1 := by rw [IntKind.wrap_u64]; have := HB.out; omega
    obtain ⟨E1, hE1⟩ : ∃ E1, E + 1 = E1 := ⟨_, rfl⟩
    rw [hE1] at hw ⊢
    have HW := hid hw
    have HE := hid hE1
    clear hw hE1
    go_enter Tryd.func13, Tryd.ntmps13
    go_wp2_with (go_at_call 23; refine (HC.out _).mono ?_; rintro e w' ⟨rfl, rfl⟩)
    go_ret2
    exact ⟨ret_u64i64 (by first | exact HE.out | (rw [HE.out]; exact HW.out)) rfl, rfl⟩

set_option maxHeartbeats 1000000 in
set_option maxRecDepth 100000 in
theorem r_valid_calls (E : Int) (h0 : 0 ≤ E) (h1 : E < 18446744073709551616) (w : World) : Calls Tryd.prog 20 #[.int .u64 E] w fun e w' => e = .returned (.bool (partsE E).2.2) ∧ w = w' := by
  rcases parts_cases E h0 h1 with rfl | ⟨T, C, e1, e2, e3, b1, b2, b3, b4, g0, ⟨c1, HP⟩ | ⟨c1, c2, c3, HP⟩ | ⟨c1, c2, c3, HP⟩⟩
  · rw [partsE_zero]
    clear h1
    go_enter Tryd.func20, Tryd.ntmps20
    go_wp2
    go_ret
    exact ⟨rfl, rfl⟩
  all_goals
    rw [HP.out]
    clear h1 e3
    go_enter Tryd.func20, Tryd.ntmps20
    go_wp2
    go_ret
    exact ⟨ret_bool (by first | rfl | (simp; omega)), rfl⟩

set_option maxHeartbeats 1000000 in
set_option maxRecDepth 100000 in
theorem r_thread_calls (E : Int) (h0 : 0 ≤ E) (h1 : E < 18446744073709551616) (w : World) : Calls Tryd.prog 22 #[.int .u64 E] w fun e w' => e = .returned (.int .i64 (partsE E).1) ∧ w = w' := by
  have hv := r_valid_calls E h0 h1
  rcases parts_cases E h0 h1 with rfl | ⟨T, C, e1, e2, e3, b1, b2, b3, b4, g0, ⟨c1, HP⟩ | ⟨c1, c2, c3, HP⟩ | ⟨c1, c2, c3, HP⟩⟩
  · rw [partsE_zero] at hv ⊢
    have HV := hid hv
    clear h1 hv
    go_enter Tryd.func22, Tryd.ntmps22
    go_wp2_with (go_at_call 20; refine (HV.out _).mono ?_; rintro e w' ⟨rfl, rfl⟩)
    go_ret
    exact ⟨rfl, rfl⟩
  all_goals
    rw [HP.out] at hv ⊢
    have HV := hid hv
    have E1 := hid e1
    have E2 := hid e2
    clear h1 e3 hv
    go_enter Tryd.func22, Tryd.ntmps22
    go_wp2_with (go_at_call 20; refine (HV.out _).mono ?_; rintro e w' ⟨rfl, rfl⟩)
    go_ret
    first | exact ⟨rfl, rfl⟩ | exact ⟨ret_u64 E2.out, rfl⟩ | exact ⟨ret_i64 E1.out, rfl⟩

set_option maxHeartbeats 1000000 in
set_option maxRecDepth 100000 in
theorem r_clock_calls (E : Int) (h0 : 0 ≤ E) (h1 : E < 18446744073709551616) (w : World) : Calls Tryd.prog 24 #[.int .u64 E] w fun e w' => e = .returned (.int .u64 (partsE E).2.1) ∧ w = w' := by
  have hv := r_valid_calls E h0 h1
  rcases parts_cases E h0 h1 with rfl | ⟨T, C, e1, e2, e3, b1, b2, b3, b4, g0, ⟨c1, HP⟩ | ⟨c1, c2, c3, HP⟩ | ⟨c1, c2, c3, HP⟩⟩
  · rw [partsE_zero] at hv ⊢
    have HV := hid hv
    clear h1 hv
    go_enter Tryd.func24, Tryd.ntmps24
    go_wp2_with (go_at_call 20; refine (HV.out _).mono ?_; rintro e w' ⟨rfl, rfl⟩)
    go_ret
    exact ⟨rfl, rfl⟩
  all_goals
    rw [HP.out] at hv ⊢
    have HV := hid hv
    have E1 := hid e1
    have E2 := hid e2
    clear h1 e3 hv
    go_enter Tryd.func24, Tryd.ntmps24
    go_wp2_with (go_at_call 20; refine (HV.out _).mono ?_; rintro e w' ⟨rfl, rfl⟩)
    go_ret
    first | exact ⟨rfl, rfl⟩ | exact ⟨ret_u64 E2.out, rfl⟩ | exact ⟨ret_i64 E1.out, rfl⟩

set_option maxHeartbeats 1000000 in
set_option maxRecDepth 100000 in
theorem r_next_calls (E : Int) (h0 : 0 ≤ E) (h1 : E < 18446744073709551616) (w : World) : Calls Tryd.prog 14 #[.int .u64 E] w fun e w' => e = .returned (.tuple #[.int .u64 (nextE E).1, .int .i64 (nextE E).2]) ∧ w = w' := by
  have hc := r_clock_calls E h0 h1
  obtain ⟨C, h2, b1, b2, h3⟩ := next_cases E h0 h1
  rw [h2] at hc
  have HC := hid hc
  have H1 := hid h1
  clear hc h1 h2
  rcases h3 with ⟨g1, HN⟩ | ⟨g1, g2, HN⟩ | ⟨g1, g2, HN, HB⟩
  · rw [HN.out]
    go_enter Tryd.func14, Tryd.ntmps14
    go_wp2_with (go_at_call 24; refine (HC.out _).mono ?_; rintro e w' ⟨rfl, rfl⟩)
    go_ret2
    exact ⟨rfl, rfl⟩
  · rw [HN.out]
    go_enter Tryd.func14, Tryd.ntmps14
    go_wp2_with (go_at_call 24; refine (HC.out _).mono ?_; rintro e w' ⟨rfl, rfl⟩)
    go_ret2
    exact ⟨rfl, rfl⟩
  · rw [HN.out]
    have hw : IntKind.u64.wrap (E + 1) = E + 1 := by rw [IntKind.wrap_u64]; have := HB.out; omega
    obtain ⟨E1, hE1⟩ : ∃ E1, E + 1 = E1 := ⟨_, rfl⟩
    rw [hE1] at hw ⊢
    have HW := hid hw
    have HE := hid hE1
    clear hw hE1
    go_enter Tryd.func14, Tryd.ntmps14
    go_wp2_with (go_at_call 24; refine (HC.out _).mono ?_; rintro e w' ⟨rfl, rfl⟩)
    go_ret2
    exact ⟨ret_u64i64 (by first | exact HE.out | (rw [HE.out]; exact HW.out)) rfl, rfl⟩
end Go.Proofs.YtngpfoddeebbmaaDoor
