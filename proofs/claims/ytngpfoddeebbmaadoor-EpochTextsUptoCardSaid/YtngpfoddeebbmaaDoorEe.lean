/- Walks of the epochs: a thread's last one among some. -/
import Derived.Test.YtngpfoddeebbmaaDoorEd
namespace Go.Proofs.YtngpfoddeebbmaaDoor
open Go.RowKit Go.AB
set_option linter.unusedSimpArgs false
set_option linter.unusedVariables false

/-- Is it of that thread, and later? -/
def betterE (t : Int) (last e : Int) : Bool := decide (0 < (partsE e).2.1) && ((partsE e).1 == t) && decide (last < e)
def stepE (t : Int) (last e : Int) : Int := if betterE t last e = true then e else last
def lastE (t : Int) (es : List Int) : Int := es.foldl (stepE t) 0
/-- What is kept is none, or of that thread. -/
def OfE (t : Int) (l : Int) : Prop := 0 ≤ l ∧ l < 18446744073709551616 ∧ (l = 0 ∨ (0 < (partsE l).2.1 ∧ (partsE l).1 = t))
theorem stepE_of {t l e : Int} (h : OfE t l) (h0 : 0 ≤ e) (h1 : e < 18446744073709551616) : OfE t (stepE t l e) := by
  unfold stepE betterE
  split
  · rename_i hb
    simp only [Bool.and_eq_true, decide_eq_true_eq, beq_iff_eq] at hb
    exact ⟨h0, h1, .inr hb.1⟩
  · exact h
theorem lastE_of (t : Int) : ∀ (es : List Int) (l : Int), OfE t l → (∀ e ∈ es, 0 ≤ e ∧ e < 18446744073709551616) → OfE t (es.foldl (stepE t) l)
  | [], l, h, _ => h
  | e :: es, l, h, hes => lastE_of t es _ (stepE_of h (hes e (by simp)).1 (hes e (by simp)).2) (fun x hx => hes x (by simp [hx]))
/-- Of one thread the later clock is the greater number. -/
theorem parts_num {e : Int} (h : 0 < (partsE e).2.1) : e = (partsE e).1 * 281474976710656 + (partsE e).2.1 := by
  unfold partsE at h ⊢
  split at h
  · simp at h
  split at h
  · simp at h
  · rename_i h1 h2
    rw [if_neg h1, if_neg h2]
    simp only
    omega
theorem betterE_clock {t l e : Int} (h : OfE t l) (h0 : 0 ≤ e) : betterE t l e = (decide (0 < (partsE e).2.1) && ((partsE e).1 == t) && decide ((partsE l).2.1 < (partsE e).2.1)) := by
  unfold betterE
  by_cases h1 : 0 < (partsE e).2.1
  · by_cases h2 : (partsE e).1 = t
    · have h3 := parts_num h1
      congr 1
      rcases h.2.2 with h4 | ⟨h4, h5⟩
      · subst h4
        rw [partsE_zero]
        simp only
        have h6 := partsE_bd e h0
        rw [Bool.eq_iff_iff]
        simp only [decide_eq_true_eq]
        omega
      · have h6 := parts_num h4
        rw [Bool.eq_iff_iff]
        simp only [decide_eq_true_eq]
        rw [h2] at h3
        rw [h5] at h6
        omega
    · have : ((partsE e).1 == t) = false := by simpa using h2
      rw [this]; simp
  · rw [decide_eq_false h1]; simp

section
variable {ao : Option Addr} {cap : Nat} (t : Int) (es : List Int) (he : ∀ e ∈ es, 0 ≤ e ∧ e < 18446744073709551616) (hn : es.length ≤ 16777216)
include he hn

set_option maxHeartbeats 4000000 in
set_option maxRecDepth 100000 in
theorem last_calls (w : World) (hv : View w 1 (.slice ao es.length cap) es.length (es.map (Value.int .u64))) : Calls Tryd.prog 17 #[.int .i64 t, .slice ao es.length cap] w fun e w' => e = .returned (.int .u64 (lastE t es)) ∧ w = w' := by
  have HV := hid hv
  have HE := hid he
  clear hv he
  go_enter Tryd.func17, Tryd.ntmps17
  go_wp2
  go_loop [5, 7, 8, 9, 10, 13] (fun l _ _ _ _ i => ∃ (k : Nat) (v : Int), k ≤ es.length ∧ i = .int .i64 k ∧ l = .int .u64 v ∧ Hid (OfE t v) ∧ Hid (lastE t es = (es.drop k).foldl (stepE t) v)) (fun _ _ _ _ _ i => es.length - (intOf i).toNat)
  case atStart => exact ⟨0, 0, Nat.zero_le _, rfl, rfl, hid ⟨by decide, by decide, .inl rfl⟩, hid rfl⟩
  case round =>
    obtain ⟨k, v, hk, rfl, rfl, HO, HL⟩ := hrel
    by_cases hlt : k < es.length
    · obtain ⟨b, off, hao, hcl⟩ := nums_at HV.out (by omega)
      have c0 := hcl k hlt
      have hx := HE.out es[k] (List.getElem_mem hlt)
      have hd := HL.out
      rw [List.drop_eq_getElem_cons hlt, List.foldl_cons] at hd
      rw [show es.getD k 0 = es[k] from by simp [List.getD, hlt]] at c0
      have hso := stepE_of (e := es[k]) HO.out hx.1 hx.2
      obtain ⟨x, hxe⟩ : ∃ x, es[k] = x := ⟨_, rfl⟩
      rw [hxe] at c0 hx hd hso
      have hp := parts_calls x hx.1 hx.2
      have hbd := partsE_bd x hx.1
      have hst : stepE t v x = if betterE t v x = true then x else v := rfl
      unfold betterE at hst
      obtain ⟨⟨T, C, b0⟩, hpe⟩ : ∃ p : Int × Int × Bool, partsE x = p := ⟨_, rfl⟩
      rw [hpe] at hp hst hbd
      simp only at hst
      have HP := hid hp
      have HD := hid hd
      have HSO := hid hso
      have HST := hid hst
      have z1 : (k : Int) < (es.length : Int) := by omega
      obtain ⟨q1, q2, q3, q4⟩ := hbd
      simp only at q1 q2 q3 q4
      have HAO := hid hao
      subst hao
      clear hcl hd hp hpe hst hso hx hxe q4
      have hway : (decide (0 < C) = false ∧ Hid (stepE t v x = v)) ∨ (decide (0 < C) = true ∧ (T == t) = false ∧ Hid (stepE t v x = v)) ∨ (decide (0 < C) = true ∧ (T == t) = true ∧ decide (v < x) = false ∧ Hid (stepE t v x = v)) ∨ (decide (0 < C) = true ∧ (T == t) = true ∧ decide (v < x) = true ∧ Hid (stepE t v x = x)) := by
        rcases Bool.eq_false_or_eq_true (decide (0 < C)) with g1 | g1
        · rcases Bool.eq_false_or_eq_true (T == t) with g2 | g2
          · rcases Bool.eq_false_or_eq_true (decide (v < x)) with g3 | g3
            · exact .inr (.inr (.inr ⟨g1, g2, g3, by rw [HST.out, g1, g2, g3]; rfl⟩))
            · exact .inr (.inr (.inl ⟨g1, g2, g3, by rw [HST.out, g1, g2, g3]; rfl⟩))
          · exact .inr (.inl ⟨g1, g2, by rw [HST.out, g1, g2]; rfl⟩)
        · exact .inl ⟨g1, by rw [HST.out, g1]; rfl⟩
      rcases hway with ⟨g1, HW⟩ | ⟨g1, g2, HW⟩ | ⟨g1, g2, g3, HW⟩ | ⟨g1, g2, g3, HW⟩
      all_goals
        go_wp2_with (go_at_call 36; refine (HP.out _).mono ?_; rintro e w' ⟨rfl, rfl⟩)
        go_round
        case rel => exact ⟨k + 1, _, by omega, by go_num, rfl, by rw [← HW.out]; exact HSO, by rw [← HW.out]; exact HD⟩
        case measure => simp [intOf]; omega
    · obtain rfl : k = es.length := by omega
      have hd := HL.out
      rw [List.drop_length, List.foldl_nil] at hd
      have HD := hid hd
      clear hd HL
      go_wp2
      go_ret
      exact ⟨ret_u64 HD.out.symm, rfl⟩

set_option maxHeartbeats 4000000 in
set_option maxRecDepth 100000 in
theorem r_last_calls (w : World) (hv : View w 1 (.slice ao es.length cap) es.length (es.map (Value.int .u64))) : Calls Tryd.prog 18 #[.int .i64 t, .slice ao es.length cap] w fun e w' => e = .returned (.int .u64 (lastE t es)) ∧ w = w' := by
  have HV := hid hv
  have HE := hid he
  clear hv he
  go_enter Tryd.func18, Tryd.ntmps18
  go_wp2
  go_loop [5, 6, 7] (fun l i _ => ∃ (k : Nat) (v : Int), k ≤ es.length ∧ i = .int .i64 k ∧ l = .int .u64 v ∧ Hid (OfE t v) ∧ Hid (lastE t es = (es.drop k).foldl (stepE t) v)) (fun _ i _ => es.length - (intOf i).toNat)
  case atStart => exact ⟨0, 0, Nat.zero_le _, rfl, rfl, hid ⟨by decide, by decide, .inl rfl⟩, hid rfl⟩
  case round =>
    obtain ⟨k, v, hk, rfl, rfl, HO, HL⟩ := hrel
    by_cases hlt : k < es.length
    · obtain ⟨b, off, hao, hcl⟩ := nums_at HV.out (by omega)
      have c0 := hcl k hlt
      have hx := HE.out es[k] (List.getElem_mem hlt)
      have hd := HL.out
      rw [List.drop_eq_getElem_cons hlt, List.foldl_cons] at hd
      rw [show es.getD k 0 = es[k] from by simp [List.getD, hlt]] at c0
      have hso := stepE_of (e := es[k]) HO.out hx.1 hx.2
      obtain ⟨x, hxe⟩ : ∃ x, es[k] = x := ⟨_, rfl⟩
      rw [hxe] at c0 hx hd hso
      have hcx := r_clock_calls x hx.1 hx.2
      have htx := r_thread_calls x hx.1 hx.2
      have hcv := r_clock_calls v HO.out.1 HO.out.2.1
      have hbd := partsE_bd x hx.1
      have hst : stepE t v x = if betterE t v x = true then x else v := rfl
      rw [betterE_clock HO.out hx.1] at hst
      obtain ⟨⟨T, C, b0⟩, hpe⟩ : ∃ p : Int × Int × Bool, partsE x = p := ⟨_, rfl⟩
      obtain ⟨⟨T', C', b0'⟩, hpe'⟩ : ∃ p : Int × Int × Bool, partsE v = p := ⟨_, rfl⟩
      rw [hpe] at hcx htx hst hbd
      rw [hpe'] at hcv hst
      simp only at hst
      have HCX := hid hcx
      have HTX := hid htx
      have HCV := hid hcv
      have HD := hid hd
      have HSO := hid hso
      have HST := hid hst
      have z1 : (k : Int) < (es.length : Int) := by omega
      obtain ⟨q1, q2, q3, q4⟩ := hbd
      simp only at q1 q2 q3 q4
      have HAO := hid hao
      subst hao
      clear hcl hd hcx htx hcv hpe hpe' hst hso hx hxe q4
      have hway : (decide (0 < C) = false ∧ Hid (stepE t v x = v)) ∨ (decide (0 < C) = true ∧ (T == t) = false ∧ Hid (stepE t v x = v)) ∨ (decide (0 < C) = true ∧ (T == t) = true ∧ decide (C' < C) = false ∧ Hid (stepE t v x = v)) ∨ (decide (0 < C) = true ∧ (T == t) = true ∧ decide (C' < C) = true ∧ Hid (stepE t v x = x)) := by
        rcases Bool.eq_false_or_eq_true (decide (0 < C)) with g1 | g1
        · rcases Bool.eq_false_or_eq_true (T == t) with g2 | g2
          · rcases Bool.eq_false_or_eq_true (decide (C' < C)) with g3 | g3
            · exact .inr (.inr (.inr ⟨g1, g2, g3, by rw [HST.out, g1, g2, g3]; rfl⟩))
            · exact .inr (.inr (.inl ⟨g1, g2, g3, by rw [HST.out, g1, g2, g3]; rfl⟩))
          · exact .inr (.inl ⟨g1, g2, by rw [HST.out, g1, g2]; rfl⟩)
        · exact .inl ⟨g1, by rw [HST.out, g1]; rfl⟩
      rcases hway with ⟨g1, HW⟩ | ⟨g1, g2, HW⟩ | ⟨g1, g2, g3, HW⟩ | ⟨g1, g2, g3, HW⟩
      all_goals
        go_wp2_with (first
          | (go_at_call 24; ((with_reducible refine (HCX.out _).mono ?_); rintro e w' ⟨rfl, rfl⟩))
          | (go_at_call 24; ((with_reducible refine (HCV.out _).mono ?_); rintro e w' ⟨rfl, rfl⟩))
          | (go_at_call 22; refine (HTX.out _).mono ?_; rintro e w' ⟨rfl, rfl⟩))
        go_round
        case rel => exact ⟨k + 1, _, by omega, by go_num, rfl, by rw [← HW.out]; exact HSO, by rw [← HW.out]; exact HD⟩
        case measure => simp [intOf]; omega
    · obtain rfl : k = es.length := by omega
      have hd := HL.out
      rw [List.drop_length, List.foldl_nil] at hd
      have HD := hid hd
      clear hd HL
      go_wp2
      go_ret
      exact ⟨ret_u64 HD.out.symm, rfl⟩
end
end Go.Proofs.YtngpfoddeebbmaaDoor
