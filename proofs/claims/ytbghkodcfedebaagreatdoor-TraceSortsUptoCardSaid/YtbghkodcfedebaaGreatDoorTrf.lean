/- Walks of the trace layer: numbers; a line read. -/
import Derived.Test.YtbghkodcfedebaaGreatDoorTre
set_option linter.unusedVariables false
set_option linter.unusedSectionVars false
set_option linter.unusedSimpArgs false
namespace Go.AB
open Go.RowKit
/-- A line's event so far, j of its numbers read. -/
def EvR (s : List UInt8) (j : Nat) (t o : Int) (ok : Bool) : Prop :=
  if ok = true then idxE ((splitE s).getD 0 []) ≠ 0 ∧ (((splitE s).length = 2 ∧ idxE ((splitE s).getD 0 []) = 11 ∧ o = 0) ∨ ((splitE s).length = 3 ∧ idxE ((splitE s).getD 0 []) ≠ 11)) ∧
    (1 ≤ j → numE ((splitE s).getD 1 []) = some t) ∧ (2 ≤ j → (splitE s).length = 3 → numE ((splitE s).getD 2 []) = some o)
  else readE s = none
theorem len1 {α : Type} {l : List α} (h : l.length = 1) : ∃ a, l = [a] := by
  match l, h with
  | [a], _ => exact ⟨a, rfl⟩
theorem len2 {α : Type} {l : List α} (h : l.length = 2) : ∃ a b, l = [a, b] := by
  match l, h with
  | [a, b], _ => exact ⟨a, b, rfl⟩
theorem len3 {α : Type} {l : List α} (h : l.length = 3) : ∃ a b c, l = [a, b, c] := by
  match l, h with
  | [a, b, c], _ => exact ⟨a, b, c, rfl⟩
theorem readE_two {s w a : List UInt8} (h : splitE s = [w, a]) : readE s = if idxE w = 11 then (numE a).bind fun t => chkE ⟨11, t, 0⟩ else none := by unfold readE; rw [h]
theorem readE_three {s w a b : List UInt8} (h : splitE s = [w, a, b]) : readE s = if idxE w = 0 ∨ idxE w = 11 then none else (numE a).bind fun t => (numE b).bind fun o => chkE ⟨idxE w, t, o⟩ := by unfold readE; rw [h]
theorem readE_else {s : List UInt8} (h2 : (splitE s).length ≠ 2) (h3 : (splitE s).length ≠ 3) : readE s = none := by
  unfold readE
  split
  · rename_i h; rw [h] at h2; exact absurd rfl h2
  · rename_i h; rw [h] at h3; exact absurd rfl h3
  · rfl
theorem ev_start (s : List UInt8) : EvR s 0 0 0 (decide (idxE ((splitE s).getD 0 []) ≠ 0) && (decide ((splitE s).length = 2) == decide (idxE ((splitE s).getD 0 []) = 11)) && (decide ((splitE s).length = 3) == decide (idxE ((splitE s).getD 0 []) ≠ 11))) := by
  unfold EvR
  by_cases h2 : (splitE s).length = 2
  · obtain ⟨w, a, hs⟩ := len2 h2
    rw [readE_two hs, hs]
    simp only [List.getD_cons_zero, List.length_cons, List.length_nil]
    by_cases h : idxE w = 11
    · simp [h]
    · simp [h]
  · by_cases h3 : (splitE s).length = 3
    · obtain ⟨w, a, b, hs⟩ := len3 h3
      rw [readE_three hs, hs]
      simp only [List.getD_cons_zero, List.length_cons, List.length_nil]
      by_cases h : idxE w = 11
      · simp [h]
      · by_cases h0 : idxE w = 0
        · simp [h0]
        · simp [h, h0]
    · rw [readE_else h2 h3]
      simp only [h2, h3]
      by_cases h : idxE ((splitE s).getD 0 []) = 11
      · simp [h]
      · simp [h]
theorem ev_bad {s : List UInt8} {j : Nat} {t o t' o' : Int} (h : EvR s j t o true) (hj : j < 2) (hn : j + 1 < (splitE s).length) (hb : numE ((splitE s).getD (j + 1) []) = none) : EvR s (j + 1) t' o' false := by
  unfold EvR at h ⊢
  simp only [if_true] at h
  simp only [Bool.false_eq_true, if_false]
  obtain ⟨h0, h1 | h1, h2, h3⟩ := h
  · obtain ⟨w, a, hs⟩ := len2 h1.1
    rw [readE_two hs]
    rw [hs] at hb hn
    obtain rfl : j = 0 := by simp only [List.length_cons, List.length_nil] at hn; omega
    simp only [List.getD_cons_succ, List.getD_cons_zero] at hb
    rw [hb]
    simp
  · obtain ⟨w, a, b, hs⟩ := len3 h1.1
    rw [readE_three hs]
    rw [hs] at hb hn
    rcases (by omega : j = 0 ∨ j = 1) with rfl | rfl
    · simp only [List.getD_cons_succ, List.getD_cons_zero] at hb
      rw [hb]
      simp
    · simp only [List.getD_cons_succ, List.getD_cons_zero] at hb
      rw [hb]
      simp
theorem ev_good {s : List UInt8} {j : Nat} {t o v : Int} (h : EvR s j t o true) (hj : j < 2) (hn : j + 1 < (splitE s).length) (hb : numE ((splitE s).getD (j + 1) []) = some v) : EvR s (j + 1) (if j = 0 then v else t) (if j = 1 then v else o) true := by
  unfold EvR at h ⊢
  simp only [if_true] at h ⊢
  obtain ⟨h0, h1, h2, h3⟩ := h
  rcases (by omega : j = 0 ∨ j = 1) with rfl | rfl
  · refine ⟨h0, ?_, fun _ => hb, fun h => absurd h (by omega)⟩
    simpa using h1
  · refine ⟨h0, ?_, fun _ => h2 (by omega), fun _ _ => hb⟩
    rcases h1 with h1 | h1
    · omega
    · exact .inr h1
theorem ev_skip {s : List UInt8} {j : Nat} {t o : Int} {ok : Bool} (h : EvR s j t o ok) (hn : ok = false ∨ (splitE s).length ≤ j + 1) : EvR s (j + 1) t o ok := by
  unfold EvR at h ⊢
  cases ok with
  | false => simpa using h
  | true =>
    simp only [if_true] at h ⊢
    have hn := hn.resolve_left (by simp)
    obtain ⟨h0, h1, h2, h3⟩ := h
    refine ⟨h0, h1, fun _ => ?_, fun h h4 => ?_⟩
    · by_cases hj : 1 ≤ j
      · exact h2 hj
      · rcases h1 with h1 | h1 <;> omega
    · by_cases hj : 2 ≤ j
      · exact h3 hj h4
      · omega
theorem ev_end {s : List UInt8} {t o : Int} (h : EvR s 2 t o true) : readE s = chkE ⟨idxE ((splitE s).getD 0 []), t, o⟩ := by
  unfold EvR at h
  simp only [if_true] at h
  obtain ⟨h0, h1 | h1, h2, h3⟩ := h
  · obtain ⟨w, a, hs⟩ := len2 h1.1
    rw [readE_two hs]
    rw [hs] at h1 h2 ⊢
    simp only [List.getD_cons_succ, List.getD_cons_zero] at h1 h2 ⊢
    rw [if_pos h1.2.1, h2 (by omega), h1.2.1, h1.2.2]
    rfl
  · obtain ⟨w, a, b, hs⟩ := len3 h1.1
    rw [readE_three hs]
    rw [hs] at h0 h1 h2 h3 ⊢
    simp only [List.getD_cons_succ, List.getD_cons_zero] at h0 h1 h2 h3 ⊢
    rw [if_neg (by have := h1.2; omega), h2 (by omega), h3 (by omega) rfl]
    rfl
theorem ev_end_bad {s : List UInt8} {j : Nat} {t o : Int} (h : EvR s j t o false) : readE s = none := by
  unfold EvR at h
  simpa using h
theorem splitE_len : ∀ (s : List UInt8), ∀ p ∈ splitE s, p.length ≤ s.length
  | [], p, h => by simp only [splitE, List.mem_singleton] at h; subst h; simp
  | c :: r, p, h => by
    unfold splitE at h
    split at h
    · rcases List.mem_cons.1 h with rfl | h
      · simp
      · have := splitE_len r p h; simp only [List.length_cons]; omega
    · cases h2 : splitE r with
      | nil => exact absurd h2 (splitE_ne r)
      | cons y m =>
        rw [h2] at h
        simp only at h
        rcases List.mem_cons.1 h with rfl | h
        · have := splitE_len r y (by rw [h2]; exact List.mem_cons_self ..); simp only [List.length_cons]; omega
        · have := splitE_len r p (by rw [h2]; exact List.mem_cons_of_mem _ h); simp only [List.length_cons]; omega
theorem splitE_count : ∀ (s : List UInt8), (splitE s).length ≤ s.length + 1
  | [] => by simp [splitE]
  | c :: r => by
    have ih := splitE_count r
    unfold splitE
    split
    · simp only [List.length_cons]; omega
    · cases h2 : splitE r with
      | nil => exact absurd h2 (splitE_ne r)
      | cons y m =>
        rw [h2] at ih
        simp only [List.length_cons] at ih ⊢
        omega
end Go.AB
namespace Go.Proofs.YtbghkodcfedebaaGreatDoor
open Go.RowKit Go.AB
set_option linter.unusedSimpArgs false
set_option linter.unusedVariables false
set_option linter.unusedSectionVars false

/-- What number answers. -/
def NumP (s : List UInt8) (e : Ending) : Prop := ∃ (n : Int) (ok : Bool), e = .returned (.tuple #[.int .i64 n, .bool ok]) ∧ Hid ((ok = true ∧ numE s = some n) ∨ (ok = false ∧ numE s = none))
set_option maxHeartbeats 4000000 in
set_option maxRecDepth 100000 in
theorem number_calls (s : List UInt8) (hs : s.length ≤ 16777216) (w : World) (hv : VarsT w) : Calls Tryz.prog 86 #[.string (bA s)] w fun e w' => NumP s e ∧ Chg [] w w' := by
  have HV := hid hv
  have HA := hid (atoiT s (by omega) w hv)
  clear hv
  go_enter Tryz.func86, Tryz.ntmps86
  go_wp2_with (go_at_call 109; refine HA.out.mono ?_; rintro e w1 ⟨hp, hc1⟩; refine halt (fun XX hXX => ?_))
  have HC1 := hid hc1
  rcases hp with ⟨v, hok, rfl⟩ | ⟨hno, x, t, p, rfl⟩
  · have hbd := Lib.atoiAll_bounds hok
    have hnum : numE s = if 0 ≤ v ∧ Lib.itoa v = s then some v else none := by unfold numE; rw [hok]
    have HI := hid (itoaT v hbd.1 hbd.2 w1 (HV.out.keep hc1))
    obtain ⟨T, hT⟩ : ∃ T, Lib.itoa v = T := ⟨_, rfl⟩
    rw [hT] at HI hnum
    have HN := hid hnum
    clear hc1 hok hnum hT
    by_cases h0 : 0 ≤ v
    · have d0 : decide (0 ≤ v) = true := decide_eq_true h0
      by_cases he : T = s
      · have hb : ((bA T).toList == (bA s).toList) = true := by rw [beq_bA]; exact decide_eq_true he
        have HE := hid he
        clear he
        rw [hXX.out]; clear hXX XX
        go_wp2_with (go_at_call 70; refine HI.out.mono ?_; rintro e w2 ⟨rfl, hc2⟩)
        go_ret2
        exact ⟨⟨v, true, rfl, hid (.inl ⟨rfl, by rw [HN.out, if_pos ⟨h0, HE.out⟩]⟩)⟩, HC1.out.trans' hc2⟩
      · have hb : ((bA T).toList == (bA s).toList) = false := by rw [beq_bA]; exact decide_eq_false he
        have HE := hid he
        clear he
        rw [hXX.out]; clear hXX XX
        go_wp2_with (go_at_call 70; refine HI.out.mono ?_; rintro e w2 ⟨rfl, hc2⟩)
        go_ret2
        exact ⟨⟨v, false, rfl, hid (.inr ⟨rfl, by rw [HN.out, if_neg (fun h => HE.out h.2)]⟩)⟩, HC1.out.trans' hc2⟩
    · have d0 : decide (0 ≤ v) = false := decide_eq_false h0
      rw [hXX.out]; clear hXX XX
      go_wp2_with fail
      go_ret2
      exact ⟨⟨v, false, rfl, hid (.inr ⟨rfl, by rw [HN.out, if_neg (fun h => by have := h.1; omega)]⟩)⟩, HC1.out⟩
  · have HN := hid hno
    clear hno hc1
    rw [hXX.out]; clear hXX XX
    go_wp2_with fail
    go_ret2
    exact ⟨⟨x, false, rfl, hid (.inr ⟨rfl, HN.out⟩)⟩, HC1.out⟩
end Go.Proofs.YtbghkodcfedebaaGreatDoor
