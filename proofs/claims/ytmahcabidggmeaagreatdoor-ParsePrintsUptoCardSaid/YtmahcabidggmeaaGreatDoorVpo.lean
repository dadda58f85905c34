/- Names' bytes. (Out of XOa.) -/
import Derived.Test.YtmahcabidggmeaaGreatDoorVpc
import Derived.Test.YtmahcabidggmeaaGreatDoorAa
set_option linter.unusedVariables false
set_option linter.unusedSectionVars false
set_option linter.unusedSimpArgs false
namespace Go.Proofs.YtmahcabidggmeaaGreatDoor
open Go.RowKit Go.AB
set_option linter.unusedSimpArgs false
set_option linter.unusedVariables false
set_option linter.unusedSectionVars false

theorem nameB_iff (s : ByteArray) : nameB s = true ↔ ∃ h : 0 < s.size, s.size ≤ 24 ∧ isLett s[0] = true ∧ ∀ k (h : k < s.size), isNameC s[k] = true := by
  obtain ⟨L, hL⟩ : ∃ L, s.data.toList = L := ⟨_, rfl⟩
  have hsz : L.length = s.size := by rw [← hL, Array.length_toList]; rfl
  have hg : ∀ k (h : k < s.size) (h2 : k < L.length), s[k] = L[k] := fun k h h2 => by subst hL; rfl
  unfold nameB
  rw [hL]
  clear hL
  cases L with
  | nil =>
    simp only [List.length_nil] at hsz
    simp only [nameL, Bool.false_eq_true, false_iff]
    rintro ⟨h, _⟩
    omega
  | cons c r =>
    simp only [List.length_cons] at hsz
    have h0 : s[0]'(by omega) = c := hg 0 (by omega) (by simp)
    simp only [nameL, Bool.and_eq_true, decide_eq_true_eq, List.all_eq_true]
    constructor
    · rintro ⟨⟨h1, h2⟩, h3⟩
      refine ⟨by omega, by omega, by rw [h0]; exact h2, fun k hk => ?_⟩
      rw [hg k hk (by simp; omega)]
      cases k with
      | zero => simp only [List.getElem_cons_zero]; simp [isNameC, h2]
      | succ k => simp only [List.getElem_cons_succ]; exact h3 _ (List.getElem_mem _)
    · rintro ⟨h, h1, h2, h3⟩
      rw [h0] at h2
      refine ⟨⟨by omega, h2⟩, fun x hx => ?_⟩
      obtain ⟨k, hk, rfl⟩ := List.mem_iff_getElem.1 hx
      have := h3 (k + 1) (by omega)
      rwa [hg (k + 1) (by omega) (by simp; omega)] at this

theorem isEmpty_size {s : ByteArray} : s.toList.isEmpty = decide (s.size = 0) := by
  have h : (s.toList == (ByteArray.mk #[]).toList) = decide (s.size = 0) := by
    rw [← beq_toListBytes, ba_beq]
    by_cases h : s.size = 0
    · have e : s = ⟨#[]⟩ := by
        cases s with | mk x =>
        have : x.size = 0 := h
        rw [Array.eq_empty_of_size_eq_zero this]
      rw [decide_eq_true h, decide_eq_true e]
    · have e : ¬ s = ⟨#[]⟩ := fun e => h (by rw [e]; rfl)
      rw [decide_eq_false h, decide_eq_false e]
  have h2 : (ByteArray.mk #[]).toList = [] := by simp
  rw [← h, h2]
  cases s.toList <;> rfl
theorem nameC_ways (x : UInt8) (h2 : isLett x = false) : (isNameC x = true ∧ ((x.toNat : Int) != 95) = false) ∨ (isNameC x = true ∧ ((x.toNat : Int) != 95) = true ∧ decide ((x.toNat : Int) < 48) = false ∧ decide ((57 : Int) < (x.toNat : Int)) = false) ∨
    (isNameC x = false ∧ ((x.toNat : Int) != 95) = true ∧ decide ((x.toNat : Int) < 48) = true) ∨ (isNameC x = false ∧ ((x.toNat : Int) != 95) = true ∧ decide ((x.toNat : Int) < 48) = false ∧ decide ((57 : Int) < (x.toNat : Int)) = true) := by
  have h : isNameC x = (decide (x.toNat = 95) || (decide (48 ≤ x.toNat) && decide (x.toNat ≤ 57))) := by unfold isNameC; rw [h2]; rfl
  rw [h]
  generalize x.toNat = n
  by_cases h1 : n = 95
  · left; simp [h1]
  · have e1 : ((n : Int) != 95) = true := by simp; omega
    by_cases h3 : n < 48
    · right; right; left
      exact ⟨by simp; omega, e1, by simp; omega⟩
    · by_cases h4 : n ≤ 57
      · right; left
        exact ⟨by simp; omega, e1, by simp; omega, by simp; omega⟩
      · right; right; right
        exact ⟨by simp; omega, e1, by simp; omega, by simp; omega⟩
theorem nameB_no {s : ByteArray} {k : Nat} (h : k < s.size) (h2 : isNameC s[k] = false) : nameB s = false := by
  rw [← Bool.not_eq_true, nameB_iff]
  rintro ⟨_, _, _, h3⟩
  rw [h3 k h] at h2
  cases h2
theorem nameB_head {s : ByteArray} (h : 0 < s.size) (h2 : isLett s[0] = false) : nameB s = false := by
  rw [← Bool.not_eq_true, nameB_iff]
  rintro ⟨_, _, h3, _⟩
  rw [h3] at h2
  cases h2
theorem nameB_long {s : ByteArray} (h : ¬ s.size ≤ 24) : nameB s = false := by
  rw [← Bool.not_eq_true, nameB_iff]
  rintro ⟨_, h3, _⟩
  exact h h3
theorem nameB_empty {s : ByteArray} (h : ¬ 0 < s.size) : nameB s = false := by
  rw [← Bool.not_eq_true, nameB_iff]
  rintro ⟨h3, _⟩
  exact h h3
/-- Are the first bytes right? -/
def NmTo (s : ByteArray) (k : Nat) : Prop := ∀ j (h : j < s.size), j < k → isNameC s[j] = true
theorem NmTo.succ {s : ByteArray} {k : Nat} (h : NmTo s k) (hk : k < s.size) (hx : isNameC s[k] = true) : NmTo s (k + 1) := fun j hj hlt => by
  by_cases e : j = k
  · subst e; exact hx
  · exact h j hj (by omega)

end Go.Proofs.YtmahcabidggmeaaGreatDoor
