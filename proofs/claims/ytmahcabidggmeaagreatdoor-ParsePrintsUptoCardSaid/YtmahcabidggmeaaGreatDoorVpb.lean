/- Walks of the parser: an operation's word and form; which operation a word is. -/
import Derived.Test.YtmahcabidggmeaaGreatDoorVpf
import Derived.Test.YtmahcabidggmeaaGreatDoorMp
import Derived.Lib.Strings
import Derived.Test.YtmahcabidggmeaaGreatDoorRows
import Derived.Deep.QuietTactic
import Derived.BigQuiet
import Derived.Deep.LoopGhost
import Derived.Deep.DeepCutAuto
set_option linter.unusedVariables false
set_option linter.unusedSectionVars false
set_option linter.unusedSimpArgs false
namespace Go.AB
open Go.RowKit
theorem opL_word : ∀ i : Nat, i < 20 → opL (wordAt ((i : Int) + 1)) = i + 1 := by decide +kernel
theorem word_ne : ∀ i : Nat, i < 20 → wordAt ((i : Int) + 1) ≠ [] := by decide +kernel
theorem idx_none {l : List (List UInt8)} {s : List UInt8} (h : ∀ x ∈ l, x ≠ s) : idxOf l s = 0 := by
  have g : ∀ (l : List (List UInt8)) (i : Nat), (∀ x ∈ l, x ≠ s) → idxOf.go s l i = 0 := by
    intro l
    induction l with
    | nil => intro i _; rfl
    | cons x r ih =>
      intro i h
      unfold idxOf.go
      rw [if_neg (h x (List.mem_cons_self ..))]
      exact ih _ fun y hy => h y (List.mem_cons_of_mem _ hy)
  exact g l 1 h
theorem opL_none {s : List UInt8} (h : ∀ i : Nat, i < 20 → wordAt ((i : Int) + 1) ≠ s) : opL s = 0 := by
  refine idx_none fun x hx => ?_
  obtain ⟨i, hi, rfl⟩ := List.mem_iff_getElem.1 hx
  have hl : i < 20 := by simpa [opTab] using hi
  have h2 := h i hl
  intro e
  apply h2
  rw [← e]
  unfold wordAt
  rw [if_neg (by omega), show ((i : Int) + 1 - 1).toNat = i from by omega]
  simp only [List.getElem_map]
  rw [List.getElem?_eq_getElem (by simpa [opTab] using hl)]
  rfl
theorem bA_eq {s : ByteArray} {l : List UInt8} (h : s.data.toList = l) : s = bA l := by
  subst h
  cases s with | mk d => simp [bA]
theorem bA_toList (l : List UInt8) : (bA l).toList = l := by rw [Lib.toList_data]; rfl
theorem beq_bA (a b : List UInt8) : ((bA a).toList == (bA b).toList) = decide (a = b) := by
  rw [bA_toList, bA_toList]
  by_cases h : a = b
  · subst h; simp
  · simp [h]
end Go.AB
namespace Go.Proofs.YtmahcabidggmeaaGreatDoor
open Go.RowKit Go.AB
set_option linter.unusedSimpArgs false
set_option linter.unusedVariables false
set_option linter.unusedSectionVars false

set_option maxHeartbeats 4000000 in
set_option maxRecDepth 100000 in
theorem op_calls (s : ByteArray) (w : World) : Calls Tryz.prog 42 #[.string s] w fun e w' => e = .returned (.int .i64 (opL s.data.toList)) ∧ Chg [] w w' := by
  have HF := hid fun op W => form_calls op W
  obtain ⟨L, hL⟩ : ∃ L, s.data.toList = L := ⟨_, rfl⟩
  obtain rfl := bA_eq hL
  rw [hL]
  clear hL
  go_enter Tryz.func42, Tryz.ntmps42
  go_wp2
  go_loopw [3] (fun vi wr => ∃ k : Nat, k ≤ 20 ∧ vi = .int .i64 ((k : Int) + 1) ∧ Chg [] w wr ∧ Hid (∀ i : Nat, i < k → wordAt ((i : Int) + 1) ≠ L)) (fun vi _ => 21 - (intOf vi).toNat)
  case atStart => exact ⟨0, by omega, rfl, Chg.refl _ _, hid (fun i hi => by omega)⟩
  case round =>
    obtain ⟨k, hk, rfl, hcr, HN⟩ := hrel
    by_cases hlt : k < 20
    · by_cases he : wordAt ((k : Int) + 1) = L
      · have HO : Hid (opL L = k + 1) := hid (by rw [← he]; exact opL_word k hlt)
        have hb : ((bA (wordAt ((k : Int) + 1))).toList == (bA L).toList) = true := by rw [beq_bA]; exact decide_eq_true he
        have HCR := hid hcr
        clear he hcr
        go_wp2_with (go_at_call 72; refine (HF.out _ _).mono ?_; rintro e w' ⟨rfl, hc⟩)
        go_ret
        exact ⟨by rw [HO.out]; rfl, HCR.out.trans' hc⟩
      · have hb : ((bA (wordAt ((k : Int) + 1))).toList == (bA L).toList) = false := by rw [beq_bA]; exact decide_eq_false he
        have HN2 : Hid (∀ i : Nat, i < k + 1 → wordAt ((i : Int) + 1) ≠ L) := hid (fun i hi => by
          by_cases e : i = k
          · subst e; exact he
          · exact HN.out i (by omega))
        have HCR := hid hcr
        clear he hcr
        go_wp2_with (go_at_call 72; refine (HF.out _ _).mono ?_; rintro e w' ⟨rfl, hc⟩)
        go_roundw
        case rel => exact ⟨k + 1, by omega, by go_num, HCR.out.trans' hc, HN2⟩
        case measure => simp [intOf]; omega
    · obtain rfl : k = 20 := by omega
      have HO : Hid (opL L = 0) := hid (opL_none HN.out)
      have HCR := hid hcr
      clear hcr
      go_wp2
      go_ret
      exact ⟨by rw [HO.out]; rfl, HCR.out⟩
end Go.Proofs.YtmahcabidggmeaaGreatDoor
