/- Walks of the builder: names, operations, registers. -/
import Derived.Test.YtaknmhipaifdkaaDoorOp
import Derived.Test.YtaknmhipaifdkaaDoorMp
import Derived.Test.YtaknmhipaifdkaaDoorRows
import Derived.Deep.QuietTactic
import Derived.BigQuiet
import Derived.Deep.LoopGhost
import Derived.Deep.DeepCutAuto
import Derived.WalkMore
import Derived.Deep.RegionWith
import Derived.Deep.RegionLaw
import Derived.Deep.RegionHeld3
set_option linter.unusedVariables false
set_option linter.unusedSectionVars false
namespace Go.Proofs.YtaknmhipaifdkaaDoor
open Go.RowKit Go.AB
set_option linter.unusedSimpArgs false
set_option linter.unusedVariables false
set_option linter.unusedSectionVars false

def lettB (x : Nat) : Bool := (decide (97 ≤ x) && decide (x ≤ 122)) || (decide (65 ≤ x) && decide (x ≤ 90))
theorem or32 : ∀ x : Nat, x < 256 → bits .or .u8 (x : Int) 32 = ((x ||| 32 : Nat) : Int) := by decide +kernel
theorem lett_or : ∀ x : Nat, x < 256 → ((97 ≤ (x ||| 32)) ∧ (x ||| 32) ≤ 122 ↔ lettB x = true) := by decide +kernel
theorem ret_i64 {a b : Int} (h : a = b) : Ending.returned (.int .i64 a) = .returned (.int .i64 b) := by rw [h]
theorem ret_bool {a b : Bool} (h : a = b) : Ending.returned (.bool a) = .returned (.bool b) := by rw [h]
theorem letter_calls (c : UInt8) (w : World) : Calls Tryd.prog 39 #[.int .u8 c.toNat] w fun e w' => e = .returned (.bool (isLett c)) ∧ w = w' := by
  have h := c.toNat_lt
  have h2 := lett_or c.toNat h
  have h1 := or32 c.toNat h
  have h3 : isLett c = lettB c.toNat := rfl
  rw [h3]
  clear h3
  revert h h1 h2
  generalize c.toNat = x
  generalize (x ||| 32) = y
  intro h h2 h1
  have H2 := hid h2
  clear h2
  go_enter Tryd.func39, Tryd.ntmps39
  go_wp2
  all_goals go_ret
  all_goals
    refine ⟨ret_bool ?_, rfl⟩
    have h2 := H2.out
    rw [Bool.eq_iff_iff, ← h2]
    simp
    omega
set_option maxHeartbeats 2000000 in
theorem touches_calls (op : Int) (w : World) : Calls Tryd.prog 29 #[.int .i64 op] w fun e w' => e = .returned (.int .i64 (touchB op)) ∧ w = w' := by
  go_enter Tryd.func29, Tryd.ntmps29
  go_wp2
  all_goals go_ret
  all_goals refine ⟨ret_i64 ?_, rfl⟩
  all_goals simp only [beq_iff_eq, beq_eq_false_iff_ne, ne_eq] at *
  all_goals unfold touchB
  all_goals (repeat' split) <;> omega
set_option maxHeartbeats 4000000 in
theorem registers_calls (op : Int) (w : World) : Calls Tryd.prog 32 #[.int .i64 op] w fun e w' => e = .returned (.int .i64 (regsB op)) ∧ w = w' := by
  go_enter Tryd.func32, Tryd.ntmps32
  go_wp2
  all_goals go_ret
  all_goals refine ⟨ret_i64 ?_, rfl⟩
  all_goals simp only [beq_iff_eq, beq_eq_false_iff_ne, ne_eq] at *
  all_goals unfold regsB
  all_goals (repeat' split) <;> omega

theorem nameB_iff (s : ByteArray) : nameB s = true ↔ ∃ h : 0 < s.size, s.size ≤ 24 ∧ isLett s[0] = true ∧ ∀ k (h : k < s.size), isNameC s[k] = true := by
  obtain ⟨L, hL⟩ : ∃ L, s.data.toList = L := ⟨_, rfl⟩
  have hsz : L.length = s.size := by rw [← hL, Array.length_toList]; rfl
  have hg : ∀ k (h : k < s.size) (h2 : k < L.length), s[k] = L[k] := fun k h h2 => by subst hL; rfl
  unfold nameB
  rw [hL]
  clear hL
  cases L with
  | nil =>
    simp only [List.length_nil] at hsz
    simp only [nameL, Bool.false_eq_true, false_iff]
    rintro ⟨h, _⟩
    omega
  | cons c r =>
    simp only [List.length_cons] at hsz
    have h0 : s[0]'(by omega) = c := hg 0 (by omega) (by simp)
    simp only [nameL, Bool.and_eq_true, decide_eq_true_eq, List.all_eq_true]
    constructor
    · rintro ⟨⟨h1, h2⟩, h3⟩
      refine ⟨by omega, by omega, by rw [h0]; exact h2, fun k hk => ?_⟩
      rw [hg k hk (by simp; omega)]
      cases k with
      | zero => simp only [List.getElem_cons_zero]; simp [isNameC, h2]
      | succ k => simp only [List.getElem_cons_succ]; exact h3 _ (List.getElem_mem _)
    · rintro ⟨h, h1, h2, h3⟩
      rw [h0] at h2
      refine ⟨⟨by omega, h2⟩, fun x hx => ?_⟩
      obtain ⟨k, hk, rfl⟩ := List.mem_iff_getElem.1 hx
      have := h3 (k + 1) (by omega)
      rwa [hg (k + 1) (by omega) (by simp; omega)] at this

theorem isEmpty_size {s : ByteArray} : s.toList.isEmpty = decide (s.size = 0) := by
  have h : (s.toList == (ByteArray.mk #[]).toList) = decide (s.size = 0) := by
    rw [← beq_toListBytes, ba_beq]
    by_cases h : s.size = 0
    · have e : s = ⟨#[]⟩ := by
        cases s with | mk x =>
        have : x.size = 0 := h
        rw [Array.eq_empty_of_size_eq_zero this]
      rw [decide_eq_true h, decide_eq_true e]
    · have e : ¬ s = ⟨#[]⟩ := fun e => h (by rw [e]; rfl)
      rw [decide_eq_false h, decide_eq_false e]
  have h2 : (ByteArray.mk #[]).toList = [] := by simp
  rw [← h, h2]
  cases s.toList <;> rfl
theorem nameC_ways (x : UInt8) (h2 : isLett x = false) : (isNameC x = true ∧ ((x.toNat : Int) != 95) = false) ∨ (isNameC x = true ∧ ((x.toNat : Int) != 95) = true ∧ decide ((x.toNat : Int) < 48) = false ∧ decide ((57 : Int) < (x.toNat : Int)) = false) ∨
    (isNameC x = false ∧ ((x.toNat : Int) != 95) = true ∧ decide ((x.toNat : Int) < 48) = true) ∨ (isNameC x = false ∧ ((x.toNat : Int) != 95) = true ∧ decide ((x.toNat : Int) < 48) = false ∧ decide ((57 : Int) < (x.toNat : Int)) = true) := by
  have h : isNameC x = (decide (x.toNat = 95) || (decide (48 ≤ x.toNat) && decide (x.toNat ≤ 57))) := by unfold isNameC; rw [h2]; rfl
  rw [h]
  generalize x.toNat = n
  by_cases h1 : n = 95
  · left; simp [h1]
  · have e1 : ((n : Int) != 95) = true := by simp; omega
    by_cases h3 : n < 48
    · right; right; left
      exact ⟨by simp; omega, e1, by simp; omega⟩
    · by_cases h4 : n ≤ 57
      · right; left
        exact ⟨by simp; omega, e1, by simp; omega, by simp; omega⟩
      · right; right; right
        exact ⟨by simp; omega, e1, by simp; omega, by simp; omega⟩
theorem nameB_no {s : ByteArray} {k : Nat} (h : k < s.size) (h2 : isNameC s[k] = false) : nameB s = false := by
  rw [← Bool.not_eq_true, nameB_iff]
  rintro ⟨_, _, _, h3⟩
  rw [h3 k h] at h2
  cases h2
theorem nameB_head {s : ByteArray} (h : 0 < s.size) (h2 : isLett s[0] = false) : nameB s = false := by
  rw [← Bool.not_eq_true, nameB_iff]
  rintro ⟨_, _, h3, _⟩
  rw [h3] at h2
  cases h2
theorem nameB_long {s : ByteArray} (h : ¬ s.size ≤ 24) : nameB s = false := by
  rw [← Bool.not_eq_true, nameB_iff]
  rintro ⟨_, h3, _⟩
  exact h h3
theorem nameB_empty {s : ByteArray} (h : ¬ 0 < s.size) : nameB s = false := by
  rw [← Bool.not_eq_true, nameB_iff]
  rintro ⟨h3, _⟩
  exact h h3
/-- What Check answers. -/
def chkN (s : ByteArray) : Int := if nameB s = true then 0 else 60
theorem chkN_yes {s : ByteArray} (h : nameB s = true) : chkN s = 0 := by unfold chkN; rw [if_pos h]
theorem chkN_no {s : ByteArray} (h : nameB s = false) : chkN s = 60 := by unfold chkN; rw [h]; rfl
/-- Are the first bytes right? -/
def NmTo (s : ByteArray) (k : Nat) : Prop := ∀ j (h : j < s.size), j < k → isNameC s[j] = true
theorem NmTo.succ {s : ByteArray} {k : Nat} (h : NmTo s k) (hk : k < s.size) (hx : isNameC s[k] = true) : NmTo s (k + 1) := fun j hj hlt => by
  by_cases e : j = k
  · subst e; exact hx
  · exact h j hj (by omega)

set_option maxHeartbeats 2000000 in
set_option maxRecDepth 100000 in
theorem check_calls (s : ByteArray) (hs : s.size ≤ 4294967296) (w : World) : Calls Tryd.prog 36 #[.string s] w fun e w' => e = .returned (.int .i64 (chkN s)) ∧ w' = w := by
  have he := isEmpty_size (s := s)
  by_cases h0 : 0 < s.size
  · rw [decide_eq_false (by omega)] at he
    by_cases h24 : s.size ≤ 24
    · have hg : decide (24 < (s.size : Int)) = false := decide_eq_false (by omega)
      have hl := letter_calls (s[0]) w
      cases h1 : isLett s[0] with
      | false =>
        rw [h1] at hl
        have HL := hid hl
        rw [chkN_no (nameB_head h0 h1)]
        clear h1 hl
        go_enter Tryd.func36, Tryd.ntmps36
        go_wp2_with (go_at_call 39; refine HL.out.mono ?_; rintro e w' ⟨rfl, rfl⟩)
        go_ret
        exact ⟨rfl, rfl⟩
      | true =>
        rw [h1] at hl
        have HL := hid hl
        have HO := hid h1
        clear h1 hl
        go_enter Tryd.func36, Tryd.ntmps36
        go_wp2_with (go_at_call 39; refine HL.out.mono ?_; rintro e w' ⟨rfl, rfl⟩)
        go_loopw [20] (fun i wr => ∃ k : Nat, k ≤ s.size ∧ i = .int .i64 k ∧ wr = w ∧ Hid (NmTo s k)) (fun i _ => s.size - (intOf i).toNat)
        case atStart => exact ⟨0, by omega, rfl, rfl, hid (fun j _ h => by omega)⟩
        case round =>
          obtain ⟨k, hk, rfl, hw, HB⟩ := hrel
          subst hw
          by_cases hlt : k < s.size
          · have hlk := hid (letter_calls (s[k]) wr)
            cases h2 : isLett s[k] with
            | true =>
              rw [h2] at hlk
              have HN := hid (HB.out.succ hlt (by unfold isNameC; rw [h2]; rfl))
              clear h2
              go_wp2_with (go_at_call 39; refine hlk.out.mono ?_; rintro e w' ⟨rfl, rfl⟩)
              go_roundw
              case rel => exact ⟨k + 1, by omega, by go_num, by trivial, HN⟩
              case measure => simp [intOf]; omega
            | false =>
              rw [h2] at hlk
              have hways := nameC_ways (s[k]) h2
              clear h2
              rcases hways with ⟨hn, t1⟩ | ⟨hn, t1, t2, t3⟩ | ⟨hn, t1, t2⟩ | ⟨hn, t1, t2, t3⟩
              · have HN := hid (HB.out.succ hlt hn)
                clear hn
                go_wp2_with (go_at_call 39; refine hlk.out.mono ?_; rintro e w' ⟨rfl, rfl⟩)
                go_roundw
                case rel => exact ⟨k + 1, by omega, by go_num, by trivial, HN⟩
                case measure => simp [intOf]; omega
              · have HN := hid (HB.out.succ hlt hn)
                clear hn
                go_wp2_with (go_at_call 39; refine hlk.out.mono ?_; rintro e w' ⟨rfl, rfl⟩)
                go_roundw
                case rel => exact ⟨k + 1, by omega, by go_num, by trivial, HN⟩
                case measure => simp [intOf]; omega
              · have HN := hid (chkN_no (nameB_no hlt hn))
                clear hn
                go_wp2_with (go_at_call 39; refine hlk.out.mono ?_; rintro e w' ⟨rfl, rfl⟩)
                go_ret
                exact ⟨ret_i64 HN.out.symm, rfl⟩
              · have HN := hid (chkN_no (nameB_no hlt hn))
                clear hn
                go_wp2_with (go_at_call 39; refine hlk.out.mono ?_; rintro e w' ⟨rfl, rfl⟩)
                go_ret
                exact ⟨ret_i64 HN.out.symm, rfl⟩
          · have hnb : nameB s = true := (nameB_iff s).2 ⟨h0, h24, HO.out, fun j hj => HB.out j hj (by omega)⟩
            have HN := hid (chkN_yes hnb)
            clear hnb
            go_wp2
            go_ret
            exact ⟨ret_i64 HN.out.symm, rfl⟩
    · have hg : decide (24 < (s.size : Int)) = true := decide_eq_true (by omega)
      rw [chkN_no (nameB_long h24)]
      go_enter Tryd.func36, Tryd.ntmps36
      go_wp2
      go_ret
      exact ⟨rfl, rfl⟩
  · rw [decide_eq_true (by omega)] at he
    rw [chkN_no (nameB_empty h0)]
    go_enter Tryd.func36, Tryd.ntmps36
    go_wp2
    go_ret
    exact ⟨rfl, rfl⟩
end Go.Proofs.YtaknmhipaifdkaaDoor
