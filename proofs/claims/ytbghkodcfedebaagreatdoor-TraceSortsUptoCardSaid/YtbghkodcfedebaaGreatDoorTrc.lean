/- Walks of the trace layer: whether an event is plain. -/
import Derived.Test.YtbghkodcfedebaaGreatDoorTj6
import Derived.Test.YtbghkodcfedebaaGreatDoorTj1
import Derived.Test.YtbghkodcfedebaaGreatDoorTj5
import Derived.Test.YtbghkodcfedebaaGreatDoorChecked
import Derived.Lib.LaidTab
import Derived.Deep.LoopGhost
import Derived.Deep.DeepCutAuto
import Derived.WalkMore
namespace Go.AB
open Go.RowKit
/-- What a kind is on. -/
def onE (k : Int) : Int := if k = 1 ∨ k = 2 then 1 else if k = 3 ∨ k = 4 then 2 else if k = 5 ∨ k = 6 then 3 else if k = 7 ∨ k = 8 then 4 else if k = 9 ∨ k = 10 then 5 else 0
/-- The bound that the program's own Plain reckons. -/
theorem mostE_on (k : Int) : mostE k = if onE k = 4 then 65535 else if onE k = 0 then (if k = 11 then 1 else 0) else 4096 := by
  unfold mostE onE
  repeat' split
  all_goals first | rfl | omega
def evV (e : Ev) : Value := .agg #[.int .i64 e.k, .int .i64 e.t, .int .i64 e.o]
/-- The four tests of a plain event, one behind the other. -/
theorem plainE_ways (e : Ev) : (decide (0 ≤ e.t) = false ∧ plainE e = false) ∨ (decide (0 ≤ e.t) = true ∧ decide (e.t < 65535) = false ∧ plainE e = false) ∨ (decide (0 ≤ e.t) = true ∧ decide (e.t < 65535) = true ∧ decide (0 ≤ e.o) = false ∧ plainE e = false) ∨
    (decide (0 ≤ e.t) = true ∧ decide (e.t < 65535) = true ∧ decide (0 ≤ e.o) = true ∧ decide (e.o < mostE e.k) = plainE e) := by
  unfold plainE
  by_cases h1 : 0 ≤ e.t <;> by_cases h2 : e.t < 65535 <;> by_cases h3 : 0 ≤ e.o <;> simp [h1, h2, h3]
end Go.AB
namespace Go.Proofs.YtbghkodcfedebaaGreatDoor
open Go.RowKit Go.AB
set_option linter.unusedSimpArgs false
set_option linter.unusedVariables false
set_option linter.unusedSectionVars false

theorem info_ev : (Tryz.prog.info? 28).map (fun i => (i.zero, i.size, i.bytes)) = some (some (.agg #[.int .i64 0, .int .i64 0, .int .i64 0]), 3, 24) := by kernel_rfl
theorem elem_ev : ElemOk Tryz.prog 22 28 3 24 := .of Tryz.underlying22 info_ev rfl (by decide)
theorem on_calls (k : Int) (w : World) : Calls Tryz.prog 36 #[.int .i64 k] w fun e w' => e = .returned (.int .i64 (onE k)) ∧ w' = w := by
  by_cases h : 1 ≤ k ∧ k ≤ 10
  · rcases (by omega : k = 1 ∨ k = 2 ∨ k = 3 ∨ k = 4 ∨ k = 5 ∨ k = 6 ∨ k = 7 ∨ k = 8 ∨ k = 9 ∨ k = 10) with rfl | rfl | rfl | rfl | rfl | rfl | rfl | rfl | rfl | rfl
    all_goals
      clear h
      go_enter Tryz.func36, Tryz.ntmps36
      go_wp2
      go_ret
      exact ⟨rfl, rfl⟩
  · have h1 : (k == 1) = false := by simp; omega
    have h2 : (k == 2) = false := by simp; omega
    have h3 : (k == 3) = false := by simp; omega
    have h4 : (k == 4) = false := by simp; omega
    have h5 : (k == 5) = false := by simp; omega
    have h6 : (k == 6) = false := by simp; omega
    have h7 : (k == 7) = false := by simp; omega
    have h8 : (k == 8) = false := by simp; omega
    have h9 : (k == 9) = false := by simp; omega
    have h10 : (k == 10) = false := by simp; omega
    have he : onE k = 0 := by unfold onE; simp only [beq_eq_false_iff_ne] at *; simp [*]
    rw [he]
    clear h he
    go_enter Tryz.func36, Tryz.ntmps36
    go_wp2
    go_ret
    exact ⟨rfl, rfl⟩
theorem most_calls (k : Int) (w : World) : Calls Tryz.prog 37 #[.int .i64 k] w fun e w' => e = .returned (.int .i64 (mostE k)) ∧ w' = w := by
  have h11 : ((k == 11) = true ∧ mostE k = 1) ∨ ((k == 11) = false ∧ (k == 7) = true ∧ mostE k = 65535) ∨ ((k == 11) = false ∧ (k == 7) = false ∧ (k == 8) = true ∧ mostE k = 65535) ∨
      ((k == 11) = false ∧ (k == 7) = false ∧ (k == 8) = false ∧ decide (1 ≤ k) = true ∧ decide (k ≤ 11) = true ∧ mostE k = 4096) ∨ ((k == 11) = false ∧ (k == 7) = false ∧ (k == 8) = false ∧ decide (1 ≤ k) = true ∧ decide (k ≤ 11) = false ∧ mostE k = 0) ∨
      ((k == 11) = false ∧ (k == 7) = false ∧ (k == 8) = false ∧ decide (1 ≤ k) = false ∧ mostE k = 0) := by
    unfold mostE
    by_cases a : k = 11
    · simp [a]
    · by_cases b : k = 7
      · simp [b]
      · by_cases c : k = 8
        · simp [c]
        · by_cases d : 1 ≤ k <;> by_cases e : k ≤ 11 <;> simp [a, b, c, d, e]
  rcases h11 with ⟨a, he⟩ | ⟨a, b, he⟩ | ⟨a, b, c, he⟩ | ⟨a, b, c, d, e, he⟩ | ⟨a, b, c, d, e, he⟩ | ⟨a, b, c, d, he⟩
  all_goals
    rw [he]
    clear he
    go_enter Tryz.func37, Tryz.ntmps37
    go_wp2
    go_ret
    exact ⟨rfl, rfl⟩
set_option maxHeartbeats 2000000 in
set_option maxRecDepth 100000 in
theorem plain_calls (x : Ev) (w : World) : Calls Tryz.prog 11 #[evV x] w fun e w' => e = .returned (.bool (plainE x)) ∧ Chg [] w w' := by
  obtain ⟨k, t, o⟩ := x
  have hw := plainE_ways ⟨k, t, o⟩
  have hm := mostE_on k
  simp only at hw
  obtain ⟨P, hP⟩ : ∃ P, plainE ⟨k, t, o⟩ = P := ⟨_, rfl⟩
  rw [hP] at hw ⊢
  clear hP
  unfold evV
  simp only
  have HC := hid ((Chg.refl [] w).alloc (.cells #[.int .i64 k, .int .i64 t, .int .i64 o] 28))
  have hs : (onE k = 4 ∧ mostE k = 65535) ∨ ((onE k == 4) = false ∧ (onE k == 0) = false ∧ mostE k = 4096) ∨ (onE k = 0 ∧ (k == 11) = true ∧ mostE k = 1) ∨ (onE k = 0 ∧ (k == 11) = false ∧ mostE k = 0) := by
    rw [hm]
    by_cases a : onE k = 4
    · simp [a]
    · by_cases b : onE k = 0
      · by_cases c : k = 11
        · exact .inr (.inr (.inl ⟨b, by simp [c], by rw [if_neg a, if_pos b, if_pos c]⟩))
        · exact .inr (.inr (.inr ⟨b, by simp [c], by rw [if_neg a, if_pos b, if_neg c]⟩))
      · simp [a, b]
  have HON := hid (on_calls k)
  clear hm
  rcases hs with ⟨hs, he⟩ | ⟨a, b, he⟩ | ⟨hs, a, he⟩ | ⟨hs, a, he⟩
  all_goals
    rw [he] at hw
    clear he
    try rw [hs] at HON
    try clear hs
    rcases hw with ⟨q1, rfl⟩ | ⟨q1, q2, rfl⟩ | ⟨q1, q2, q3, rfl⟩ | ⟨q1, q2, q3, q4⟩
  all_goals
    go_enter Tryz.func11, Tryz.ntmps11
    go_wp2_with (go_at_call 36; refine (HON.out _).mono ?_; rintro e w1 ⟨rfl, rfl⟩)
    first | go_ret | go_ret2
    exact ⟨by first | rfl | rw [q4], HC.out⟩
end Go.Proofs.YtbghkodcfedebaaGreatDoor
