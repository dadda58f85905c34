/- The library's sort at a list of numbers of the call's own. -/
import Derived.Test.YtbghkodcfedebaaGreatDoorTyb
import Derived.Test.YtbghkodcfedebaaGreatDoorTrl
set_option linter.unusedVariables false
set_option linter.unusedSectionVars false
set_option linter.unusedSimpArgs false
namespace Go.Proofs.YtbghkodcfedebaaGreatDoor
open Go.RowKit Go.AB Go.Sort
set_option linter.unusedSimpArgs false
set_option linter.unusedVariables false
set_option linter.unusedSectionVars false
def intV (t : Int) : Value := .int .i64 t
set_option maxRecDepth 100000 in
theorem lenb_calls (w : World) : Calls Tryz.prog 100 #[.int .u64 0] w fun e w' => e = .returned (.int .i64 0) ∧ w' = w := by
  have h := Tryz.bits_Len64 0 w (by omega) (by omega)
  have HB := hid h
  clear h
  go_enter Tryz.func100, Tryz.ntmps100
  go_wp2_with (go_at_call 122; refine HB.out.mono ?_; rintro e w1 ⟨rfl, rfl⟩)
  all_goals (first | go_ret2 | go_ret)
  all_goals exact ⟨rfl, rfl⟩
set_option maxRecDepth 100000 in
theorem ins_none (w : World) : Calls Tryz.prog 112 #[.slice none 0 0, .int .i64 0, .int .i64 0] w fun e w' => e = .returned (.tuple #[]) ∧ w' = w := by
  go_enter Tryz.func112, Tryz.ntmps112
  go_wp2
  go_loopg [6] 1 (fun gk v6 wr => v6 = .int .i64 1 ∧ wr = w)
  case atStart => exact ⟨rfl, rfl⟩
  case round =>
    obtain ⟨rfl, rfl⟩ := hrel
    go_wp2
    go_end0
    exact ⟨rfl, rfl⟩
set_option maxRecDepth 100000 in
set_option maxHeartbeats 4000000 in
theorem pdq_none (v : Value) (w : World) : Calls Tryz.prog 99 #[.slice none 0 0, .int .i64 0, .int .i64 0, v] w fun e w' => e = .returned (.tuple #[]) ∧ w' = w := by
  have HI := hid ins_none
  go_enter Tryz.func99, Tryz.ntmps99
  go_wp2
  go_loopg [1, 2, 3, 8, 9] 1 (fun gk v1 v2 v3 v8 v9 wr => v1 = .int .i64 0 ∧ v2 = .int .i64 0 ∧ wr = w)
  case atStart => exact ⟨rfl, rfl, rfl⟩
  case round =>
    obtain ⟨rfl, rfl, rfl⟩ := hrel
    go_wp2_with (go_at_call 112; refine (HI.out _).mono ?_; rintro e w1 ⟨rfl, rfl⟩)
    exact bodyPost_ret (results_none (by rfl) _ _ _) rfl ⟨rfl, rfl⟩
set_option maxRecDepth 100000 in
theorem sort_none (w : World) : Calls Tryz.prog 62 #[.slice none 0 0] w fun e w' => e = .returned (.tuple #[]) ∧ Chg [] w w' := by
  have HL := hid lenb_calls
  have HP := hid pdq_none
  go_enter Tryz.func62, Tryz.ntmps62
  go_wp2_with (first
    | (go_at_call 100; refine (HL.out _).mono ?_; rintro e w1 ⟨rfl, rfl⟩)
    | (go_at_call 99; refine (HP.out _ _).mono ?_; rintro e w2 ⟨rfl, rfl⟩))
  go_end0
  exact ⟨rfl, Chg.refl _ _⟩
theorem sort_calls {w : World} {a : Option Addr} {m c : Nat} {r : Option Nat} {C : List Int} (hr : Row w 3 1 (.slice a m c) r m (C.map intV)) (hm : m ≤ 1073741824) :
    Calls Tryz.prog 62 #[.slice a m c] w fun e w' => e = .returned (.tuple #[]) ∧ Chg r.toList w w' ∧ Row w' 3 1 (.slice a m c) r m ((C.mergeSort fun x y => decide (x ≤ y)).map intV) := by
  have hlen : C.length = m := by have := hr.len; simpa using this
  rcases hr.form with ⟨h1, h2, h3, rfl⟩ | ⟨g, cap, cur, h1, rfl, hnc, hcm, hg, hcs, ht⟩
  · simp only [Value.slice.injEq] at h1
    obtain ⟨rfl, rfl, rfl⟩ := h1
    obtain rfl : C = [] := by simpa using h3
    refine (sort_none w).mono ?_
    rintro e w' ⟨rfl, hc⟩
    exact ⟨rfl, hc, by rw [List.mergeSort_nil]; exact Row.nil _ _ _⟩
  · simp only [Value.slice.injEq, true_and] at h1
    obtain ⟨rfl, rfl⟩ := h1
    have hgl : g < w.heap.size := (Array.getElem?_eq_some_iff.1 hg).1
    have hcell := (Row.cellk hr).1
    have hH : Holds (Value.int .i64) w g 0 C.toArray := fun j hj => by
      have hj' : j < C.length := by simpa using hj
      refine ⟨?_, by simp [World.frozen?, hg]⟩
      rw [Nat.zero_add, hcell j (by omega), List.getD_eq_getElem?_getD, List.getElem?_map, List.getElem?_eq_getElem hj']
      simp [intV, hj']
    have h := Tryz.slices_Sort_int g 0 c C w hH hgl (by omega)
    rw [hlen] at h
    refine h.mono ?_
    rintro e w' ⟨rfl, n, os, rfl⟩
    obtain ⟨T, hT⟩ : ∃ T, (C.mergeSort fun x y => decide (x ≤ y)) = T := ⟨_, rfl⟩
    have hTl : T.length = m := by rw [← hT, List.length_mergeSort, hlen]
    rw [hT]
    have hold : ∀ i, i < w.heap.size → i ≠ g → (grow (putRow (Value.int .i64) (Sort.ahead w n) g 0 T.toArray) os).heap[i]? = w.heap[i]? := fun i hi hne => by
      rw [heap_grow_old _ _ (by simpa using hi)]
      have : g ≠ i := fun e => hne e.symm
      simp [putRow, mapBlock, Sort.ahead, Array.getElem?_modify, this]
    have hnew : (grow (putRow (Value.int .i64) (Sort.ahead w n) g 0 T.toArray) os).heap[g]? = some (.cells (putCells (Value.int .i64) 0 T.toArray cur) 3 (0, 0)) := by
      rw [heap_grow_old _ _ (by simpa using hgl)]
      simp [putRow, mapBlock, Sort.ahead, Array.getElem?_modify, hg, onCells]
    refine ⟨rfl, ⟨rfl, rfl, rfl, by simp, fun i hi hn => hold i hi (fun e => hn (by simp [e]))⟩, ⟨⟨by simp [hTl], .inr ⟨g, c, _, rfl, Nat.zero_le _, hnew, hnc, hcm, by simp [putCells, hcs], ?_⟩⟩, rfl⟩⟩
    rw [Nat.mul_one]
    apply List.ext_getElem?
    intro j
    by_cases hj : j < m
    · rw [List.getElem?_take_of_lt hj, Array.getElem?_toList]
      simp [putCells, hTl, hj, show j < cur.size by omega, intV]
    · rw [List.getElem?_take_eq_none (by omega), List.getElem?_eq_none (by simp; omega)]
end Go.Proofs.YtbghkodcfedebaaGreatDoor
