/- Walks of the library's reading of a number: without a sign, to the base 10. -/
import Derived.Test.YtngpfoddeebbmaaDoorEq
import Derived.Test.YtngpfoddeebbmaaDoorEj
import Derived.Lib.Strings
import Derived.Lib.Walk
import Derived.Lib.ConvBytes
import Derived.Lib.AtoiAllMem
import Derived.Lib.BufferWrite
import Derived.Lib.UnsafeStr
import Derived.Lib.IfaceEq
import Derived.Laws.MakeOwn
import Derived.Laws.Strings3
import Derived.Laws.Closers25
import Derived.Laws.Closers25b
import Derived.BigCall
import Derived.BigGuard
namespace Go.Proofs.YtngpfoddeebbmaaDoor
open Go.RowKit Go.AB
set_option linter.unusedSimpArgs false
set_option linter.unusedVariables false

theorem lower_calls (x : Int) (w : World) : Calls Tryd.prog 54 #[.int .u8 x] w fun e w' => e = .returned (.int .u8 (bits .or .u8 x 32)) ∧ w = w' := by
  go_enter Tryd.func54, Tryd.ntmps54
  go_wp2
  go_ret
  exact ⟨rfl, rfl⟩

set_option maxHeartbeats 4000000 in
set_option maxRecDepth 100000 in
theorem clone_calls (s : ByteArray) (w : World) (hlim : s.size ≤ 1048576) :
    Calls Tryd.prog 69 #[.string s] w fun e w' => e = .returned (.string s) ∧ Chg [] w w' := by
  by_cases h0 : s.size = 0
  · have hs : s = ⟨#[]⟩ := by
      apply ByteArray.ext
      exact Array.eq_empty_of_size_eq_zero h0
    subst hs
    go_enter Tryd.func69, Tryd.ntmps69
    go_wp2
    go_ret
    exact ⟨rfl, Chg.refl _ _⟩
  · have i5 : (Tryd.prog.info? 5).map (fun i => (i.zero, i.size, i.bytes)) = some (some (.int .u8 0), 1, 1) := by kernel_rfl
    obtain ⟨i0, hi, hz0, hz1, hz2⟩ := info_parts i5
    have hinfo : (Tryd.prog.info? 5).map (·.size) = some 1 := by rw [hi]; simp [hz1]
    have hco : Tryd.prog.cellsOf 5 = 1 := by simp [Program.cellsOf, hi, hz1]
    obtain ⟨M, hM⟩ : ∃ M, M = madeCells (Value.int .u8 0).cells (((s.size : Nat) : Int).toNat * i0.size) := ⟨_, rfl⟩
    have hMs : M.size = s.size := by rw [hM, size_madeCells, hz1]; simp
    have hmk : ∀ W : World, (Instr.makeSlice 50 (.int .i64 (s.size : Int)) (.int .i64 (s.size : Int))).run Tryd.prog W = .ok (.slice (some ⟨W.heap.size, 0, none⟩) s.size s.size) (W.alloc (.cells M 5)) := fun W => by
      have h := run_make (P := Tryd.prog) W 50 5 i0 (.int .u8 0) Tryd.underlying50 hi hz0 .i64 .i64 (s.size : Int) (s.size : Int) (by omega) (by omega) (by rw [hz2]; omega) (by omega)
      rw [← hM] at h
      simpa using h
    clear hM
    have hcp := Lib.run_copy_row_string (P := Tryd.prog) (w.alloc (.cells M 5)) 50 9 3 5 w.heap.size 0 s.size s.size s M 5 Tryd.underlying50 hinfo (heap_alloc_new w _) (Nat.le_refl _) (by omega)
    obtain ⟨Y, hY⟩ : ∃ Y, Y = (M.toList.take 0 ++ Lib.byteCells s.data.toList ++ M.toList.drop (0 + s.size)).toArray := ⟨_, rfl⟩
    rw [← hY] at hcp
    have hYl : Y.toList = Lib.byteCells s.data.toList := by
      rw [hY, List.toList_toArray, List.take_zero, List.nil_append, List.drop_of_length_le (by rw [Array.length_toList]; omega), List.append_nil]
    have hYs : Y.size = s.size := by rw [← Array.length_toList, hYl, Lib.byteCells_length, ← Lib.size_eq]
    have hgY : ((w.alloc (.cells M 5)).setRow w.heap.size Y).heap[w.heap.size]? = some (.cells Y 5 (0, 0)) := setRow_heap _ _ M _ 5 (0, 0) (heap_alloc_new w _)
    have hne : s.data.toList ≠ [] := fun e => h0 (by rw [Lib.size_eq, e]; rfl)
    have hUS := Lib.run_unsafeString_row (P := Tryd.prog) ((w.alloc (.cells M 5)).setRow w.heap.size Y) 100 3 9 5 Tryd.underlying100 hco w.heap.size Y.size (by unfold World.shape?; rw [hgY]) s.data.toList hne (by rw [← Lib.size_eq]; omega) (by rw [← Lib.size_eq]; omega)
      (fun j x hx => Lib.cells_of_row hgY Y.size j _ (by rw [List.take_of_length_le (by rw [Array.length_toList]; exact Nat.le_refl _), hYl]; simp [Lib.byteCells, hx]))
    rw [← Lib.size_eq] at hUS
    clear hY
    go_enter Tryd.func69, Tryd.ntmps69
    go_wp2
    go_ret
    have hb1 : Below w.heap.size w (w.alloc (.cells M 5)) := (Below.refl _ w).alloc (Nat.le_refl _) _
    have hb2 : Below w.heap.size (w.alloc (.cells M 5)) ((w.alloc (.cells M 5)).setRow w.heap.size Y) := ⟨rfl, rfl, rfl, by simp, fun k hk => setRow_other _ _ _ _ (by omega)⟩
    exact ⟨rfl, Chg.of_below (Lib.below_freeze (hb1.trans hb2) (p := ⟨w.heap.size, 0, none⟩) (Nat.le_refl _) _) _⟩

/-- The library's two errors lie in their variables. -/
def ErrAt (g : Nat) (w : World) : Prop := ∃ te pe, w.cell? ⟨g, 0, none⟩ = some (.iface te pe)
theorem ErrAt.keep {g : Nat} {w w' : World} (h : ErrAt g w) (hc : Chg [] w w') : ErrAt g w' := by
  obtain ⟨te, pe, h⟩ := h
  exact ⟨te, pe, hc.cell h (by simp)⟩

set_option maxHeartbeats 4000000 in
set_option maxRecDepth 100000 in
theorem syntax_calls (fn s : ByteArray) (w : World) (hlim : s.size ≤ 1048576) (hg : ErrAt 2 w) :
    Calls Tryd.prog 56 #[.string fn, .string s] w fun e w' => (∃ N, e = .returned (.pointer (some ⟨N, 0, none⟩))) ∧ Chg [] w w' := by
  obtain ⟨te, pe, hv⟩ := hg
  have hvd : w.drew.cell? ⟨2, 0, none⟩ = some _ := hv
  have u95 := run_underlying Tryd.underlying95
  go_enter Tryd.func56, Tryd.ntmps56
  go_wp2
  go_region_with (
      go_at_call 69
      refine (clone_calls s _ hlim).mono ?_
      rintro e w2 ⟨rfl, hc⟩
      have hv2 := hc.cell hvd (by simp))
  all_goals (
    go_wp2
    go_ret
    exact ⟨⟨_, rfl⟩, ((Chg.refl [] w).drew.trans' hc).alloc _⟩)
set_option maxHeartbeats 4000000 in
set_option maxRecDepth 100000 in
theorem range_calls (fn s : ByteArray) (w : World) (hlim : s.size ≤ 1048576) (hg : ErrAt 3 w) :
    Calls Tryd.prog 57 #[.string fn, .string s] w fun e w' => (∃ N, e = .returned (.pointer (some ⟨N, 0, none⟩))) ∧ Chg [] w w' := by
  obtain ⟨te, pe, hv⟩ := hg
  have hvd : w.drew.cell? ⟨3, 0, none⟩ = some _ := hv
  have u95 := run_underlying Tryd.underlying95
  go_enter Tryd.func57, Tryd.ntmps57
  go_wp2
  go_region_with (
      go_at_call 69
      refine (clone_calls s _ hlim).mono ?_
      rintro e w2 ⟨rfl, hc⟩
      have hv2 := hc.cell hvd (by simp))
  all_goals (
    go_wp2
    go_ret
    exact ⟨⟨_, rfl⟩, ((Chg.refl [] w).drew.trans' hc).alloc _⟩)
theorem comp_err : (Tryd.prog.info? 80).map (·.comparable) = some true := by kernel_rfl
theorem eq_err (a b : Int) : ∀ W, (binOp .eql 68 (.iface 80 (.int .i64 a)) (.iface 80 (.int .i64 b))).run Tryd.prog W = .ok (.bool (a == b)) W := fun W => Lib.run_eql_iface_int W a b Tryd.underlying68 comp_err Tryd.underlying80
set_option maxHeartbeats 4000000 in
set_option maxRecDepth 100000 in
theorem toError_calls (r : Int) (hr : r = 1 ∨ r = 2) (fn s : ByteArray) (b c : Int) (w : World) (hlim : s.size ≤ 1048576) (hg : ErrAt 2 w) (hg2 : ErrAt 3 w) :
    Calls Tryd.prog 47 #[.string fn, .string s, .int .i64 b, .int .i64 c, .iface 80 (.int .i64 r)] w fun e w' => (∃ t p, e = .returned (.iface t p)) ∧ Chg [] w w' := by
  have hs := syntax_calls fn s w hlim hg
  have hq := range_calls fn s w hlim hg2
  have HS := hid hs
  have HQ := hid hq
  clear hs hq hg hg2
  rcases hr with rfl | rfl
  · have h1 : ∀ W, (binOp .eql 68 (.iface 80 (.int .i64 1)) (.iface 80 (.int .i64 2))).run Tryd.prog W = .ok (.bool false) W := eq_err 1 2
    have h2 : ∀ W, (binOp .eql 68 (.iface 80 (.int .i64 1)) (.iface 80 (.int .i64 1))).run Tryd.prog W = .ok (.bool true) W := eq_err 1 1
    go_enter Tryd.func47, Tryd.ntmps47
    go_wp2_with (go_at_call 57; refine HQ.out.mono ?_; rintro e w' ⟨⟨N, rfl⟩, hc⟩)
    go_ret
    exact ⟨⟨_, _, rfl⟩, hc⟩
  · have h2 : ∀ W, (binOp .eql 68 (.iface 80 (.int .i64 2)) (.iface 80 (.int .i64 2))).run Tryd.prog W = .ok (.bool true) W := eq_err 2 2
    go_enter Tryd.func47, Tryd.ntmps47
    go_wp2_with (go_at_call 56; refine HS.out.mono ?_; rintro e w' ⟨⟨N, rfl⟩, hc⟩)
    go_ret
    exact ⟨⟨_, _, rfl⟩, hc⟩
end Go.Proofs.YtngpfoddeebbmaaDoor
