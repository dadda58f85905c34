/- Walks of the parser: an operation's word and form. (Printed by gen_pform.py.) -/
import Derived.Test.YtmahcabidggmeaaGreatDoorVpa
import Derived.Test.YtmahcabidggmeaaGreatDoorRows
import Derived.Deep.QuietTactic
import Derived.BigQuiet
import Derived.Deep.LoopGhost
import Derived.Deep.DeepCutAuto
import Derived.Laws.Tables
set_option linter.unusedVariables false
set_option linter.unusedSectionVars false
set_option linter.unusedSimpArgs false
namespace Go.Proofs.YtmahcabidggmeaaGreatDoor
open Go.RowKit Go.AB
def FormP (op : Int) (w : World) (e : Ending) (w' : World) : Prop := e = .returned (.tuple #[.string (bA (wordAt op)), .string (bA (formAt op))]) ∧ Chg [] w w'
def wordsA : Array Value := ((⟨#[]⟩ : ByteArray) :: opTab.map (fun p => bA p.1)).map Value.string |>.toArray
/-- The table of words is laid. -/
theorem wpList_words {P : Program} {ops : Array Oper} {rest : List Oper} {o : Oper} {a : Act} {Q : Exit → Act → World → Prop} (w : World) (hgd : o.guard = none) (T : TypeId) (x y : Operand) (ho : o.op = .store T x y) (hx : a.eval x = .pointer (some ⟨w.heap.size, 0, none⟩)) (hy : a.eval y = .agg wordsA)
    (hi : (P.info? T).map (·.size) = some wordsA.size) (old : Array Value) (hold : old.size = wordsA.size)
    (h : ∀ W, Chg [] w W → (∀ i : Nat, W.cell? ⟨w.heap.size, i, none⟩ = wordsA[i]?) → wpList P ops Q rest (a.put o.dst undef) W) : wpList P ops Q (o :: rest) a (w.alloc (.cells old T)) := by
  refine wpList_store_row hgd T x y ho w.heap.size wordsA hx hy T old (heap_alloc_new w _) hi hold (by decide +kernel) ?_
  refine h _ ?_ (fun i => cell_setRow_same _ _ _ old wordsA T (0, 0) (heap_alloc_new w _))
  have h1 := (Chg.refl [] w).alloc (.cells old T)
  refine h1.trans (T := [w.heap.size]) ⟨rfl, rfl, rfl, by simp, fun k _ hk => setRow_other _ _ _ _ (by simpa using hk)⟩ (fun z hz => by simp only [List.mem_singleton] at hz; subst hz; exact .inr (Nat.le_refl _))
set_option maxHeartbeats 16000000 in
set_option maxRecDepth 100000 in
theorem form_out (op : Int) (h : op < 1 ∨ 20 < op) (w : World) : Calls Tryz.prog 72 #[.int .i64 op] w (FormP op w) := by
  rcases h with h1 | h2
  · have e1 : bA (wordAt op) = ⟨#[]⟩ := by unfold wordAt; rw [if_pos h1]; rfl
    have e2 : bA (formAt op) = ⟨#[]⟩ := by unfold formAt; rw [if_pos h1]; rfl
    unfold FormP
    rw [e1, e2]
    go_enter Tryz.func72, Tryz.ntmps72
    go_wp2_with (refine wpList_words w rfl 139 (.tmp 4) (.tmp 6) rfl rfl rfl (by kernel_rfl) _ rfl (fun W hC hcl => ?_))
    go_ret2
    exact ⟨rfl, hC⟩
  · have h1 : ¬ op < 1 := by omega
    have e0 : ¬ (op - 1).toNat < 20 := by omega
    have e1 : bA (wordAt op) = ⟨#[]⟩ := by
      unfold wordAt
      rw [if_neg h1, List.getElem?_eq_none (by show 20 ≤ _; omega)]
      rfl
    have e2 : bA (formAt op) = ⟨#[]⟩ := by
      unfold formAt
      rw [if_neg h1, List.getElem?_eq_none (by show 20 ≤ _; omega)]
      rfl
    unfold FormP
    rw [e1, e2]
    go_enter Tryz.func72, Tryz.ntmps72
    go_wp2_with (refine wpList_words w rfl 139 (.tmp 4) (.tmp 6) rfl rfl rfl (by kernel_rfl) _ rfl (fun W hC hcl => ?_))
    go_ret2
    exact ⟨rfl, hC⟩
set_option maxHeartbeats 16000000 in
set_option maxRecDepth 100000 in
theorem form_1 (w : World) : Calls Tryz.prog 72 #[.int .i64 1] w (FormP 1 w) := by
  go_enter Tryz.func72, Tryz.ntmps72
  go_wp2_with (refine wpList_words w rfl 139 (.tmp 4) (.tmp 6) rfl rfl rfl (by kernel_rfl) _ rfl (fun W hC hcl => ?_); have hw : W.cell? ⟨w.heap.size, 1, none⟩ = some (.string (bA (wordAt 1))) := hcl 1; clear hcl)
  go_ret2
  exact ⟨rfl, hC⟩
set_option maxHeartbeats 16000000 in
set_option maxRecDepth 100000 in
theorem form_2 (w : World) : Calls Tryz.prog 72 #[.int .i64 2] w (FormP 2 w) := by
  go_enter Tryz.func72, Tryz.ntmps72
  go_wp2_with (refine wpList_words w rfl 139 (.tmp 4) (.tmp 6) rfl rfl rfl (by kernel_rfl) _ rfl (fun W hC hcl => ?_); have hw : W.cell? ⟨w.heap.size, 2, none⟩ = some (.string (bA (wordAt 2))) := hcl 2; clear hcl)
  go_ret2
  exact ⟨rfl, hC⟩
set_option maxHeartbeats 16000000 in
set_option maxRecDepth 100000 in
theorem form_3 (w : World) : Calls Tryz.prog 72 #[.int .i64 3] w (FormP 3 w) := by
  go_enter Tryz.func72, Tryz.ntmps72
  go_wp2_with (refine wpList_words w rfl 139 (.tmp 4) (.tmp 6) rfl rfl rfl (by kernel_rfl) _ rfl (fun W hC hcl => ?_); have hw : W.cell? ⟨w.heap.size, 3, none⟩ = some (.string (bA (wordAt 3))) := hcl 3; clear hcl)
  go_ret2
  exact ⟨rfl, hC⟩
set_option maxHeartbeats 16000000 in
set_option maxRecDepth 100000 in
theorem form_4 (w : World) : Calls Tryz.prog 72 #[.int .i64 4] w (FormP 4 w) := by
  go_enter Tryz.func72, Tryz.ntmps72
  go_wp2_with (refine wpList_words w rfl 139 (.tmp 4) (.tmp 6) rfl rfl rfl (by kernel_rfl) _ rfl (fun W hC hcl => ?_); have hw : W.cell? ⟨w.heap.size, 4, none⟩ = some (.string (bA (wordAt 4))) := hcl 4; clear hcl)
  go_ret2
  exact ⟨rfl, hC⟩
set_option maxHeartbeats 16000000 in
set_option maxRecDepth 100000 in
theorem form_5 (w : World) : Calls Tryz.prog 72 #[.int .i64 5] w (FormP 5 w) := by
  go_enter Tryz.func72, Tryz.ntmps72
  go_wp2_with (refine wpList_words w rfl 139 (.tmp 4) (.tmp 6) rfl rfl rfl (by kernel_rfl) _ rfl (fun W hC hcl => ?_); have hw : W.cell? ⟨w.heap.size, 5, none⟩ = some (.string (bA (wordAt 5))) := hcl 5; clear hcl)
  go_ret2
  exact ⟨rfl, hC⟩
set_option maxHeartbeats 16000000 in
set_option maxRecDepth 100000 in
theorem form_6 (w : World) : Calls Tryz.prog 72 #[.int .i64 6] w (FormP 6 w) := by
  go_enter Tryz.func72, Tryz.ntmps72
  go_wp2_with (refine wpList_words w rfl 139 (.tmp 4) (.tmp 6) rfl rfl rfl (by kernel_rfl) _ rfl (fun W hC hcl => ?_); have hw : W.cell? ⟨w.heap.size, 6, none⟩ = some (.string (bA (wordAt 6))) := hcl 6; clear hcl)
  go_ret2
  exact ⟨rfl, hC⟩
set_option maxHeartbeats 16000000 in
set_option maxRecDepth 100000 in
theorem form_7 (w : World) : Calls Tryz.prog 72 #[.int .i64 7] w (FormP 7 w) := by
  go_enter Tryz.func72, Tryz.ntmps72
  go_wp2_with (refine wpList_words w rfl 139 (.tmp 4) (.tmp 6) rfl rfl rfl (by kernel_rfl) _ rfl (fun W hC hcl => ?_); have hw : W.cell? ⟨w.heap.size, 7, none⟩ = some (.string (bA (wordAt 7))) := hcl 7; clear hcl)
  go_ret2
  exact ⟨rfl, hC⟩
set_option maxHeartbeats 16000000 in
set_option maxRecDepth 100000 in
theorem form_8 (w : World) : Calls Tryz.prog 72 #[.int .i64 8] w (FormP 8 w) := by
  go_enter Tryz.func72, Tryz.ntmps72
  go_wp2_with (refine wpList_words w rfl 139 (.tmp 4) (.tmp 6) rfl rfl rfl (by kernel_rfl) _ rfl (fun W hC hcl => ?_); have hw : W.cell? ⟨w.heap.size, 8, none⟩ = some (.string (bA (wordAt 8))) := hcl 8; clear hcl)
  go_ret2
  exact ⟨rfl, hC⟩
set_option maxHeartbeats 16000000 in
set_option maxRecDepth 100000 in
theorem form_9 (w : World) : Calls Tryz.prog 72 #[.int .i64 9] w (FormP 9 w) := by
  go_enter Tryz.func72, Tryz.ntmps72
  go_wp2_with (refine wpList_words w rfl 139 (.tmp 4) (.tmp 6) rfl rfl rfl (by kernel_rfl) _ rfl (fun W hC hcl => ?_); have hw : W.cell? ⟨w.heap.size, 9, none⟩ = some (.string (bA (wordAt 9))) := hcl 9; clear hcl)
  go_ret2
  exact ⟨rfl, hC⟩
set_option maxHeartbeats 16000000 in
set_option maxRecDepth 100000 in
theorem form_10 (w : World) : Calls Tryz.prog 72 #[.int .i64 10] w (FormP 10 w) := by
  go_enter Tryz.func72, Tryz.ntmps72
  go_wp2_with (refine wpList_words w rfl 139 (.tmp 4) (.tmp 6) rfl rfl rfl (by kernel_rfl) _ rfl (fun W hC hcl => ?_); have hw : W.cell? ⟨w.heap.size, 10, none⟩ = some (.string (bA (wordAt 10))) := hcl 10; clear hcl)
  go_ret2
  exact ⟨rfl, hC⟩
set_option maxHeartbeats 16000000 in
set_option maxRecDepth 100000 in
theorem form_11 (w : World) : Calls Tryz.prog 72 #[.int .i64 11] w (FormP 11 w) := by
  go_enter Tryz.func72, Tryz.ntmps72
  go_wp2_with (refine wpList_words w rfl 139 (.tmp 4) (.tmp 6) rfl rfl rfl (by kernel_rfl) _ rfl (fun W hC hcl => ?_); have hw : W.cell? ⟨w.heap.size, 11, none⟩ = some (.string (bA (wordAt 11))) := hcl 11; clear hcl)
  go_ret2
  exact ⟨rfl, hC⟩
set_option maxHeartbeats 16000000 in
set_option maxRecDepth 100000 in
theorem form_12 (w : World) : Calls Tryz.prog 72 #[.int .i64 12] w (FormP 12 w) := by
  go_enter Tryz.func72, Tryz.ntmps72
  go_wp2_with (refine wpList_words w rfl 139 (.tmp 4) (.tmp 6) rfl rfl rfl (by kernel_rfl) _ rfl (fun W hC hcl => ?_); have hw : W.cell? ⟨w.heap.size, 12, none⟩ = some (.string (bA (wordAt 12))) := hcl 12; clear hcl)
  go_ret2
  exact ⟨rfl, hC⟩
set_option maxHeartbeats 16000000 in
set_option maxRecDepth 100000 in
theorem form_13 (w : World) : Calls Tryz.prog 72 #[.int .i64 13] w (FormP 13 w) := by
  go_enter Tryz.func72, Tryz.ntmps72
  go_wp2_with (refine wpList_words w rfl 139 (.tmp 4) (.tmp 6) rfl rfl rfl (by kernel_rfl) _ rfl (fun W hC hcl => ?_); have hw : W.cell? ⟨w.heap.size, 13, none⟩ = some (.string (bA (wordAt 13))) := hcl 13; clear hcl)
  go_ret2
  exact ⟨rfl, hC⟩
set_option maxHeartbeats 16000000 in
set_option maxRecDepth 100000 in
theorem form_14 (w : World) : Calls Tryz.prog 72 #[.int .i64 14] w (FormP 14 w) := by
  go_enter Tryz.func72, Tryz.ntmps72
  go_wp2_with (refine wpList_words w rfl 139 (.tmp 4) (.tmp 6) rfl rfl rfl (by kernel_rfl) _ rfl (fun W hC hcl => ?_); have hw : W.cell? ⟨w.heap.size, 14, none⟩ = some (.string (bA (wordAt 14))) := hcl 14; clear hcl)
  go_ret2
  exact ⟨rfl, hC⟩
set_option maxHeartbeats 16000000 in
set_option maxRecDepth 100000 in
theorem form_15 (w : World) : Calls Tryz.prog 72 #[.int .i64 15] w (FormP 15 w) := by
  go_enter Tryz.func72, Tryz.ntmps72
  go_wp2_with (refine wpList_words w rfl 139 (.tmp 4) (.tmp 6) rfl rfl rfl (by kernel_rfl) _ rfl (fun W hC hcl => ?_); have hw : W.cell? ⟨w.heap.size, 15, none⟩ = some (.string (bA (wordAt 15))) := hcl 15; clear hcl)
  go_ret2
  exact ⟨rfl, hC⟩
set_option maxHeartbeats 16000000 in
set_option maxRecDepth 100000 in
theorem form_16 (w : World) : Calls Tryz.prog 72 #[.int .i64 16] w (FormP 16 w) := by
  go_enter Tryz.func72, Tryz.ntmps72
  go_wp2_with (refine wpList_words w rfl 139 (.tmp 4) (.tmp 6) rfl rfl rfl (by kernel_rfl) _ rfl (fun W hC hcl => ?_); have hw : W.cell? ⟨w.heap.size, 16, none⟩ = some (.string (bA (wordAt 16))) := hcl 16; clear hcl)
  go_ret2
  exact ⟨rfl, hC⟩
set_option maxHeartbeats 16000000 in
set_option maxRecDepth 100000 in
theorem form_17 (w : World) : Calls Tryz.prog 72 #[.int .i64 17] w (FormP 17 w) := by
  go_enter Tryz.func72, Tryz.ntmps72
  go_wp2_with (refine wpList_words w rfl 139 (.tmp 4) (.tmp 6) rfl rfl rfl (by kernel_rfl) _ rfl (fun W hC hcl => ?_); have hw : W.cell? ⟨w.heap.size, 17, none⟩ = some (.string (bA (wordAt 17))) := hcl 17; clear hcl)
  go_ret2
  exact ⟨rfl, hC⟩
set_option maxHeartbeats 16000000 in
set_option maxRecDepth 100000 in
theorem form_18 (w : World) : Calls Tryz.prog 72 #[.int .i64 18] w (FormP 18 w) := by
  go_enter Tryz.func72, Tryz.ntmps72
  go_wp2_with (refine wpList_words w rfl 139 (.tmp 4) (.tmp 6) rfl rfl rfl (by kernel_rfl) _ rfl (fun W hC hcl => ?_); have hw : W.cell? ⟨w.heap.size, 18, none⟩ = some (.string (bA (wordAt 18))) := hcl 18; clear hcl)
  go_ret2
  exact ⟨rfl, hC⟩
set_option maxHeartbeats 16000000 in
set_option maxRecDepth 100000 in
theorem form_19 (w : World) : Calls Tryz.prog 72 #[.int .i64 19] w (FormP 19 w) := by
  go_enter Tryz.func72, Tryz.ntmps72
  go_wp2_with (refine wpList_words w rfl 139 (.tmp 4) (.tmp 6) rfl rfl rfl (by kernel_rfl) _ rfl (fun W hC hcl => ?_); have hw : W.cell? ⟨w.heap.size, 19, none⟩ = some (.string (bA (wordAt 19))) := hcl 19; clear hcl)
  go_ret2
  exact ⟨rfl, hC⟩
set_option maxHeartbeats 16000000 in
set_option maxRecDepth 100000 in
theorem form_20 (w : World) : Calls Tryz.prog 72 #[.int .i64 20] w (FormP 20 w) := by
  go_enter Tryz.func72, Tryz.ntmps72
  go_wp2_with (refine wpList_words w rfl 139 (.tmp 4) (.tmp 6) rfl rfl rfl (by kernel_rfl) _ rfl (fun W hC hcl => ?_); have hw : W.cell? ⟨w.heap.size, 20, none⟩ = some (.string (bA (wordAt 20))) := hcl 20; clear hcl)
  go_ret2
  exact ⟨rfl, hC⟩
theorem form_calls (op : Int) (w : World) : Calls Tryz.prog 72 #[.int .i64 op] w (FormP op w) := by
  by_cases h : op < 1 ∨ 20 < op
  · exact form_out op h w
  have hcs : op = 1 ∨ op = 2 ∨ op = 3 ∨ op = 4 ∨ op = 5 ∨ op = 6 ∨ op = 7 ∨ op = 8 ∨ op = 9 ∨ op = 10 ∨ op = 11 ∨ op = 12 ∨ op = 13 ∨ op = 14 ∨ op = 15 ∨ op = 16 ∨ op = 17 ∨ op = 18 ∨ op = 19 ∨ op = 20 := by omega
  rcases hcs with rfl | rfl | rfl | rfl | rfl | rfl | rfl | rfl | rfl | rfl | rfl | rfl | rfl | rfl | rfl | rfl | rfl | rfl | rfl | rfl
  · exact form_1 w
  · exact form_2 w
  · exact form_3 w
  · exact form_4 w
  · exact form_5 w
  · exact form_6 w
  · exact form_7 w
  · exact form_8 w
  · exact form_9 w
  · exact form_10 w
  · exact form_11 w
  · exact form_12 w
  · exact form_13 w
  · exact form_14 w
  · exact form_15 w
  · exact form_16 w
  · exact form_17 w
  · exact form_18 w
  · exact form_19 w
  · exact form_20 w
end Go.Proofs.YtmahcabidggmeaaGreatDoor
