/- Walks of the builder's laws: the small unit. -/
import Derived.Test.YtaknmhipaifdkaaDoorOk
set_option linter.unusedSimpArgs false
set_option linter.unusedVariables false
set_option linter.unusedSectionVars false
namespace Go.AB
open Go.RowKit
theorem alloc5 (w : World) (a b c d e : Obj) : ((((((w.alloc a).alloc b).alloc c).alloc d).alloc e).heap[w.heap.size]? = some a) ∧ ((((((w.alloc a).alloc b).alloc c).alloc d).alloc e).heap[w.heap.size + 1 + 1]? = some c) ∧
    ((((((w.alloc a).alloc b).alloc c).alloc d).alloc e).heap[w.heap.size + 1 + 1 + 1]? = some d) ∧ ((((((w.alloc a).alloc b).alloc c).alloc d).alloc e).heap[w.heap.size + 1 + 1 + 1 + 1]? = some e) := by
  have h2 := heap_alloc_new ((w.alloc a).alloc b) c
  have h3 := heap_alloc_new (((w.alloc a).alloc b).alloc c) d
  have h4 := heap_alloc_new ((((w.alloc a).alloc b).alloc c).alloc d) e
  simp only [World.size_alloc] at h2 h3 h4
  exact ⟨blk_alloc_old (blk_alloc_old (blk_alloc_old (blk_alloc_old (heap_alloc_new w a) _) _) _) _, blk_alloc_old (blk_alloc_old h2 _) _, blk_alloc_old h3 _, h4⟩
theorem View.ofblk {w : World} {b k n : Nat} {cs : List Value} {t : TypeId} {fr : Nat × Nat} (h : w.heap[b]? = some (.cells cs.toArray t fr)) (hl : cs.length = n * k) (hn : n ≤ maxLen) : View w k (.slice (some ⟨b, 0, none⟩) n n) n cs := by
  refine ⟨hl, hn, _, _, rfl, Nat.le_refl _, hn, (fun e => by cases e), fun h0 => ⟨b, 0, rfl, fun j hj => ?_⟩⟩
  have hj' : j < cs.length := by omega
  rw [Nat.zero_add, blk_cell h]
  simp [List.getD, hj']
end Go.AB
namespace Go.Proofs.YtaknmhipaifdkaaDoor
open Go.RowKit Go.AB
set_option linter.unusedSimpArgs false
set_option linter.unusedVariables false
set_option linter.unusedSectionVars false

def itS (op a : Int) (nm : ByteArray) : ItD := ⟨op, a, 0, 0, 0, nm, 2, 8, 2, 8⟩
def smallI : List ItD := [itS 0 0 ⟨#[97]⟩, itS 11 2 ⟨#[120]⟩, itS 8 0 ⟨#[97]⟩]
def smallB (nm : ByteArray) : BkD := ⟨nm, smallI, 2, 8⟩
def smallU (nm : ByteArray) : UnD := ⟨[⟨1, ⟨#[120]⟩, 5, 1, 5⟩], [smallB nm]⟩
/-- The small unit in memory. -/
structure SmV (w0 w : World) (nm : ByteArray) (d i t : Nat) : Prop where
  hd : w.heap[d]? = some (.cells #[.int .i64 1, .string ⟨#[120]⟩, .int .i64 5, .int .i64 1, .int .i64 5] 72 (0, 0))
  hi : w.heap[i]? = some (.cells (smallI.flatMap itC).toArray 82 (0, 0))
  ht : w.heap[t]? = some (.cells #[.string nm, .slice (some ⟨i, 0, none⟩) 3 3, .int .i64 2, .int .i64 8] 56 (0, 0))
  ge : w0.heap.size ≤ d ∧ w0.heap.size ≤ i ∧ w0.heap.size ≤ t ∧ d ≠ t ∧ i ≠ t
def smV (d t : Nat) : Value := .agg #[.slice (some ⟨d, 0, none⟩) 1 1, .slice (some ⟨t, 0, none⟩) 1 1]
theorem SmV.keep {w0 w w' : World} {nm : ByteArray} {d i t : Nat} (h : SmV w0 w nm d i t) (hc : Chg [] w w') : SmV w0 w' nm d i t :=
  ⟨hc.heap h.hd (by simp), hc.heap h.hi (by simp), hc.heap h.ht (by simp), h.ge⟩
theorem SmV.unV {w0 w : World} {nm : ByteArray} {d i t : Nat} (h : SmV w0 w nm d i t) : UnV w (smV d t) (smallU nm) := by
  refine ⟨_, _, [⟨smallB nm, .slice (some ⟨i, 0, none⟩) 3 3⟩], rfl, ?_, ?_, rfl, fun x hx => ?_⟩
  · exact View.ofblk (cs := [.int .i64 1, .string ⟨#[120]⟩, .int .i64 5, .int .i64 1, .int .i64 5]) (n := 1) (k := 5) h.hd rfl (by simp [maxLen])
  · exact View.ofblk (cs := [.string nm, .slice (some ⟨i, 0, none⟩) 3 3, .int .i64 2, .int .i64 8]) (n := 1) (k := 4) h.ht rfl (by simp [maxLen])
  · simp only [List.mem_singleton] at hx
    subst hx
    exact View.ofblk (n := 3) (k := 10) h.hi rfl (by simp [maxLen])
theorem smallU_small (nm : ByteArray) (h : nm.size ≤ 4294967296) : SmallU (smallU nm) := by
  refine ⟨by simp [smallU], by simp [smallU], fun d hd => ?_, fun k hk => ?_⟩
  · simp only [smallU, List.mem_singleton] at hd
    subst hd
    decide
  · simp only [smallU, List.mem_singleton] at hk
    subst hk
    refine ⟨h, by simp [smallB, smallI], fun x hx => ?_⟩
    simp only [smallB, smallI, List.mem_cons, List.not_mem_nil, or_false] at hx
    rcases hx with rfl | rfl | rfl <;> (simp only [itS]; decide)
theorem small_ways : waysD smallI = .ok [(⟨#[97]⟩, 0)] := by kernel_rfl
theorem small_good : progD (smallU ⟨#[116]⟩) = .ok ⟨[⟨⟨#[120]⟩, 5⟩], [], [], [], [⟨⟨#[116]⟩, [⟨11, 2, 0, 0, 0⟩, ⟨8, 0, 0, 0, 0⟩], [⟨2, 8⟩, ⟨2, 8⟩]⟩]⟩ := by kernel_rfl
theorem small_bad : progD (smallU ⟨#[120]⟩) = .error ⟨90, 2, 8⟩ := by kernel_rfl

set_option maxHeartbeats 4000000 in
set_option maxRecDepth 100000 in
theorem small_calls (w : World) : Calls Tryd.prog 14 #[] w fun e w' => ∃ d i t, e = .returned (smV d t) ∧ SmV w w' ⟨#[116]⟩ d i t ∧ Chg [] w w' := by
  go_enter Tryd.func14, Tryd.ntmps14
  go_wp2
  have h5 := alloc5 w (.cells #[.slice (some ⟨w.heap.size + 1 + 1, 0, none⟩) 1 1, .slice (some ⟨w.heap.size + 1 + 1 + 1 + 1, 0, none⟩) 1 1] 25) (.cells #[.int .i64 2, .int .i64 8] 35) (.cells #[.int .i64 1, .string ⟨#[120]⟩, .int .i64 5, .int .i64 1, .int .i64 5] 72) (.cells (smallI.flatMap itC).toArray 82) (.cells #[.string ⟨#[116]⟩, .slice (some ⟨w.heap.size + 1 + 1 + 1, 0, none⟩) 3 3, .int .i64 2, .int .i64 8] 56)
  have hc : Chg [] w (((((w.alloc (.cells #[.slice (some ⟨w.heap.size + 1 + 1, 0, none⟩) 1 1, .slice (some ⟨w.heap.size + 1 + 1 + 1 + 1, 0, none⟩) 1 1] 25)).alloc (.cells #[.int .i64 2, .int .i64 8] 35)).alloc (.cells #[.int .i64 1, .string ⟨#[120]⟩, .int .i64 5, .int .i64 1, .int .i64 5] 72)).alloc (.cells (smallI.flatMap itC).toArray 82)).alloc (.cells #[.string ⟨#[116]⟩, .slice (some ⟨w.heap.size + 1 + 1 + 1, 0, none⟩) 3 3, .int .i64 2, .int .i64 8] 56)) := (((((Chg.refl [] w).alloc _).alloc _).alloc _).alloc _).alloc _
  obtain ⟨W, hW⟩ : ∃ W, (((((w.alloc (.cells #[.slice (some ⟨w.heap.size + 1 + 1, 0, none⟩) 1 1, .slice (some ⟨w.heap.size + 1 + 1 + 1 + 1, 0, none⟩) 1 1] 25)).alloc (.cells #[.int .i64 2, .int .i64 8] 35)).alloc (.cells #[.int .i64 1, .string ⟨#[120]⟩, .int .i64 5, .int .i64 1, .int .i64 5] 72)).alloc (.cells (smallI.flatMap itC).toArray 82)).alloc (.cells #[.string ⟨#[116]⟩, .slice (some ⟨w.heap.size + 1 + 1 + 1, 0, none⟩) 3 3, .int .i64 2, .int .i64 8] 56)) = W := ⟨_, rfl⟩
  rw [hW] at h5 hc
  have hW2 : _ = W := hW
  simp only [smallI, itS, itC, List.flatMap_cons, List.flatMap_nil, List.append_nil, List.cons_append, List.nil_append] at hW2
  rw [hW2]
  obtain ⟨a0, a2, a3, a4⟩ := h5
  have c0 : W.cell? ⟨w.heap.size, 0, none⟩ = some (.slice (some ⟨w.heap.size + 1 + 1, 0, none⟩) 1 1) := blk_cell a0 0
  have c1 : W.cell? ⟨w.heap.size, 1, none⟩ = some (.slice (some ⟨w.heap.size + 1 + 1 + 1 + 1, 0, none⟩) 1 1) := blk_cell a0 1
  exact bodyPost_ret (v := smV (w.heap.size + 1 + 1) (w.heap.size + 1 + 1 + 1 + 1)) (by simp [results, Tryd.results14, go_sem, c0, c1, smV]) rfl ⟨_, _, _, rfl, ⟨a2, a3, a4, by omega⟩, hc⟩
end Go.Proofs.YtaknmhipaifdkaaDoor
