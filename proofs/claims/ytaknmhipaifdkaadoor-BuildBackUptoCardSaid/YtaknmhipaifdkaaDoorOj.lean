/- Walks of the builder: what Program defers; Program. -/
import Derived.Test.YtaknmhipaifdkaaDoorOi
import Derived.Defers
import Derived.Recover
import Derived.Laws.Pointers
set_option linter.unusedVariables false
set_option linter.unusedSectionVars false
namespace Go.Proofs.YtaknmhipaifdkaaDoor
open Go.RowKit Go.AB
set_option linter.unusedSimpArgs false
set_option linter.unusedVariables false
set_option linter.unusedSectionVars false

theorem run_assert_struct {P : Program} {w : World} {t x : TypeId} {fs : Array Field} (h : P.underlying t = some (.struct fs)) (v : Value) : (Instr.typeAssert (.iface t v) x t true).run P w = .ok (.tuple #[v, .bool true]) w := by
  simp [Instr.typeAssert, run_underlying h]
def noPrg : Value := .agg #[.slice none 0 0, .slice none 0 0, .slice none 0 0, .slice none 0 0, .slice none 0 0]
/-- Behind the deferred call: a program that is none, and what was wrong. -/
def CaughtP (P : Nat) (f : Flt) (w w' : World) : Prop :=
  w'.heap[P]? = some (.cells #[.slice none 0 0, .slice none 0 0, .slice none 0 0, .slice none 0 0, .slice none 0 0] 32 (0, 0)) ∧ w'.heap[P + 1]? = some (.cells #[.int .i64 f.code, .int .i64 f.l, .int .i64 f.c] 37 (0, 0)) ∧ Chg [P, P + 1] w w'
theorem caught_cells (P : Nat) (c l k : Int) (v0 v1 v2 v3 v4 v5 v6 v7 : Value) (w : World) (h0 : w.heap[P]? = some (.cells #[v0, v1, v2, v3, v4] 32 (0, 0))) (h1 : w.heap[P + 1]? = some (.cells #[v5, v6, v7] 37 (0, 0))) : CaughtP P ⟨c, l, k⟩ w ((((((((w.setCell ⟨P, 0, none⟩ (.slice none 0 0)).setCell ⟨P, 1, none⟩ (.slice none 0 0)).setCell ⟨P, 2, none⟩ (.slice none 0 0)).setCell ⟨P, 3, none⟩ (.slice none 0 0)).setCell ⟨P, 4, none⟩ (.slice none 0 0)).setCell ⟨P + 1, 0, none⟩ (.int .i64 c)).setCell ⟨P + 1, 1, none⟩ (.int .i64 l)).setCell ⟨P + 1, 2, none⟩ (.int .i64 k)) :=
  ⟨((blk_set_other (b := P + 1) (c := P) (by omega) 2 (.int .i64 k)).trans ((blk_set_other (b := P + 1) (c := P) (by omega) 1 (.int .i64 l)).trans ((blk_set_other (b := P + 1) (c := P) (by omega) 0 (.int .i64 c)).trans (blk_set (blk_set (blk_set (blk_set (blk_set h0 0 (.slice none 0 0)) 1 (.slice none 0 0)) 2 (.slice none 0 0)) 3 (.slice none 0 0)) 4 (.slice none 0 0))))), (blk_set (blk_set (blk_set ((blk_set_other (b := P) (c := P + 1) (by omega) 4 (.slice none 0 0)).trans ((blk_set_other (b := P) (c := P + 1) (by omega) 3 (.slice none 0 0)).trans ((blk_set_other (b := P) (c := P + 1) (by omega) 2 (.slice none 0 0)).trans ((blk_set_other (b := P) (c := P + 1) (by omega) 1 (.slice none 0 0)).trans ((blk_set_other (b := P) (c := P + 1) (by omega) 0 (.slice none 0 0)).trans h1))))) 0 (.int .i64 c)) 1 (.int .i64 l)) 2 (.int .i64 k)), (((((((((Chg.refl [P, P + 1] w).setCell (p := ⟨P, 0, none⟩) (.inl (by simp)) (.slice none 0 0)).setCell (p := ⟨P, 1, none⟩) (.inl (by simp)) (.slice none 0 0)).setCell (p := ⟨P, 2, none⟩) (.inl (by simp)) (.slice none 0 0)).setCell (p := ⟨P, 3, none⟩) (.inl (by simp)) (.slice none 0 0)).setCell (p := ⟨P, 4, none⟩) (.inl (by simp)) (.slice none 0 0)).setCell (p := ⟨P + 1, 0, none⟩) (.inl (by simp)) (.int .i64 c)).setCell (p := ⟨P + 1, 1, none⟩) (.inl (by simp)) (.int .i64 l)).setCell (p := ⟨P + 1, 2, none⟩) (.inl (by simp)) (.int .i64 k))⟩
theorem caught_world (P : Nat) (c l k : Int) (v0 v1 v2 v3 v4 v5 v6 v7 : Value) (w : World) (o : Obj) (h0 : w.heap[P]? = some (.cells #[v0, v1, v2, v3, v4] 32 (0, 0))) (h1 : w.heap[P + 1]? = some (.cells #[v5, v6, v7] 37 (0, 0))) : CaughtP P ⟨c, l, k⟩ w (((((((((w.setCell ⟨P, 0, none⟩ (.slice none 0 0)).setCell ⟨P, 1, none⟩ (.slice none 0 0)).setCell ⟨P, 2, none⟩ (.slice none 0 0)).setCell ⟨P, 3, none⟩ (.slice none 0 0)).setCell ⟨P, 4, none⟩ (.slice none 0 0)).setCell ⟨P + 1, 0, none⟩ (.int .i64 c)).setCell ⟨P + 1, 1, none⟩ (.int .i64 l)).setCell ⟨P + 1, 2, none⟩ (.int .i64 k)).alloc o).drew := by
  obtain ⟨a1, a2, a3⟩ := caught_cells P c l k v0 v1 v2 v3 v4 v5 v6 v7 w h0 h1
  generalize ((((((((w.setCell ⟨P, 0, none⟩ (.slice none 0 0)).setCell ⟨P, 1, none⟩ (.slice none 0 0)).setCell ⟨P, 2, none⟩ (.slice none 0 0)).setCell ⟨P, 3, none⟩ (.slice none 0 0)).setCell ⟨P, 4, none⟩ (.slice none 0 0)).setCell ⟨P + 1, 0, none⟩ (.int .i64 c)).setCell ⟨P + 1, 1, none⟩ (.int .i64 l)).setCell ⟨P + 1, 2, none⟩ (.int .i64 k)) = W at a1 a2 a3 ⊢
  exact ⟨blk_alloc_old a1 o, blk_alloc_old a2 o, (a3.alloc o).drew⟩
set_option maxHeartbeats 2000000 in
set_option maxRecDepth 100000 in
theorem catch_panicking (P : Nat) (f : Flt) (v0 v1 v2 v3 v4 v5 v6 v7 : Value) (w : World) (h0 : w.heap[P]? = some (.cells #[v0, v1, v2, v3, v4] 32 (0, 0))) (h1 : w.heap[P + 1]? = some (.cells #[v5, v6, v7] 37 (0, 0))) :
    CallsD Tryd.prog 16 #[.pointer (some ⟨P, 0, none⟩), .pointer (some ⟨P + 1, 0, none⟩)] (.panicking (thrown f)) w fun e u' w' =>
      e = .returned (.tuple #[]) ∧ u' = .panicking [{ v := .iface 66 (.agg #[.int .i64 f.code, .int .i64 f.l, .int .i64 f.c]), recovered := true }] ∧ CaughtP P f w w' := by
  obtain ⟨c, l, k⟩ := f
  have hta := fun (W : World) (v : Value) => run_assert_struct (P := Tryd.prog) (w := W) (x := 20) (t := 66) (fs := Tryd.prog.fieldsOf 66) (by kernel_rfl) v
  have hP : P < w.heap.size := blk_lt h0
  have hP1 : P + 1 < w.heap.size := blk_lt h1
  have c0 : w.cell? ⟨P, 0, none⟩ = some v0 := blk_cell h0 0
  have c1 : w.cell? ⟨P, 1, none⟩ = some v1 := blk_cell h0 1
  have c2 : w.cell? ⟨P, 2, none⟩ = some v2 := blk_cell h0 2
  have c3 : w.cell? ⟨P, 3, none⟩ = some v3 := blk_cell h0 3
  have c4 : w.cell? ⟨P, 4, none⟩ = some v4 := blk_cell h0 4
  have f0 := fun i => blk_free h0 i
  have d0 : w.cell? ⟨P + 1, 0, none⟩ = some v5 := blk_cell h1 0
  have d1 : w.cell? ⟨P + 1, 1, none⟩ = some v6 := blk_cell h1 1
  have d2 : w.cell? ⟨P + 1, 2, none⟩ = some v7 := blk_cell h1 2
  have g0 := fun i => blk_free h1 i
  refine callsD_of_wpS Tryd.func16 rfl fun c₀ cs hu => ?_
  apply wpS_seq
  apply wpS_region
  simp [wpOpsS, go_sem, recoverD, hu, thrown, Tryd.ntmps16, Exit.thenS]
  refine wpS_of_wp ?_
  simp only [Array.size, Array.replicate, List.replicate, List.setIfInBounds_toArray, List.set_cons_zero, List.set_cons_succ, List.append_toArray, List.cons_append, List.nil_append]
  go_wp2
  go_region
  all_goals go_wp2
  have hcw := caught_world P c l k v0 v1 v2 v3 v4 v5 v6 v7 w (.cells #[.int .i64 c, .int .i64 l, .int .i64 k] 66) h0 h1
  generalize (((((((((w.setCell ⟨P, 0, none⟩ (.slice none 0 0)).setCell ⟨P, 1, none⟩ (.slice none 0 0)).setCell ⟨P, 2, none⟩ (.slice none 0 0)).setCell ⟨P, 3, none⟩ (.slice none 0 0)).setCell ⟨P, 4, none⟩ (.slice none 0 0)).setCell ⟨P + 1, 0, none⟩ (.int .i64 c)).setCell ⟨P + 1, 1, none⟩ (.int .i64 l)).setCell ⟨P + 1, 2, none⟩ (.int .i64 k)).alloc (.cells #[.int .i64 c, .int .i64 l, .int .i64 k] 66)).drew = W at hcw ⊢
  exact ⟨rfl, _, rfl, .tuple #[], by simp [results, Tryd.results16], rfl, rfl, hcw⟩
theorem catch_idle (P : Nat) (w : World) :
    CallsD Tryd.prog 16 #[.pointer (some ⟨P, 0, none⟩), .pointer (some ⟨P + 1, 0, none⟩)] .returning w fun e u' w' => e = .returned (.tuple #[]) ∧ u' = .returning ∧ w' = w := by
  refine callsD_of_wpS Tryd.func16 rfl fun c₀ cs hu => ?_
  apply wpS_seq
  apply wpS_region
  simp [wpOpsS, go_sem, recoverD, hu, Tryd.ntmps16, Exit.thenS]
  refine wpS_of_wp ?_
  simp only [Array.size, Array.replicate, List.replicate, List.setIfInBounds_toArray, List.set_cons_zero, List.set_cons_succ, List.append_toArray, List.cons_append, List.nil_append]
  go_wp2
  refine ⟨rfl, _, ?_, .tuple #[], by simp [results, Tryd.results16], rfl, rfl, rfl⟩
  cases c₀
  simp_all
theorem program_results {P : Nat} {v0 v1 v2 v3 v4 v5 v6 v7 : Value} {w : World} {tmps : Array Value} (h0 : w.heap[P]? = some (.cells #[v0, v1, v2, v3, v4] 32 (0, 0))) (h1 : w.heap[P + 1]? = some (.cells #[v5, v6, v7] 37 (0, 0)))
    (t2 : tmps[2]?.getD undef = .pointer (some ⟨P, 0, none⟩)) (t3 : tmps[3]?.getD undef = .pointer (some ⟨P + 1, 0, none⟩)) :
    (results Tryd.f6 tmps).run Tryd.prog w = .ok (.tuple #[.agg #[v0, v1, v2, v3, v4], .agg #[v5, v6, v7]]) w := by
  have c0 : w.cell? ⟨P, 0, none⟩ = some v0 := blk_cell h0 0
  have c1 : w.cell? ⟨P, 1, none⟩ = some v1 := blk_cell h0 1
  have c2 : w.cell? ⟨P, 2, none⟩ = some v2 := blk_cell h0 2
  have c3 : w.cell? ⟨P, 3, none⟩ = some v3 := blk_cell h0 3
  have c4 : w.cell? ⟨P, 4, none⟩ = some v4 := blk_cell h0 4
  have d0 : w.cell? ⟨P + 1, 0, none⟩ = some v5 := blk_cell h1 0
  have d1 : w.cell? ⟨P + 1, 1, none⟩ = some v6 := blk_cell h1 1
  have d2 : w.cell? ⟨P + 1, 2, none⟩ = some v7 := blk_cell h1 2
  simp [results, Tryd.results6, go_sem, t2, t3, c0, c1, c2, c3, c4, d0, d1, d2]
/-- What Program answers. -/
def ProgP (w : World) (d : Except Flt PrgD) (e : Ending) (w' : World) : Prop :=
  (∃ f, d = .error f ∧ e = .returned (.tuple #[noPrg, .agg #[.int .i64 f.code, .int .i64 f.l, .int .i64 f.c]]) ∧ Chg [] w w') ∨
  (∃ p vp, d = .ok p ∧ e = .returned (.tuple #[vp, .agg #[.int .i64 0, .int .i64 0, .int .i64 0]]) ∧ PrgN w w' vp p ∧ Chg [] w w')

theorem door_bad {w u : World} {P : Nat} {v0 v1 v2 v3 v4 v5 v6 v7 : Value} {tmps : Array Value} {d : Except Flt PrgD} {f : Flt} (h0 : u.heap[P]? = some (.cells #[v0, v1, v2, v3, v4] 32 (0, 0))) (h1 : u.heap[P + 1]? = some (.cells #[v5, v6, v7] 37 (0, 0))) (hc : Chg [] w u) (hP : w.heap.size ≤ P) (hd : d = .error f)
    (t2 : tmps[2]?.getD undef = .pointer (some ⟨P, 0, none⟩)) (t3 : tmps[3]?.getD undef = .pointer (some ⟨P + 1, 0, none⟩)) :
    bodyPostD Tryd.prog Tryd.f6 (ProgP w d) (.panic (thrown f)) { tmps := tmps, defers := [{ target := .fn (.func 16) #[.pointer (some ⟨P, 0, none⟩), .pointer (some ⟨P + 1, 0, none⟩)], args := #[] }] } u := by
  subst hd
  refine leaves_cons (f := 16) (args := #[.pointer (some ⟨P, 0, none⟩), .pointer (some ⟨P + 1, 0, none⟩)]) (by simp) (by simp [go_sem]) ?_
  refine (catch_panicking P f v0 v1 v2 v3 v4 v5 v6 v7 u h0 h1).mono ?_
  rintro e u' w'' ⟨rfl, rfl, s1, s2, s3⟩
  exact ⟨_, program_results s1 s2 t2 t3, .inl ⟨f, rfl, rfl, hc.trans s3 (fun x hx => .inr (by simp at hx; omega))⟩⟩
theorem door_good {w u : World} {P : Nat} {v0 v1 v2 v3 v4 : Value} {tmps : Array Value} {d : Except Flt PrgD} {p : PrgD} (h0 : u.heap[P]? = some (.cells #[v0, v1, v2, v3, v4] 32 (0, 0))) (h1 : u.heap[P + 1]? = some (.cells #[.int .i64 0, .int .i64 0, .int .i64 0] 37 (0, 0))) (hc : Chg [] w u) (hd : d = .ok p) (hv : PrgN w u (.agg #[v0, v1, v2, v3, v4]) p)
    (t2 : tmps[2]?.getD undef = .pointer (some ⟨P, 0, none⟩)) (t3 : tmps[3]?.getD undef = .pointer (some ⟨P + 1, 0, none⟩)) :
    bodyPostD Tryd.prog Tryd.f6 (ProgP w d) .ret { tmps := tmps, defers := [{ target := .fn (.func 16) #[.pointer (some ⟨P, 0, none⟩), .pointer (some ⟨P + 1, 0, none⟩)], args := #[] }] } u := by
  subst hd
  refine leaves_cons (f := 16) (args := #[.pointer (some ⟨P, 0, none⟩), .pointer (some ⟨P + 1, 0, none⟩)]) (by simp) (by simp [go_sem]) ?_
  refine (catch_idle P u).mono ?_
  rintro e u' w'' ⟨rfl, rfl, rfl⟩
  exact ⟨_, program_results h0 h1 t2 t3, .inr ⟨p, _, rfl, rfl, hv, hc⟩⟩
theorem set8 {u : World} {P : Nat} {a0 a1 a2 a3 a4 b0 b1 b2 : Value} (h0 : u.heap[P]? = some (.cells #[a0, a1, a2, a3, a4] 32 (0, 0))) (h1 : u.heap[P + 1]? = some (.cells #[b0, b1, b2] 37 (0, 0))) (v0 v1 v2 v3 v4 : Value) :
    (((((((((u.setCell ⟨P, 0, none⟩ (v0)).setCell ⟨P, 1, none⟩ (v1)).setCell ⟨P, 2, none⟩ (v2)).setCell ⟨P, 3, none⟩ (v3)).setCell ⟨P, 4, none⟩ (v4)).setCell ⟨P + 1, 0, none⟩ (.int .i64 0)).setCell ⟨P + 1, 1, none⟩ (.int .i64 0)).setCell ⟨P + 1, 2, none⟩ (.int .i64 0))).heap[P]? = some (.cells #[v0, v1, v2, v3, v4] 32 (0, 0)) ∧ (((((((((u.setCell ⟨P, 0, none⟩ (v0)).setCell ⟨P, 1, none⟩ (v1)).setCell ⟨P, 2, none⟩ (v2)).setCell ⟨P, 3, none⟩ (v3)).setCell ⟨P, 4, none⟩ (v4)).setCell ⟨P + 1, 0, none⟩ (.int .i64 0)).setCell ⟨P + 1, 1, none⟩ (.int .i64 0)).setCell ⟨P + 1, 2, none⟩ (.int .i64 0))).heap[P + 1]? = some (.cells #[.int .i64 0, .int .i64 0, .int .i64 0] 37 (0, 0)) ∧ Chg [P, P + 1] u ((((((((u.setCell ⟨P, 0, none⟩ (v0)).setCell ⟨P, 1, none⟩ (v1)).setCell ⟨P, 2, none⟩ (v2)).setCell ⟨P, 3, none⟩ (v3)).setCell ⟨P, 4, none⟩ (v4)).setCell ⟨P + 1, 0, none⟩ (.int .i64 0)).setCell ⟨P + 1, 1, none⟩ (.int .i64 0)).setCell ⟨P + 1, 2, none⟩ (.int .i64 0)) :=
  ⟨((blk_set_other (b := P + 1) (c := P) (by omega) 2 (.int .i64 0)).trans ((blk_set_other (b := P + 1) (c := P) (by omega) 1 (.int .i64 0)).trans ((blk_set_other (b := P + 1) (c := P) (by omega) 0 (.int .i64 0)).trans (blk_set (blk_set (blk_set (blk_set (blk_set h0 0 (v0)) 1 (v1)) 2 (v2)) 3 (v3)) 4 (v4))))), (blk_set (blk_set (blk_set ((blk_set_other (b := P) (c := P + 1) (by omega) 4 (v4)).trans ((blk_set_other (b := P) (c := P + 1) (by omega) 3 (v3)).trans ((blk_set_other (b := P) (c := P + 1) (by omega) 2 (v2)).trans ((blk_set_other (b := P) (c := P + 1) (by omega) 1 (v1)).trans ((blk_set_other (b := P) (c := P + 1) (by omega) 0 (v0)).trans h1))))) 0 (.int .i64 0)) 1 (.int .i64 0)) 2 (.int .i64 0)), (((((((((Chg.refl [P, P + 1] u).setCell (p := ⟨P, 0, none⟩) (.inl (by simp)) (v0)).setCell (p := ⟨P, 1, none⟩) (.inl (by simp)) (v1)).setCell (p := ⟨P, 2, none⟩) (.inl (by simp)) (v2)).setCell (p := ⟨P, 3, none⟩) (.inl (by simp)) (v3)).setCell (p := ⟨P, 4, none⟩) (.inl (by simp)) (v4)).setCell (p := ⟨P + 1, 0, none⟩) (.inl (by simp)) (.int .i64 0)).setCell (p := ⟨P + 1, 1, none⟩) (.inl (by simp)) (.int .i64 0)).setCell (p := ⟨P + 1, 2, none⟩) (.inl (by simp)) (.int .i64 0))⟩

set_option maxHeartbeats 4000000 in
set_option maxRecDepth 100000 in
theorem program_calls {u : UnD} (hu : SmallU u) {v : Value} (w : World) (hv : UnV w v u) : Calls Tryd.prog 6 #[v] w (ProgP w (progD u)) := by
  have hmf : ∀ (fn : Fn) (first cap : Array Value) (w : World), (Instr.makeFunc fn first cap).run Tryd.prog w = .ok (.func fn first cap) w := fun _ _ _ _ => rfl
  obtain ⟨va, vb, bs, rfl, hda, hbb, hbs, hit⟩ := id hv
  obtain ⟨ad, cd, rfl, _⟩ := hda.len
  obtain ⟨ab, cb, rfl, _⟩ := hbb.len
  obtain ⟨wa, hwa⟩ : ∃ wa, (((w.alloc (.cells #[.slice ad u.decls.length cd, .slice ab bs.length cb] 25)).alloc (.cells #[.slice none 0 0, .slice none 0 0, .slice none 0 0, .slice none 0 0, .slice none 0 0] 32)).alloc (.cells #[.int .i64 0, .int .i64 0, .int .i64 0] 37)) = wa := ⟨_, rfl⟩
  have hca : Chg [] w wa := by rw [← hwa]; exact (((Chg.refl [] w).alloc _).alloc _).alloc _
  have hU : wa.heap[w.heap.size]? = some (.cells #[.slice ad u.decls.length cd, .slice ab bs.length cb] 25 (0, 0)) := by rw [← hwa]; exact blk_alloc_old (blk_alloc_old (heap_alloc_new w _) _) _
  have hPb : wa.heap[w.heap.size + 1]? = some (.cells #[.slice none 0 0, .slice none 0 0, .slice none 0 0, .slice none 0 0, .slice none 0 0] 32 (0, 0)) := by
    rw [← hwa]
    refine blk_alloc_old ?_ _
    have h := heap_alloc_new (w.alloc (.cells #[.slice ad u.decls.length cd, .slice ab bs.length cb] 25)) (.cells #[.slice none 0 0, .slice none 0 0, .slice none 0 0, .slice none 0 0, .slice none 0 0] 32)
    simpa only [World.size_alloc] using h
  have hFb : wa.heap[w.heap.size + 1 + 1]? = some (.cells #[.int .i64 0, .int .i64 0, .int .i64 0] 37 (0, 0)) := by
    rw [← hwa]
    have h := heap_alloc_new ((w.alloc (.cells #[.slice ad u.decls.length cd, .slice ab bs.length cb] 25)).alloc (.cells #[.slice none 0 0, .slice none 0 0, .slice none 0 0, .slice none 0 0, .slice none 0 0] 32)) (.cells #[.int .i64 0, .int .i64 0, .int .i64 0] 37)
    simpa only [World.size_alloc] using h
  have hw := whole_calls hu wa (hv.keep hca)
  have HW := hid hw
  obtain ⟨D, hD⟩ : ∃ D, progD u = D := ⟨_, rfl⟩
  rw [hD] at HW ⊢
  have u0 : wa.cell? ⟨w.heap.size, 0, none⟩ = some (.slice ad u.decls.length cd) := blk_cell hU 0
  have u1 : wa.cell? ⟨w.heap.size, 1, none⟩ = some (.slice ab bs.length cb) := blk_cell hU 1
  have HPF := hid (And.intro hPb hFb)
  obtain ⟨P, hP⟩ : ∃ P, w.heap.size + 1 = P := ⟨_, rfl⟩
  have hPl : w.heap.size ≤ P := by omega
  have HP := hid hP
  clear hw hD hU hPb hFb hda hbb hit hv hP
  go_enter_defers Tryd.func6, Tryd.ntmps6
  go_wp2_with (go_at_call 17; refine halt (fun X hX => ?_))
  rw [hX.out]; clear hX
  have hPF := HPF.out
  rw [HP.out] at hPF ⊢
  refine HW.out.mono ?_
  rintro e w2 (⟨f, hd, rfl, hc2⟩ | ⟨p, vp, hd, rfl, hv2, hc2⟩)
  · have h0 := hc2.heap hPF.1 (by simp)
    have h1 := hc2.heap hPF.2 (by simp)
    subst hd
    go_wp2
    exact door_bad h0 h1 (hca.trans' hc2) hPl rfl rfl rfl
  · have h0 := hc2.heap hPF.1 (by simp)
    have h1 := hc2.heap hPF.2 (by simp)
    obtain ⟨v0, v1, v2, v3, v4, ts, rfl, l0, l1, l2, l3, l4, _⟩ := hv2.now
    obtain ⟨a0, k0, rfl, _⟩ := l0.len
    obtain ⟨a1, k1, rfl, _⟩ := l1.len
    obtain ⟨a2, k2, rfl, _⟩ := l2.len
    obtain ⟨a3, k3, rfl, _⟩ := l3.len
    obtain ⟨a4, k4, rfl, _⟩ := l4.len
    subst hd
    have HV2 := hid hv2
    have c0 : w2.cell? ⟨P, 0, none⟩ = some (.slice none 0 0) := blk_cell h0 0
    have c1 : w2.cell? ⟨P, 1, none⟩ = some (.slice none 0 0) := blk_cell h0 1
    have c2 : w2.cell? ⟨P, 2, none⟩ = some (.slice none 0 0) := blk_cell h0 2
    have c3 : w2.cell? ⟨P, 3, none⟩ = some (.slice none 0 0) := blk_cell h0 3
    have c4 : w2.cell? ⟨P, 4, none⟩ = some (.slice none 0 0) := blk_cell h0 4
    have f0 := fun i => blk_free h0 i
    have d0 : w2.cell? ⟨P + 1, 0, none⟩ = some (.int .i64 0) := blk_cell h1 0
    have d1 : w2.cell? ⟨P + 1, 1, none⟩ = some (.int .i64 0) := blk_cell h1 1
    have d2 : w2.cell? ⟨P + 1, 2, none⟩ = some (.int .i64 0) := blk_cell h1 2
    have g0 := fun i => blk_free h1 i
    have HS8 := hid (set8 h0 h1 (.slice a0 p.vars.length k0) (.slice a1 p.vols.length k1) (.slice a2 p.locks.length k2) (.slice a3 p.bars.length k3) (.slice a4 ts.length k4))
    have HSZ := hid (And.intro hc2.size hca.size)
    have HPW : Hid (P + 1 < wa.heap.size) := hid (blk_lt hPF.2)
    have HCC := hid (hca.trans' hc2)
    clear l0 l1 l2 l3 l4 hv2 h0 h1
    go_wp2
    obtain ⟨s1, s2, s3⟩ := HS8.out
    generalize ((((((((w2.setCell ⟨P, 0, none⟩ (.slice a0 p.vars.length k0)).setCell ⟨P, 1, none⟩ (.slice a1 p.vols.length k1)).setCell ⟨P, 2, none⟩ (.slice a2 p.locks.length k2)).setCell ⟨P, 3, none⟩ (.slice a3 p.bars.length k3)).setCell ⟨P, 4, none⟩ (.slice a4 ts.length k4)).setCell ⟨P + 1, 0, none⟩ (.int .i64 0)).setCell ⟨P + 1, 1, none⟩ (.int .i64 0)).setCell ⟨P + 1, 2, none⟩ (.int .i64 0)) = W at s1 s2 s3 ⊢
    exact door_good s1 s2 (HCC.out.trans s3 (fun y hy => .inr (by simp at hy; omega))) rfl (fun S u hS hlS => HV2.out (S ++ [P, P + 1]) u ((s3.mono (fun y hy => .inl (List.mem_append_right _ hy))).trans' (hS.mono (fun y hy => .inl (List.mem_append_left _ hy)))) (fun y hy => by
      have h1 := HPW.out
      have h2 := HSZ.out.2
      rcases List.mem_append.1 hy with hy | hy
      · have := hlS y hy; omega
      · simp at hy; omega)) rfl rfl
end Go.Proofs.YtaknmhipaifdkaaDoor
