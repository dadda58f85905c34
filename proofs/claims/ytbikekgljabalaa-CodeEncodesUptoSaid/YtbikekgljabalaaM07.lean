/- Several texts of this seat, one behind the other: Hj, Hk, Hl, Hm. -/
import Derived.Test.YtbikekgljabalaaHi
import Derived.Defers
import Derived.Recover
import Derived.Laws.Pointers
import Derived.Test.YtbikekgljabalaaFe
/- Walks of the code layer: what Decode defers. -/
namespace Go.Proofs.Ytbikekgljabalaa
open Go.RowKit Go.AB
set_option linter.unusedSimpArgs false
set_option linter.unusedVariables false
set_option linter.unusedSectionVars false

/-- A program that is none. -/
def noPrg : Value := .agg #[.slice none 0 0, .slice none 0 0, .slice none 0 0, .slice none 0 0, .slice none 0 0]
def noPrgC (w : World) (P : Nat) : World := (((((w.setCell ⟨P, 0, none⟩ (.slice none 0 0)).setCell ⟨P, 1, none⟩ (.slice none 0 0)).setCell ⟨P, 2, none⟩ (.slice none 0 0)).setCell ⟨P, 3, none⟩ (.slice none 0 0)).setCell ⟨P, 4, none⟩ (.slice none 0 0)).setCell ⟨P + 1, 0, none⟩ (.int .i64 101)
theorem catch_panicking (P : Nat) (v0 v1 v2 v3 v4 v5 : Value) (w : World) (h0 : w.heap[P]? = some (.cells #[v0, v1, v2, v3, v4] 28 (0, 0))) (h1 : w.heap[P + 1]? = some (.cells #[v5] 34 (0, 0))) :
    CallsD Try.prog 43 #[.pointer (some ⟨P, 0, none⟩), .pointer (some ⟨P + 1, 0, none⟩)] (.panicking [{ v := .iface 138 (.agg #[]), recovered := false }]) w fun e u' w' =>
      e = .returned (.tuple #[]) ∧ u' = .panicking [{ v := .iface 138 (.agg #[]), recovered := true }] ∧ w' = noPrgC w P := by
  have c0 : w.cell? ⟨P, 0, none⟩ = some v0 := blk_cell h0 0
  have c1 : w.cell? ⟨P, 1, none⟩ = some v1 := blk_cell h0 1
  have c2 : w.cell? ⟨P, 2, none⟩ = some v2 := blk_cell h0 2
  have c3 : w.cell? ⟨P, 3, none⟩ = some v3 := blk_cell h0 3
  have c4 : w.cell? ⟨P, 4, none⟩ = some v4 := blk_cell h0 4
  have f0 := fun i => blk_free h0 i
  have d0 : w.cell? ⟨P + 1, 0, none⟩ = some v5 := blk_cell h1 0
  have g0 := blk_free h1 0
  refine callsD_of_wpS Try.func43 rfl fun c₀ cs hu => ?_
  apply wpS_seq
  apply wpS_region
  simp [wpOpsS, go_sem, recoverD, hu, Try.ntmps43, Exit.thenS]
  refine wpS_of_wp ?_
  simp only [Array.size, Array.replicate, List.replicate, List.setIfInBounds_toArray, List.set_cons_zero, List.set_cons_succ, List.append_toArray, List.cons_append, List.nil_append]
  go_wp2
  refine ⟨rfl, _, rfl, .tuple #[], by simp [results, Try.results43], rfl, rfl, rfl⟩
theorem catch_idle (P : Nat) (w : World) :
    CallsD Try.prog 43 #[.pointer (some ⟨P, 0, none⟩), .pointer (some ⟨P + 1, 0, none⟩)] .returning w fun e u' w' => e = .returned (.tuple #[]) ∧ u' = .returning ∧ w' = w := by
  refine callsD_of_wpS Try.func43 rfl fun c₀ cs hu => ?_
  apply wpS_seq
  apply wpS_region
  simp [wpOpsS, go_sem, recoverD, hu, Try.ntmps43, Exit.thenS]
  refine wpS_of_wp ?_
  simp only [Array.size, Array.replicate, List.replicate, List.setIfInBounds_toArray, List.set_cons_zero, List.set_cons_succ, List.append_toArray, List.cons_append, List.nil_append]
  go_wp2
  refine ⟨rfl, _, ?_, .tuple #[], by simp [results, Try.results43], rfl, rfl, rfl⟩
  cases c₀
  simp_all
theorem noPrgC_cells (P : Nat) (v0 v1 v2 v3 v4 v5 : Value) (w : World) (h0 : w.heap[P]? = some (.cells #[v0, v1, v2, v3, v4] 28 (0, 0))) (h1 : w.heap[P + 1]? = some (.cells #[v5] 34 (0, 0))) :
    (noPrgC w P).heap[P]? = some (.cells #[.slice none 0 0, .slice none 0 0, .slice none 0 0, .slice none 0 0, .slice none 0 0] 28 (0, 0)) ∧ (noPrgC w P).heap[P + 1]? = some (.cells #[.int .i64 101] 34 (0, 0)) ∧ Chg [P, P + 1] w (noPrgC w P) := by
  unfold noPrgC
  refine ⟨?_, ?_, ?_⟩
  · exact (blk_set_other (b := P + 1) (c := P) (by omega) _ _).trans (blk_set (blk_set (blk_set (blk_set (blk_set h0 0 _) 1 _) 2 _) 3 _) 4 _)
  · exact blk_set ((blk_set_other (b := P) (c := P + 1) (by omega) _ _).trans ((blk_set_other (b := P) (c := P + 1) (by omega) _ _).trans ((blk_set_other (b := P) (c := P + 1) (by omega) _ _).trans ((blk_set_other (b := P) (c := P + 1) (by omega) _ _).trans ((blk_set_other (b := P) (c := P + 1) (by omega) _ _).trans h1))))) 0 _
  · exact ((((((Chg.refl [P, P + 1] w).setCell (p := ⟨P, 0, none⟩) (.inl (by simp)) _).setCell (p := ⟨P, 1, none⟩) (.inl (by simp)) _).setCell (p := ⟨P, 2, none⟩) (.inl (by simp)) _).setCell (p := ⟨P, 3, none⟩) (.inl (by simp)) _).setCell (p := ⟨P, 4, none⟩) (.inl (by simp)) _).setCell (p := ⟨P + 1, 0, none⟩) (.inl (by simp)) _
/-- The results that Decode reads behind its last deferred call. -/
theorem decode_results {P : Nat} {v0 v1 v2 v3 v4 v5 : Value} {w : World} {tmps : Array Value} (h0 : w.heap[P]? = some (.cells #[v0, v1, v2, v3, v4] 28 (0, 0))) (h1 : w.heap[P + 1]? = some (.cells #[v5] 34 (0, 0)))
    (t2 : tmps[2]?.getD undef = .pointer (some ⟨P, 0, none⟩)) (t3 : tmps[3]?.getD undef = .pointer (some ⟨P + 1, 0, none⟩)) :
    (results Try.f18 tmps).run Try.prog w = .ok (.tuple #[.agg #[v0, v1, v2, v3, v4], v5]) w := by
  have c0 : w.cell? ⟨P, 0, none⟩ = some v0 := blk_cell h0 0
  have c1 : w.cell? ⟨P, 1, none⟩ = some v1 := blk_cell h0 1
  have c2 : w.cell? ⟨P, 2, none⟩ = some v2 := blk_cell h0 2
  have c3 : w.cell? ⟨P, 3, none⟩ = some v3 := blk_cell h0 3
  have c4 : w.cell? ⟨P, 4, none⟩ = some v4 := blk_cell h0 4
  have d0 : w.cell? ⟨P + 1, 0, none⟩ = some v5 := blk_cell h1 0
  simp [results, Try.results18, go_sem, t2, t3, c0, c1, c2, c3, c4, d0]
end Go.Proofs.Ytbikekgljabalaa

/- Walks of the code layer: a program read. -/
namespace Go.Proofs.Ytbikekgljabalaa
open Go.RowKit Go.AB
set_option linter.unusedSimpArgs false
set_option linter.unusedVariables false
set_option linter.unusedSectionVars false

/-- What Decode answers: a number, or a program. -/
def decB (L : List UInt8) : Nat × Option PrgD :=
  if (openB L).2.2 ≠ 0 then ((openB L).2.2, none) else if (openB L).1 ≠ 1 then (100, none) else match dBody (openB L).2.1 with
  | some p => (0, some p)
  | none => (101, none)
def DecPost (w : World) (d : Nat × Option PrgD) (e : Ending) (w' : World) : Prop :=
  (∃ c, d = (c, none) ∧ c ≠ 0 ∧ e = .returned (.tuple #[noPrg, .int .i64 c]) ∧ Chg [] w w') ∨ (∃ p v, d = (0, some p) ∧ e = .returned (.tuple #[v, .int .i64 0]) ∧ PrgV w' v p ∧ Chg [] w w')
theorem decode_results_drew {P : Nat} {v0 v1 v2 v3 v4 v5 : Value} {w : World} {tmps : Array Value} (h0 : w.heap[P]? = some (.cells #[v0, v1, v2, v3, v4] 28 (0, 0))) (h1 : w.heap[P + 1]? = some (.cells #[v5] 34 (0, 0)))
    (t2 : tmps[2]?.getD undef = .pointer (some ⟨P, 0, none⟩)) (t3 : tmps[3]?.getD undef = .pointer (some ⟨P + 1, 0, none⟩)) :
    (results Try.f18 tmps).run Try.prog w.drew = .ok (.tuple #[.agg #[v0, v1, v2, v3, v4], v5]) w.drew := by
  have e0 : w.drew.heap[P]? = some (.cells #[v0, v1, v2, v3, v4] 28 (0, 0)) := h0
  have e1 : w.drew.heap[P + 1]? = some (.cells #[v5] 34 (0, 0)) := h1
  exact decode_results e0 e1 t2 t3
theorem cells56 {w : World} {P : Nat} {v0 v1 v2 v3 v4 v5 : Value} (h0 : w.heap[P]? = some (.cells #[v0, v1, v2, v3, v4] 28 (0, 0))) (h1 : w.heap[P + 1]? = some (.cells #[v5] 34 (0, 0))) :
    w.cell? ⟨P, 0, none⟩ = some v0 ∧ w.cell? ⟨P, 1, none⟩ = some v1 ∧ w.cell? ⟨P, 2, none⟩ = some v2 ∧ w.cell? ⟨P, 3, none⟩ = some v3 ∧ w.cell? ⟨P, 4, none⟩ = some v4 ∧
    w.frozen? ⟨P, 0, none⟩ = false ∧ w.frozen? ⟨P, 1, none⟩ = false ∧ w.frozen? ⟨P, 2, none⟩ = false ∧ w.frozen? ⟨P, 3, none⟩ = false ∧ w.frozen? ⟨P, 4, none⟩ = false ∧ w.cell? ⟨P + 1, 0, none⟩ = some v5 ∧ w.frozen? ⟨P + 1, 0, none⟩ = false :=
  ⟨blk_cell h0 0, blk_cell h0 1, blk_cell h0 2, blk_cell h0 3, blk_cell h0 4, blk_free h0 0, blk_free h0 1, blk_free h0 2, blk_free h0 3, blk_free h0 4, blk_cell h1 0, blk_free h1 0⟩
theorem set6 {w : World} {P : Nat} {v0 v1 v2 v3 v4 v5 : Value} (h0 : w.heap[P]? = some (.cells #[v0, v1, v2, v3, v4] 28 (0, 0))) (h1 : w.heap[P + 1]? = some (.cells #[v5] 34 (0, 0))) (x0 x1 x2 x3 x4 x5 : Value) :
    ((((((w.setCell ⟨P, 0, none⟩ x0).setCell ⟨P, 1, none⟩ x1).setCell ⟨P, 2, none⟩ x2).setCell ⟨P, 3, none⟩ x3).setCell ⟨P, 4, none⟩ x4).setCell ⟨P + 1, 0, none⟩ x5).heap[P]? = some (.cells #[x0, x1, x2, x3, x4] 28 (0, 0)) ∧
    ((((((w.setCell ⟨P, 0, none⟩ x0).setCell ⟨P, 1, none⟩ x1).setCell ⟨P, 2, none⟩ x2).setCell ⟨P, 3, none⟩ x3).setCell ⟨P, 4, none⟩ x4).setCell ⟨P + 1, 0, none⟩ x5).heap[P + 1]? = some (.cells #[x5] 34 (0, 0)) ∧
    Chg [P, P + 1] w ((((((w.setCell ⟨P, 0, none⟩ x0).setCell ⟨P, 1, none⟩ x1).setCell ⟨P, 2, none⟩ x2).setCell ⟨P, 3, none⟩ x3).setCell ⟨P, 4, none⟩ x4).setCell ⟨P + 1, 0, none⟩ x5) := by
  refine ⟨?_, ?_, ?_⟩
  · exact (blk_set_other (b := P + 1) (c := P) (by omega) _ _).trans (blk_set (blk_set (blk_set (blk_set (blk_set h0 0 _) 1 _) 2 _) 3 _) 4 _)
  · exact blk_set ((blk_set_other (b := P) (c := P + 1) (by omega) _ _).trans ((blk_set_other (b := P) (c := P + 1) (by omega) _ _).trans ((blk_set_other (b := P) (c := P + 1) (by omega) _ _).trans ((blk_set_other (b := P) (c := P + 1) (by omega) _ _).trans ((blk_set_other (b := P) (c := P + 1) (by omega) _ _).trans h1))))) 0 _
  · exact ((((((Chg.refl [P, P + 1] w).setCell (p := ⟨P, 0, none⟩) (.inl (by simp)) _).setCell (p := ⟨P, 1, none⟩) (.inl (by simp)) _).setCell (p := ⟨P, 2, none⟩) (.inl (by simp)) _).setCell (p := ⟨P, 3, none⟩) (.inl (by simp)) _).setCell (p := ⟨P, 4, none⟩) (.inl (by simp)) _).setCell (p := ⟨P + 1, 0, none⟩) (.inl (by simp)) _
theorem dec_start {w w1 : World} (hc1 : Chg [] ((w.alloc (.cells #[.slice none 0 0, .slice none 0 0, .slice none 0 0, .slice none 0 0, .slice none 0 0] 28)).alloc (.cells #[.int .i64 0] 34)) w1) :
    w1.heap[w.heap.size]? = some (.cells #[.slice none 0 0, .slice none 0 0, .slice none 0 0, .slice none 0 0, .slice none 0 0] 28 (0, 0)) ∧ w1.heap[w.heap.size + 1]? = some (.cells #[.int .i64 0] 34 (0, 0)) ∧ Chg [] w w1 := by
  have hp0 : ((w.alloc (.cells #[.slice none 0 0, .slice none 0 0, .slice none 0 0, .slice none 0 0, .slice none 0 0] 28)).alloc (.cells #[.int .i64 0] 34)).heap[w.heap.size]? = some (.cells #[.slice none 0 0, .slice none 0 0, .slice none 0 0, .slice none 0 0, .slice none 0 0] 28 (0, 0)) := blk_alloc_old (heap_alloc_new w _) _
  have he0 := heap_alloc_new (w.alloc (.cells #[.slice none 0 0, .slice none 0 0, .slice none 0 0, .slice none 0 0, .slice none 0 0] 28)) (.cells #[.int .i64 0] 34)
  rw [World.size_alloc] at he0
  have h2 := ((Chg.refl [] w).alloc (.cells #[.slice none 0 0, .slice none 0 0, .slice none 0 0, .slice none 0 0, .slice none 0 0] 28)).alloc (.cells #[.int .i64 0] 34)
  exact ⟨hc1.heap hp0 (by simp), hc1.heap he0 (by simp), h2.trans' hc1⟩
set_option maxHeartbeats 4000000 in
set_option maxRecDepth 100000 in
theorem decode_err (v : Value) (L : List UInt8) (w : World) (hv : Bytes w v L) (hl : L.length ≤ 16777216) (hc : (openB L).2.2 ≠ 0) :
    Calls Try.prog 18 #[v] w (DecPost w ((openB L).2.2, none)) := by
  have hmf : ∀ (fn : Fn) (first cap : Array Value) (w : World), (Instr.makeFunc fn first cap).run Try.prog w = .ok (.func fn first cap) w := fun _ _ _ _ => rfl
  have h2 := ((Chg.refl [] w).alloc (.cells #[.slice none 0 0, .slice none 0 0, .slice none 0 0, .slice none 0 0, .slice none 0 0] 28)).alloc (.cells #[.int .i64 0] 34)
  obtain ⟨k, bd, c, ho⟩ : ∃ k bd c, openB L = (k, bd, c) := ⟨_, _, _, rfl⟩
  have hop := open_calls v L _ (hv.keep h2 (by simp)) hl
  rw [ho] at hop hc ⊢
  have HO := hid hop
  clear hop ho
  go_enter_defers Try.func18, Try.ntmps18
  go_wp2_with (go_at_call 42; refine (HO.out).mono ?_; rintro e w1 ⟨l', ao, cap, r, rfl, hr1, hf1, hc1, HL1⟩; refine halt (fun X hX => ?_))
  rw [hX.out]; clear hX
  have hp0 : ((w.alloc (.cells #[.slice none 0 0, .slice none 0 0, .slice none 0 0, .slice none 0 0, .slice none 0 0] 28)).alloc (.cells #[.int .i64 0] 34)).heap[w.heap.size]? = some (.cells #[.slice none 0 0, .slice none 0 0, .slice none 0 0, .slice none 0 0, .slice none 0 0] 28 (0, 0)) := blk_alloc_old (heap_alloc_new w _) _
  have he0 := heap_alloc_new (w.alloc (.cells #[.slice none 0 0, .slice none 0 0, .slice none 0 0, .slice none 0 0, .slice none 0 0] 28)) (.cells #[.int .i64 0] 34)
  rw [World.size_alloc] at he0
  have hp1 := hc1.heap hp0 (by simp)
  have he1 := hc1.heap he0 (by simp)
  have y0 : w1.cell? ⟨w.heap.size + 1, 0, none⟩ = some (.int .i64 0) := blk_cell he1 0
  have y1 := blk_free he1 0
  have hC1 := h2.trans' hc1
  have HC := hid (And.intro hp1 (And.intro he1 hC1))
  have hcc : ((c : Int) != 0) = true := by simpa using hc
  clear hp0 he0 hp1 he1 hc1 hf1 hr1 h2 hv HO hC1
  go_wp2_with fail
  have hpU : (w1.setCell ⟨w.heap.size + 1, 0, none⟩ (.int .i64 (c : Int))).heap[w.heap.size]? = some (.cells #[.slice none 0 0, .slice none 0 0, .slice none 0 0, .slice none 0 0, .slice none 0 0] 28 (0, 0)) := (blk_set_other (by omega) _ _).trans HC.out.1
  have heU : (w1.setCell ⟨w.heap.size + 1, 0, none⟩ (.int .i64 (c : Int))).heap[w.heap.size + 1]? = some (.cells #[.int .i64 (c : Int)] 34 (0, 0)) := blk_set HC.out.2.1 0 _
  have hcU : Chg [] w (w1.setCell ⟨w.heap.size + 1, 0, none⟩ (.int .i64 (c : Int))) := HC.out.2.2.setCell (p := ⟨w.heap.size + 1, 0, none⟩) (.inr (by simp)) _
  obtain ⟨U, hU⟩ : ∃ U : World, U = (w1.setCell ⟨w.heap.size + 1, 0, none⟩ (.int .i64 (c : Int))) := ⟨_, rfl⟩
  rw [← hU] at hpU heU hcU ⊢
  clear hU HC y0 y1
  obtain ⟨P, hP⟩ : ∃ P, w.heap.size = P := ⟨_, rfl⟩
  have hPl : w.heap.size ≤ P := by omega
  rw [hP] at hpU heU ⊢
  clear hP
  obtain ⟨c0, c1, c2, c3, c4, f0, f1, f2, f3, f4, d0, g0⟩ := cells56 hpU heU
  have HU := hid (And.intro hpU (And.intro heU hcU))
  clear hpU heU hcU
  go_region
  go_wp2
  obtain ⟨s1, s2, s3⟩ := set6 HU.out.1 HU.out.2.1 (.slice none 0 0) (.slice none 0 0) (.slice none 0 0) (.slice none 0 0) (.slice none 0 0) (.int .i64 (c : Int))
  exact ⟨_, decode_results_drew s1 s2 rfl rfl, .inl ⟨c, rfl, hc, rfl, (HU.out.2.2.trans s3 (fun x hx => .inr (by simp at hx; omega))).drew⟩⟩
set_option maxHeartbeats 4000000 in
set_option maxRecDepth 100000 in
theorem decode_kind (v : Value) (L : List UInt8) (w : World) (hv : Bytes w v L) (hl : L.length ≤ 16777216) (hc : (openB L).2.2 = 0) (hk : (openB L).1 ≠ 1) :
    Calls Try.prog 18 #[v] w (DecPost w (100, none)) := by
  have hmf : ∀ (fn : Fn) (first cap : Array Value) (w : World), (Instr.makeFunc fn first cap).run Try.prog w = .ok (.func fn first cap) w := fun _ _ _ _ => rfl
  have h2 := ((Chg.refl [] w).alloc (.cells #[.slice none 0 0, .slice none 0 0, .slice none 0 0, .slice none 0 0, .slice none 0 0] 28)).alloc (.cells #[.int .i64 0] 34)
  obtain ⟨k, bd, c, ho⟩ : ∃ k bd c, openB L = (k, bd, c) := ⟨_, _, _, rfl⟩
  have hop := open_calls v L _ (hv.keep h2 (by simp)) hl
  rw [ho] at hop hc hk
  simp only at hc hk
  subst hc
  have HO := hid hop
  clear hop ho
  have hkk : ((k.toNat : Int) != 1) = true := by
    have : k.toNat ≠ 1 := fun e => hk (UInt8.toNat_inj.1 (by simpa using e))
    simpa using (show (k.toNat : Int) ≠ 1 by omega)
  go_enter_defers Try.func18, Try.ntmps18
  go_wp2_with (go_at_call 42; refine (HO.out).mono ?_; rintro e w1 ⟨l', ao, cap, r, rfl, hr1, hf1, hc1, HL1⟩; refine halt (fun X hX => ?_))
  rw [hX.out]; clear hX
  obtain ⟨hp1, he1, hC1⟩ := dec_start hc1
  obtain ⟨P, hP⟩ : ∃ P, w.heap.size = P := ⟨_, rfl⟩
  have hPl : w.heap.size ≤ P := by omega
  rw [hP] at hp1 he1 ⊢
  clear hP
  obtain ⟨c0, c1, c2, c3, c4, f0, f1, f2, f3, f4, d0, g0⟩ := cells56 hp1 he1
  have HU := hid (And.intro hp1 (And.intro he1 hC1))
  clear hp1 he1 hC1 hc1 hf1 hr1 h2 hv HO
  have zc : ((0 : Nat) : Int) = 0 := rfl
  go_wp2
  obtain ⟨s1, s2, s3⟩ := set6 (w := w1.setCell ⟨P + 1, 0, none⟩ (.int .i64 0)) ((blk_set_other (by omega) _ _).trans HU.out.1) (blk_set HU.out.2.1 0 _) (.slice none 0 0) (.slice none 0 0) (.slice none 0 0) (.slice none 0 0) (.slice none 0 0) (.int .i64 100)
  exact ⟨_, decode_results s1 s2 rfl rfl, .inl ⟨100, rfl, by simp, rfl, (HU.out.2.2.setCell (p := ⟨P + 1, 0, none⟩) (.inr (by simp; omega)) _).trans s3 (fun x hx => .inr (by simp at hx; omega))⟩⟩
end Go.Proofs.Ytbikekgljabalaa

/- Walks of the code layer: what holds while a program is read. -/
namespace Go.Proofs.Ytbikekgljabalaa
open Go.RowKit Go.AB
set_option linter.unusedSimpArgs false
set_option linter.unusedVariables false
set_option linter.unusedSectionVars false

/-- While a program is read: the reader, the program's cells cs (block P), the error's, the taker's box (tb); F: blocks of lists that are done, V: what is said of them; N: what was made before. -/
structure PI (w u : World) (N P tb b : Nat) (l : List UInt8) (ao : Option Addr) (cap p h bd : Nat) (cs : Array Value) (F : List Nat) (V : World → Prop) : Prop where
  rd : Rd 133 u b l ao cap p h bd
  lt : ∀ g, (Value.slice ao l.length cap).ownBlock = some g → g < N ∧ g ≠ P ∧ g ≠ P + 1 ∧ g ≠ tb
  bl : b < N ∧ b ≠ P ∧ b ≠ P + 1 ∧ b ≠ tb ∧ w.heap.size ≤ b
  pl : w.heap.size ≤ P ∧ P + 1 < N ∧ tb < N ∧ tb ≠ P ∧ tb ≠ P + 1
  hN : N ≤ u.heap.size
  chg : Chg [] w u
  pb : u.heap[P]? = some (.cells cs 28 (0, 0))
  eb : u.heap[P + 1]? = some (.cells #[.int .i64 0] 34 (0, 0))
  tbx : u.heap[tb]? = some (.cells #[.pointer (some ⟨b, 0, none⟩)] 89 (0, 0))
  hF : ∀ g ∈ F, N ≤ g ∧ g < u.heap.size
  hV : V u
  st : ∀ S u1 u2, Chg S u1 u2 → (∀ x ∈ S, x ∉ F) → V u1 → V u2
section
variable {w u u' : World} {N P tb b : Nat} {l : List UInt8} {ao : Option Addr} {cap p h bd p' h' bd' : Nat} {cs : Array Value} {F : List Nat} {V : World → Prop}
theorem PI.tb0 (k : PI w u N P tb b l ao cap p h bd cs F V) : u.cell? ⟨tb, 0, none⟩ = some (.pointer (some ⟨b, 0, none⟩)) := blk_cell k.tbx 0
theorem PI.ok (k : PI w u N P tb b l ao cap p 0 0 cs F V) : Ok u b l ao cap p := ⟨k.rd, fun g hg => Nat.lt_of_lt_of_le (k.lt g hg).1 k.hN⟩
theorem PI.cells {v0 v1 v2 v3 v4 : Value} (k : PI w u N P tb b l ao cap p h bd #[v0, v1, v2, v3, v4] F V) :
    u.cell? ⟨P, 0, none⟩ = some v0 ∧ u.cell? ⟨P, 1, none⟩ = some v1 ∧ u.cell? ⟨P, 2, none⟩ = some v2 ∧ u.cell? ⟨P, 3, none⟩ = some v3 ∧ u.cell? ⟨P, 4, none⟩ = some v4 ∧
    u.frozen? ⟨P, 0, none⟩ = false ∧ u.frozen? ⟨P, 1, none⟩ = false ∧ u.frozen? ⟨P, 2, none⟩ = false ∧ u.frozen? ⟨P, 3, none⟩ = false ∧ u.frozen? ⟨P, 4, none⟩ = false ∧ u.cell? ⟨P + 1, 0, none⟩ = some (.int .i64 0) ∧ u.frozen? ⟨P + 1, 0, none⟩ = false := cells56 k.pb k.eb
/-- Blocks below N are as they were, but for those of S. -/
theorem PI.step {S : List Nat} (k : PI w u N P tb b l ao cap p h bd cs F V) (hc : Chg S u u') (hS : ∀ x ∈ S, x ≠ P ∧ x ≠ P + 1 ∧ x ≠ tb ∧ x ∉ F ∧ w.heap.size ≤ x) (hr : Rd 133 u' b l ao cap p' h' bd') : PI w u' N P tb b l ao cap p' h' bd' cs F V :=
  ⟨hr, k.lt, k.bl, k.pl, Nat.le_trans k.hN hc.size, k.chg.trans hc (fun x hx => .inr (hS x hx).2.2.2.2), hc.heap k.pb (fun hm => (hS _ hm).1 rfl), hc.heap k.eb (fun hm => (hS _ hm).2.1 rfl), hc.heap k.tbx (fun hm => (hS _ hm).2.2.1 rfl),
    fun g hg => ⟨(k.hF g hg).1, Nat.lt_of_lt_of_le (k.hF g hg).2 hc.size⟩, k.st S u u' hc (fun x hx => (hS x hx).2.2.2.1) k.hV, k.st⟩
theorem PI.take (k : PI w u N P tb b l ao cap p h bd cs F V) (hc : Chg [b] u u') (hr : Rd 133 u' b l ao cap p' h' bd') : PI w u' N P tb b l ao cap p' h' bd' cs F V :=
  k.step hc (fun x hx => by
    have hb := k.bl
    simp at hx
    subst hx
    exact ⟨hb.2.1, hb.2.2.1, hb.2.2.2.1, fun hm => by have := (k.hF _ hm).1; omega, hb.2.2.2.2⟩) hr
theorem PI.same (k : PI w u N P tb b l ao cap p h bd cs F V) (hc : Chg [] u u') : PI w u' N P tb b l ao cap p h bd cs F V := k.step hc (fun x hx => by cases hx) (k.rd.keep hc (by simp) (by simp))
theorem PI.app {r : Option Nat} (k : PI w u N P tb b l ao cap p h bd cs F V) (hc : Chg r.toList u u') (hr : ∀ g, r = some g → N ≤ g ∧ g ∉ F) : PI w u' N P tb b l ao cap p h bd cs F V := by
  have hb := k.bl
  have hp := k.pl
  refine k.step hc (fun x hx => ?_) (k.rd.keep hc (fun hm => ?_) (fun g hg hm => ?_))
  · have := hr x (by simpa using hx)
    exact ⟨by omega, by omega, by omega, this.2, by omega⟩
  · have := (hr b (by simpa using hm)).1
    omega
  · have := (hr g (by simpa using hm)).1
    have := (k.lt g hg).1
    omega
theorem PI.set (k : PI w u N P tb b l ao cap p h bd cs F V) (i : Nat) (v : Value) : PI w (u.setCell ⟨P, i, none⟩ v) N P tb b l ao cap p h bd (cs.setIfInBounds i v) F V := by
  have hb := k.bl
  have hp := k.pl
  have hc : Chg [P] u (u.setCell ⟨P, i, none⟩ v) := (Chg.refl [P] u).setCell (p := ⟨P, i, none⟩) (.inl (by simp)) _
  refine ⟨k.rd.keep hc (by simp; omega) (fun g hg => by have := (k.lt g hg).2.1; simpa using this), k.lt, k.bl, k.pl, Nat.le_trans k.hN hc.size, k.chg.trans hc (fun x hx => .inr (by simp at hx; omega)), blk_set k.pb i v,
    (blk_set_other (by omega) _ _).trans k.eb, (blk_set_other (by omega) _ _).trans k.tbx, fun g hg => ⟨(k.hF g hg).1, Nat.lt_of_lt_of_le (k.hF g hg).2 hc.size⟩, k.st [P] u _ hc (fun x hx hm => ?_) k.hV, k.st⟩
  simp at hx
  subst hx
  have := (k.hF _ hm).1
  omega
theorem PI.more (k : PI w u N P tb b l ao cap p h bd cs F V) {F2 : List Nat} {V2 : World → Prop} (h2 : V2 u) (hf : ∀ g ∈ F2, N ≤ g ∧ g < u.heap.size) (hs : ∀ S u1 u2, Chg S u1 u2 → (∀ x ∈ S, x ∉ F2) → V2 u1 → V2 u2) :
    PI w u N P tb b l ao cap p h bd cs (F2 ++ F) (fun u => V2 u ∧ V u) :=
  ⟨k.rd, k.lt, k.bl, k.pl, k.hN, k.chg, k.pb, k.eb, k.tbx, fun g hg => by rcases List.mem_append.1 hg with h1 | h1; exact hf g h1; exact k.hF g h1, ⟨h2, k.hV⟩,
    fun S u1 u2 hc hx hv => ⟨hs S u1 u2 hc (fun x hx' hm => hx x hx' (List.mem_append_left _ hm)) hv.1, k.st S u1 u2 hc (fun x hx' hm => hx x hx' (List.mem_append_right _ hm)) hv.2⟩⟩
/-- A list that is done joins what is said. -/
theorem PI.row {T kk n : Nat} {v : Value} {r : Option Nat} {xs : List Value} (k : PI w u N P tb b l ao cap p h bd cs F V) (hrow : Row u T kk v r n xs) (hr : ∀ g, r = some g → N ≤ g) :
    PI w u N P tb b l ao cap p h bd cs (r.toList ++ F) (fun u => Row u T kk v r n xs ∧ V u) :=
  k.more hrow (fun g hg => ⟨hr g (by simpa using hg), hrow.lt g (by simpa using hg)⟩) (fun S u1 u2 hc hx hv => hv.keep hc (fun g hg hm => hx g hm (by simp [hg])))
/-- Behind an append to the list that stands in the program's cell i. -/
theorem PI.put {T kk n' i : Nat} {v' : Value} {r r' : Option Nat} {xs' : List Value} (k : PI w u N P tb b l ao cap p h bd cs F V) (hr : ∀ g, r = some g → N ≤ g ∧ g ∉ F) (hR : Row u' T kk v' r' n' xs') (hc : Chg r.toList u u') (hf : Fresh u r r') :
    PI w u' N P tb b l ao cap p h bd cs F V ∧ PI w (u'.setCell ⟨P, i, none⟩ v') N P tb b l ao cap p h bd (cs.setIfInBounds i v') F V ∧ Row (u'.setCell ⟨P, i, none⟩ v') T kk v' r' n' xs' ∧ (∀ g, r' = some g → N ≤ g ∧ g ∉ F) := by
  have hr' : ∀ g, r' = some g → N ≤ g ∧ g ∉ F := fun g hg => by
    rcases hf g hg with h1 | h1
    · exact hr g h1
    · exact ⟨Nat.le_trans k.hN h1, fun hm => by have := (k.hF g hm).2; omega⟩
  have k' := k.app hc hr
  refine ⟨k', k'.set i v', ?_, hr'⟩
  exact hR.keep (S := [P]) ((Chg.refl [P] u').setCell (p := ⟨P, i, none⟩) (.inl (by simp)) _) (fun g hg hm => by have := (hr' g hg).1; have := k.pl; simp at hm; omega)
end
def decD (o : Option PrgD) : Nat × Option PrgD := match o with
  | some p => (0, some p)
  | none => (101, none)
theorem decD_none {o : Option PrgD} (h : o = none) : decD o = (101, none) := by rw [h]; rfl
theorem decD_some {o : Option PrgD} {p : PrgD} (h : o = some p) : decD o = (0, some p) := by rw [h]; rfl
theorem leaves_frame {P : Program} {fn : Func} {R : Ending → World → Prop} {tmps tmps' : Array Value} (he : ∀ w, (results fn tmps).run P w = (results fn tmps').run P w) : ∀ (ds : List Deferred) (u : FrameMode) (w : World), Leaves P fn tmps R ds u w → Leaves P fn tmps' R ds u w
  | [], .returning, w, h => by
    obtain ⟨v, h1, h2⟩ := h
    exact ⟨v, (he w).symm.trans h1, h2⟩
  | [], .panicking _, _, h => h
  | [], .run, _, h => h
  | d :: ds, u, w, h => by
    obtain ⟨h0, fv, cap, f, args, h1, h2, h3⟩ := h
    refine ⟨h0, fv, cap, f, args, h1, h2, h3.mono fun e u' w' hh => ?_⟩
    cases e with
    | returned v => exact leaves_frame he ds _ _ hh
    | panicked c => exact leaves_frame he ds _ _ hh
    | outgrown => exact hh
theorem dec_frame (tmps : Array Value) (i : Nat) (v : Value) (h2 : i ≠ 2) (h3 : i ≠ 3) (w : World) : (results Try.f18 (tmps.setIfInBounds i v)).run Try.prog w = (results Try.f18 tmps).run Try.prog w := by
  have e2 : (tmps.setIfInBounds i v)[2]? = tmps[2]? := by rw [Array.getElem?_setIfInBounds, if_neg h2]
  have e3 : (tmps.setIfInBounds i v)[3]? = tmps[3]? := by rw [Array.getElem?_setIfInBounds, if_neg h3]
  simp [results, Try.results18, go_sem, e2, e3]
theorem door_take {R : Ending → World → Prop} {i : Nat} {v : Value} (h2 : i ≠ 2) (h3 : i ≠ 3) (c : List PanicEntry) (a : Act) (w : World) (h : bodyPostD Try.prog Try.f18 R (.panic c) (a.put (some i) v) w) : bodyPostD Try.prog Try.f18 R (.panic c) a w :=
  leaves_frame (fun w => dec_frame a.tmps i v h2 h3 w) a.defers (.panicking c) w h
/-- Behind a call that gave up. -/
theorem PI.gone {w u u' : World} {N P tb b : Nat} {l : List UInt8} {ao : Option Addr} {cap p h bd : Nat} {cs : Array Value} {F : List Nat} {V : World → Prop} (k : PI w u N P tb b l ao cap p h bd cs F V) (hc : Chg [b] u u') :
    u'.heap[P]? = some (.cells cs 28 (0, 0)) ∧ u'.heap[P + 1]? = some (.cells #[.int .i64 0] 34 (0, 0)) ∧ Chg [] w u' ∧ w.heap.size ≤ P := by
  have hb := k.bl
  exact ⟨hc.heap k.pb (by simp; omega), hc.heap k.eb (by simp; omega), k.chg.trans hc (fun x hx => .inr (by simp at hx; omega)), k.pl.1⟩
/-- Behind a deferred call the results are read: given up. -/
theorem door_bad {w u : World} {P : Nat} {v0 v1 v2 v3 v4 : Value} {tmps : Array Value} {d : Nat × Option PrgD} (k : u.heap[P]? = some (.cells #[v0, v1, v2, v3, v4] 28 (0, 0)) ∧ u.heap[P + 1]? = some (.cells #[.int .i64 0] 34 (0, 0)) ∧ Chg [] w u ∧ w.heap.size ≤ P) (hd : d = (101, none))
    (t2 : tmps[2]?.getD undef = .pointer (some ⟨P, 0, none⟩)) (t3 : tmps[3]?.getD undef = .pointer (some ⟨P + 1, 0, none⟩)) :
    bodyPostD Try.prog Try.f18 (DecPost w d) (.panic [{ v := .iface 138 (.agg #[]), recovered := false }])
      { tmps := tmps, defers := [{ target := .fn (.func 43) #[.pointer (some ⟨P, 0, none⟩), .pointer (some ⟨P + 1, 0, none⟩)], args := #[] }] } u := by
  subst hd
  refine leaves_cons (f := 43) (args := #[.pointer (some ⟨P, 0, none⟩), .pointer (some ⟨P + 1, 0, none⟩)]) (by simp) (by simp [go_sem]) ?_
  refine (catch_panicking P v0 v1 v2 v3 v4 (.int .i64 0) u k.1 k.2.1).mono ?_
  rintro e u' w'' ⟨rfl, rfl, rfl⟩
  obtain ⟨s1, s2, s3⟩ := noPrgC_cells P v0 v1 v2 v3 v4 (.int .i64 0) u k.1 k.2.1
  exact ⟨_, decode_results s1 s2 t2 t3, .inl ⟨101, rfl, by simp, rfl, k.2.2.1.trans s3 (fun x hx => .inr (by have := k.2.2.2; simp at hx; omega))⟩⟩
theorem door_good {w u : World} {P : Nat} {v0 v1 v2 v3 v4 : Value} {tmps : Array Value} {d : Nat × Option PrgD} {pr : PrgD} (h0 : u.heap[P]? = some (.cells #[v0, v1, v2, v3, v4] 28 (0, 0))) (h1 : u.heap[P + 1]? = some (.cells #[.int .i64 0] 34 (0, 0))) (hc : Chg [] w u) (hd : d = (0, some pr)) (hv : PrgV u (.agg #[v0, v1, v2, v3, v4]) pr)
    (t2 : tmps[2]?.getD undef = .pointer (some ⟨P, 0, none⟩)) (t3 : tmps[3]?.getD undef = .pointer (some ⟨P + 1, 0, none⟩)) :
    bodyPostD Try.prog Try.f18 (DecPost w d) .ret
      { tmps := tmps, defers := [{ target := .fn (.func 43) #[.pointer (some ⟨P, 0, none⟩), .pointer (some ⟨P + 1, 0, none⟩)], args := #[] }] } u := by
  subst hd
  refine leaves_cons (f := 43) (args := #[.pointer (some ⟨P, 0, none⟩), .pointer (some ⟨P + 1, 0, none⟩)]) (by simp) (by simp [go_sem]) ?_
  refine (catch_idle P u).mono ?_
  rintro e u' w'' ⟨rfl, rfl, rfl⟩
  exact ⟨_, decode_results h0 h1 t2 t3, .inr ⟨pr, _, rfl, rfl, hv, hc⟩⟩
/-- The program stored upon itself, and the number. -/
theorem PI.final {w u : World} {N P tb b : Nat} {l : List UInt8} {ao : Option Addr} {cap p h bd : Nat} {v0 v1 v2 v3 v4 : Value} {F : List Nat} {V : World → Prop} (k : PI w u N P tb b l ao cap p h bd #[v0, v1, v2, v3, v4] F V) :
    ((((((u.setCell ⟨P, 0, none⟩ v0).setCell ⟨P, 1, none⟩ v1).setCell ⟨P, 2, none⟩ v2).setCell ⟨P, 3, none⟩ v3).setCell ⟨P, 4, none⟩ v4).setCell ⟨P + 1, 0, none⟩ (.int .i64 0)).heap[P]? = some (.cells #[v0, v1, v2, v3, v4] 28 (0, 0)) ∧
    ((((((u.setCell ⟨P, 0, none⟩ v0).setCell ⟨P, 1, none⟩ v1).setCell ⟨P, 2, none⟩ v2).setCell ⟨P, 3, none⟩ v3).setCell ⟨P, 4, none⟩ v4).setCell ⟨P + 1, 0, none⟩ (.int .i64 0)).heap[P + 1]? = some (.cells #[.int .i64 0] 34 (0, 0)) ∧
    Chg [] w ((((((u.setCell ⟨P, 0, none⟩ v0).setCell ⟨P, 1, none⟩ v1).setCell ⟨P, 2, none⟩ v2).setCell ⟨P, 3, none⟩ v3).setCell ⟨P, 4, none⟩ v4).setCell ⟨P + 1, 0, none⟩ (.int .i64 0)) ∧
    V ((((((u.setCell ⟨P, 0, none⟩ v0).setCell ⟨P, 1, none⟩ v1).setCell ⟨P, 2, none⟩ v2).setCell ⟨P, 3, none⟩ v3).setCell ⟨P, 4, none⟩ v4).setCell ⟨P + 1, 0, none⟩ (.int .i64 0)) := by
  obtain ⟨s1, s2, s3⟩ := set6 k.pb k.eb v0 v1 v2 v3 v4 (.int .i64 0)
  have hp := k.pl
  refine ⟨s1, s2, k.chg.trans s3 (fun x hx => .inr (by simp at hx; omega)), k.st _ _ _ s3 (fun x hx hm => ?_) k.hV⟩
  have := (k.hF x hm).1
  simp at hx
  omega
end Go.Proofs.Ytbikekgljabalaa

/- Walks of the code layer: a program read, the parse. -/
namespace Go.Proofs.Ytbikekgljabalaa
open Go.RowKit Go.AB
set_option linter.unusedSimpArgs false
set_option linter.unusedVariables false
set_option linter.unusedSectionVars false

section
variable {L : List UInt8} {vars vols bars : List VarD} {locks : List ByteArray} {thrs : List ThrD} {p1 p2 p3 p4 p5 : Nat}
theorem dB1 (h1 : dList 4096 L (dVar L) 0 = none) : dBody L = none := by unfold dBody dPrg; simp only [h1, Option.bind_none]
theorem dB2 (h1 : dList 4096 L (dVar L) 0 = some (vars, p1)) (h2 : dList 4096 L (dVar L) p1 = none) : dBody L = none := by unfold dBody dPrg; simp only [h1, h2, Option.bind_some, Option.bind_none]
theorem dB3 (h1 : dList 4096 L (dVar L) 0 = some (vars, p1)) (h2 : dList 4096 L (dVar L) p1 = some (vols, p2)) (h3 : dList 4096 L (dLock L) p2 = none) : dBody L = none := by unfold dBody dPrg; simp only [h1, h2, h3, Option.bind_some, Option.bind_none]
theorem dB4 (h1 : dList 4096 L (dVar L) 0 = some (vars, p1)) (h2 : dList 4096 L (dVar L) p1 = some (vols, p2)) (h3 : dList 4096 L (dLock L) p2 = some (locks, p3)) (h4 : dList 4096 L (dVar L) p3 = none) : dBody L = none := by unfold dBody dPrg; simp only [h1, h2, h3, h4, Option.bind_some, Option.bind_none]
theorem dB5 (h1 : dList 4096 L (dVar L) 0 = some (vars, p1)) (h2 : dList 4096 L (dVar L) p1 = some (vols, p2)) (h3 : dList 4096 L (dLock L) p2 = some (locks, p3)) (h4 : dList 4096 L (dVar L) p3 = some (bars, p4)) (h5 : dList 65535 L (dThr L) p4 = none) : dBody L = none := by
  unfold dBody dPrg; simp only [h1, h2, h3, h4, h5, Option.bind_some, Option.bind_none, Option.map_none]
theorem dB6 (h1 : dList 4096 L (dVar L) 0 = some (vars, p1)) (h2 : dList 4096 L (dVar L) p1 = some (vols, p2)) (h3 : dList 4096 L (dLock L) p2 = some (locks, p3)) (h4 : dList 4096 L (dVar L) p3 = some (bars, p4)) (h5 : dList 65535 L (dThr L) p4 = some (thrs, p5)) :
    dBody L = if p5 = L.length ∧ prgB ⟨vars, vols, locks, bars, thrs⟩ = true then some ⟨vars, vols, locks, bars, thrs⟩ else none := by
  unfold dBody dPrg; simp only [h1, h2, h3, h4, h5, Option.bind_some, Option.map_some]
end
theorem dPrg_all {L : List UInt8} {vars vols bars : List VarD} {locks : List ByteArray} {thrs : List ThrD} {p1 p2 p3 p4 p5 : Nat} (h1 : dList 4096 L (dVar L) 0 = some (vars, p1)) (h2 : dList 4096 L (dVar L) p1 = some (vols, p2)) (h3 : dList 4096 L (dLock L) p2 = some (locks, p3)) (h4 : dList 4096 L (dVar L) p3 = some (bars, p4)) (h5 : dList 65535 L (dThr L) p4 = some (thrs, p5)) :
    dPrg L 0 = some (⟨vars, vols, locks, bars, thrs⟩, p5) := by
  unfold dPrg; simp only [h1, h2, h3, h4, h5, Option.bind_some, Option.map_some]
theorem small_of {L : List UInt8} (hL : L.length < 18446744073709551616) {x : PrgD} {q : Nat} (h : dPrg L 0 = some (x, q)) : SmallP x := by
  obtain ⟨⟨h1, h2, h3, h4, h5⟩, _⟩ := dPrg_fwd hL (Nat.zero_le _) h
  have ht : ∀ t ∈ x.thrs, t.name.size ≤ 24 ∧ t.code.length ≤ 4096 ∧ t.places.length = t.code.length := fun t ht => by
    have := (h5.2 t ht).1
    simp only [thrB, Bool.and_eq_true, decide_eq_true_eq] at this
    exact ⟨this.1.1.1, this.1.1.2, this.1.2⟩
  constructor
  all_goals first
    | omega
    | (intro v hv; first | (have := (h1.2 v hv).1; omega) | (have := (h2.2 v hv).1; omega) | (have := h3.2 v hv; omega) | (have := (h4.2 v hv).1; omega) | (have := ht v hv; omega))
    | skip
theorem rows_apart {w : World} {N : Nat} {F : List Nat} {r rc rp : Option Nat} (hl : ∀ g, r = some g → g < w.heap.size) (hr : ∀ g, r = some g → N ≤ g ∧ g ∉ F) (hc : Fresh (w.drewN 1) none rc) (hp : Fresh (w.drewN 1) none rp) : ∀ g, r = some g → N ≤ g ∧ g ∉ rp.toList ++ (rc.toList ++ F) := fun g hg => by
  refine ⟨(hr g hg).1, fun hm => ?_⟩
  have h1 := hl g hg
  rcases List.mem_append.1 hm with h | h
  · have := (hp g (by simpa using h)).resolve_left (by simp)
    have h2 : (w.drewN 1).heap.size = w.heap.size := rfl
    omega
  · rcases List.mem_append.1 h with h | h
    · have := (hc g (by simpa using h)).resolve_left (by simp)
      have h2 : (w.drewN 1).heap.size = w.heap.size := rfl
      omega
    · exact (hr g hg).2 h
theorem openB_len (l : List UInt8) : (openB l).2.1.length ≤ l.length := by
  unfold openB
  repeat' split
  all_goals simp

theorem dCnt_le {m : Nat} {L : List UInt8} {p n q : Nat} (hp : p ≤ L.length) (h : dCnt m L p = some (n, q)) : n ≤ m := by
  obtain ⟨h1, _⟩ := sureP_some (p_short m) hp h
  have := rShort_le m L ⟨p, 0, 0⟩
  rw [h1] at this
  exact this
/-- What the parse of a list says between the rounds. -/
structure LQ {α : Type} (d : Ps α) (n p0 j q : Nat) (xs : List α) : Prop where
  len : xs.length = j
  eq : rep (fun _ : Unit => d) (fun _ => ()) n () p0 = (rep (fun _ : Unit => d) (fun _ => ()) (n - j) () q).map fun t => (xs ++ t.1, t.2)
theorem LQ.start {α : Type} (d : Ps α) (n p0 : Nat) : LQ d n p0 0 p0 [] := ⟨rfl, by simp⟩
theorem LQ.step {α : Type} {d : Ps α} {n p0 j q q2 : Nat} {xs : List α} {x : α} (h : LQ d n p0 j q xs) (hj : j < n) (hd : d q = some (x, q2)) : LQ d n p0 (j + 1) q2 (xs ++ [x]) := ⟨by simp [h.len], rep_step hj hd h.eq⟩
theorem LQ.stop {α : Type} {d : Ps α} {n p0 j q : Nat} {xs : List α} (h : LQ d n p0 j q xs) (hj : j < n) (hd : d q = none) : rep (fun _ : Unit => d) (fun _ => ()) n () p0 = none := rep_stop hj hd h.eq
theorem LQ.done {α : Type} {d : Ps α} {n p0 q : Nat} {xs : List α} (h : LQ d n p0 n q xs) : rep (fun _ : Unit => d) (fun _ => ()) n () p0 = some (xs, q) := rep_done h.eq

section
variable {w : World} {b : Nat} {l : List UInt8} {ao : Option Addr} {cap pos q : Nat}
theorem vars_ok (hR : Ok w b l ao cap pos) (hl : l.length ≤ 16777216) {xs : List VarD} (h : dList 4096 l (dVar l) pos = some (xs, q)) :
    Calls Try.prog 45 #[.agg #[.pointer (some ⟨b, 0, none⟩)]] w fun e w' => ∃ ao' cap' r, e = .returned (.slice ao' xs.length cap') ∧ Row w' 53 2 (.slice ao' xs.length cap') r xs.length (xs.flatMap varC) ∧ Fresh w none r ∧ Ok w' b l ao cap q ∧ Chg [b] w w' := by
  refine (vars_calls hR hl).mono fun e w' hd => ?_
  rcases hd with ⟨x, q2, a, c, r, h1, h2⟩ | ⟨h1, _⟩
  · rw [h] at h1
    simp only [Option.some.injEq, Prod.mk.injEq] at h1
    obtain ⟨rfl, rfl⟩ := h1
    exact ⟨a, c, r, h2⟩
  · rw [h] at h1; cases h1
theorem vars_no (hR : Ok w b l ao cap pos) (hl : l.length ≤ 16777216) (h : dList 4096 l (dVar l) pos = none) :
    Calls Try.prog 45 #[.agg #[.pointer (some ⟨b, 0, none⟩)]] w fun e w' => e = gaveUp ∧ Chg [b] w w' := by
  refine (vars_calls hR hl).mono fun e w' hd => ?_
  rcases hd with ⟨x, q2, a, c, r, h1, _⟩ | ⟨_, h2⟩
  · rw [h] at h1; cases h1
  · exact h2
theorem thread_ok (hR : Ok w b l ao cap pos) (hl : l.length ≤ 16777216) {t : ThrD} (h : dThr l pos = some (t, q)) :
    Calls Try.prog 50 #[.agg #[.pointer (some ⟨b, 0, none⟩)]] w fun e w' => ∃ (ac ap : Option Addr) (cc cp : Nat) (rc rp : Option Nat), e = .returned (.agg #[.string t.name, .slice ac t.code.length cc, .slice ap t.places.length cp]) ∧ Row w' 61 5 (.slice ac t.code.length cc) rc t.code.length (t.code.flatMap insC) ∧
      Row w' 63 2 (.slice ap t.places.length cp) rp t.places.length (t.places.flatMap plcC) ∧ Fresh w none rc ∧ Fresh w none rp ∧ Ok w' b l ao cap q ∧ Chg [b] w w' := by
  refine (thread_calls hR hl).mono fun e w' hd => ?_
  rcases hd with ⟨x, q2, vc, vp, rc, rp, h1, h2, h3, h4, h5⟩ | ⟨h1, _⟩
  · rw [h] at h1
    simp only [Option.some.injEq, Prod.mk.injEq] at h1
    obtain ⟨rfl, rfl⟩ := h1
    obtain ⟨_, _, ac, cc, rfl, _⟩ := h3.view
    obtain ⟨_, _, ap, cp, rfl, _⟩ := h4.view
    exact ⟨ac, ap, cc, cp, rc, rp, h2, h3, h4, h5⟩
  · rw [h] at h1; cases h1
theorem thread_no (hR : Ok w b l ao cap pos) (hl : l.length ≤ 16777216) (h : dThr l pos = none) :
    Calls Try.prog 50 #[.agg #[.pointer (some ⟨b, 0, none⟩)]] w fun e w' => e = gaveUp ∧ Chg [b] w w' := by
  refine (thread_calls hR hl).mono fun e w' hd => ?_
  rcases hd with ⟨x, q2, vc, vp, rc, rp, h1, _⟩ | ⟨_, h2⟩
  · rw [h] at h1; cases h1
  · exact h2
end
theorem PI.start {w w1 w2 : World} {P b : Nat} {l : List UInt8} {ao : Option Addr} {cap : Nat} (hPl : w.heap.size ≤ P) (hp1 : w1.heap[P]? = some (.cells #[.slice none 0 0, .slice none 0 0, .slice none 0 0, .slice none 0 0, .slice none 0 0] 28 (0, 0))) (he1 : w1.heap[P + 1]? = some (.cells #[.int .i64 0] 34 (0, 0))) (hC1 : Chg [] w w1)
    (hc2 : Chg [] (w1.setCell ⟨P + 1, 0, none⟩ (.int .i64 0)) w2) (hR : Rd 133 w2 b l ao cap 0 0 0) (hb : (w1.setCell ⟨P + 1, 0, none⟩ (.int .i64 0)).heap.size ≤ b) (hg : ∀ g, (Value.slice ao l.length cap).ownBlock = some g → (w1.setCell ⟨P + 1, 0, none⟩ (.int .i64 0)).heap.size ≤ g ∧ g < w2.heap.size) :
    PI w (w2.alloc (.cells #[.pointer (some ⟨b, 0, none⟩)] 89)) (w2.heap.size + 1) P w2.heap.size b l ao cap 0 0 0 #[.slice none 0 0, .slice none 0 0, .slice none 0 0, .slice none 0 0, .slice none 0 0] [] (fun _ => True) := by
  have hs1 : (w1.setCell ⟨P + 1, 0, none⟩ (.int .i64 0)).heap.size = w1.heap.size := by simp [World.setCell]
  have e1 := blk_lt he1
  have s2 := hc2.size
  have hbl := blk_lt hR.blk
  have hca : Chg [] w2 (w2.alloc (.cells #[.pointer (some ⟨b, 0, none⟩)] 89)) := (Chg.refl [] w2).alloc _
  refine ⟨hR.keep hca (by simp) (by simp), fun g h => ?_, ?_, ?_, by simp, ?_, ?_, ?_, heap_alloc_new w2 _, (fun g h => by cases h), trivial, fun _ _ _ _ _ _ => trivial⟩
  · have := hg g h; omega
  · have := hC1.size; omega
  · omega
  · exact ((hC1.setCell (p := ⟨P + 1, 0, none⟩) (.inr (by simp only; omega)) _).trans' hc2).trans' hca
  · exact hca.heap (hc2.heap ((blk_set_other (by omega) _ _).trans hp1) (by simp)) (by simp)
  · exact hca.heap (hc2.heap (blk_set he1 0 _) (by simp)) (by simp)
end Go.Proofs.Ytbikekgljabalaa
