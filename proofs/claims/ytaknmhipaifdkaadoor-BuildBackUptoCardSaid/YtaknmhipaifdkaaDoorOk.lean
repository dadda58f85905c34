/- Walks of the builder: Labels, where nothing is wrong. -/
import Derived.Test.YtaknmhipaifdkaaDoorOj
set_option linter.unusedVariables false
set_option linter.unusedSectionVars false
namespace Go.Proofs.YtaknmhipaifdkaaDoor
open Go.RowKit Go.AB
set_option linter.unusedSimpArgs false
set_option linter.unusedVariables false
set_option linter.unusedSectionVars false

theorem catchL_idle (P : Nat) (w : World) :
    CallsD Tryd.prog 24 #[.pointer (some ⟨P, 0, none⟩), .pointer (some ⟨P + 1, 0, none⟩)] .returning w fun e u' w' => e = .returned (.tuple #[]) ∧ u' = .returning ∧ w' = w := by
  refine callsD_of_wpS Tryd.func24 rfl fun c₀ cs hu => ?_
  apply wpS_seq
  apply wpS_region
  simp [wpOpsS, go_sem, recoverD, hu, Tryd.ntmps24, Exit.thenS]
  refine wpS_of_wp ?_
  simp only [Array.size, Array.replicate, List.replicate, List.setIfInBounds_toArray, List.set_cons_zero, List.set_cons_succ, List.append_toArray, List.cons_append, List.nil_append]
  go_wp2
  refine ⟨rfl, _, ?_, .tuple #[], by simp [results, Tryd.results24], rfl, rfl, rfl⟩
  cases c₀
  simp_all
/-- What Labels answers, where nothing is wrong. -/
def LabP (w : World) (by' : List (ByteArray × Nat)) (e : Ending) (w' : World) : Prop :=
  ∃ vo, e = .returned (.tuple #[vo, .agg #[.int .i64 0, .int .i64 0, .int .i64 0]]) ∧ View w' 1 vo by'.length (by'.map fun p => intV p.2) ∧ Chg [] w w'
theorem doorL_good {w u : World} {P : Nat} {vo : Value} {tmps : Array Value} {by' : List (ByteArray × Nat)} (h0 : u.heap[P]? = some (.cells #[vo] 57 (0, 0))) (h1 : u.heap[P + 1]? = some (.cells #[.int .i64 0, .int .i64 0, .int .i64 0] 37 (0, 0))) (hc : Chg [] w u) (hv : View u 1 vo by'.length (by'.map fun p => intV p.2))
    (t2 : tmps[2]?.getD undef = .pointer (some ⟨P, 0, none⟩)) (t3 : tmps[3]?.getD undef = .pointer (some ⟨P + 1, 0, none⟩)) :
    bodyPostD Tryd.prog Tryd.f15 (LabP w by') .ret { tmps := tmps, defers := [{ target := .fn (.func 24) #[.pointer (some ⟨P, 0, none⟩), .pointer (some ⟨P + 1, 0, none⟩)], args := #[] }] } u := by
  refine leaves_cons (f := 24) (args := #[.pointer (some ⟨P, 0, none⟩), .pointer (some ⟨P + 1, 0, none⟩)]) (by simp) (by simp [go_sem]) ?_
  refine (catchL_idle P u).mono ?_
  rintro e u' w'' ⟨rfl, rfl, rfl⟩
  have c0 : w''.cell? ⟨P, 0, none⟩ = some vo := blk_cell h0 0
  have d0 : w''.cell? ⟨P + 1, 0, none⟩ = some (.int .i64 0) := blk_cell h1 0
  have d1 : w''.cell? ⟨P + 1, 1, none⟩ = some (.int .i64 0) := blk_cell h1 1
  have d2 : w''.cell? ⟨P + 1, 2, none⟩ = some (.int .i64 0) := blk_cell h1 2
  exact ⟨_, by simp [results, Tryd.results15, go_sem, t2, t3, c0, d0, d1, d2], vo, rfl, hv, hc⟩

set_option maxHeartbeats 4000000 in
set_option maxRecDepth 100000 in
theorem labels_ok (k : BkD) (hsz : ∀ x ∈ k.items, x.name.size ≤ 4294967296) (hlen : k.items.length ≤ 1048576) {v : Value} (w : World) (hv : Lst itC 10 w v k.items) {by' : List (ByteArray × Nat)} (hd : waysD k.items = .ok by') :
    Calls Tryd.prog 15 #[.agg #[.string k.name, v, .int .i64 k.l, .int .i64 k.c]] w (LabP w by') := by
  obtain ⟨nm, items, kl, kc⟩ := k
  simp only at hsz hlen hv hd ⊢
  have hmf : ∀ (fn : Fn) (first cap : Array Value) (w : World), (Instr.makeFunc fn first cap).run Tryd.prog w = .ok (.func fn first cap) w := fun _ _ _ _ => rfl
  obtain ⟨ai, ci, rfl, hic, _, _⟩ := hv.len
  obtain ⟨wa, hwa⟩ : ∃ wa, (((w.alloc (.cells #[.string nm, .slice ai items.length ci, .int .i64 kl, .int .i64 kc] 56)).alloc (.cells #[.slice none 0 0] 57)).alloc (.cells #[.int .i64 0, .int .i64 0, .int .i64 0] 37)) = wa := ⟨_, rfl⟩
  have hca : Chg [] w wa := by rw [← hwa]; exact (((Chg.refl [] w).alloc _).alloc _).alloc _
  have hU : wa.heap[w.heap.size]? = some (.cells #[.string nm, .slice ai items.length ci, .int .i64 kl, .int .i64 kc] 56 (0, 0)) := by rw [← hwa]; exact blk_alloc_old (blk_alloc_old (heap_alloc_new w _) _) _
  have hPb : wa.heap[w.heap.size + 1]? = some (.cells #[.slice none 0 0] 57 (0, 0)) := by
    rw [← hwa]
    refine blk_alloc_old ?_ _
    have h := heap_alloc_new (w.alloc (.cells #[.string nm, .slice ai items.length ci, .int .i64 kl, .int .i64 kc] 56)) (.cells #[.slice none 0 0] 57)
    simpa only [World.size_alloc] using h
  have hFb : wa.heap[w.heap.size + 1 + 1]? = some (.cells #[.int .i64 0, .int .i64 0, .int .i64 0] 37 (0, 0)) := by
    rw [← hwa]
    have h := heap_alloc_new ((w.alloc (.cells #[.string nm, .slice ai items.length ci, .int .i64 kl, .int .i64 kc] 56)).alloc (.cells #[.slice none 0 0] 57)) (.cells #[.int .i64 0, .int .i64 0, .int .i64 0] 37)
    simpa only [World.size_alloc] using h
  have HW := hid (ways_calls items hsz hlen wa (hv.keep hca))
  rw [hd] at HW
  have u1 : wa.cell? ⟨w.heap.size, 1, none⟩ = some (.slice ai items.length ci) := blk_cell hU 1
  have HPF := hid (And.intro hPb hFb)
  obtain ⟨P, hP⟩ : ∃ P, w.heap.size + 1 = P := ⟨_, rfl⟩
  have hPl : w.heap.size ≤ P := by omega
  have HP := hid hP
  clear hd hU hPb hFb hv hP hsz
  go_enter_defers Tryd.func15, Tryd.ntmps15
  go_wp2_with (go_at_call 25; refine halt (fun X hX => ?_))
  rw [hX.out]; clear hX
  have hPF := HPF.out
  rw [HP.out] at hPF ⊢
  refine HW.out.mono ?_
  rintro e w2 (⟨f, hd, _⟩ | ⟨by2, vo, r, m, hd, rfl, hm, hml, hro, hfo, hc2⟩)
  · cases hd
  · simp only [Except.ok.injEq] at hd
    subst hd
    obtain ⟨ao, co, rfl⟩ := hro.shape
    have h0 := hc2.heap hPF.1 (by simp)
    have h1 := hc2.heap hPF.2 (by simp)
    have c0 : w2.cell? ⟨P, 0, none⟩ = some (.slice none 0 0) := blk_cell h0 0
    have f0 := fun i => blk_free h0 i
    have d0 : w2.cell? ⟨P + 1, 0, none⟩ = some (.int .i64 0) := blk_cell h1 0
    have d1 : w2.cell? ⟨P + 1, 1, none⟩ = some (.int .i64 0) := blk_cell h1 1
    have d2 : w2.cell? ⟨P + 1, 2, none⟩ = some (.int .i64 0) := blk_cell h1 2
    have g0 := fun i => blk_free h1 i
    have hpw : P + 1 < wa.heap.size := blk_lt hPF.2
    have HRO := hid (And.intro hro (And.intro hfo (And.intro h0 h1)))
    have HCC := hid (hca.trans' hc2)
    clear hro hfo h0 h1 hm
    go_wp2
    have s1 := ((blk_set_other (b := P + 1) (c := P) (by omega) 2 (.int .i64 0)).trans ((blk_set_other (b := P + 1) (c := P) (by omega) 1 (.int .i64 0)).trans ((blk_set_other (b := P + 1) (c := P) (by omega) 0 (.int .i64 0)).trans (blk_set (blk_set HRO.out.2.2.1 0 (.slice ao by'.length co)) 0 (.slice ao by'.length co)))))
    have s2 := (blk_set (blk_set (blk_set ((blk_set_other (b := P) (c := P + 1) (by omega) 0 (.slice ao by'.length co)).trans ((blk_set_other (b := P) (c := P + 1) (by omega) 0 (.slice ao by'.length co)).trans HRO.out.2.2.2)) 0 (.int .i64 0)) 1 (.int .i64 0)) 2 (.int .i64 0))
    have s3 := ((((((Chg.refl [P, P + 1] w2).setCell (p := ⟨P, 0, none⟩) (.inl (by simp)) (.slice ao by'.length co)).setCell (p := ⟨P, 0, none⟩) (.inl (by simp)) (.slice ao by'.length co)).setCell (p := ⟨P + 1, 0, none⟩) (.inl (by simp)) (.int .i64 0)).setCell (p := ⟨P + 1, 1, none⟩) (.inl (by simp)) (.int .i64 0)).setCell (p := ⟨P + 1, 2, none⟩) (.inl (by simp)) (.int .i64 0))
    generalize (((((w2.setCell ⟨P, 0, none⟩ (.slice ao by'.length co)).setCell ⟨P, 0, none⟩ (.slice ao by'.length co)).setCell ⟨P + 1, 0, none⟩ (.int .i64 0)).setCell ⟨P + 1, 1, none⟩ (.int .i64 0)).setCell ⟨P + 1, 2, none⟩ (.int .i64 0)) = W at s1 s2 s3 ⊢
    exact doorL_good s1 s2 (HCC.out.trans s3 (fun y hy => .inr (by simp at hy; omega))) (HRO.out.1.keep s3 (fun g hg hm => by
      have := (HRO.out.2.1 g hg).resolve_left (by simp)
      simp at hm
      omega)).view rfl rfl
end Go.Proofs.YtaknmhipaifdkaaDoor
