/- Walks of the builder: what an instruction's name leads to. -/
import Derived.Test.YtaknmhipaifdkaaDoorOf
set_option linter.unusedVariables false
set_option linter.unusedSectionVars false
namespace Go.Proofs.YtaknmhipaifdkaaDoor
open Go.RowKit Go.AB
set_option linter.unusedSimpArgs false
set_option linter.unusedVariables false
set_option linter.unusedSectionVars false

/-- What target answers. -/
def TargP (w : World) (d : Except Flt Int) (e : Ending) (w' : World) : Prop :=
  (∃ f, d = .error f ∧ e = refused f ∧ Chg [] w w') ∨ (∃ n, d = .ok n ∧ e = .returned (.int .i64 n) ∧ Chg [] w w')

set_option maxHeartbeats 8000000 in
set_option maxRecDepth 100000 in
theorem target_calls {w : World} {b bk bc m : Nat} {st : Nms} {all : Nat} {by' : List (ByteArray × Nat)} (h : BS w b bk bc st all) (hm : MapF w m Value.string (fBy by')) (x : ItD) :
    Calls Tryd.prog 37 #[.pointer (some ⟨b, 0, none⟩), .agg (itC x).toArray, .map (some m)] w (TargP w (targD st by' x)) := by
  obtain ⟨op, a, xb, xc, n, name, p1, p2, q1, q2⟩ := x
  show Calls Tryd.prog 37 #[.pointer (some ⟨b, 0, none⟩), .agg #[.int .i64 op, .int .i64 a, .int .i64 xb, .int .i64 xc, .int .i64 n, .string name, .int .i64 p1, .int .i64 p2, .int .i64 q1, .int .i64 q2], .map (some m)] w _
  obtain ⟨D, hD⟩ : ∃ D, targD st by' ⟨op, a, xb, xc, n, name, p1, p2, q1, q2⟩ = D := ⟨_, rfl⟩
  rw [hD]
  unfold targD at hD
  simp only at hD
  have hc0 := (Chg.refl [] w).alloc (.cells #[.int .i64 op, .int .i64 a, .int .i64 xb, .int .i64 xc, .int .i64 n, .string name, .int .i64 p1, .int .i64 p2, .int .i64 q1, .int .i64 q2] 82)
  have HT := hid (fun W => touches_calls op W)
  obtain ⟨t, ht⟩ : ∃ t, touchB op = t := ⟨_, rfl⟩
  rw [ht] at hD HT
  clear ht
  by_cases h0 : t = 0
  · rw [if_pos h0] at hD
    have HD := hid hD
    subst h0
    clear hD
    go_enter Tryd.func37, Tryd.ntmps37
    go_wp2_with (go_at_call 29; refine (HT.out _).mono ?_; rintro e w' ⟨rfl, rfl⟩)
    go_ret
    exact .inr ⟨_, HD.out.symm, rfl, hc0⟩
  · rw [if_neg h0] at hD
    have t0 : (t == 0) = false := by simp [h0]
    by_cases h6 : t = 6
    · rw [if_pos h6] at hD
      subst h6
      have hlu := (hm.keep hc0 (by simp)).lookup key_str Tryd.underlying83 (zero_of info_int _) name true
      cases ha : assoc by' name with
      | none =>
        rw [ha] at hD
        have HD := hid hD
        have hfb : fBy by' name = none := by unfold fBy; rw [ha]; rfl
        rw [hfb] at hlu
        simp only [Option.getD_none, Option.isSome_none, if_true] at hlu
        clear hD hfb ha h0 t0
        go_enter Tryd.func37, Tryd.ntmps37
        go_wp2_with (first | (go_at_call 29; refine (HT.out _).mono ?_; rintro e w' ⟨rfl, rfl⟩) | (go_at_call 35; refine (refuse_calls _ _ _ _).mono ?_; rintro e w' ⟨rfl, hcr⟩))
        exact ⟨rfl, .inl ⟨_, HD.out.symm, rfl, hc0.trans' hcr⟩⟩
      | some k =>
        rw [ha] at hD
        have HD := hid hD
        have hfb : fBy by' name = some (intV k) := by unfold fBy; rw [ha]; rfl
        rw [hfb] at hlu
        simp only [Option.getD_some, Option.isSome_some, if_true, intV] at hlu
        clear hD hfb ha h0 t0
        go_enter Tryd.func37, Tryd.ntmps37
        go_wp2_with (go_at_call 29; refine (HT.out _).mono ?_; rintro e w' ⟨rfl, rfl⟩)
        go_ret
        exact .inr ⟨_, HD.out.symm, rfl, hc0⟩
    · rw [if_neg h6] at hD
      have t6 : (t == 6) = false := by simp [h6]
      obtain ⟨wi, hwi⟩ : ∃ wi, w.alloc (.cells #[.int .i64 op, .int .i64 a, .int .i64 xb, .int .i64 xc, .int .i64 n, .string name, .int .i64 p1, .int .i64 p2, .int .i64 q1, .int .i64 q2] 82) = wi := ⟨_, rfl⟩
      have hB : BS wi b bk bc st all := by rw [← hwi]; exact h.keep hc0 (by simp) (by simp) (by simp)
      have hbi : wi.heap[w.heap.size]? = some (.cells #[.int .i64 op, .int .i64 a, .int .i64 xb, .int .i64 xc, .int .i64 n, .string name, .int .i64 p1, .int .i64 p2, .int .i64 q1, .int .i64 q2] 82 (0, 0)) := by rw [← hwi]; exact heap_alloc_new w _
      have hlu0 := (hB.keep ((Chg.refl [] wi).drew) (by simp) (by simp) (by simp)).look name
      have hlu1 := fun o => (hB.keep (((Chg.refl [] wi).alloc o).drew) (by simp) (by simp) (by simp)).look name
      have b0 := hB.c0
      have b0a := fun o => (hB.keep ((Chg.refl [] wi).alloc o) (by simp) (by simp) (by simp)).c0
      have i0 : wi.cell? ⟨w.heap.size, 0, none⟩ = some (.int .i64 op) := blk_cell hbi 0
      have i5 : wi.cell? ⟨w.heap.size, 5, none⟩ = some (.string name) := blk_cell hbi 5
      have i5a : ∀ o, (wi.alloc o).cell? ⟨w.heap.size, 5, none⟩ = some (.string name) := fun o => blk_cell (blk_alloc_old hbi o) 5
      have i8 : ∀ o, (wi.alloc o).cell? ⟨w.heap.size, 8, none⟩ = some (.int .i64 q1) := fun o => blk_cell (blk_alloc_old hbi o) 8
      have i9 : ∀ o, (wi.alloc o).cell? ⟨w.heap.size, 9, none⟩ = some (.int .i64 q2) := fun o => blk_cell (blk_alloc_old hbi o) 9
      have hci : Chg [] w wi := by rw [← hwi]; exact hc0
      cases ha : assoc st name with
      | none =>
        rw [ha] at hD
        have HD := hid hD
        have hfb : fKn st name = none := by unfold fKn; rw [ha]; rfl
        rw [hfb] at hlu0 hlu1
        simp only [Option.getD_none, Option.isSome_none] at hlu0 hlu1
        clear hfb
        have HBI := hid (And.intro hbi hB)
        clear hD ha h0 h6 hbi hB
        go_enter Tryd.func37, Tryd.ntmps37
        go_wp2_with (go_at_call 29; refine (HT.out _).mono ?_; rintro e w' ⟨rfl, rfl⟩)
        go_region
        all_goals
          go_wp2_with (go_at_call 35; refine (refuse_calls _ _ _ _).mono ?_; rintro e w' ⟨rfl, hcr⟩)
          exact ⟨rfl, .inl ⟨_, HD.out.symm, rfl, hci.trans' (Chg.trans' (by repeat (first | with_reducible exact Chg.refl _ _ | with_reducible exact Chg.refl _ _ | with_reducible refine Chg.setCell ?_ (by first | exact .inr (Nat.le_refl _) | (refine .inr ?_; first | omega | (simp; done) | (simp; omega)) | (refine .inl ?_; simp; done)) _ | with_reducible refine Chg.drewN ?_ _ | with_reducible refine Chg.drew ?_ | with_reducible refine Chg.alloc ?_ _)) hcr)⟩⟩
      | some e =>
        rw [ha] at hD
        simp only at hD
        have hfb : fKn st name = some (entV e) := by unfold fKn; rw [ha]; rfl
        rw [hfb] at hlu0 hlu1
        simp only [Option.getD_some, Option.isSome_some, entV] at hlu0 hlu1
        obtain ⟨e1, e2⟩ := e
        simp only at hD hlu0 hlu1
        clear hfb
        by_cases hs : e1 ≠ t
        · rw [if_pos hs] at hD
          have HD := hid hD
          have g1 : (e1 != t) = true := by simp [hs]
          clear hs
          have HBI := hid (And.intro hbi hB)
          clear hD ha h0 h6 hbi hB
          go_enter Tryd.func37, Tryd.ntmps37
          go_wp2_with (go_at_call 29; refine (HT.out _).mono ?_; rintro e w' ⟨rfl, rfl⟩)
          go_region
          all_goals
            go_wp2_with (go_at_call 35; refine (refuse_calls _ _ _ _).mono ?_; rintro e w' ⟨rfl, hcr⟩)
            exact ⟨rfl, .inl ⟨_, HD.out.symm, rfl, hci.trans' (Chg.trans' (by repeat (first | with_reducible exact Chg.refl _ _ | with_reducible exact Chg.refl _ _ | with_reducible refine Chg.setCell ?_ (by first | exact .inr (Nat.le_refl _) | (refine .inr ?_; first | omega | (simp; done) | (simp; omega)) | (refine .inl ?_; simp; done)) _ | with_reducible refine Chg.drewN ?_ _ | with_reducible refine Chg.drew ?_ | with_reducible refine Chg.alloc ?_ _)) hcr)⟩⟩
        · rw [if_neg hs] at hD
          have HD := hid hD
          have g1 : (e1 != t) = false := by simpa using hs
          clear hs
          have HBI := hid (And.intro hbi hB)
          clear hD ha h0 h6 hbi hB
          go_enter Tryd.func37, Tryd.ntmps37
          go_wp2_with (go_at_call 29; refine (HT.out _).mono ?_; rintro e w' ⟨rfl, rfl⟩)
          go_region
          all_goals
            go_wp2_with (go_at_call 35; refine (refuse_calls _ _ _ _).mono ?_; rintro e w' ⟨rfl, hcr⟩)
            go_ret
            exact .inr ⟨_, HD.out.symm, rfl, hci.trans' (by repeat (first | with_reducible exact Chg.refl _ _ | with_reducible exact Chg.refl _ _ | with_reducible refine Chg.setCell ?_ (by first | exact .inr (Nat.le_refl _) | (refine .inr ?_; first | omega | (simp; done) | (simp; omega)) | (refine .inl ?_; simp; done)) _ | with_reducible refine Chg.drewN ?_ _ | with_reducible refine Chg.drew ?_ | with_reducible refine Chg.alloc ?_ _))⟩
end Go.Proofs.YtaknmhipaifdkaaDoor
