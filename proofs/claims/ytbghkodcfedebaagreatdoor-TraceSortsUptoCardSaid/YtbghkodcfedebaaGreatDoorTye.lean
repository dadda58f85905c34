/- Walks of the trace layer: events on one thing; two lists of numbers compared. -/
import Derived.Test.YtbghkodcfedebaaGreatDoorTxd
import Derived.Test.YtbghkodcfedebaaGreatDoorTyc
import Derived.Deep.QuietTactic
import Derived.BigQuiet
set_option linter.unusedVariables false
set_option linter.unusedSectionVars false
set_option linter.unusedSimpArgs false
namespace Go.AB
open Go.RowKit
/-- The numbers of the events that are so. -/
def idxF (p : Ev → Bool) : Nat → List Ev → List Nat
  | _, [] => []
  | i, e :: l => if p e then i :: idxF p (i + 1) l else idxF p (i + 1) l
theorem idxF_step {p : Ev → Bool} {l : List Ev} {i : Nat} (hi : i < l.length) (L : List Nat) : L ++ idxF p i (l.drop i) = (L ++ if p l[i] then [i] else []) ++ idxF p (i + 1) (l.drop (i + 1)) := by
  rw [List.drop_eq_getElem_cons hi, idxF]
  split <;> simp
theorem idxF_mem {p : Ev → Bool} : ∀ (l : List Ev) (i j : Nat), j ∈ idxF p i l ↔ ∃ h : i ≤ j ∧ j - i < l.length, p (l[j - i]'h.2) = true
  | [], i, j => by simp [idxF]
  | e :: l, i, j => by
    have ih := idxF_mem (p := p) l (i + 1) j
    have hcase : j ∈ idxF p i (e :: l) ↔ (j = i ∧ p e = true) ∨ j ∈ idxF p (i + 1) l := by
      rw [show idxF p i (e :: l) = if p e then i :: idxF p (i + 1) l else idxF p (i + 1) l from rfl]
      by_cases h : p e = true
      · simp [h]
      · simp [h]
    rw [hcase, ih]
    constructor
    · rintro (⟨rfl, h⟩ | ⟨⟨h1, h2⟩, h3⟩)
      · exact ⟨⟨Nat.le_refl _, by simp⟩, by simpa using h⟩
      · refine ⟨⟨by omega, by simp; omega⟩, ?_⟩
        have e1 : j - i = (j - (i + 1)) + 1 := by omega
        simp only [e1, List.getElem_cons_succ]
        exact h3
    · rintro ⟨⟨h1, h2⟩, h3⟩
      by_cases hji : j = i
      · subst hji
        exact .inl ⟨rfl, by simpa using h3⟩
      · right
        have e1 : j - i = (j - (i + 1)) + 1 := by omega
        simp only [e1, List.getElem_cons_succ] at h3
        exact ⟨⟨by omega, by simp at h2; omega⟩, h3⟩
theorem idxF_ris {p : Ev → Bool} : ∀ (l : List Ev) (i : Nat), (idxF p i l).Pairwise (· < ·)
  | [], i => List.Pairwise.nil
  | e :: l, i => by
    unfold idxF
    split
    · rw [List.pairwise_cons]
      refine ⟨fun j hj => ?_, idxF_ris l (i + 1)⟩
      obtain ⟨⟨h, _⟩, _⟩ := (idxF_mem l (i + 1) j).1 hj
      omega
    · exact idxF_ris l (i + 1)
theorem idxF_len {p : Ev → Bool} : ∀ (l : List Ev) (i : Nat), (idxF p i l).length = (l.filter p).length
  | [], i => rfl
  | e :: l, i => by
    unfold idxF
    by_cases h : p e = true
    · rw [if_pos h, List.filter_cons_of_pos h, List.length_cons, List.length_cons, idxF_len l (i + 1)]
    · rw [if_neg h, List.filter_cons_of_neg h, idxF_len l (i + 1)]
def hitE (e x : Ev) : Bool := decide (onE e.k ≠ 0 ∧ onE x.k = onE e.k ∧ x.o = e.o)
end Go.AB
namespace Go.Proofs.YtbghkodcfedebaaGreatDoor
open Go.RowKit Go.AB
set_option linter.unusedSimpArgs false
set_option linter.unusedVariables false
set_option linter.unusedSectionVars false
set_option maxHeartbeats 16000000 in
set_option maxRecDepth 100000 in
theorem onl_calls {v : Value} (l : List Ev) (x : Ev) (w : World) (hl : Lst evC 3 w v l) (hn : l.length ≤ 1048576) : Calls Tryz.prog 34 #[v, evV x] w fun e w' => ∃ v', e = .returned v' ∧ NewN w (idxF (hitE x) 0 l) v' w' := by
  obtain ⟨ao, cap, rfl, -⟩ := hl.len
  obtain ⟨n, hln⟩ : ∃ n, l.length = n := ⟨_, rfl⟩
  rw [hln] at hl hn ⊢
  obtain ⟨p, hp⟩ : ∃ p, hitE x = p := ⟨_, rfl⟩
  rw [hp]
  obtain ⟨k, t, o⟩ := x
  have HP := hid hp
  have HL := hid hl
  have HN := hid hln
  have HON := hid on_calls
  unfold evV
  simp only
  have hbx := heap_alloc_new w (.cells #[.int .i64 k, .int .i64 t, .int .i64 o] 28)
  have hc0 := (Chg.refl [] w).alloc (.cells #[.int .i64 k, .int .i64 t, .int .i64 o] 28)
  obtain ⟨E, hE⟩ : ∃ E, w.heap.size = E := ⟨_, rfl⟩
  rw [hE] at hbx
  have HBX := hid hbx
  have HC0 := hid hc0
  clear hl hln hp hbx hc0
  go_enter Tryz.func34, Tryz.ntmps34
  go_upto_region 3 with fail
  generalize w.alloc (.cells #[.int .i64 k, .int .i64 t, .int .i64 o] 28) = w1 at HBX HC0 ⊢
  clear hE
  go_loopg [5, 10] n (fun gk v3 v4 wr => ∃ (i m : Nat) (ab : Option Addr) (cb : Nat) (rb : Option Nat) (L : List Nat), v3 = .slice ab m cb ∧ v4 = .int .i64 i ∧ Hid (gk + i = n) ∧ m ≤ i ∧ i ≤ n ∧
      Hid (L ++ idxF p i (l.drop i) = idxF p 0 l ∧ L.length = m) ∧ Hid (Row wr 3 1 (.slice ab m cb) rb m (L.map natV) ∧ Fresh w1 none rb ∧ Chg [] w1 wr))
  case atStart => exact ⟨0, 0, none, 0, none, [], rfl, rfl, hid (by omega), by omega, by omega, hid ⟨rfl, rfl⟩, hid ⟨Row.nil _ _ _, Fresh.refl _ _, Chg.refl _ _⟩⟩
  case round =>
    obtain ⟨i, m, ab, cb, rb, L, rfl, rfl, HG, hmi, hin, HLI, HR⟩ := hrel
    by_cases hi : i < n
    · have hil : i < l.length := by rw [HN.out]; exact hi
      obtain ⟨b1, o1, rfl, x0, x1, x2⟩ := ev_at (HL.out.keep (HC0.out.trans' HR.out.2.2)) hil
      have hst := idxF_step (p := p) hil L
      have hpx : p l[i] = decide (onE k ≠ 0 ∧ onE l[i].k = onE k ∧ l[i].o = o) := by rw [← HP.out]; rfl
      generalize l[i] = X at x0 x1 x2 hst hpx
      obtain ⟨kx, tx, ox⟩ := X
      simp only at x0 x1 x2 hpx
      rw [HLI.out.1] at hst
      have HST := hid hst
      have HPX := hid hpx
      have e0 := (blk_cell (HR.out.2.2.heap HBX.out (by simp)) 0).trans rfl
      have e2 := (blk_cell (HR.out.2.2.heap HBX.out (by simp)) 2).trans rfl
      clear hst hpx hil
      go_upto_region 5 with fail
      have hy := heap_alloc_new wr (.cells #[.int .i64 kx, .int .i64 tx, .int .i64 ox] 28)
      have hcy := (Chg.refl [] wr).alloc (.cells #[.int .i64 kx, .int .i64 tx, .int .i64 ox] 28)
      have e0' := hcy.cell e0 (by simp)
      have e2' := hcy.cell e2 (by simp)
      clear e0 e2 x0 x1 x2
      generalize wr.alloc (.cells #[.int .i64 kx, .int .i64 tx, .int .i64 ox] 28) = w2 at hy hcy e0' e2' ⊢
      generalize wr.heap.size = Y at hy ⊢
      have y0 := (blk_cell hy 0).trans rfl
      have y2 := (blk_cell hy 2).trans rfl
      have HCY := hid (HR.out.2.2.trans' hcy)
      have HRY := hid (HR.out.1.keep hcy (by simp))
      clear hy hcy
      have hways : ((onE k != 0) = false ∧ onE k = 0) ∨ ((onE k != 0) = true ∧ onE k ≠ 0 ∧ (onE kx == onE k) = false ∧ onE kx ≠ onE k) ∨ ((onE k != 0) = true ∧ onE k ≠ 0 ∧ (onE kx == onE k) = true ∧ onE kx = onE k ∧ (ox == o) = false ∧ ox ≠ o) ∨ ((onE k != 0) = true ∧ onE k ≠ 0 ∧ (onE kx == onE k) = true ∧ onE kx = onE k ∧ (ox == o) = true ∧ ox = o) := by
        by_cases a : onE k = 0
        · exact .inl ⟨by simp [a], a⟩
        · have a' : (onE k != 0) = true := by simpa using a
          by_cases b : onE kx = onE k
          · by_cases c : ox = o
            · exact .inr (.inr (.inr ⟨a', a, by simpa using b, b, by simpa using c, c⟩))
            · exact .inr (.inr (.inl ⟨a', a, by simpa using b, b, by simpa using c, c⟩))
          · exact .inr (.inl ⟨a', a, by simpa using b, b⟩)
      go_cut [34] from 15 to 34 (fun v wx => ∃ q : Bool, v = .bool q ∧ Hid (p ⟨kx, tx, ox⟩ = q) ∧ Hid (Chg [] w2 wx))
      case first =>
        rcases hways with ⟨q1, r1⟩ | ⟨q1, r1, q2, r2⟩ | ⟨q1, r1, q2, r2, q3, r3⟩ | ⟨q1, r1, q2, r2, q3, r3⟩
        · have HF : Hid (p ⟨kx, tx, ox⟩ = false) := hid (by rw [HPX.out]; exact decide_eq_false (fun h => h.1 r1))
          clear r1
          go_quiet ((go_at_call 36; refine Calls.quiet_of_same (HON.out _ _)))
          go_wp2_with fail
          go_meet
          exact ⟨_, rfl, HF, hid (Chg.of_drewN _ _ _)⟩
        · have HF : Hid (p ⟨kx, tx, ox⟩ = false) := hid (by rw [HPX.out]; exact decide_eq_false (fun h => r2 h.2.1))
          clear r1 r2
          go_quiet ((go_at_call 36; refine Calls.quiet_of_same (HON.out _ _)))
          go_wp2_with fail
          go_meet
          exact ⟨_, rfl, HF, hid (Chg.of_drewN _ _ _)⟩
        · have HF : Hid (p ⟨kx, tx, ox⟩ = false) := hid (by rw [HPX.out]; exact decide_eq_false (fun h => r3 h.2.2))
          clear r1 r2 r3
          go_quiet ((go_at_call 36; refine Calls.quiet_of_same (HON.out _ _)))
          go_wp2_with fail
          go_meet
          exact ⟨_, rfl, HF, hid (Chg.of_drewN _ _ _)⟩
        · have HF : Hid (p ⟨kx, tx, ox⟩ = true) := hid (by rw [HPX.out]; exact decide_eq_true ⟨r1, r2, r3⟩)
          clear r1 r2 r3
          go_quiet ((go_at_call 36; refine Calls.quiet_of_same (HON.out _ _)))
          go_wp2_with fail
          go_meet
          exact ⟨_, rfl, HF, hid (Chg.of_drewN _ _ _)⟩
      case rest =>
      obtain ⟨q, rfl, HF, hcw⟩ := hcut
      obtain ⟨w3, rfl⟩ : ∃ x : World, x = wc := ⟨_, rfl⟩
      have HR3 : Hid (Row w3 3 1 (.slice ab m cb) rb m (L.map natV) ∧ Chg [] w1 w3) := hid ⟨HRY.out.keep hcw.out (by simp), HCY.out.trans' hcw.out⟩
      clear hcw hways y0 y2 e0' e2' HRY HCY
      cases q with
      | false =>
        have HE : Hid (L ++ idxF p (i + 1) (l.drop (i + 1)) = idxF p 0 l) := hid (by rw [HST.out, HF.out]; simp)
        go_wp2_with fail
        go_roundg (gk - 1)
        case measure => have := HG.out; omega
        case rel => exact ⟨i + 1, m, ab, cb, rb, L, rfl, by go_num, hid (by have := HG.out; omega), by omega, by omega, hid ⟨HE.out, HLI.out.2⟩, hid ⟨HR3.out.1, HR.out.2.1, HR3.out.2⟩⟩
      | true =>
        have HE : Hid ((L ++ [i]) ++ idxF p (i + 1) (l.drop (i + 1)) = idxF p 0 l) := hid (by rw [HST.out, HF.out]; simp)
        have hrow := fun o => HR3.out.1.keep ((Chg.refl [] w3).alloc o) (by simp)
        go_wp2_with (at_builtin; refine wpList_app rfl _ _ 54 rfl elem_int rfl (hrow _) rfl (View.one _ _ _) (by simp [Value.oneCell']) (by unfold maxLen; omega) (by omega) (fun ao' cap' r' w2 hr2 hc2 hf2 _ => halt (fun X hX => ?_)))
        clear hrow
        have HR4 : Hid (Row w2 3 1 (.slice ao' (m + 1) cap') r' (m + 1) ((L ++ [i]).map natV) ∧ Fresh w1 none r' ∧ Chg [] w1 w2) := hid ⟨by rw [List.map_append]; exact hr2, fresh_step HR3.out.2 HR.out.2.1 ((Chg.refl [] w3).alloc _) hf2, own_step HR3.out.2 HR.out.2.1 ((Chg.refl [] w3).alloc _) hc2⟩
        clear hr2 hc2 hf2
        rw [hX.out]; clear hX
        go_wp2_with fail
        go_roundg (gk - 1)
        case measure => have := HG.out; omega
        case rel => exact ⟨i + 1, m + 1, ao', cap', r', L ++ [i], by first | rfl | go_num, by go_num, hid (by have := HG.out; omega), by omega, by omega, hid ⟨HE.out, by rw [List.length_append, HLI.out.2]; rfl⟩, HR4⟩
    · have HE : Hid (L = idxF p 0 l) := hid (by
        have h := HLI.out.1
        rw [List.drop_eq_nil_of_le (by rw [HN.out]; omega)] at h
        simpa [idxF] using h)
      go_wp2
      go_ret
      exact ⟨_, rfl, ab, cb, rb, m, by rw [← HE.out, HLI.out.2], rfl, by rw [← HE.out]; exact HR.out.1, HR.out.2.1.mono HC0.out.size, HC0.out.trans' HR.out.2.2⟩
end Go.Proofs.YtbghkodcfedebaaGreatDoor
