/- Walks of the trace laws and the trace layer: two lists of numbers compared; events counted by kinds. -/
import Derived.Test.YtbghkodcfedebaaGreatDoorTye
set_option linter.unusedVariables false
set_option linter.unusedSectionVars false
set_option linter.unusedSimpArgs false
namespace Go.AB
open Go.RowKit
theorem take_nextI {a b : List Int} {k : Nat} (ha : k < a.length) (hb : k < b.length) (h : a.take k = b.take k) (he : a[k] = b[k]) : a.take (k + 1) = b.take (k + 1) := by
  rw [List.take_succ_eq_append_getElem ha, List.take_succ_eq_append_getElem hb, h, he]
theorem sum_set : ∀ (cs : List Nat) (k : Nat) (h : k < cs.length), (cs.set k (cs[k] + 1)).sum = cs.sum + 1
  | c :: cs, 0, _ => by simp; omega
  | c :: cs, k + 1, h => by
    have ih := sum_set cs k (by simpa using h)
    simp only [List.set_cons_succ, List.sum_cons, List.getElem_cons_succ]
    omega
theorem le_sum : ∀ (cs : List Nat) (k : Nat) (h : k < cs.length), cs[k] ≤ cs.sum
  | c :: cs, 0, _ => by simp
  | c :: cs, k + 1, h => by
    have ih := le_sum cs k (by simpa using h)
    simp only [List.sum_cons, List.getElem_cons_succ]
    omega
theorem len12 {cs : List Nat} (h : cs.length = 12) : ∃ a0 a1 a2 a3 a4 a5 a6 a7 a8 a9 a10 a11, cs = [a0, a1, a2, a3, a4, a5, a6, a7, a8, a9, a10, a11] := by
  match cs, h with
  | [a0, a1, a2, a3, a4, a5, a6, a7, a8, a9, a10, a11], _ => exact ⟨_, _, _, _, _, _, _, _, _, _, _, _, rfl⟩
end Go.AB
namespace Go.Proofs.YtbghkodcfedebaaGreatDoor
open Go.RowKit Go.AB
set_option linter.unusedSimpArgs false
set_option linter.unusedVariables false
set_option linter.unusedSectionVars false
/-- A list of numbers that is read. -/
def Ints (w : World) (v : Value) (l : List Int) : Prop := View w 1 v l.length (l.map intV)
theorem Ints.keep {w w' : World} {v : Value} {l : List Int} (h : Ints w v l) (hc : Chg [] w w') : Ints w' v l := View.keep h hc (by simp)
theorem newN_ints {w w' : World} {l : List Nat} {v : Value} (h : NewN w l v w') : Ints w' v (l.map Int.ofNat) ∧ Chg [] w w' := by
  obtain ⟨ao, cap, r, n, hn, rfl, hr, hf, hc⟩ := h
  refine ⟨?_, hc⟩
  unfold Ints
  rw [List.length_map, hn, List.map_map]
  exact hr.view
theorem Ints.at {w : World} {ao : Option Addr} {n cap : Nat} {l : List Int} (h : Ints w (.slice ao n cap) l) {i : Nat} (hi : i < l.length) : ∃ b off, ao = some ⟨b, off, none⟩ ∧ w.cell? ⟨b, off + i, none⟩ = some (.int .i64 l[i]) := by
  obtain ⟨_, _, ao', cap', e1, _, _, _, h2⟩ := h
  simp only [Value.slice.injEq] at e1
  obtain ⟨rfl, rfl, rfl⟩ := e1
  obtain ⟨b, off, e2, h3⟩ := h2 (by omega)
  refine ⟨b, off, e2, ?_⟩
  have h4 := h3 i (by omega)
  rw [List.getD_eq_getElem?_getD, List.getElem?_map, List.getElem?_eq_getElem hi] at h4
  exact h4
theorem Ints.shape {w : World} {v : Value} {l : List Int} (h : Ints w v l) : ∃ ao cap, v = .slice ao l.length cap := by
  obtain ⟨_, _, ao, cap, e1, _⟩ := h
  exact ⟨ao, cap, e1⟩
/-- What ints answers. -/
def IntsP (w : World) (la lb : List Int) (e : Ending) (w' : World) : Prop := ∃ q : Bool, e = .returned (.bool q) ∧ Hid (q = true ↔ la = lb) ∧ Chg [] w w'
set_option maxHeartbeats 8000000 in
set_option maxRecDepth 100000 in
theorem ints_calls (va vb : Value) (la lb : List Int) (w : World) (ha : Ints w va la) (hb : Ints w vb lb) (hn : la.length ≤ 16777216) :
    Calls Tryz.prog 29 #[va, vb] w (IntsP w la lb) := by
  obtain ⟨a1, c1, rfl⟩ := ha.shape
  obtain ⟨a2, c2, rfl⟩ := hb.shape
  obtain ⟨n, hln⟩ : ∃ n, la.length = n := ⟨_, rfl⟩
  obtain ⟨m, hlm⟩ : ∃ m, lb.length = m := ⟨_, rfl⟩
  rw [hln] at ha hn ⊢
  rw [hlm] at hb ⊢
  have HA := hid ha
  have HB := hid hb
  have HNA := hid hln
  have HNB := hid hlm
  clear ha hb hln hlm
  by_cases hnm : n = m
  · subst hnm
    go_enter Tryz.func29, Tryz.ntmps29
    go_wp2_with fail
    go_loopg [5] n (fun gk v wr => ∃ i : Nat, v = .int .i64 i ∧ Hid (gk + i = n) ∧ Hid (la.take i = lb.take i) ∧ Hid (Chg [] w wr))
    case atStart => exact ⟨0, rfl, hid (by omega), hid rfl, hid (Chg.refl _ _)⟩
    case round =>
      obtain ⟨i, rfl, HG, HT, HW⟩ := hrel
      by_cases hi : i < n
      · have hia : i < la.length := by rw [HNA.out]; exact hi
        have hib : i < lb.length := by rw [HNB.out]; exact hi
        obtain ⟨b1, o1, rfl, x1⟩ := (HA.out.keep HW.out).at hia
        obtain ⟨b2, o2, rfl, x2⟩ := (HB.out.keep HW.out).at hib
        have hne : la[i] ≠ lb[i] → la ≠ lb := fun h e => h (by subst e; rfl)
        have hnx := take_nextI hia hib HT.out
        generalize la[i] = x at x1 hne hnx
        generalize lb[i] = y at x2 hne hnx
        have hii : (i : Int) < (n : Int) := by omega
        by_cases hxy : x = y
        · have q1 : (x != y) = false := by simp [hxy]
          have q2 : (x == y) = true := by simp [hxy]
          have HNX := hid (hnx hxy)
          clear hne hnx hxy hia hib
          go_wp2_with fail
          go_quiet (fail)
          go_wp2_with fail
          go_roundg (gk - 1)
          case measure => have := HG.out; omega
          case rel => exact ⟨i + 1, by go_num, hid (by have := HG.out; omega), HNX, hid (HW.out.trans' (Chg.of_drewN _ _ _))⟩
        · have q1 : (x != y) = true := by simpa using hxy
          have q2 : (x == y) = false := by simpa using hxy
          have HNE := hid (hne hxy)
          clear hne hnx hxy hia hib
          go_wp2_with fail
          go_quiet (fail)
          go_wp2_with fail
          go_ret
          exact ⟨false, rfl, hid (by simp; exact HNE.out), HW.out.trans' (Chg.of_drewN _ _ _)⟩
      · have hin : i = n := by have := HG.out; omega
        have hii : ¬ (i : Int) < (n : Int) := by omega
        have HEQ : Hid (la = lb) := hid (by
          have h := HT.out
          rwa [hin, List.take_of_length_le (by rw [HNA.out]; exact Nat.le_refl _), List.take_of_length_le (by rw [HNB.out]; exact Nat.le_refl _)] at h)
        clear hin
        go_wp2_with fail
        go_ret
        exact ⟨true, rfl, hid (by simp; exact HEQ.out), HW.out⟩
  · have q1 : ((n : Int) != (m : Int)) = true := by simp; omega
    have HNE : Hid (la ≠ lb) := hid (fun e => hnm (by rw [← HNA.out, ← HNB.out, e]))
    clear hnm
    go_enter Tryz.func29, Tryz.ntmps29
    go_wp2_with fail
    go_ret
    exact ⟨false, rfl, hid (by simp; exact HNE.out), Chg.refl _ _⟩
theorem kinds_end {W : World} {R : Nat} {a0 a1 a2 a3 a4 a5 a6 a7 a8 a9 a10 a11 : Int} {Q : Ending → World → Prop} {tmps : Array Value} (hW : W.heap[R]? = some (.cells #[.int .i64 a0, .int .i64 a1, .int .i64 a2, .int .i64 a3, .int .i64 a4, .int .i64 a5, .int .i64 a6, .int .i64 a7, .int .i64 a8, .int .i64 a9, .int .i64 a10, .int .i64 a11] 69 (0, 0)))
    (hQ : Q (.returned (.agg #[.int .i64 a0, .int .i64 a1, .int .i64 a2, .int .i64 a3, .int .i64 a4, .int .i64 a5, .int .i64 a6, .int .i64 a7, .int .i64 a8, .int .i64 a9, .int .i64 a10, .int .i64 a11])) W) (h2 : tmps[2]?.getD undef = .pointer (some ⟨R, 0, none⟩) := by rfl) :
    bodyPost Tryz.prog Tryz.f33 Q .ret { tmps := tmps, defers := [] } W := by
  have c0 : W.cell? ⟨R, 0, none⟩ = some (.int .i64 a0) := (blk_cell hW 0).trans rfl
  have c1 : W.cell? ⟨R, 1, none⟩ = some (.int .i64 a1) := (blk_cell hW 1).trans rfl
  have c2 : W.cell? ⟨R, 2, none⟩ = some (.int .i64 a2) := (blk_cell hW 2).trans rfl
  have c3 : W.cell? ⟨R, 3, none⟩ = some (.int .i64 a3) := (blk_cell hW 3).trans rfl
  have c4 : W.cell? ⟨R, 4, none⟩ = some (.int .i64 a4) := (blk_cell hW 4).trans rfl
  have c5 : W.cell? ⟨R, 5, none⟩ = some (.int .i64 a5) := (blk_cell hW 5).trans rfl
  have c6 : W.cell? ⟨R, 6, none⟩ = some (.int .i64 a6) := (blk_cell hW 6).trans rfl
  have c7 : W.cell? ⟨R, 7, none⟩ = some (.int .i64 a7) := (blk_cell hW 7).trans rfl
  have c8 : W.cell? ⟨R, 8, none⟩ = some (.int .i64 a8) := (blk_cell hW 8).trans rfl
  have c9 : W.cell? ⟨R, 9, none⟩ = some (.int .i64 a9) := (blk_cell hW 9).trans rfl
  have c10 : W.cell? ⟨R, 10, none⟩ = some (.int .i64 a10) := (blk_cell hW 10).trans rfl
  have c11 : W.cell? ⟨R, 11, none⟩ = some (.int .i64 a11) := (blk_cell hW 11).trans rfl
  exact bodyPost_ret (v := .agg #[.int .i64 a0, .int .i64 a1, .int .i64 a2, .int .i64 a3, .int .i64 a4, .int .i64 a5, .int .i64 a6, .int .i64 a7, .int .i64 a8, .int .i64 a9, .int .i64 a10, .int .i64 a11]) (by simp [results, Tryz.results33, go_sem, h2, c0, c1, c2, c3, c4, c5, c6, c7, c8, c9, c10, c11]) rfl hQ
set_option maxHeartbeats 16000000 in
set_option maxRecDepth 100000 in
theorem kinds_calls {v : Value} (l : List Ev) (w : World) (hl : Lst evC 3 w v l) (hn : l.length ≤ 1048576) : Calls Tryz.prog 33 #[v] w fun e w' => ∃ cs : List Nat, cs.length = 12 ∧ cs.sum = l.length ∧ e = .returned (.agg (cs.map natV).toArray) ∧ Chg [] w w' := by
  obtain ⟨ao, cap, rfl, -⟩ := hl.len
  obtain ⟨n, hln⟩ : ∃ n, l.length = n := ⟨_, rfl⟩
  rw [hln] at hl hn ⊢
  have HL := hid hl
  have HN := hid hln
  clear hl hln
  go_enter Tryz.func33, Tryz.ntmps33
  go_upto_region 3 with fail
  have hR0 := blk_alloc_old (heap_alloc_new w (.cells #[.int .i64 0, .int .i64 0, .int .i64 0, .int .i64 0, .int .i64 0, .int .i64 0, .int .i64 0, .int .i64 0, .int .i64 0, .int .i64 0, .int .i64 0, .int .i64 0] 69)) (.cells #[.int .i64 0, .int .i64 0, .int .i64 0, .int .i64 0, .int .i64 0, .int .i64 0, .int .i64 0, .int .i64 0, .int .i64 0, .int .i64 0, .int .i64 0, .int .i64 0] 69)
  have hT0 := heap_alloc_new (w.alloc (.cells #[.int .i64 0, .int .i64 0, .int .i64 0, .int .i64 0, .int .i64 0, .int .i64 0, .int .i64 0, .int .i64 0, .int .i64 0, .int .i64 0, .int .i64 0, .int .i64 0] 69)) (.cells #[.int .i64 0, .int .i64 0, .int .i64 0, .int .i64 0, .int .i64 0, .int .i64 0, .int .i64 0, .int .i64 0, .int .i64 0, .int .i64 0, .int .i64 0, .int .i64 0] 69)
  rw [World.size_alloc] at hT0
  have hc0 := ((Chg.refl [] w).alloc (.cells #[.int .i64 0, .int .i64 0, .int .i64 0, .int .i64 0, .int .i64 0, .int .i64 0, .int .i64 0, .int .i64 0, .int .i64 0, .int .i64 0, .int .i64 0, .int .i64 0] 69)).alloc (.cells #[.int .i64 0, .int .i64 0, .int .i64 0, .int .i64 0, .int .i64 0, .int .i64 0, .int .i64 0, .int .i64 0, .int .i64 0, .int .i64 0, .int .i64 0, .int .i64 0] 69)
  obtain ⟨R, hR⟩ : ∃ R, w.heap.size = R := ⟨_, rfl⟩
  obtain ⟨T, hT⟩ : ∃ T, w.heap.size + 1 = T := ⟨_, rfl⟩
  have HTR : Hid (w.heap.size ≤ R ∧ T = R + 1) := hid (by omega)
  rw [hT] at hT0 ⊢
  rw [hR] at hR0 ⊢
  generalize (w.alloc (.cells #[.int .i64 0, .int .i64 0, .int .i64 0, .int .i64 0, .int .i64 0, .int .i64 0, .int .i64 0, .int .i64 0, .int .i64 0, .int .i64 0, .int .i64 0, .int .i64 0] 69)).alloc (.cells #[.int .i64 0, .int .i64 0, .int .i64 0, .int .i64 0, .int .i64 0, .int .i64 0, .int .i64 0, .int .i64 0, .int .i64 0, .int .i64 0, .int .i64 0, .int .i64 0] 69) = w1 at hR0 hT0 hc0 ⊢
  have H0 := hid (And.intro hT0 (And.intro hR0 hc0))
  clear hR0 hT0 hc0 hR hT
  go_loopg [8] n (fun gk v8 wr => ∃ (i : Nat) (cs : List Nat), v8 = .int .i64 i ∧ Hid (gk + i = n) ∧ Hid (cs.length = 12 ∧ cs.sum = i) ∧ Hid (wr.heap[T]? = some (.cells (cs.map natV).toArray 69 (0, 0)) ∧ wr.heap[R]? = some (.cells #[.int .i64 0, .int .i64 0, .int .i64 0, .int .i64 0, .int .i64 0, .int .i64 0, .int .i64 0, .int .i64 0, .int .i64 0, .int .i64 0, .int .i64 0, .int .i64 0] 69 (0, 0)) ∧ Chg [] w wr))
  case atStart => exact ⟨0, List.replicate 12 0, rfl, hid (by omega), hid ⟨rfl, rfl⟩, hid ⟨H0.out.1, H0.out.2.1, H0.out.2.2⟩⟩
  case round =>
    clear H0
    obtain ⟨i, cs, rfl, HG, HS, HW⟩ := hrel
    by_cases hi : i < n
    · have hil : i < l.length := by rw [HN.out]; exact hi
      have hii : (i : Int) < (n : Int) := by omega
      obtain ⟨b1, o1, rfl, x0, x1, x2⟩ := ev_at (HL.out.keep HW.out.2.2) hil
      generalize l[i] = X at x0 x1 x2
      obtain ⟨k, t, o⟩ := X
      simp only at x0 x1 x2
      clear hil
      go_upto_region 5 with fail
      have hbx := heap_alloc_new wr (.cells #[.int .i64 k, .int .i64 t, .int .i64 o] 28)
      have hc2 := (Chg.refl [] wr).alloc (.cells #[.int .i64 k, .int .i64 t, .int .i64 o] 28)
      have hET : wr.heap.size ≠ T ∧ wr.heap.size ≠ R ∧ w.heap.size ≤ wr.heap.size := ⟨by have := blk_lt HW.out.1; omega, by have := blk_lt HW.out.2.1; omega, HW.out.2.2.size⟩
      generalize wr.alloc (.cells #[.int .i64 k, .int .i64 t, .int .i64 o] 28) = w2 at hbx hc2 ⊢
      generalize wr.heap.size = E at hbx hET ⊢
      have HBX := hid hbx
      have HET := hid hET
      have HC2 := hid (And.intro (hc2.heap HW.out.1 (by simp)) (And.intro (hc2.heap HW.out.2.1 (by simp)) (HW.out.2.2.trans' hc2)))
      have y0 := (blk_cell hbx 0).trans rfl
      have yf := blk_free hbx 0
      clear hbx hc2 hET x0 x1 x2 HW
      by_cases hk : 0 ≤ k ∧ k < 12
      · obtain ⟨kk, rfl⟩ : ∃ kk : Nat, k = (kk : Int) := ⟨k.toNat, by omega⟩
        have hkk : kk < cs.length := by have := HS.out.1; omega
        have q1 : ¬ ((kk : Int) < 0) := by omega
        have q2 : ¬ ((12 : Int) ≤ (kk : Int)) := by omega
        go_upto_region 7 with fail
        obtain ⟨w3, rfl⟩ : ∃ x : World, x = w2 := ⟨_, rfl⟩
        have HT3 := hid HC2.out.1
        have HC3 := hid HC2.out.2
        clear HC2
        have hTk : w3.cell? ⟨T, kk, none⟩ = some (.int .i64 (cs[kk] : Nat)) := by
          rw [blk_cell HT3.out kk]
          simp [natV, hkk]
        have hTf := blk_free HT3.out kk
        have hadd : wrap64 ((cs[kk] : Nat) + 1) = ((cs[kk] : Nat) : Int) + 1 := IntWalk.wrap64_in _ (by have := le_sum cs kk hkk; have := HS.out.2; omega)
        have HS4 : Hid ((cs.set kk (cs[kk] + 1)).length = 12 ∧ (cs.set kk (cs[kk] + 1)).sum = i + 1) := hid ⟨by rw [List.length_set]; exact HS.out.1, by rw [sum_set cs kk hkk, HS.out.2]⟩
        have HW4 : Hid ((w3.setCell ⟨T, kk, none⟩ (.int .i64 (((cs[kk] : Nat) : Int) + 1))).heap[T]? = some (.cells ((cs.set kk (cs[kk] + 1)).map natV).toArray 69 (0, 0)) ∧ (w3.setCell ⟨T, kk, none⟩ (.int .i64 (((cs[kk] : Nat) : Int) + 1))).heap[R]? = some (.cells #[.int .i64 0, .int .i64 0, .int .i64 0, .int .i64 0, .int .i64 0, .int .i64 0, .int .i64 0, .int .i64 0, .int .i64 0, .int .i64 0, .int .i64 0, .int .i64 0] 69 (0, 0)) ∧ Chg [] w (w3.setCell ⟨T, kk, none⟩ (.int .i64 (((cs[kk] : Nat) : Int) + 1)))) := hid ⟨by
            rw [blk_set HT3.out kk]
            congr 2
            rw [List.map_set]
            simp [natV], (blk_set_other (by have := HTR.out; omega) _ _).trans HC3.out.1, HC3.out.2.setCell (p := ⟨T, kk, none⟩) (.inr (by have := HTR.out; simp only; omega)) _⟩
        obtain ⟨cv, hcv⟩ : ∃ cv, cs[kk] = cv := ⟨_, rfl⟩
        rw [hcv] at hTk hadd HS4 HW4
        have hk12 : (kk : Int) < 12 := by have := HS.out.1; omega
        have hk0 : (0 : Int) ≤ (kk : Int) := by omega
        clear hcv
        go_wp2_with fail
        go_roundg (gk - 1)
        case measure => have := HG.out; omega
        case rel => exact ⟨i + 1, cs.set kk (cv + 1), by go_num, hid (by have := HG.out; omega), HS4, HW4⟩
      · have hq : (k < 0) ∨ (¬ (k < 0) ∧ 12 ≤ k) := by omega
        go_cut [19] from 12 to 19 (fun v wx => v = .bool true ∧ wx = w2)
        case first =>
          rcases hq with q1 | ⟨q1, q2⟩
          · clear hk
            go_wp2_with fail
            go_meet
            exact ⟨rfl, rfl⟩
          · clear hk
            go_wp2_with fail
            go_meet
            exact ⟨rfl, rfl⟩
        case rest =>
        obtain ⟨rfl, hwc⟩ := hcut
        subst hwc
        clear hq
        go_upto_region 7 with fail
        have hbx := blk_set HBX.out 0 (.int .i64 0)
        have hT9 := (blk_set_other (b := E) (c := T) (by have := HET.out; omega) 0 (.int .i64 0)).trans HC2.out.1
        have hR9 := (blk_set_other (b := E) (c := R) (by have := HET.out; omega) 0 (.int .i64 0)).trans HC2.out.2.1
        have hC9 := HC2.out.2.2.setCell (p := ⟨E, 0, none⟩) (.inr HET.out.2.2) (.int .i64 0)
        clear y0 yf
        generalize wc.setCell ⟨E, 0, none⟩ (.int .i64 0) = w3 at hbx hT9 hR9 hC9 ⊢
        have y0 := (blk_cell hbx 0).trans rfl
        have HT3 := hid hT9
        have HC3 := hid (And.intro hR9 hC9)
        clear hbx hT9 hR9 hC9 HC2 hk
        have hkk : 0 < cs.length := by have := HS.out.1; omega
        have hTk : w3.cell? ⟨T, 0, none⟩ = some (.int .i64 (cs[0] : Nat)) := by
          rw [blk_cell HT3.out 0]
          simp [natV, hkk]
        have hTf := blk_free HT3.out 0
        have hadd : wrap64 ((cs[0] : Nat) + 1) = ((cs[0] : Nat) : Int) + 1 := IntWalk.wrap64_in _ (by have := le_sum cs 0 hkk; have := HS.out.2; omega)
        have HS4 : Hid ((cs.set 0 (cs[0] + 1)).length = 12 ∧ (cs.set 0 (cs[0] + 1)).sum = i + 1) := hid ⟨by rw [List.length_set]; exact HS.out.1, by rw [sum_set cs 0 hkk, HS.out.2]⟩
        have HW4 : Hid ((w3.setCell ⟨T, 0, none⟩ (.int .i64 (((cs[0] : Nat) : Int) + 1))).heap[T]? = some (.cells ((cs.set 0 (cs[0] + 1)).map natV).toArray 69 (0, 0)) ∧ (w3.setCell ⟨T, 0, none⟩ (.int .i64 (((cs[0] : Nat) : Int) + 1))).heap[R]? = some (.cells #[.int .i64 0, .int .i64 0, .int .i64 0, .int .i64 0, .int .i64 0, .int .i64 0, .int .i64 0, .int .i64 0, .int .i64 0, .int .i64 0, .int .i64 0, .int .i64 0] 69 (0, 0)) ∧ Chg [] w (w3.setCell ⟨T, 0, none⟩ (.int .i64 (((cs[0] : Nat) : Int) + 1)))) := hid ⟨by
            rw [blk_set HT3.out 0]
            congr 2
            rw [List.map_set]
            simp [natV], (blk_set_other (by have := HTR.out; omega) _ _).trans HC3.out.1, HC3.out.2.setCell (p := ⟨T, 0, none⟩) (.inr (by have := HTR.out; simp only; omega)) _⟩
        obtain ⟨cv, hcv⟩ : ∃ cv, cs[0] = cv := ⟨_, rfl⟩
        rw [hcv] at hTk hadd HS4 HW4
        clear hcv
        go_wp2_with fail
        go_roundg (gk - 1)
        case measure => have := HG.out; omega
        case rel => exact ⟨i + 1, cs.set 0 (cv + 1), by go_num, hid (by have := HG.out; omega), HS4, HW4⟩
    · have hii : ¬ (i : Int) < (n : Int) := by omega
      have hin : i = n := by have := HG.out; omega
      obtain ⟨a0, a1, a2, a3, a4, a5, a6, a7, a8, a9, a10, a11, rfl⟩ := len12 HS.out.1
      have hT := HW.out.1
      have hR := HW.out.2.1
      have c0 : wr.cell? ⟨T, 0, none⟩ = some (.int .i64 (a0 : Nat)) := (blk_cell hT 0).trans rfl
      have c1 : wr.cell? ⟨T, 1, none⟩ = some (.int .i64 (a1 : Nat)) := (blk_cell hT 1).trans rfl
      have c2 : wr.cell? ⟨T, 2, none⟩ = some (.int .i64 (a2 : Nat)) := (blk_cell hT 2).trans rfl
      have c3 : wr.cell? ⟨T, 3, none⟩ = some (.int .i64 (a3 : Nat)) := (blk_cell hT 3).trans rfl
      have c4 : wr.cell? ⟨T, 4, none⟩ = some (.int .i64 (a4 : Nat)) := (blk_cell hT 4).trans rfl
      have c5 : wr.cell? ⟨T, 5, none⟩ = some (.int .i64 (a5 : Nat)) := (blk_cell hT 5).trans rfl
      have c6 : wr.cell? ⟨T, 6, none⟩ = some (.int .i64 (a6 : Nat)) := (blk_cell hT 6).trans rfl
      have c7 : wr.cell? ⟨T, 7, none⟩ = some (.int .i64 (a7 : Nat)) := (blk_cell hT 7).trans rfl
      have c8 : wr.cell? ⟨T, 8, none⟩ = some (.int .i64 (a8 : Nat)) := (blk_cell hT 8).trans rfl
      have c9 : wr.cell? ⟨T, 9, none⟩ = some (.int .i64 (a9 : Nat)) := (blk_cell hT 9).trans rfl
      have c10 : wr.cell? ⟨T, 10, none⟩ = some (.int .i64 (a10 : Nat)) := (blk_cell hT 10).trans rfl
      have c11 : wr.cell? ⟨T, 11, none⟩ = some (.int .i64 (a11 : Nat)) := (blk_cell hT 11).trans rfl
      have r0 : wr.cell? ⟨R, 0, none⟩ = some (.int .i64 0) := (blk_cell hR 0).trans rfl
      have r1 : wr.cell? ⟨R, 1, none⟩ = some (.int .i64 0) := (blk_cell hR 1).trans rfl
      have r2 : wr.cell? ⟨R, 2, none⟩ = some (.int .i64 0) := (blk_cell hR 2).trans rfl
      have r3 : wr.cell? ⟨R, 3, none⟩ = some (.int .i64 0) := (blk_cell hR 3).trans rfl
      have r4 : wr.cell? ⟨R, 4, none⟩ = some (.int .i64 0) := (blk_cell hR 4).trans rfl
      have r5 : wr.cell? ⟨R, 5, none⟩ = some (.int .i64 0) := (blk_cell hR 5).trans rfl
      have r6 : wr.cell? ⟨R, 6, none⟩ = some (.int .i64 0) := (blk_cell hR 6).trans rfl
      have r7 : wr.cell? ⟨R, 7, none⟩ = some (.int .i64 0) := (blk_cell hR 7).trans rfl
      have r8 : wr.cell? ⟨R, 8, none⟩ = some (.int .i64 0) := (blk_cell hR 8).trans rfl
      have r9 : wr.cell? ⟨R, 9, none⟩ = some (.int .i64 0) := (blk_cell hR 9).trans rfl
      have r10 : wr.cell? ⟨R, 10, none⟩ = some (.int .i64 0) := (blk_cell hR 10).trans rfl
      have r11 : wr.cell? ⟨R, 11, none⟩ = some (.int .i64 0) := (blk_cell hR 11).trans rfl
      have rf := fun i => blk_free hR i
      have HRX := hid hR
      clear hT hR hin
      go_wp2_with fail
      have hb := (blk_set (blk_set (blk_set (blk_set (blk_set (blk_set (blk_set (blk_set (blk_set (blk_set (blk_set (blk_set HRX.out 0 (.int .i64 (a0 : Nat))) 1 (.int .i64 (a1 : Nat))) 2 (.int .i64 (a2 : Nat))) 3 (.int .i64 (a3 : Nat))) 4 (.int .i64 (a4 : Nat))) 5 (.int .i64 (a5 : Nat))) 6 (.int .i64 (a6 : Nat))) 7 (.int .i64 (a7 : Nat))) 8 (.int .i64 (a8 : Nat))) 9 (.int .i64 (a9 : Nat))) 10 (.int .i64 (a10 : Nat))) 11 (.int .i64 (a11 : Nat)))
      simp only [List.setIfInBounds_toArray, List.set_cons_zero, List.set_cons_succ] at hb
      have hc := ((((((((((((HW.out.2.2.setCell (p := ⟨R, 0, none⟩) (.inr HTR.out.1) (.int .i64 (a0 : Nat))).setCell (p := ⟨R, 1, none⟩) (.inr HTR.out.1) (.int .i64 (a1 : Nat))).setCell (p := ⟨R, 2, none⟩) (.inr HTR.out.1) (.int .i64 (a2 : Nat))).setCell (p := ⟨R, 3, none⟩) (.inr HTR.out.1) (.int .i64 (a3 : Nat))).setCell (p := ⟨R, 4, none⟩) (.inr HTR.out.1) (.int .i64 (a4 : Nat))).setCell (p := ⟨R, 5, none⟩) (.inr HTR.out.1) (.int .i64 (a5 : Nat))).setCell (p := ⟨R, 6, none⟩) (.inr HTR.out.1) (.int .i64 (a6 : Nat))).setCell (p := ⟨R, 7, none⟩) (.inr HTR.out.1) (.int .i64 (a7 : Nat))).setCell (p := ⟨R, 8, none⟩) (.inr HTR.out.1) (.int .i64 (a8 : Nat))).setCell (p := ⟨R, 9, none⟩) (.inr HTR.out.1) (.int .i64 (a9 : Nat))).setCell (p := ⟨R, 10, none⟩) (.inr HTR.out.1) (.int .i64 (a10 : Nat))).setCell (p := ⟨R, 11, none⟩) (.inr HTR.out.1) (.int .i64 (a11 : Nat)))
      clear c0 c1 c2 c3 c4 c5 c6 c7 c8 c9 c10 c11 r0 r1 r2 r3 r4 r5 r6 r7 r8 r9 r10 r11 rf
      refine kinds_end hb ?_
      exact ⟨[a0, a1, a2, a3, a4, a5, a6, a7, a8, a9, a10, a11], HS.out.1, by rw [HS.out.2]; have := HG.out; omega, rfl, hc⟩
end Go.Proofs.YtbghkodcfedebaaGreatDoor
