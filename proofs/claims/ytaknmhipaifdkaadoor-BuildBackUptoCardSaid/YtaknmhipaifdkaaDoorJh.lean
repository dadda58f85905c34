/- (Out of wip/tpl XSb.) Walks of the builder's laws: lists compared. -/
import Derived.Test.YtaknmhipaifdkaaDoorJg
set_option linter.unusedVariables false
set_option linter.unusedSectionVars false
namespace Go.Proofs.YtaknmhipaifdkaaDoor
open Go.RowKit Go.AB
set_option linter.unusedSimpArgs false
set_option linter.unusedVariables false

theorem take_ne {α : Type} {xs ys : List α} {k : Nat} (h1 : k < xs.length) (h2 : k < ys.length) (h : xs[k] ≠ ys[k]) : ¬ xs = ys := fun e => h (by subst e; rfl)
theorem take_next {α : Type} {xs ys : List α} {k : Nat} (h1 : k < xs.length) (h2 : k < ys.length) (ht : xs.take k = ys.take k) (h : xs[k] = ys[k]) : xs.take (k + 1) = ys.take (k + 1) := by
  rw [List.take_succ_eq_append_getElem h1, List.take_succ_eq_append_getElem h2, ht, h]
theorem len_ne {α : Type} {xs ys : List α} (h : xs.length ≠ ys.length) : ¬ xs = ys := fun e => h (by rw [e])
theorem neq_str (u : World) (a b : ByteArray) : (binOp .neq 9 (.string a) (.string b)).run Tryd.prog u = .ok (.bool (!(eqB (a = b)))) u := by
  have he : eqB (a = b) = (a.toList == b.toList) := by
    by_cases h : a = b
    · rw [eqB_true h, h]; simp
    · rw [eqB_false h]
      symm
      simp only [beq_eq_false_iff_ne, ne_eq, list_inj]
      exact h
  rw [he]
  simp [go_sem]
  done

set_option maxHeartbeats 2000000 in
set_option maxRecDepth 100000 in
theorem sameVars_calls (xs ys : List VarD) (hn : xs.length ≤ 1048576) (hm : ys.length ≤ 1048576) {va vb : Value} (w : World) (ha : Lst varC 2 w va xs) (hb : Lst varC 2 w vb ys) :
    Calls Tryd.prog 21 #[va, vb] w fun e w' => e = .returned (.bool (eqB (xs = ys))) ∧ Chg [] w w' := by
  obtain ⟨aa, ca, rfl, _⟩ := ha.len
  obtain ⟨ab, cb, rfl, _⟩ := hb.len
  have HA := hid ha
  have HB := hid hb
  obtain ⟨n, hnx⟩ : ∃ n, xs.length = n := ⟨_, rfl⟩
  obtain ⟨m, hmy⟩ : ∃ n, ys.length = n := ⟨_, rfl⟩
  have HN := hid (And.intro hnx hmy)
  obtain ⟨t, ht⟩ : ∃ t, eqB (xs = ys) = t := ⟨_, rfl⟩
  rw [hnx] at hn ⊢
  rw [hmy] at hm ⊢
  rw [ht]
  have HT := hid ht
  have g1 := fun u => guard_var u
  clear ha hb hnx hmy ht
  by_cases hl : n = m
  · subst hl
    have z0 : ((n : Int) != (n : Int)) = false := by simp
    go_enter Tryd.func21, Tryd.ntmps21
    go_wp2
    go_loopw [5] (fun vi wr => ∃ k : Nat, k ≤ n ∧ vi = .int .i64 k ∧ Hid (xs.take k = ys.take k) ∧ Hid (Chg [] w wr)) (fun vi _ => n - (intOf vi).toNat)
    case atStart => exact ⟨0, Nat.zero_le _, rfl, hid (by simp), hid (Chg.refl _ _)⟩
    case round =>
      obtain ⟨k, hk, rfl, HE, HC⟩ := hrel
      by_cases hlt : k < n
      · have hk1 : k < xs.length := by rw [HN.out.1]; exact hlt
        have hk2 : k < ys.length := by rw [HN.out.2]; exact hlt
        obtain ⟨b1, o1, hb1, c1⟩ := (HA.out.keep HC.out).at varC_len hk1 (by omega)
        obtain ⟨b2, o2, hb2, c2⟩ := (HB.out.keep HC.out).at varC_len hk2 (by omega)
        have zl : (k : Int) < (n : Int) := by omega
        have x0 : wr.cell? ⟨b1, o1 + k * 2, none⟩ = some (.string xs[k].name) := c1 0 (by omega)
        have y0 : wr.cell? ⟨b2, o2 + k * 2, none⟩ = some (.string ys[k].name) := c2 0 (by omega)
        have x1 : wr.cell? ⟨b1, o1 + k * 2 + 1, none⟩ = some (.int .i64 xs[k].first) := c1 1 (by omega)
        have y1 : wr.cell? ⟨b2, o2 + k * 2 + 1, none⟩ = some (.int .i64 ys[k].first) := c2 1 (by omega)
        obtain ⟨X, hX⟩ : ∃ X, xs[k] = X := ⟨_, rfl⟩
        obtain ⟨Y, hY⟩ : ∃ X, ys[k] = X := ⟨_, rfl⟩
        rw [hX] at x0 x1
        rw [hY] at y0 y1
        obtain ⟨xa0, xa1⟩ := X
        obtain ⟨ya0, ya1⟩ := Y
        simp only at x0 x1 y0 y1
        have q := fun u => neq_var u xa0 ya0 xa1 ya1
        have HXY := hid (And.intro hX hY)
        subst hb1 hb2
        clear c1 c2 hX hY
        by_cases heq : xa0 = ya0 ∧ xa1 = ya1
        · rw [eqB_true heq] at q
          have HE2 := hid (take_next hk1 hk2 HE.out (by rw [HXY.out.1, HXY.out.2, heq.1, heq.2]))
          clear heq
          go_wp2_with fail
          go_quiet (fail)
          go_wp2_with fail
          go_roundw
          case rel => exact ⟨k + 1, by omega, by go_num, HE2, hid (HC.out.drewN _)⟩
          case measure => simp [intOf]; omega
        · rw [eqB_false heq] at q
          have hf : eqB (xs = ys) = false := eqB_false (take_ne hk1 hk2 (by rw [HXY.out.1, HXY.out.2]; intro e; simp only [VarD.mk.injEq] at e; exact heq e))
          have ht2 : t = false := HT.out.symm.trans hf
          subst ht2
          clear heq hf
          go_wp2_with fail
          go_quiet (fail)
          go_wp2
          go_ret
          exact ⟨rfl, HC.out.drewN _⟩
      · have hf : eqB (xs = ys) = true := eqB_true (by
          have h := HE.out
          rwa [List.take_of_length_le (by rw [HN.out.1]; omega), List.take_of_length_le (by rw [HN.out.2]; omega)] at h)
        have ht2 : t = true := HT.out.symm.trans hf
        subst ht2
        clear hf
        go_wp2
        go_ret
        exact ⟨rfl, HC.out⟩
  · have hf : eqB (xs = ys) = false := eqB_false (len_ne (by rw [HN.out.1, HN.out.2]; exact hl))
    have ht2 : t = false := HT.out.symm.trans hf
    subst ht2
    have z0 : ((n : Int) != (m : Int)) = true := by simp; omega
    clear hf
    go_enter Tryd.func21, Tryd.ntmps21
    go_wp2
    go_ret
    exact ⟨rfl, Chg.refl _ _⟩

end Go.Proofs.YtaknmhipaifdkaaDoor
