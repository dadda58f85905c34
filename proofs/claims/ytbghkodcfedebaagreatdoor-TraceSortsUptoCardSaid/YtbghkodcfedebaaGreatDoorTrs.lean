/- Walks of the trace laws: bytes that are the same; sizes and codes of what is told and read. -/
import Derived.Test.YtbghkodcfedebaaGreatDoorTro
set_option linter.unusedVariables false
set_option linter.unusedSectionVars false
set_option linter.unusedSimpArgs false
namespace Go.AB
open Go.RowKit
theorem take_nextB {a b : List UInt8} {k : Nat} (ha : k < a.length) (hb : k < b.length) (h : a.take k = b.take k) (he : a[k] = b[k]) : a.take (k + 1) = b.take (k + 1) := by
  rw [List.take_succ_eq_append_getElem ha, List.take_succ_eq_append_getElem hb, h, he]
/-- What the two tellers answer of a list. -/
theorem codes_ways {l : List Ev} (hn : l.length ≤ 1048576) : (l.all plainE = true ∧ ((textD l).2 = 0 ∨ (textD l).2 = 3) ∧ (encE l).2 = 0) ∨ (l.all plainE = false ∧ (textD l).2 = 6 ∧ (encE l).2 = 6) := by
  unfold textD encE
  cases h : l.all plainE with
  | false => exact .inr ⟨rfl, by simp, by simp⟩
  | true =>
    have h1 := body_len (List.all_eq_true.1 h) hn
    refine .inl ⟨rfl, ?_, ?_⟩
    · rw [if_pos rfl]
      split
      · exact .inr rfl
      · exact .inl rfl
    · rw [if_pos rfl, if_neg (by omega)]
theorem text_size {l : List Ev} {s : List UInt8} (h : textD l = (s, 0)) : s.length ≤ 16777216 ∧ l.length ≤ s.length := by
  unfold textD at h
  split at h
  · split at h
    · simp at h
    · rename_i h2
      simp only [Prod.mk.injEq, and_true] at h
      subst h
      refine ⟨by omega, ?_⟩
      unfold linesE
      clear h2
      rename_i h1
      clear h1
      induction l with
      | nil => simp
      | cons e l ih =>
        simp only [List.flatMap_cons, List.length_append, List.length_cons]
        have : 1 ≤ (lineE e).length := by unfold lineE; simp only [List.length_append, List.length_cons]; omega
        omega
  · simp at h
theorem flat_size (rs : List (List Ev)) : rs.flatten.length ≤ (rs.flatMap runB).length := by
  induction rs with
  | nil => simp
  | cons r rs ih =>
    simp only [List.flatten_cons, List.flatMap_cons, List.length_append]
    have h : r.length ≤ (runB r).length := by
      unfold runB
      rw [List.length_append]
      have h2 : ∀ r : List Ev, r.length ≤ (r.flatMap evB).length := fun r => by
        induction r with
        | nil => simp
        | cons e r ih =>
          simp only [List.flatMap_cons, List.length_append, List.length_cons]
          have : 1 ≤ (evB e).length := by unfold evB; simp
          omega
      have := h2 r
      omega
    omega
theorem enc_size {l : List Ev} {b : List UInt8} (h : encE l = (b, 0)) : l.length ≤ b.length := by
  unfold encE at h
  split at h
  · split at h
    · simp at h
    · simp only [Prod.mk.injEq, and_true] at h
      subst h
      rw [frameB_length]
      have h1 := flat_size (runsE l)
      rw [runs_flat] at h1
      unfold bodyE
      rw [List.length_append]
      omega
  · simp at h
theorem enc_short {l : List Ev} {b : List UInt8} (h : encE l = (b, 0)) (hn : l.length ≤ 1048576) : b.length ≤ 16777216 := by
  unfold encE at h
  split at h
  · rename_i hp
    split at h
    · simp at h
    · simp only [Prod.mk.injEq, and_true] at h
      subst h
      rw [frameB_length]
      have hp := List.all_eq_true.1 hp
      have h1 := rbs_len (rs := runsE l) (fun r hr => by
        obtain ⟨_, h2, _, h3⟩ := runs_mem hr
        exact ⟨fun e he => hp e (h2 e he), by omega⟩)
      have h2 := runs_len l
      have h3 := short_len3 (v := (runsE l).length) (by omega)
      rw [runs_flat] at h1
      unfold bodyE
      rw [List.length_append]
      omega
  · simp at h
end Go.AB
namespace Go.Proofs.YtbghkodcfedebaaGreatDoor
open Go.RowKit Go.AB
set_option linter.unusedSimpArgs false
set_option linter.unusedVariables false
set_option linter.unusedSectionVars false
set_option maxHeartbeats 4000000 in
set_option maxRecDepth 100000 in
theorem samebytes_calls (va vb : Value) (la lb : List UInt8) (w : World) (ha : Bytes w va la) (hb : Bytes w vb lb) (hn : la.length ≤ 1073741824) :
    Calls Tryz.prog 18 #[va, vb] w fun e w' => ∃ q : Bool, e = .returned (.bool q) ∧ Hid (q = true ↔ la = lb) ∧ Chg [] w w' := by
  obtain ⟨a1, c1, rfl, _⟩ := ha.out
  obtain ⟨a2, c2, rfl, _, _, _⟩ := hb.out
  obtain ⟨n, hln⟩ : ∃ n, la.length = n := ⟨_, rfl⟩
  obtain ⟨m, hlm⟩ : ∃ m, lb.length = m := ⟨_, rfl⟩
  have hmm : m ≤ maxLen := by rw [← hlm]; exact hb.2.1
  rw [hln] at ha hn ⊢
  rw [hlm] at hb ⊢
  have HA := hid ha
  have HB := hid hb
  have HN := hid (And.intro hln hlm)
  clear ha hb
  by_cases hnm : n = m
  · subst hnm
    clear hln hlm
    go_enter Tryz.func18, Tryz.ntmps18
    go_upto_region 4 with fail
    go_loopg [5] n (fun gk v5 wr => ∃ i : Nat, v5 = .int .i64 i ∧ Hid (gk + i = n) ∧ Hid (Chg [] w wr ∧ la.take i = lb.take i))
    case atStart => exact ⟨0, rfl, hid (by omega), hid ⟨Chg.refl _ _, by simp⟩⟩
    case round =>
      obtain ⟨i, rfl, HG, HR⟩ := hrel
      by_cases hi : i < n
      · have hia : i < la.length := by rw [HN.out.1]; exact hi
        have hib : i < lb.length := by rw [HN.out.2]; exact hi
        have hA := HA.out.keep HR.out.1 (by simp)
        have hB := HB.out.keep HR.out.1 (by simp)
        rw [← HN.out.1] at hA
        have hB2 := hB
        obtain ⟨x1, y1, e1, _, _, _, g1⟩ := hA.out
        obtain ⟨x2, y2, e2, _, _, _, g2⟩ := hB2.out
        simp only [Value.slice.injEq] at e1 e2
        obtain ⟨rfl, -, rfl⟩ := e1
        obtain ⟨rfl, -, rfl⟩ := e2
        obtain ⟨b1, o1, rfl, x0⟩ := g1 (by omega)
        obtain ⟨b2, o2, rfl, y0⟩ := g2 (by omega)
        replace x0 := x0 i hia
        replace y0 := y0 i hib
        have HT := hid (take_nextB hia hib HR.out.2)
        obtain ⟨X, hX⟩ : ∃ X, la[i] = X := ⟨_, rfl⟩
        obtain ⟨Y, hY⟩ : ∃ X, lb[i] = X := ⟨_, rfl⟩
        rw [hX] at x0 HT
        rw [hY] at y0 HT
        have HXY := hid (And.intro hX hY)
        clear hX hY g1 g2 hA hB hB2
        by_cases heq : X = Y
        · subst heq
          have HT2 := hid (HT.out rfl)
          have qq : ((X.toNat : Int) != (X.toNat : Int)) = false := by simp
          clear HXY
          go_wp2_with fail
          go_quiet (fail)
          go_wp2_with fail
          go_roundg (gk - 1)
          case measure => have := HG.out; omega
          case rel => exact ⟨i + 1, by go_num, hid (by have := HG.out; omega), hid ⟨HR.out.1.trans' (Chg.of_drewN _ _ _), HT2.out⟩⟩
        · have qq : ((X.toNat : Int) != (Y.toNat : Int)) = true := by
            simp only [bne_iff_ne, ne_eq, Int.natCast_inj]
            exact fun h => heq (UInt8.toNat_inj.1 h)
          have HNE : Hid (la ≠ lb) := hid (fun e => by
            have h := HXY.out
            rw [List.getElem_of_eq e, h.2] at h
            exact heq h.1.symm)
          clear heq HXY HT
          go_wp2_with fail
          go_quiet (fail)
          go_wp2
          go_ret
          exact ⟨false, rfl, hid (by simpa using HNE.out), HR.out.1.trans' (Chg.of_drewN _ _ _)⟩
      · have HE : Hid (la = lb) := hid (by
          have h := HR.out.2
          rwa [List.take_of_length_le (by rw [HN.out.1]; omega), List.take_of_length_le (by rw [HN.out.2]; omega)] at h)
        go_wp2
        go_ret
        exact ⟨true, rfl, hid (by simpa using HE.out), HR.out.1⟩
  · have hne : ((n : Int) != (m : Int)) = true := by simp; omega
    have HNE : Hid (la ≠ lb) := hid (fun e => hnm (by rw [← hln, ← hlm, e]))
    clear hln hlm hnm
    go_enter Tryz.func18, Tryz.ntmps18
    go_wp2
    go_ret
    exact ⟨false, rfl, hid (by simpa using HNE.out), Chg.refl _ _⟩
end Go.Proofs.YtbghkodcfedebaaGreatDoor
