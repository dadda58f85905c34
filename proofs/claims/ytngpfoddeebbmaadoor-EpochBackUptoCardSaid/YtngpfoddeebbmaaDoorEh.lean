/- Walks of the epochs: the reference's from bytes; to bytes, both. -/
import Derived.Test.YtngpfoddeebbmaaDoorEg
namespace Go.Proofs.YtngpfoddeebbmaaDoor
open Go.RowKit Go.AB
set_option linter.unusedSimpArgs false
set_option linter.unusedVariables false

set_option maxHeartbeats 4000000 in
set_option maxRecDepth 100000 in
theorem r_from_calls {ao : Option Addr} {cap : Nat} (bs : List Int) (hb : ∀ x ∈ bs, 0 ≤ x ∧ x ≤ 255) (hn : bs.length ≤ 16777216) (w : World) (hv : View w 1 (.slice ao bs.length cap) bs.length (bs.map (Value.int .u8))) :
    Calls Tryd.prog 33 #[.slice ao bs.length cap] w fun e w' => e = .returned (.tuple #[.int .u64 (fromE bs).1, .int .i64 (fromE bs).2]) ∧ w = w' := by
  by_cases h8 : bs.length = 8
  · obtain ⟨x0, x1, x2, x3, x4, x5, x6, x7, rfl⟩ := eight bs h8
    obtain ⟨b, off, hao, hcl⟩ := nums_at hv (by simp)
    have c0 := hcl 0 (by simp)
    have c1 := hcl 1 (by simp)
    have c2 := hcl 2 (by simp)
    have c3 := hcl 3 (by simp)
    have c4 := hcl 4 (by simp)
    have c5 := hcl 5 (by simp)
    have c6 := hcl 6 (by simp)
    have c7 := hcl 7 (by simp)
    simp only [List.getD, List.getElem?_cons_zero, List.getElem?_cons_succ, Option.getD_some, Nat.add_zero] at c0 c1 c2 c3 c4 c5 c6 c7
    obtain ⟨p0, q0⟩ := hb x0 (by simp)
    obtain ⟨p1, q1⟩ := hb x1 (by simp)
    obtain ⟨p2, q2⟩ := hb x2 (by simp)
    obtain ⟨p3, q3⟩ := hb x3 (by simp)
    obtain ⟨p4, q4⟩ := hb x4 (by simp)
    obtain ⟨p5, q5⟩ := hb x5 (by simp)
    obtain ⟨p6, q6⟩ := hb x6 (by simp)
    obtain ⟨p7, q7⟩ := hb x7 (by simp)
    have HAO := hid hao
    subst hao
    clear hcl hv hb
    have hN : (((((((x7 * 256 + x6) * 256 + x5) * 256 + x4) * 256 + x3) * 256 + x2) * 256 + x1) * 256 + x0) = leI [x0, x1, x2, x3, x4, x5, x6, x7] := by simp only [leI]; omega
    have hbd := leI_bd8 p0 q0 p1 q1 p2 q2 p3 q3 p4 q4 p5 q5 p6 q6 p7 q7
    have hf : fromE [x0, x1, x2, x3, x4, x5, x6, x7] = if (partsE (leI [x0, x1, x2, x3, x4, x5, x6, x7])).2.2 = false then (0, 22) else (leI [x0, x1, x2, x3, x4, x5, x6, x7], 0) := by
      unfold fromE; rw [if_neg (by simp)]
    have hvl := r_valid_calls _ hbd.1 hbd.2
    rw [hf]
    obtain ⟨N, hNN⟩ : ∃ N, leI [x0, x1, x2, x3, x4, x5, x6, x7] = N := ⟨_, rfl⟩
    rw [hNN] at hvl hN ⊢
    obtain ⟨bb, hbb⟩ : ∃ bb, (partsE N).2.2 = bb := ⟨_, rfl⟩
    rw [hbb] at hvl ⊢
    have HN := hid hN
    clear hN hf hbd hNN hbb h8
    show Calls Tryd.prog 33 #[.slice (some ⟨b, off, none⟩) 8 cap] w _
    cases bb
    · have HVL := hid hvl
      clear hvl
      go_enter Tryd.func33, Tryd.ntmps33
      go_wp2
      refine wp_loop_rounds 9 ?_
      rw [rounds_succ]
      go_wp2
      rw [rounds_succ]
      go_wp2
      rw [rounds_succ]
      go_wp2
      rw [rounds_succ]
      go_wp2
      rw [rounds_succ]
      go_wp2
      rw [rounds_succ]
      go_wp2
      rw [rounds_succ]
      go_wp2
      rw [rounds_succ]
      go_wp2
      rw [rounds_succ]
      go_wp2_with (go_at_call 20; refine halt (fun X hX => ?_))
      rw [hX.out]; clear hX
      rw [HN.out]
      refine (HVL.out _).mono ?_
      rintro e w2 ⟨rfl, rfl⟩
      clear p0 q0 p1 q1 p2 q2 p3 q3 p4 q4 p5 q5 p6 q6 p7 q7
      go_wp2
      go_ret2
      exact ⟨rfl, rfl⟩
    · have HVL := hid hvl
      clear hvl
      go_enter Tryd.func33, Tryd.ntmps33
      go_wp2
      refine wp_loop_rounds 9 ?_
      rw [rounds_succ]
      go_wp2
      rw [rounds_succ]
      go_wp2
      rw [rounds_succ]
      go_wp2
      rw [rounds_succ]
      go_wp2
      rw [rounds_succ]
      go_wp2
      rw [rounds_succ]
      go_wp2
      rw [rounds_succ]
      go_wp2
      rw [rounds_succ]
      go_wp2
      rw [rounds_succ]
      go_wp2_with (go_at_call 20; refine halt (fun X hX => ?_))
      rw [hX.out]; clear hX
      rw [HN.out]
      refine (HVL.out _).mono ?_
      rintro e w2 ⟨rfl, rfl⟩
      clear p0 q0 p1 q1 p2 q2 p3 q3 p4 q4 p5 q5 p6 q6 p7 q7
      go_wp2
      go_ret2
      exact ⟨rfl, rfl⟩
  · have g1 : ((bs.length : Int) != 8) = true := by simp; omega
    have g2 : ((bs.length : Int) == 8) = false := by simp; omega
    have g3 : (bs.length != 8) = true := by simpa using h8
    have HF := hid (show fromE bs = (0, 22) by unfold fromE; rw [if_pos h8])
    rw [HF.out]
    clear h8 hv hb
    go_enter Tryd.func33, Tryd.ntmps33
    go_wp2
    go_ret2
    exact ⟨rfl, rfl⟩

/-- The eight bytes of a number. -/
def b8 (E : Int) : Array Value := #[.int .u8 (E % 256), .int .u8 (E / 256 % 256), .int .u8 (E / 256 / 256 % 256), .int .u8 (E / 256 / 256 / 256 % 256), .int .u8 (E / 256 / 256 / 256 / 256 % 256), .int .u8 (E / 256 / 256 / 256 / 256 / 256 % 256), .int .u8 (E / 256 / 256 / 256 / 256 / 256 / 256 % 256), .int .u8 (E / 256 / 256 / 256 / 256 / 256 / 256 / 256 % 256)]
def bytesE (E : Int) : Array Value := b8 (if (partsE E).2.2 = true then E else 0)

set_option maxHeartbeats 4000000 in
set_option maxRecDepth 100000 in
theorem bytes_calls (E : Int) (h0 : 0 ≤ E) (h1 : E < 18446744073709551616) (w : World) : Calls Tryd.prog 27 #[.int .u64 E] w fun e w' => e = .returned (.agg (bytesE E)) ∧ Chg [] w w' := by
  have hvl := valid_calls E h0 h1
  unfold bytesE
  obtain ⟨bb, hbb⟩ : ∃ bb, (partsE E).2.2 = bb := ⟨_, rfl⟩
  rw [hbb] at hvl ⊢
  have HVL := hid hvl
  clear hvl hbb h1
  cases bb
  · rw [if_neg (by simp)]
    have hpost : (Value.agg (b8 0)) = .agg #[.int .u8 0, .int .u8 0, .int .u8 0, .int .u8 0, .int .u8 0, .int .u8 0, .int .u8 0, .int .u8 0] := rfl
    rw [hpost]
    clear hpost
    go_enter Tryd.func27, Tryd.ntmps27
    go_wp2_with (go_at_call 19; refine (HVL.out _).mono ?_; rintro e w2 ⟨rfl, rfl⟩)
    refine wp_loop_rounds 9 ?_
    rw [rounds_succ]
    go_wp2
    rw [rounds_succ]
    go_wp2
    rw [rounds_succ]
    go_wp2
    rw [rounds_succ]
    go_wp2
    rw [rounds_succ]
    go_wp2
    rw [rounds_succ]
    go_wp2
    rw [rounds_succ]
    go_wp2
    rw [rounds_succ]
    go_wp2
    rw [rounds_succ]
    go_wp2
    exact bodyPost_ret (v := .agg #[.int .u8 0, .int .u8 0, .int .u8 0, .int .u8 0, .int .u8 0, .int .u8 0, .int .u8 0, .int .u8 0]) (by simp [results, Tryd.results27, go_sem]) rfl ⟨rfl, ((Chg.refl [] w).alloc _).alloc _⟩
  · rw [if_pos rfl]
    unfold b8
    go_enter Tryd.func27, Tryd.ntmps27
    go_wp2_with (go_at_call 19; refine (HVL.out _).mono ?_; rintro e w2 ⟨rfl, rfl⟩)
    refine wp_loop_rounds 9 ?_
    rw [rounds_succ]
    go_wp2
    rw [rounds_succ]
    go_wp2
    rw [rounds_succ]
    go_wp2
    rw [rounds_succ]
    go_wp2
    rw [rounds_succ]
    go_wp2
    rw [rounds_succ]
    go_wp2
    rw [rounds_succ]
    go_wp2
    rw [rounds_succ]
    go_wp2
    rw [rounds_succ]
    go_wp2
    exact bodyPost_ret (v := .agg #[.int .u8 (E % 256), .int .u8 (E / 256 % 256), .int .u8 (E / 256 / 256 % 256), .int .u8 (E / 256 / 256 / 256 % 256), .int .u8 (E / 256 / 256 / 256 / 256 % 256), .int .u8 (E / 256 / 256 / 256 / 256 / 256 % 256), .int .u8 (E / 256 / 256 / 256 / 256 / 256 / 256 % 256), .int .u8 (E / 256 / 256 / 256 / 256 / 256 / 256 / 256 % 256)]) (by simp [results, Tryd.results27, go_sem]) rfl ⟨rfl, ((Chg.refl [] w).alloc _).alloc _⟩

set_option maxHeartbeats 4000000 in
set_option maxRecDepth 100000 in
theorem r_bytes_calls (E : Int) (h0 : 0 ≤ E) (h1 : E < 18446744073709551616) (w : World) : Calls Tryd.prog 28 #[.int .u64 E] w fun e w' => e = .returned (.agg (bytesE E)) ∧ Chg [] w w' := by
  have hvl := r_valid_calls E h0 h1
  unfold bytesE
  obtain ⟨bb, hbb⟩ : ∃ bb, (partsE E).2.2 = bb := ⟨_, rfl⟩
  rw [hbb] at hvl ⊢
  have HVL := hid hvl
  clear hvl hbb
  cases bb
  · rw [if_neg (by simp)]
    have hpost : (Value.agg (b8 0)) = .agg #[.int .u8 0, .int .u8 0, .int .u8 0, .int .u8 0, .int .u8 0, .int .u8 0, .int .u8 0, .int .u8 0] := rfl
    rw [hpost]
    clear hpost
    go_enter Tryd.func28, Tryd.ntmps28
    go_wp2_with (go_at_call 20; refine (HVL.out _).mono ?_; rintro e w2 ⟨rfl, rfl⟩)
    exact bodyPost_ret (v := .agg #[.int .u8 0, .int .u8 0, .int .u8 0, .int .u8 0, .int .u8 0, .int .u8 0, .int .u8 0, .int .u8 0]) (by simp [results, Tryd.results28, go_sem]) rfl ⟨rfl, ((Chg.refl [] w).alloc _).alloc _⟩
  · rw [if_pos rfl]
    unfold b8
    go_enter Tryd.func28, Tryd.ntmps28
    go_wp2_with (go_at_call 20; refine (HVL.out _).mono ?_; rintro e w2 ⟨rfl, rfl⟩)
    refine wp_loop_rounds 9 ?_
    rw [rounds_succ]
    go_wp2
    rw [rounds_succ]
    go_wp2
    rw [rounds_succ]
    go_wp2
    rw [rounds_succ]
    go_wp2
    rw [rounds_succ]
    go_wp2
    rw [rounds_succ]
    go_wp2
    rw [rounds_succ]
    go_wp2
    rw [rounds_succ]
    go_wp2
    rw [rounds_succ]
    go_wp2
    exact bodyPost_ret (v := .agg #[.int .u8 (E % 256), .int .u8 (E / 256 % 256), .int .u8 (E / 256 / 256 % 256), .int .u8 (E / 256 / 256 / 256 % 256), .int .u8 (E / 256 / 256 / 256 / 256 % 256), .int .u8 (E / 256 / 256 / 256 / 256 / 256 % 256), .int .u8 (E / 256 / 256 / 256 / 256 / 256 / 256 % 256), .int .u8 (E / 256 / 256 / 256 / 256 / 256 / 256 / 256 % 256)]) (by simp [results, Tryd.results28, go_sem]) rfl ⟨rfl, ((Chg.refl [] w).alloc _).alloc _⟩
end Go.Proofs.YtngpfoddeebbmaaDoor
