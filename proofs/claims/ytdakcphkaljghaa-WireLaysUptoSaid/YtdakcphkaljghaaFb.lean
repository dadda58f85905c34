/- Walks of the frames: a frame around a body. -/
import Derived.Test.YtdakcphkaljghaaFa
import Derived.Test.YtdakcphkaljghaaWh
import Derived.Test.YtdakcphkaljghaaLlaid
namespace Go.Proofs.Ytdakcphkaljghaa
open Go.RowKit Go.AB
set_option linter.unusedSimpArgs false

/-- A slice of bytes in new memory, and a number. -/
def NewB2 (U : Nat) (w : World) (l : List UInt8) (c : Nat) (e : Ending) (w' : World) : Prop :=
  ∃ l' ao cap r, e = .returned (.tuple #[.slice ao l'.length cap, .int .i64 c]) ∧ Row w' U 1 (.slice ao l'.length cap) r l'.length (l'.map B) ∧ Fresh w none r ∧ Chg [] w w' ∧ Hid (l' = l)

theorem fixedB4_u64 (n : Nat) (h : n < 4294967296) : U64 n := by unfold U64; omega

set_option maxHeartbeats 1000000 in
set_option maxRecDepth 100000 in
theorem q_frame_calls (kind : UInt8) (v : Value) (body : List UInt8) (w : World) (hv : Bytes w v body) (hl : body.length ≤ 16777216) :
    Calls Try.prog 24 #[.int .u8 kind.toNat, v] w (NewB2 5 w (frameB kind body) 0) := by
  obtain ⟨ao, cap, rfl, _, _, _, _⟩ := hv.out
  have hwr : IntKind.u64.wrap (body.length : Int) = ((body.length : Nat) : Int) := by rw [IntKind.wrap_u64]; omega
  have hb1 : ∀ u : World, Bytes (u.alloc (.cells #[.int .u8 (kind.toNat : Nat)] 5)) (.slice (some ⟨u.heap.size, 0, none⟩) 1 1) [kind] := fun u => View.one _ _ _
  have HV := hid hv
  have hc0 : ∀ o, Chg [] w (w.alloc o) := fun o => (Chg.refl [] w).alloc o
  clear hv
  go_enter Try.func24, Try.ntmps24
  go_wp2_with (first
    | (go_at_call 46; refine (ref_fixed_calls body.length (fixedB4_u64 _ (by omega)) 4 (by omega) _).mono ?_; rintro e w1 ⟨l1, ao1, cap1, r1, rfl, hr1, hf1, hc1, HL1⟩; have hh := (hb1 w).keep hc1 (by simp); have hc1' := (hc0 _).trans' hc1; have hl1 : l1.length ≤ 4 := (by rw [HL1.out, fixedB_length]; omega))
    | (go_at_call 59; refine (joined_calls _ _ [kind] l1 _ hh hr1.view (by simp) (by omega)).mono ?_; rintro e w2 ⟨l2, ao2, cap2, r2, rfl, hr2, hf2, hc2, HL2⟩; refine halt (fun X hX => ?_)))
  rw [hX.out]; clear hX
  have hc2' := hc1'.trans' hc2
  have e2 : l2 = headB kind body.length := by rw [HL2.out, HL1.out]; rfl
  have hl2 : l2.length ≤ 5 := by rw [e2, headB_length]; omega
  have HE2 := hid e2
  have hb2 := HV.out.keep hc2' (by simp)
  clear HL2 HL1 e2 hc1 hc1' hr1 hh
  go_wp2_with (go_at_call 59; refine (joined_calls _ _ l2 body _ hr2.view hb2 (by omega) (by omega)).mono ?_; rintro e w3 ⟨l3, ao3, cap3, r3, rfl, hr3, hf3, hc3, HL3⟩; refine halt (fun X hX => ?_))
  rw [hX.out]; clear hX
  have hl3 : l3.length ≤ 16777221 := by rw [HL3.out, List.length_append]; omega
  go_wp2_with (go_at_call 23; refine (q_sum_calls _ l3 _ hr3.view (by omega)).mono ?_; rintro e w' ⟨rfl, rfl⟩; refine halt (fun X hX => ?_))
  rw [hX.out]; clear hX
  have hs := sumB_lt l3
  obtain ⟨sm, hsm⟩ : ∃ s, sumB l3 = s := ⟨_, rfl⟩
  rw [hsm] at hs
  rw [hsm]
  have HSM := hid hsm
  clear hsm
  have hws : IntKind.u64.wrap (sm : Int) = (sm : Int) := by rw [IntKind.wrap_u64]; omega
  have hr2' := hr2.keep hc3 (by simp)
  have hbm : ∀ u : World, Bytes (u.alloc (.cells #[.int .u8 97, .int .u8 98] 5)) (.slice (some ⟨u.heap.size, 0, none⟩) 2 2) [97, 98] := fun u => View.news u [.int .u8 97, .int .u8 98] _ (by simp [maxLen])
  have hr2'' := fun o => hr2'.keep ((Chg.refl [] w3).alloc o) (by simp)
  have hca3 := fun o => (Chg.refl [] w3).alloc o
  go_wp2_with (go_at_call 59; refine (joined_calls _ _ [97, 98] l2 _ (hbm _) (hr2'' _).view (by simp) (by omega)).mono ?_; rintro e w4 ⟨l4, ao4, cap4, r4, rfl, hr4, hf4, hc4, HL4⟩; refine halt (fun X hX => ?_))
  rw [hX.out]; clear hX
  have hl4 : l4.length ≤ 7 := by rw [HL4.out, List.length_append]; simp; omega
  go_wp2_with (first
    | (go_at_call 46; refine (ref_fixed_calls sm (fixedB4_u64 _ hs) 4 (by omega) _).mono ?_; rintro e w5 ⟨l5, ao5, cap5, r5, rfl, hr5, hf5, hc5, HL5⟩; have hl5 : l5.length ≤ 4 := (by rw [HL5.out, fixedB_length]; omega); have hr4' := hr4.keep hc5 (by simp))
    | (go_at_call 59; refine (joined_calls _ _ l4 l5 _ hr4'.view hr5.view (by omega) (by omega)).mono ?_; rintro e w6 ⟨l6, ao6, cap6, r6, rfl, hr6, hf6, hc6, HL6⟩; refine halt (fun X hX => ?_)))
  rw [hX.out]; clear hX
  have hl6 : l6.length ≤ 11 := by rw [HL6.out, List.length_append]; omega
  have hcall : Chg [] w w6 := (((((hc2'.trans' hc3).trans' (hca3 _)).trans' hc4).trans' hc5).trans' hc6)
  have hb6 := HV.out.keep hcall (by simp)
  go_wp2_with (go_at_call 59; refine (joined_calls _ _ l6 body _ hr6.view hb6 (by omega) (by omega)).mono ?_; rintro e w7 ⟨l7, ao7, cap7, r7, rfl, hr7, hf7, hc7, HL7⟩; refine halt (fun X hX => ?_))
  rw [hX.out]; clear hX
  go_wp2
  go_ret2
  refine ⟨l7, ao7, cap7, r7, rfl, hr7, (Fresh.refl w none).trans hcall.size hf7, hcall.trans' hc7, hid ?_⟩
  rw [HL7.out, HL6.out, HL5.out, HL4.out, ← HSM.out, HL3.out, HE2.out]
  simp [frameB]
end Go.Proofs.Ytdakcphkaljghaa
