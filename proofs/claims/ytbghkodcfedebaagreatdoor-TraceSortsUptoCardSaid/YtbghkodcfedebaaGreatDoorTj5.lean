/- Joined by join.py out of Fa, Fb, Fc, Fd, Fe. -/
import Derived.Test.YtbghkodcfedebaaGreatDoorTj2
import Derived.Test.YtbghkodcfedebaaGreatDoorTj3
import Derived.Test.YtbghkodcfedebaaGreatDoorTj1
import Derived.Test.YtbghkodcfedebaaGreatDoorTj4
import Derived.Laws.Cover3
import Derived.Stop.BytesEq
set_option linter.unusedSimpArgs false
set_option linter.unusedVariables false
set_option linter.unusedSectionVars false

/- Walks of the frames: the sum, lists joined. -/
namespace Go.Proofs.YtbghkodcfedebaaGreatDoor
open Go.RowKit Go.AB
set_option linter.unusedSimpArgs false

theorem crcBit_even {c : Nat} (h : c % 2 = 0) : crcBit c = c / 2 := by unfold crcBit; rw [if_neg (by omega)]
theorem crcBit_odd {c : Nat} (h : c % 2 = 1) : crcBit c = (c / 2) ^^^ 3988292384 := by unfold crcBit; rw [if_pos h]

set_option maxHeartbeats 1000000 in
set_option maxRecDepth 100000 in
theorem q_sum_calls (v : Value) (l : List UInt8) (w : World) (hv : Bytes w v l) (hl : l.length ≤ 1099511627776) :
    Calls Tryz.prog 79 #[v] w fun e w' => e = .returned (.int .u32 (sumB l)) ∧ w = w' := by
  obtain ⟨ao, cap, rfl, _, _, _, hcells⟩ := hv.out
  clear hv
  go_enter Tryz.func79, Tryz.ntmps79
  go_wp2
  go_loop [3, 4, 5, 6] (fun x i _ _ => ∃ k : Nat, k ≤ l.length ∧ i = .int .i64 k ∧ x = .int .u32 (crcSum 4294967295 (l.take k))) (fun _ i _ _ => l.length - (intOf i).toNat)
  case atStart => exact ⟨0, Nat.zero_le _, rfl, rfl⟩
  case round =>
    obtain ⟨k, hk, rfl, rfl⟩ := hrel
    have hn := crcSum_lt (c := 4294967295) (l.take k) (by omega)
    obtain ⟨n, hne⟩ : ∃ n, crcSum 4294967295 (l.take k) = n := ⟨_, rfl⟩
    rw [hne] at hn ⊢
    by_cases hlt : k < l.length
    · have hs : crcSum 4294967295 (l.take (k + 1)) = crcByte n l[k] := by rw [take_snoc l k hlt, crcSum_snoc, hne]
      obtain ⟨b, off, rfl, hcell⟩ := hcells (by omega)
      have hk1 := hcell k hlt
      have hx := crcXor_u32 n hn l[k]
      have hx2 := xor_lt32 n hn l[k]
      have HS := hid hs
      clear hcells hcell hs hne
      go_wp2
      clear hx
      go_loop [3, 5, 6] (fun c i _ => ∃ q : Nat, q ≤ 8 ∧ i = .int .i64 q ∧ c = .int .u32 (crcBits q (n ^^^ l[k].toNat))) (fun _ i _ => 8 - (intOf i).toNat)
      case atStart => exact ⟨0, by omega, rfl, rfl⟩
      case round =>
        obtain ⟨q, hq, rfl, rfl⟩ := hrel
        have hb := crcBits_lt q hx2
        obtain ⟨c, hc⟩ : ∃ c, crcBits q (n ^^^ l[k].toNat) = c := ⟨_, rfl⟩
        rw [hc] at hb ⊢
        have hc1 : crcBits (q + 1) (n ^^^ l[k].toNat) = crcBit c := by rw [← hc]; rfl
        have HC1 := hid hc1
        have HC := hid hc
        clear hc hc1
        by_cases hq8 : q < 8
        · rcases Nat.mod_two_eq_zero_or_one c with h0 | h0
          · have e := crcBit_even h0
            rw [e] at HC1
            have ho : ((c : Int) % 2 == 1) = false := by simp; omega
            clear e
            go_wp2
            go_round
            case rel => exact ⟨q + 1, by omega, by go_num, by rw [HC1.out]; exact congrArg (Value.int .u32) (by omega)⟩
            case measure => simp [intOf]; omega
          · have e := crcBit_odd h0
            rw [e] at HC1
            have ho : ((c : Int) % 2 == 1) = true := by simp; omega
            have hxx : bits .xor .u32 ((c : Int) / 2) 3988292384 = (((c / 2) ^^^ 3988292384 : Nat) : Int) := by
              rw [show (c : Int) / 2 = ((c / 2 : Nat) : Int) from by omega, show (3988292384 : Int) = ((3988292384 : Nat) : Int) from rfl, u32_xor_nat _ _ (by omega) (by omega)]
            clear e
            go_wp2
            go_round
            case rel => exact ⟨q + 1, by omega, by go_num, by rw [HC1.out]⟩
            case measure => simp [intOf]; omega
        · go_wp2
          go_round
          case rel => exact ⟨k + 1, by omega, by go_num, (by have e : q = 8 := (by omega); subst e; rw [HS.out, ← HC.out]; rfl)⟩
          case measure => simp [intOf]; omega
    · have hx := xorBegin n hn
      have hne2 : crcSum 4294967295 l = n := by rw [← hne, List.take_of_length_le (by omega)]
      have HN := hid hne2
      clear hne hne2
      go_wp2
      go_ret
      exact ⟨by unfold sumB; rw [HN.out]; rfl, rfl⟩

set_option maxHeartbeats 1000000 in
set_option maxRecDepth 100000 in
theorem joined_calls (va vb : Value) (a c : List UInt8) (w : World) (ha : Bytes w va a) (hc : Bytes w vb c) (hla : a.length ≤ 549755813888) (hlc : c.length ≤ 549755813888) :
    Calls Tryz.prog 77 #[va, vb] w (NewB 5 w (a ++ c)) := by
  obtain ⟨aoa, capa, rfl, _, _, _, hcella⟩ := ha.out
  obtain ⟨aoc, capc, rfl, _, _, _, hcellc⟩ := hc.out
  clear ha hc
  go_enter Tryz.func77, Tryz.ntmps77
  go_wp2_with fail
  go_loopw [5, 6] (fun x i wr => ∃ k l1 r1 ao1 cap1, k ≤ a.length ∧ i = .int .i64 (k : Nat) ∧ x = .slice ao1 l1.length cap1 ∧ Row wr 5 1 (.slice ao1 l1.length cap1) r1 l1.length (l1.map B) ∧ Hid (l1 = a.take k) ∧ Chg [] w wr ∧ Fresh w none r1)
    (fun _ i _ => a.length - (intOf i).toNat)
  case atStart => exact ⟨0, [], none, none, 0, by omega, rfl, rfl, Row.nil _ _ _, hid (by simp), Chg.refl _ _, Fresh.refl _ _⟩
  case round =>
    obtain ⟨k, l1, r1, ao1, cap1, hk, rfl, rfl, hr1, HL, hch, hfr⟩ := hrel
    have hlen : l1.length ≤ 549755813888 := by rw [HL.out, List.length_take]; omega
    have hrow := fun o => hr1.keep ((Chg.refl [] wr).alloc o) (by simp)
    have hca := fun o => (Chg.refl [] wr).alloc o
    by_cases hlt : k < a.length
    · obtain ⟨bb, off, rfl, hcc⟩ := hcella (by omega)
      have hx := hch.cell (hcc k hlt) (by simp)
      have HS := hid (take_snoc a k hlt)
      clear hcc hcella hcellc
      go_wp2_with (at_builtin; refine wpList_app rfl _ _ 34 rfl elem_u8 rfl (hrow _) rfl (View.one _ _ _) (by simp [Value.oneCell']) (by unfold maxLen; omega) (by omega) (fun ao' cap' r' w2 hr2 hc2 hf2 _ => halt (fun X hX => ?_)))
      rw [hX.out]; clear hX
      go_wp2
      go_roundw
      case rel => exact ⟨k + 1, l1 ++ [a[k]], r', ao', cap', by omega, by go_num, by simp, (by simpa [B] using hr2), hid (by rw [HS.out, HL.out]), own_step hch hfr (hca _) hc2, fresh_step hch hfr (hca _) hf2⟩
      case measure => simp [intOf]; omega
    · have he : a.take k = a := List.take_of_length_le (by omega)
      rw [he] at HL
      have hl1 := HL.out
      clear HL he hcella hrow hca
      subst hl1
      obtain ⟨wo, hwo⟩ : ∃ wo : World, wo = wr := ⟨_, rfl⟩
      rw [← hwo] at hr1 hch ⊢
      clear hwo
      go_wp2_with fail
      go_loopw [5, 7] (fun x i wr => ∃ k l2 r2 ao2 cap2, k ≤ c.length ∧ i = .int .i64 (k : Nat) ∧ x = .slice ao2 l2.length cap2 ∧ Row wr 5 1 (.slice ao2 l2.length cap2) r2 l2.length (l2.map B) ∧ Hid (l2 = l1 ++ c.take k) ∧ Chg [] w wr ∧ Fresh w none r2)
        (fun _ i _ => c.length - (intOf i).toNat)
      case atStart => exact ⟨0, l1, r1, ao1, cap1, by omega, rfl, rfl, hr1, hid (by simp), hch, hfr⟩
      case round =>
        obtain ⟨k, l2, r2, ao2, cap2, hk, rfl, rfl, hr3, HL, hch3, hfr3⟩ := hrel
        have hlen2 : l2.length ≤ 1099511627776 := by rw [HL.out, List.length_append, List.length_take]; omega
        have hrow := fun o => hr3.keep ((Chg.refl [] wr).alloc o) (by simp)
        have hca := fun o => (Chg.refl [] wr).alloc o
        clear hr1
        by_cases hlt : k < c.length
        · obtain ⟨bb, off, rfl, hcc⟩ := hcellc (by omega)
          have hx := hch3.cell (hcc k hlt) (by simp)
          have HS := hid (take_snoc c k hlt)
          clear hcc hcellc
          go_wp2_with (at_builtin; refine wpList_app rfl _ _ 34 rfl elem_u8 rfl (hrow _) rfl (View.one _ _ _) (by simp [Value.oneCell']) (by unfold maxLen; omega) (by omega) (fun ao' cap' r' w2 hr2 hc2 hf2 _ => halt (fun X hX => ?_)))
          rw [hX.out]; clear hX
          go_wp2
          go_roundw
          case rel => exact ⟨k + 1, l2 ++ [c[k]], r', ao', cap', by omega, by go_num, by simp, (by simpa [B] using hr2), hid (by rw [HS.out, HL.out, List.append_assoc]), own_step hch3 hfr3 (hca _) hc2, fresh_step hch3 hfr3 (hca _) hf2⟩
          case measure => simp [intOf]; omega
        · clear hcellc
          go_wp2
          go_ret
          exact NewB.mk' hr3 (by rw [HL.out, List.take_of_length_le (by omega)]) hfr3 hch3
end Go.Proofs.YtbghkodcfedebaaGreatDoor

/- Walks of the frames: a frame around a body. -/
namespace Go.Proofs.YtbghkodcfedebaaGreatDoor
open Go.RowKit Go.AB
set_option linter.unusedSimpArgs false

/-- A slice of bytes in new memory, and a number. -/
def NewB2 (U : Nat) (w : World) (l : List UInt8) (c : Nat) (e : Ending) (w' : World) : Prop :=
  ∃ l' ao cap r, e = .returned (.tuple #[.slice ao l'.length cap, .int .i64 c]) ∧ Row w' U 1 (.slice ao l'.length cap) r l'.length (l'.map B) ∧ Fresh w none r ∧ Chg [] w w' ∧ Hid (l' = l)

theorem fixedB4_u64 (n : Nat) (h : n < 4294967296) : U64 n := by unfold U64; omega

set_option maxHeartbeats 1000000 in
set_option maxRecDepth 100000 in
theorem q_frame_calls (kind : UInt8) (v : Value) (body : List UInt8) (w : World) (hv : Bytes w v body) (hl : body.length ≤ 16777216) :
    Calls Tryz.prog 48 #[.int .u8 kind.toNat, v] w (NewB2 5 w (frameB kind body) 0) := by
  obtain ⟨ao, cap, rfl, _, _, _, _⟩ := hv.out
  have hwr : IntKind.u64.wrap (body.length : Int) = ((body.length : Nat) : Int) := by rw [IntKind.wrap_u64]; omega
  have hb1 : ∀ u : World, Bytes (u.alloc (.cells #[.int .u8 (kind.toNat : Nat)] 5)) (.slice (some ⟨u.heap.size, 0, none⟩) 1 1) [kind] := fun u => View.one _ _ _
  have HV := hid hv
  have hc0 : ∀ o, Chg [] w (w.alloc o) := fun o => (Chg.refl [] w).alloc o
  clear hv
  go_enter Tryz.func48, Tryz.ntmps48
  go_wp2_with (first
    | (go_at_call 78; refine (ref_fixed_calls body.length (fixedB4_u64 _ (by omega)) 4 (by omega) _).mono ?_; rintro e w1 ⟨l1, ao1, cap1, r1, rfl, hr1, hf1, hc1, HL1⟩; have hh := (hb1 w).keep hc1 (by simp); have hc1' := (hc0 _).trans' hc1; have hl1 : l1.length ≤ 4 := (by rw [HL1.out, fixedB_length]; omega))
    | (go_at_call 77; refine (joined_calls _ _ [kind] l1 _ hh hr1.view (by simp) (by omega)).mono ?_; rintro e w2 ⟨l2, ao2, cap2, r2, rfl, hr2, hf2, hc2, HL2⟩; refine halt (fun X hX => ?_)))
  rw [hX.out]; clear hX
  have hc2' := hc1'.trans' hc2
  have e2 : l2 = headB kind body.length := by rw [HL2.out, HL1.out]; rfl
  have hl2 : l2.length ≤ 5 := by rw [e2, headB_length]; omega
  have HE2 := hid e2
  have hb2 := HV.out.keep hc2' (by simp)
  clear HL2 HL1 e2 hc1 hc1' hr1 hh
  go_wp2_with (go_at_call 77; refine (joined_calls _ _ l2 body _ hr2.view hb2 (by omega) (by omega)).mono ?_; rintro e w3 ⟨l3, ao3, cap3, r3, rfl, hr3, hf3, hc3, HL3⟩; refine halt (fun X hX => ?_))
  rw [hX.out]; clear hX
  have hl3 : l3.length ≤ 16777221 := by rw [HL3.out, List.length_append]; omega
  go_wp2_with (go_at_call 79; refine (q_sum_calls _ l3 _ hr3.view (by omega)).mono ?_; rintro e w' ⟨rfl, rfl⟩; refine halt (fun X hX => ?_))
  rw [hX.out]; clear hX
  have hs := sumB_lt l3
  obtain ⟨sm, hsm⟩ : ∃ s, sumB l3 = s := ⟨_, rfl⟩
  rw [hsm] at hs
  rw [hsm]
  have HSM := hid hsm
  clear hsm
  have hws : IntKind.u64.wrap (sm : Int) = (sm : Int) := by rw [IntKind.wrap_u64]; omega
  have hr2' := hr2.keep hc3 (by simp)
  have hbm : ∀ u : World, Bytes (u.alloc (.cells #[.int .u8 97, .int .u8 98] 5)) (.slice (some ⟨u.heap.size, 0, none⟩) 2 2) [97, 98] := fun u => View.news u [.int .u8 97, .int .u8 98] _ (by simp [maxLen])
  have hr2'' := fun o => hr2'.keep ((Chg.refl [] w3).alloc o) (by simp)
  have hca3 := fun o => (Chg.refl [] w3).alloc o
  go_wp2_with (go_at_call 77; refine (joined_calls _ _ [97, 98] l2 _ (hbm _) (hr2'' _).view (by simp) (by omega)).mono ?_; rintro e w4 ⟨l4, ao4, cap4, r4, rfl, hr4, hf4, hc4, HL4⟩; refine halt (fun X hX => ?_))
  rw [hX.out]; clear hX
  have hl4 : l4.length ≤ 7 := by rw [HL4.out, List.length_append]; simp; omega
  go_wp2_with (first
    | (go_at_call 78; refine (ref_fixed_calls sm (fixedB4_u64 _ hs) 4 (by omega) _).mono ?_; rintro e w5 ⟨l5, ao5, cap5, r5, rfl, hr5, hf5, hc5, HL5⟩; have hl5 : l5.length ≤ 4 := (by rw [HL5.out, fixedB_length]; omega); have hr4' := hr4.keep hc5 (by simp))
    | (go_at_call 77; refine (joined_calls _ _ l4 l5 _ hr4'.view hr5.view (by omega) (by omega)).mono ?_; rintro e w6 ⟨l6, ao6, cap6, r6, rfl, hr6, hf6, hc6, HL6⟩; refine halt (fun X hX => ?_)))
  rw [hX.out]; clear hX
  have hl6 : l6.length ≤ 11 := by rw [HL6.out, List.length_append]; omega
  have hcall : Chg [] w w6 := (((((hc2'.trans' hc3).trans' (hca3 _)).trans' hc4).trans' hc5).trans' hc6)
  have hb6 := HV.out.keep hcall (by simp)
  go_wp2_with (go_at_call 77; refine (joined_calls _ _ l6 body _ hr6.view hb6 (by omega) (by omega)).mono ?_; rintro e w7 ⟨l7, ao7, cap7, r7, rfl, hr7, hf7, hc7, HL7⟩; refine halt (fun X hX => ?_))
  rw [hX.out]; clear hX
  go_wp2
  go_ret2
  refine ⟨l7, ao7, cap7, r7, rfl, hr7, (Fresh.refl w none).trans hcall.size hf7, hcall.trans' hc7, hid ?_⟩
  rw [HL7.out, HL6.out, HL5.out, HL4.out, ← HSM.out, HL3.out, HE2.out]
  simp [frameB]
end Go.Proofs.YtbghkodcfedebaaGreatDoor

/- Walks of the frames: the program's frame. -/
namespace Go.Proofs.YtbghkodcfedebaaGreatDoor
open Go.RowKit Go.AB
set_option linter.unusedSimpArgs false

set_option maxHeartbeats 2000000 in
set_option maxRecDepth 100000 in
theorem frame_calls (kind : UInt8) (v : Value) (body : List UInt8) (w : World) (hv : Bytes w v body) (hl : body.length ≤ 16777216) :
    Calls Tryz.prog 46 #[.int .u8 kind.toNat, v] w (NewB2 5 w (frameB kind body) 0) := by
  obtain ⟨ao, cap, rfl, _, _, _, _⟩ := hv.out
  have hmod : (body.length : Int) % 4294967296 = (body.length : Int) := by omega
  have HV := hid hv
  have hW0 : Wr 84 5 (w.alloc (.cells #[.slice none 0 0] 84)) w.heap.size none [] none 0 := ⟨heap_alloc_new w _, Row.nil _ _ _, by simp⟩
  have hc0 : Chg [] w (w.alloc (.cells #[.slice none 0 0] 84)) := (Chg.refl [] w).alloc _
  have hW0' := fun o => hW0.keep ((Chg.refl [] _).alloc o) (by simp) (by simp)
  have hk := kind.toNat_lt
  have hv1 : View ((w.alloc (.cells #[.slice none 0 0] 84)).alloc (.cells #[.int .u8 (kind.toNat : Nat)] 5)) 1 (.slice (some ⟨w.heap.size + 1, 0, none⟩) 1 1) 1 [.int .u8 (kind.toNat : Nat)] := by
    have := View.one (w.alloc (.cells #[.slice none 0 0] 84)) (.int .u8 (kind.toNat : Nat)) 5
    rwa [show (w.alloc (.cells #[.slice none 0 0] 84)).heap.size = w.heap.size + 1 from by simp] at this
  clear hv
  go_enter Tryz.func46, Tryz.ntmps46
  go_wp2_with (go_at_call 45; refine (put_u8 [kind.toNat] (by intro m hm; rw [List.mem_singleton.1 hm]; exact hk) _ _ _ _ _ _ _ (hW0' _) (by simp) hv1 (fun _ g hg => by simp [Value.ownBlock] at hg; subst hg; simp) (by simp)).mono ?_; rintro e w1 ⟨rfl, l1, r1, ao1, cap1, hW1, hc1, hf1, HL1⟩; refine halt (fun X hX => ?_))
  rw [hX.out]; clear hX
  have e1 : l1 = [kind] := by rw [HL1.out]; simp [fixedB]
  have hn1 : l1.length ≤ 1 := by rw [e1]; simp
  have HE1 := hid e1
  have hc1' : Chg [w.heap.size] w w1 := (hc0.nil.trans' ((Chg.refl _ _).alloc _)).trans (hc1) (fun x hx => by simp at hx; exact .inl (by simp [hx]))
  have hf1' : Fresh w none r1 := by
    intro g hg
    rcases hf1 g hg with h | h
    · simp at h
    · simp at h; exact .inr (by omega)
  clear HL1 e1 hc1 hf1 hW0 hW0'
  have hb1 : w.heap.size < w1.heap.size := blk_lt hW1.blk
  have hW1' := fun o => hW1.keep ((Chg.refl [] w1).alloc o) (by simp) (by simp)
  have hr1lt := hW1.row.lt
  go_wp2_with (go_at_call 74; refine (put_u32 [body.length] (by intro m hm; rw [List.mem_singleton.1 hm]; omega) _ _ _ _ _ _ _ (hW1' _) (by omega) (View.one _ _ _) (fun _ g hg => by simp [Value.ownBlock] at hg; subst hg; exact ⟨by omega, fun e => by have := hr1lt _ e; omega⟩) (by simp)).mono ?_; rintro e w2 ⟨rfl, l2, r2, ao2, cap2, hW2, hc2, hf2, HL2⟩; refine halt (fun X hX => ?_))
  rw [hX.out]; clear hX
  have e2 : l2 = headB kind body.length := by rw [HL2.out, HE1.out]; simp [headB]
  have hn2 : l2.length ≤ 5 := by rw [e2, headB_length]; omega
  have HE2 := hid e2
  have hc2' : Chg [w.heap.size] w w2 := (hc1'.trans' ((Chg.refl [w.heap.size] w1).alloc (.cells #[.int .u32 (body.length : Nat)] 131))).trans hc2 (fun x hx => by
    rcases List.mem_cons.1 hx with h | h
    · exact .inl (by simp [h])
    · exact .inr ((hf1' x (by simpa using h)).resolve_left (by simp)))
  have hf2' : Fresh w none r2 := by
    intro g hg
    rcases hf2 g hg with h | h
    · exact hf1' g h
    · simp at h; exact .inr (by omega)
  clear HL2 e2 hc2 hf2 HE1 hW1' hr1lt hc1' hf1'
  have hb2 : w.heap.size < w2.heap.size := blk_lt hW2.blk
  have hr2lt := hW2.row.lt
  clear hv1
  go_wp2_with fail
  obtain ⟨w3, hw3⟩ : ∃ w3, w3 = (w2.alloc (.cells #[.int .u8 97, .int .u8 98] 5)).alloc (.cells #[.slice (some ⟨w2.heap.size, 0, none⟩) 2 2] 84) := ⟨_, rfl⟩
  rw [← hw3]
  have hca : Chg [] w2 w3 := by rw [hw3]; exact ((Chg.refl [] w2).alloc _).alloc _
  have hsz : w3.heap.size = w2.heap.size + 2 := by rw [hw3]; simp
  have hF3 : Wr 84 5 w3 (w2.heap.size + 1) (some w2.heap.size) [97, 98] (some ⟨w2.heap.size, 0, none⟩) 2 := by
    refine ⟨?_, ⟨⟨rfl, .inr ⟨w2.heap.size, 2, #[.int .u8 97, .int .u8 98], rfl, Nat.zero_le _, ?_, Nat.le_refl _, by simp [maxLen], rfl, rfl⟩⟩, rfl⟩, by simp⟩
    · rw [hw3]
      have := heap_alloc_new (w2.alloc (.cells #[.int .u8 97, .int .u8 98] 5)) (.cells #[.slice (some ⟨w2.heap.size, 0, none⟩) 2 2] 84)
      simpa using this
    · rw [hw3]
      exact blk_alloc_old (blk_alloc_new w2 _) _
  clear hw3
  have hW3 := hW2.keep hca (by simp) (by simp)
  have HSZ := hid hsz
  clear hsz
  have hx1 := hW3.cell
  have hx2 := hF3.cell
  have hrow3 := hF3.row.keep (Chg.of_drewN [] w3 1) (by simp)
  have hrowH := hW3.row.keep (Chg.of_drewN [] w3 1) (by simp)
  simp only [List.length_cons, List.length_nil, Nat.zero_add] at hx2 hrow3
  go_region_law (first | (refine step_app rfl _ _ 34 rfl elem_u8 rfl hrow3 rfl hrowH.view (B_one _) (by unfold maxLen; omega) (by omega) (fun ao' cap' r' w4 hr4 hc4 hf4 => ?_); obtain ⟨hcell, hfree⟩ := hF3.put_cell (Chg.of_drewN [] w3 1) hc4; have hp := hF3.put (l' := [97, 98] ++ l2) (Chg.of_drewN [] w3 1) (by rw [List.map_append]; exact hr4) hc4 hf4))
  all_goals
    obtain ⟨p1, p2, p3⟩ := hp
    obtain ⟨w5, hw5⟩ : ∃ w5, w5 = w4.setCell ⟨w2.heap.size + 1, 0, none⟩ (.slice ao' (2 + l2.length) cap') := ⟨_, rfl⟩
    have p1' : Wr 84 5 w5 (w2.heap.size + 1) r' ([97, 98] ++ l2) ao' cap' := by rw [hw5]; exact p1
    have p2' : Chg ((w2.heap.size + 1) :: [w2.heap.size]) w3 w5 := by rw [hw5]; exact p2
    rw [← hw5]
    clear p1 p2 hw5 hcell hfree hr4 hc4 hf4
    have hC5 : Chg [] w w5 := ((hc2'.trans' hca.nil).trans p2' (fun x hx => by simp at hx; exact .inr (by omega))).mono (fun x hx => .inr (by simp at hx; omega))
    have hr2lt2 : ∀ g, r2 = some g → g ≠ w2.heap.size + 1 ∧ g ≠ w2.heap.size := fun g hg => by have := hr2lt g hg; omega
    have hH5 := hW3.keep p2' (by simp; omega) (fun g hg => by have := hr2lt2 g hg; simpa using this)
    have hb5 := HV.out.keep hC5 (by simp)
    have hr'W : Fresh w none r' := fun g hg => by
      rcases p3 g hg with h | h
      · exact .inr (by simp at h; omega)
      · exact .inr (by have := hca.size; omega)
    have y1 := hH5.cell
    have hl5 : ([97, 98] ++ l2).length ≤ 7 := by simp; omega
    have hs1 := sum_calls 4294967295 (by omega) _ l2 w5 hH5.row.view (by omega)
    rw [show ((4294967295 : Nat) : Int) = 4294967295 from rfl] at hs1
    have hs2 := sum_calls (crcSum 4294967295 l2) (crcSum_lt l2 (by omega)) _ body w5 hb5 (by omega)
    have hxl := crcSum_lt body (crcSum_lt l2 (c := 4294967295) (by omega))
    have hsm : crcSum (crcSum 4294967295 l2) body ^^^ 4294967295 = sumB (l2 ++ body) := by unfold sumB; rw [crcSum_append]
    have hxb := xorBegin (crcSum (crcSum 4294967295 l2) body) hxl
    rw [hsm] at hxb
    obtain ⟨c1, hc1⟩ : ∃ c, crcSum 4294967295 l2 = c := ⟨_, rfl⟩
    rw [hc1] at hs1 hs2 hxb hxl
    obtain ⟨c2, hc2⟩ : ∃ c, crcSum c1 body = c := ⟨_, rfl⟩
    rw [hc2] at hs2 hxb hxl
    have hsl := sumB_lt (l2 ++ body)
    obtain ⟨sm, hsmE⟩ : ∃ s, sumB (l2 ++ body) = s := ⟨_, rfl⟩
    rw [hsmE] at hxb hsl
    have HS1 := hid hs1
    have HS2 := hid hs2
    have HSM := hid hsmE
    clear hs1 hs2 hsm hsmE hc1 hc2 hxl hx1 hx2 hrow3 hrowH
    have p1a := fun o => p1'.keep ((Chg.refl [] w5).alloc o) (by simp) (by simp)
    have hbf : w2.heap.size + 1 < w5.heap.size := blk_lt p1'.blk
    have hrf := p1'.row.lt
    go_wp2_with (first
      | (go_at_call 75; (with_reducible refine HS2.out.mono ?_); rintro e w' ⟨rfl, rfl⟩)
      | (go_at_call 75; (with_reducible refine HS1.out.mono ?_); rintro e w' ⟨rfl, rfl⟩)
      | (go_at_call 74; refine (put_u32 [sm] (by intro m hm; rw [List.mem_singleton.1 hm]; exact hsl) _ _ _ _ _ _ _ (p1a _) (by omega) (View.one _ _ _) (fun _ g hg => by simp [Value.ownBlock] at hg; subst hg; exact ⟨by omega, fun e => by have := hrf _ e; omega⟩) (by simp)).mono ?_; rintro e w6 ⟨rfl, l6, r6, ao6, cap6, hW6, hc6, hf6, HL6⟩; refine halt (fun X hX => ?_)))
    rw [hX.out]; clear hX
    have hca5 := (Chg.refl [] w5).alloc (.cells #[.int .u32 (sm : Nat)] 131)
    have hC6 : Chg [] w w6 := (hC5.trans' hca5).trans hc6 (fun x hx => by
      rcases List.mem_cons.1 hx with h | h
      · exact .inr (by omega)
      · exact .inr ((hr'W x (by simpa using h)).resolve_left (by simp)))
    have hf6W : Fresh w none r6 := fun g hg => by
      rcases hf6 g hg with h | h
      · exact hr'W g h
      · have := hC5.size; simp at h; exact .inr (by omega)
    have hb6 := HV.out.keep hC6 (by simp)
    have y6 := hW6.cell
    have hl6 : l6.length ≤ 11 := by rw [HL6.out, List.length_append]; simp [fixedB]; omega
    have e6 : l6 = [97, 98] ++ l2 ++ fixedB 4 sm := by rw [HL6.out]; simp
    have HE6 := hid e6
    clear HL6 e6 hc6 hf6 p1a hrf hb5 hH5 y1
    go_wp2_with (at_builtin; refine wpList_app rfl _ _ 34 rfl elem_u8 rfl (hW6.row) rfl (hb6) (B_one _) (by unfold maxLen; omega) (by omega) (fun ao7 cap7 r7 w7 hr7 hc7 hf7 hnil7 => halt (fun X hX => ?_)))
    rw [hX.out]; clear hX
    clear hnil7
    obtain ⟨hcell, hfree⟩ := hW6.put_cell (Chg.refl [] w6) hc7
    obtain ⟨q1, q2, q3⟩ := hW6.put (l' := l6 ++ body) (Chg.refl [] w6) (by rw [List.map_append]; exact hr7) hc7 hf7
    have hrow8 := q1.row
    have HQ1 := hid hrow8
    clear hrow8
    go_wp2
    go_ret2
    refine ⟨l6 ++ body, ao7, cap7, r7, ?_, HQ1.out, ?_, ?_, hid ?_⟩
    · rw [List.length_append]; rfl
    · exact fun g hg => (q3 g hg).elim (fun h => hf6W g h) (fun h => .inr (by have := hC6.size; omega))
    · exact hC6.trans q2 (fun x hx => by
        rcases List.mem_cons.1 hx with h | h
        · exact .inr (by omega)
        · exact .inr ((hf6W x (by simpa using h)).resolve_left (by simp)))
    · rw [HE6.out, ← HSM.out, HE2.out]
      simp [frameB]
end Go.Proofs.YtbghkodcfedebaaGreatDoor

/- Walks of the frames: a frame opened, by the document. -/
namespace Go.Proofs.YtbghkodcfedebaaGreatDoor
open Go.RowKit Go.AB
set_option linter.unusedSimpArgs false

/-- A kind, a slice of bytes in new memory, a number. -/
def NewB3 (U : Nat) (w : World) (p : UInt8 × List UInt8 × Nat) (e : Ending) (w' : World) : Prop :=
  ∃ l' ao cap r, e = .returned (.tuple #[.int .u8 p.1.toNat, .slice ao l'.length cap, .int .i64 p.2.2]) ∧ Row w' U 1 (.slice ao l'.length cap) r l'.length (l'.map B) ∧ Fresh w none r ∧ Chg [] w w' ∧ Hid (l' = p.2.1)
theorem newB3_err {U : Nat} {w w' : World} {c : Nat} {p : UInt8 × List UInt8 × Nat} (h : p = (0, [], c)) (hc : Chg [] w w') : NewB3 U w p (.returned (.tuple #[.int .u8 0, .slice none 0 0, .int .i64 c])) w' := by
  subst h; exact ⟨[], none, 0, none, rfl, Row.nil _ _ _, Fresh.refl _ _, hc, hid rfl⟩

/-- The ways of the opening. -/
theorem openB_cases (l : List UInt8) : (l.length < 11 ∧ openB l = (0, [], 14)) ∨
    (11 ≤ l.length ∧ (∃ h0 : 0 < l.length, l[0] ≠ 97) ∧ openB l = (0, [], 14)) ∨
    (11 ≤ l.length ∧ (∃ h0 : 0 < l.length, l[0] = 97) ∧ (∃ h0 : 1 < l.length, l[1] ≠ 98) ∧ openB l = (0, [], 14)) ∨
    (11 ≤ l.length ∧ (∃ h0 : 0 < l.length, l[0] = 97) ∧ (∃ h0 : 1 < l.length, l[1] = 98) ∧ openB l = (if 16777216 < leNat ((l.drop 3).take 4) then (0, [], 14)
  else if l.length - 11 < leNat ((l.drop 3).take 4) then (0, [], 10)
  else if leNat ((l.drop 3).take 4) < l.length - 11 then (0, [], 13)
  else if (l.drop 7).take 4 ≠ fixedB 4 (sumB ((l.drop 2).take 5 ++ l.drop 11)) then (0, [], 15)
  else (l.getD 2 0, l.drop 11, 0))) := by
  by_cases h1 : l.length < 11
  · exact .inl ⟨h1, by unfold openB; rw [if_pos (.inl h1)]⟩
  · have h0 : 0 < l.length := by omega
    have h01 : 1 < l.length := by omega
    by_cases h2 : l[0] = 97
    · by_cases h3 : l[1] = 98
      · refine .inr (.inr (.inr ⟨by omega, ⟨h0, h2⟩, ⟨h01, h3⟩, ?_⟩))
        unfold openB
        rw [if_neg (by rw [List.getElem?_eq_getElem h0, List.getElem?_eq_getElem h01, h2, h3]; simp; omega)]
      · refine .inr (.inr (.inl ⟨by omega, ⟨h0, h2⟩, ⟨h01, h3⟩, ?_⟩))
        unfold openB
        rw [if_pos (.inr (.inr (by rw [List.getElem?_eq_getElem h01]; simpa using h3)))]
    · refine .inr (.inl ⟨by omega, ⟨h0, h2⟩, ?_⟩)
      unfold openB
      rw [if_pos (.inr (.inl (by rw [List.getElem?_eq_getElem h0]; simpa using h2)))]
theorem b97 {x : UInt8} (h : x = 97) : x.toNat = 97 := by subst h; rfl
theorem b98 {x : UInt8} (h : x = 98) : x.toNat = 98 := by subst h; rfl
theorem n97 {x : UInt8} (h : x ≠ 97) : x.toNat ≠ 97 := fun e => h (UInt8.toNat_inj.1 (by simpa using e))
theorem n98 {x : UInt8} (h : x ≠ 98) : x.toNat ≠ 98 := fun e => h (UInt8.toNat_inj.1 (by simpa using e))

/-- What the frame of an opened body bears where the sum stands. -/
theorem frame_bytes (l : List UInt8) (h : 11 ≤ l.length) (hn : leNat ((l.drop 3).take 4) + 11 = l.length) :
    ∀ j, j < 4 → (frameB (l[2]'(by omega)) (l.drop 11))[7 + j]? = (fixedB 4 (sumB ((l.drop 2).take 5 ++ l.drop 11)))[j]? := by
  intro j hj
  have e1 : fixedB 4 (l.drop 11).length = (l.drop 3).take 4 := by
    have h4 : ((l.drop 3).take 4).length = 4 := by simp; omega
    have := fixedB_leNat ((l.drop 3).take 4)
    rw [h4] at this
    rw [← this]
    congr 1
    simp; omega
  have e2 : headB (l[2]'(by omega)) (l.drop 11).length = (l.drop 2).take 5 := by
    unfold headB
    rw [e1, List.drop_eq_getElem_cons (show 2 < l.length by omega)]
    rfl
  unfold frameB
  rw [e2]
  have h5 : ((l.drop 2).take 5).length = 5 := by simp; omega
  rw [List.append_assoc, List.append_assoc, List.getElem?_append_right (by simp; omega), List.getElem?_append_right (by simp; omega), List.getElem?_append_left (by rw [fixedB_length]; simp; omega)]
  congr 1
  simp
  omega
theorem head_num (l : List UInt8) (h : 11 ≤ l.length) : ((l[3].toNat : Nat) : Int) + 256 * ((l[4].toNat : Nat) : Int) + 65536 * ((l[5].toNat : Nat) : Int) + 16777216 * ((l[6].toNat : Nat) : Int) = ((leNat ((l.drop 3).take 4) : Nat) : Int) := by
  have e : (l.drop 3).take 4 = [l[3], l[4], l[5], l[6]] := by
    apply List.ext_getElem
    · simp; omega
    · intro i h1 h2
      simp only [List.length_cons, List.length_nil] at h2
      match i, h2 with
      | 0, _ | 1, _ | 2, _ | 3, _ => simp
  rw [e]
  simp only [leNat]
  omega
set_option maxHeartbeats 2000000 in
set_option maxRecDepth 100000 in
theorem q_open_calls (v : Value) (l : List UInt8) (w : World) (hv : Bytes w v l) (hl : l.length ≤ 16777216) :
    Calls Tryz.prog 60 #[v] w (NewB3 5 w (openB l)) := by
  have hv' := hv
  obtain ⟨ao, cap, rfl, hcap, hcm, _, hcells⟩ := hv.out
  clear hv
  rcases openB_cases l with ⟨h1, he⟩ | ⟨h1, ⟨h0, h2⟩, he⟩ | ⟨h1, ⟨h0, h2⟩, ⟨h01, h3⟩, he⟩ | ⟨h1, ⟨h0, h2⟩, ⟨h01, h3⟩, he⟩
  · have HE := hid he
    clear he hv' hcells
    go_enter Tryz.func60, Tryz.ntmps60
    go_wp2
    go_ret3
    exact newB3_err HE.out (Chg.refl _ _)
  · obtain ⟨b, off, rfl, hc⟩ := hcells (by omega)
    have x0 := hc 0 (by omega)
    have hx : (((l[0].toNat : Nat) : Int) == 97) = false := by have := n97 h2; simp; omega
    have hx2 : (((l[0].toNat : Nat) : Int) != 97) = true := by have := n97 h2; simp; omega
    have hd : decide ((l.length : Int) < 11) = false := by simp; omega
    simp only [Nat.add_zero] at x0
    have HE := hid he
    clear he hv' hcells hc h2
    go_enter Tryz.func60, Tryz.ntmps60
    go_wp2
    go_ret3
    exact newB3_err HE.out (Chg.refl _ _)
  · obtain ⟨b, off, rfl, hc⟩ := hcells (by omega)
    have x0 := hc 0 (by omega)
    have x1 := hc 1 (by omega)
    have hx : (((l[1].toNat : Nat) : Int) == 98) = false := by have := n98 h3; simp; omega
    have hx2 : (((l[1].toNat : Nat) : Int) != 98) = true := by have := n98 h3; simp; omega
    have hd : decide ((l.length : Int) < 11) = false := by simp; omega
    have x0 : w.cell? ⟨b, off, none⟩ = some (.int .u8 97) := by rw [h2] at x0; exact x0
    have HE := hid he
    clear he hv' hcells hc h2 h3
    go_enter Tryz.func60, Tryz.ntmps60
    go_wp2
    go_ret3
    exact newB3_err HE.out (Chg.refl _ _)
  · obtain ⟨b, off, rfl, hc⟩ := hcells (by omega)
    have x0 : w.cell? ⟨b, off, none⟩ = some (.int .u8 97) := by have := hc 0 (by omega); rw [h2] at this; exact this
    have x1 : w.cell? ⟨b, off + 1, none⟩ = some (.int .u8 98) := by have := hc 1 (by omega); rw [h3] at this; exact this
    have x2 := hc 2 (by omega)
    have x3 := hc 3 (by omega)
    have x4 := hc 4 (by omega)
    have x5 := hc 5 (by omega)
    have x6 := hc 6 (by omega)
    have hN := head_num l h1
    have hd : decide ((l.length : Int) < 11) = false := by simp; omega
    obtain ⟨N, hNe⟩ : ∃ N, leNat ((l.drop 3).take 4) = N := ⟨_, rfl⟩
    rw [hNe] at hN he
    have l3 := l[3].toNat_lt
    have l4 := l[4].toNat_lt
    have l5 := l[5].toNat_lt
    have l6 := l[6].toNat_lt
    obtain ⟨b3, hb3⟩ : ∃ x, l[3].toNat = x := ⟨_, rfl⟩
    obtain ⟨b4, hb4⟩ : ∃ x, l[4].toNat = x := ⟨_, rfl⟩
    obtain ⟨b5, hb5⟩ : ∃ x, l[5].toNat = x := ⟨_, rfl⟩
    obtain ⟨b6, hb6⟩ : ∃ x, l[6].toNat = x := ⟨_, rfl⟩
    rw [hb3] at x3 l3 hN
    rw [hb4] at x4 l4 hN
    rw [hb5] at x5 l5 hN
    rw [hb6] at x6 l6 hN
    have HNE := hid hNe
    clear hb3 hb4 hb5 hb6 hNe
    by_cases c1 : 16777216 < N
    · rw [if_pos c1] at he
      have HE := hid he
      clear he hc hv' hcells
      go_enter Tryz.func60, Tryz.ntmps60
      go_wp2
      go_quiet (fail)
      go_wp2
      go_ret3
      exact newB3_err HE.out (Chg.of_drewN _ _ _)
    rw [if_neg c1] at he
    by_cases c2 : l.length - 11 < N
    · rw [if_pos c2] at he
      have HE := hid he
      clear he hc hv' hcells
      go_enter Tryz.func60, Tryz.ntmps60
      go_wp2
      go_quiet (fail)
      go_wp2
      go_ret3
      exact newB3_err HE.out (Chg.of_drewN _ _ _)
    rw [if_neg c2] at he
    by_cases c3 : N < l.length - 11
    · rw [if_pos c3] at he
      have HE := hid he
      clear he hc hv' hcells
      go_enter Tryz.func60, Tryz.ntmps60
      go_wp2
      go_quiet (fail)
      go_wp2
      go_ret3
      exact newB3_err HE.out (Chg.of_drewN _ _ _)
    rw [if_neg c3] at he
    have hNl : N + 11 = l.length := by omega
    have hSL := frame_bytes l h1 (by rw [HNE.out]; exact hNl)
    obtain ⟨S, hS⟩ : ∃ S, sumB ((l.drop 2).take 5 ++ l.drop 11) = S := ⟨_, rfl⟩
    rw [hS] at he hSL
    have hx : ∀ u, Below w.heap.size w u → ∀ j (hj : j < l.length), u.cell? ⟨b, off + j, none⟩ = some (.int .u8 (l[j].toNat : Nat)) := fun u hu j hj => (hu.cell (World.block_lt_of_cell? w _ (hc j hj))).trans (hc j hj)
    have HX := hid hx
    have HSL := hid hSL
    have HE := hid he
    have hbody : (l.drop 11).length ≤ 16777216 := by simp; omega
    have key : ∀ v : Value, Bytes w v (l.drop 11) → ∀ u, Chg [] w u → Calls Tryz.prog 77 #[v, .slice none 0 0] u (NewB 5 u (l.drop 11 ++ [])) := fun v hv u hu =>
      joined_calls _ _ (l.drop 11) [] u (hv.keep hu (by simp)) (Row.nil u 5 1).view (by omega) (by simp)
    have HK := hid key
    have hvw : cap ≠ 11 → Bytes w (.slice (some ⟨b, off + 11, none⟩) (l.length - 11) (cap - 11)) (l.drop 11) := fun _ => by
      have := View.part (w := w) (l := l) (bb := b) (off := off) (cap := cap) (p := 11) (v := l.length - 11) ⟨by simp, by omega, fun j hj => by rw [hc j (by omega)]; simp [List.getD, show j < l.length by omega, B]⟩ (by omega) hcap hcm
      have e : (l.drop 11).take (l.length - 11) = l.drop 11 := List.take_of_length_le (by simp)
      rw [e] at this
      unfold Bytes
      rw [List.length_drop]
      exact this
    have hvw0 : cap = 11 → Bytes w (.slice (some ⟨b, off, none⟩) 0 0) (l.drop 11) := fun e => by
      have : l.drop 11 = [] := List.drop_of_length_le (by omega)
      rw [this]
      exact ⟨rfl, by simp [maxLen], _, _, rfl, Nat.le_refl _, by simp [maxLen], (fun h => by cases h), fun h => by simp at h⟩
    have HV := hid hvw
    have HV0 := hid hvw0
    clear c1 c2 c3 hcells hvw hvw0 key hSL he hx hc hS hv'
    by_cases hcp : cap = 11
    · subst hcp
      have HB := hid (HV0.out rfl)
      clear HV HV0
      go_enter Tryz.func60, Tryz.ntmps60
      go_wp2
      go_quiet (fail)
      go_wp2_with (go_at_call 77; refine (HK.out _ HB.out _ (Chg.of_drewN _ _ _)).mono ?_; rintro e w1 ⟨l6, ao6, cap6, r6, rfl, hr6, hf6, hc6, HL6⟩; refine halt (fun X hX => ?_))
      rw [hX.out]; clear hX
      have H6 : Hid (l6 = l.drop 11) := hid (by rw [HL6.out, List.append_nil])
      have h6l : l6.length ≤ 16777216 := by rw [H6.out]; exact hbody
      have hc6W : Chg [] w w1 := (Chg.of_drewN [] w _).trans' hc6
      have y2 : w1.cell? ⟨b, off + 2, none⟩ = some (.int .u8 (l[2].toNat : Nat)) := hc6W.cell x2 (by simp)
      have HF := hid (q_frame_calls l[2] _ l6 w1 hr6.view h6l)
      clear HL6 HK HB
      go_wp2_with (go_at_call 48; refine HF.out.mono ?_; rintro e w2 ⟨l7, ao7, cap7, r7, rfl, hr7, hf7, hc7, HL7⟩; refine halt (fun X hX => ?_))
      rw [hX.out]; clear hX
      have hc7W : Chg [] w w2 := hc6W.trans' hc7
      have hr62 := hr6.keep hc7 (by simp)
      have hl7 : l7.length = l6.length + 11 := by rw [HL7.out, frameB_length]
      have hl7b : 11 ≤ l7.length := by omega
      have hl7c : l7.length ≤ 16777227 := by omega
      have HF7 : Hid (∀ j, j < 4 → l7[7 + j]? = (fixedB 4 S)[j]?) := hid (by rw [HL7.out, H6.out]; exact HSL.out)
      clear hl7 HL7 HSL HF
      go_wp2_with fail
      go_loopw [9] (fun i wr => ∃ q m : Nat, q ≤ 4 ∧ i = .int .i64 (q : Nat) ∧ Hid (∀ j, j < q → l[7 + j]? = (fixedB 4 S)[j]?) ∧ wr = w2.drewN m)
        (fun i _ => 4 - (intOf i).toNat)
      case atStart => exact ⟨0, 0, by omega, rfl, hid (fun j hj => by omega), rfl⟩
      case round =>
        obtain ⟨q, m, hq, rfl, HQ, rfl⟩ := hrel
        by_cases hq4 : q < 4
        · obtain ⟨g, rfl, rfl, z1, _⟩ := Row.at hr7 (k := 7 + q) (by omega)
          have z2 := HX.out w2 hc7W.to_below (7 + q) (by omega)
          have h7 := HF7.out q hq4
          have hs5 : (fixedB 4 S).length = 4 := fixedB_length 4 S
          have h7l : 7 + q < l.length := by omega
          have h7f : 7 + q < l7.length := by omega
          rw [List.getElem?_eq_getElem h7f, List.getElem?_eq_getElem (show q < (fixedB 4 S).length by omega)] at h7
          have h7e : l7[7 + q] = (fixedB 4 S)[q]'(by omega) := by simpa using h7
          have n1 : (7 : Int) + (q : Int) < (l.length : Int) := by omega
          have n2 : (7 : Int) + (q : Int) < (l7.length : Int) := by omega
          have n3 : (0 : Int) ≤ (7 : Int) + (q : Int) := by omega
          by_cases heq : l7[7 + q] = l[7 + q]
          · have hb : (((l7[7 + q].toNat : Nat) : Int) == ((l[7 + q].toNat : Nat) : Int)) = true := by rw [heq]; simp
            have hb2 : (((l7[7 + q].toNat : Nat) : Int) != ((l[7 + q].toNat : Nat) : Int)) = false := by rw [heq]; simp
            have HN : Hid (∀ j, j < q + 1 → l[7 + j]? = (fixedB 4 S)[j]?) := hid (fun j hj => by
              rcases Nat.lt_or_ge j q with h | h
              · exact HQ.out j h
              · obtain rfl : j = q := by omega
                rw [List.getElem?_eq_getElem h7l, List.getElem?_eq_getElem (show j < (fixedB 4 S).length by omega), ← heq, h7e])
            clear heq h7e h7 hs5
            obtain ⟨ba, hba⟩ : ∃ x, l7[7 + q].toNat = x := ⟨_, rfl⟩
            obtain ⟨bb, hbb⟩ : ∃ x, l[7 + q].toNat = x := ⟨_, rfl⟩
            rw [hba] at z1 hb hb2
            rw [hbb] at z2 hb hb2
            clear hba hbb
            go_wp2
            go_quiet (fail)
            go_wp2
            go_roundw
            case rel => exact ⟨q + 1, _, by omega, by go_num, HN, rfl⟩
            case measure => simp [intOf]; omega
          · have hne : l7[7 + q].toNat ≠ l[7 + q].toNat := fun e => heq (UInt8.toNat_inj.1 e)
            have hb : (((l7[7 + q].toNat : Nat) : Int) == ((l[7 + q].toNat : Nat) : Int)) = false := by simp; omega
            have hb2 : (((l7[7 + q].toNat : Nat) : Int) != ((l[7 + q].toNat : Nat) : Int)) = true := by simp; omega
            have hbad : (l.drop 7).take 4 ≠ fixedB 4 S := fun e => by
              have h1 : ((l.drop 7).take 4)[q]? = (fixedB 4 S)[q]? := by rw [e]
              rw [List.getElem?_take, if_pos hq4, List.getElem?_drop, List.getElem?_eq_getElem h7l, List.getElem?_eq_getElem (show q < (fixedB 4 S).length by omega)] at h1
              apply heq
              rw [h7e]
              simpa using h1.symm
            have hE := HE.out
            rw [if_pos hbad] at hE
            have HE2 := hid hE
            clear heq h7e h7 hs5 hne hbad hE
            obtain ⟨ba, hba⟩ : ∃ x, l7[7 + q].toNat = x := ⟨_, rfl⟩
            obtain ⟨bb, hbb⟩ : ∃ x, l[7 + q].toNat = x := ⟨_, rfl⟩
            rw [hba] at z1 hb hb2
            rw [hbb] at z2 hb hb2
            clear hba hbb
            go_wp2
            go_quiet (fail)
            go_wp2
            go_ret3
            exact newB3_err HE2.out ((hc7W.drewN _).drewN _)
        · obtain rfl : q = 4 := by omega
          have hgood : (l.drop 7).take 4 = fixedB 4 S := by
            apply List.ext_getElem?
            intro j
            rcases Nat.lt_or_ge j 4 with h | h
            · rw [List.getElem?_take, if_pos h, List.getElem?_drop, HQ.out j h]
            · rw [List.getElem?_eq_none (by simp; omega), List.getElem?_eq_none (by rw [fixedB_length]; exact h)]
          have hE := HE.out
          rw [if_neg (fun h => h hgood)] at hE
          have y2' : w2.cell? ⟨b, off + 2, none⟩ = some (.int .u8 (l[2].toNat : Nat)) := hc7W.cell x2 (by simp)
          have hgd : l.getD 2 0 = l[2] := by simp [List.getD, List.getElem?_eq_getElem (show 2 < l.length by omega)]
          rw [hgd] at hE
          have HE2 := hid hE
          have hf6' : Fresh w none r6 := (Fresh.refl w none).trans (Nat.le_refl _) (hf6.mono (Nat.le_refl _))
          clear hgood hE hgd
          go_wp2
          go_ret3
          exact ⟨l6, ao6, cap6, r6, by rw [HE2.out]; rfl, hr62.keep (Chg.of_drewN [] _ _) (by simp), hf6', hc7W.drewN _, hid (by rw [HE2.out]; exact H6.out)⟩
    · have HB := hid (HV.out hcp)
      clear HV HV0
      go_enter Tryz.func60, Tryz.ntmps60
      go_wp2
      go_quiet (fail)
      go_wp2_with (go_at_call 77; refine (HK.out _ HB.out _ (Chg.of_drewN _ _ _)).mono ?_; rintro e w1 ⟨l6, ao6, cap6, r6, rfl, hr6, hf6, hc6, HL6⟩; refine halt (fun X hX => ?_))
      rw [hX.out]; clear hX
      have H6 : Hid (l6 = l.drop 11) := hid (by rw [HL6.out, List.append_nil])
      have h6l : l6.length ≤ 16777216 := by rw [H6.out]; exact hbody
      have hc6W : Chg [] w w1 := (Chg.of_drewN [] w _).trans' hc6
      have y2 : w1.cell? ⟨b, off + 2, none⟩ = some (.int .u8 (l[2].toNat : Nat)) := hc6W.cell x2 (by simp)
      have HF := hid (q_frame_calls l[2] _ l6 w1 hr6.view h6l)
      clear HL6 HK HB
      go_wp2_with (go_at_call 48; refine HF.out.mono ?_; rintro e w2 ⟨l7, ao7, cap7, r7, rfl, hr7, hf7, hc7, HL7⟩; refine halt (fun X hX => ?_))
      rw [hX.out]; clear hX
      have hc7W : Chg [] w w2 := hc6W.trans' hc7
      have hr62 := hr6.keep hc7 (by simp)
      have hl7 : l7.length = l6.length + 11 := by rw [HL7.out, frameB_length]
      have hl7b : 11 ≤ l7.length := by omega
      have hl7c : l7.length ≤ 16777227 := by omega
      have HF7 : Hid (∀ j, j < 4 → l7[7 + j]? = (fixedB 4 S)[j]?) := hid (by rw [HL7.out, H6.out]; exact HSL.out)
      clear hl7 HL7 HSL HF
      go_wp2_with fail
      go_loopw [9] (fun i wr => ∃ q m : Nat, q ≤ 4 ∧ i = .int .i64 (q : Nat) ∧ Hid (∀ j, j < q → l[7 + j]? = (fixedB 4 S)[j]?) ∧ wr = w2.drewN m)
        (fun i _ => 4 - (intOf i).toNat)
      case atStart => exact ⟨0, 0, by omega, rfl, hid (fun j hj => by omega), rfl⟩
      case round =>
        obtain ⟨q, m, hq, rfl, HQ, rfl⟩ := hrel
        by_cases hq4 : q < 4
        · obtain ⟨g, rfl, rfl, z1, _⟩ := Row.at hr7 (k := 7 + q) (by omega)
          have z2 := HX.out w2 hc7W.to_below (7 + q) (by omega)
          have h7 := HF7.out q hq4
          have hs5 : (fixedB 4 S).length = 4 := fixedB_length 4 S
          have h7l : 7 + q < l.length := by omega
          have h7f : 7 + q < l7.length := by omega
          rw [List.getElem?_eq_getElem h7f, List.getElem?_eq_getElem (show q < (fixedB 4 S).length by omega)] at h7
          have h7e : l7[7 + q] = (fixedB 4 S)[q]'(by omega) := by simpa using h7
          have n1 : (7 : Int) + (q : Int) < (l.length : Int) := by omega
          have n2 : (7 : Int) + (q : Int) < (l7.length : Int) := by omega
          have n3 : (0 : Int) ≤ (7 : Int) + (q : Int) := by omega
          by_cases heq : l7[7 + q] = l[7 + q]
          · have hb : (((l7[7 + q].toNat : Nat) : Int) == ((l[7 + q].toNat : Nat) : Int)) = true := by rw [heq]; simp
            have hb2 : (((l7[7 + q].toNat : Nat) : Int) != ((l[7 + q].toNat : Nat) : Int)) = false := by rw [heq]; simp
            have HN : Hid (∀ j, j < q + 1 → l[7 + j]? = (fixedB 4 S)[j]?) := hid (fun j hj => by
              rcases Nat.lt_or_ge j q with h | h
              · exact HQ.out j h
              · obtain rfl : j = q := by omega
                rw [List.getElem?_eq_getElem h7l, List.getElem?_eq_getElem (show j < (fixedB 4 S).length by omega), ← heq, h7e])
            clear heq h7e h7 hs5
            obtain ⟨ba, hba⟩ : ∃ x, l7[7 + q].toNat = x := ⟨_, rfl⟩
            obtain ⟨bb, hbb⟩ : ∃ x, l[7 + q].toNat = x := ⟨_, rfl⟩
            rw [hba] at z1 hb hb2
            rw [hbb] at z2 hb hb2
            clear hba hbb
            go_wp2
            go_quiet (fail)
            go_wp2
            go_roundw
            case rel => exact ⟨q + 1, _, by omega, by go_num, HN, rfl⟩
            case measure => simp [intOf]; omega
          · have hne : l7[7 + q].toNat ≠ l[7 + q].toNat := fun e => heq (UInt8.toNat_inj.1 e)
            have hb : (((l7[7 + q].toNat : Nat) : Int) == ((l[7 + q].toNat : Nat) : Int)) = false := by simp; omega
            have hb2 : (((l7[7 + q].toNat : Nat) : Int) != ((l[7 + q].toNat : Nat) : Int)) = true := by simp; omega
            have hbad : (l.drop 7).take 4 ≠ fixedB 4 S := fun e => by
              have h1 : ((l.drop 7).take 4)[q]? = (fixedB 4 S)[q]? := by rw [e]
              rw [List.getElem?_take, if_pos hq4, List.getElem?_drop, List.getElem?_eq_getElem h7l, List.getElem?_eq_getElem (show q < (fixedB 4 S).length by omega)] at h1
              apply heq
              rw [h7e]
              simpa using h1.symm
            have hE := HE.out
            rw [if_pos hbad] at hE
            have HE2 := hid hE
            clear heq h7e h7 hs5 hne hbad hE
            obtain ⟨ba, hba⟩ : ∃ x, l7[7 + q].toNat = x := ⟨_, rfl⟩
            obtain ⟨bb, hbb⟩ : ∃ x, l[7 + q].toNat = x := ⟨_, rfl⟩
            rw [hba] at z1 hb hb2
            rw [hbb] at z2 hb hb2
            clear hba hbb
            go_wp2
            go_quiet (fail)
            go_wp2
            go_ret3
            exact newB3_err HE2.out ((hc7W.drewN _).drewN _)
        · obtain rfl : q = 4 := by omega
          have hgood : (l.drop 7).take 4 = fixedB 4 S := by
            apply List.ext_getElem?
            intro j
            rcases Nat.lt_or_ge j 4 with h | h
            · rw [List.getElem?_take, if_pos h, List.getElem?_drop, HQ.out j h]
            · rw [List.getElem?_eq_none (by simp; omega), List.getElem?_eq_none (by rw [fixedB_length]; exact h)]
          have hE := HE.out
          rw [if_neg (fun h => h hgood)] at hE
          have y2' : w2.cell? ⟨b, off + 2, none⟩ = some (.int .u8 (l[2].toNat : Nat)) := hc7W.cell x2 (by simp)
          have hgd : l.getD 2 0 = l[2] := by simp [List.getD, List.getElem?_eq_getElem (show 2 < l.length by omega)]
          rw [hgd] at hE
          have HE2 := hid hE
          have hf6' : Fresh w none r6 := (Fresh.refl w none).trans (Nat.le_refl _) (hf6.mono (Nat.le_refl _))
          clear hgood hE hgd
          go_wp2
          go_ret3
          exact ⟨l6, ao6, cap6, r6, by rw [HE2.out]; rfl, hr62.keep (Chg.of_drewN [] _ _) (by simp), hf6', hc7W.drewN _, hid (by rw [HE2.out]; exact H6.out)⟩
end Go.Proofs.YtbghkodcfedebaaGreatDoor

/- Walks of the frames: a frame opened, by the program. -/
namespace Go.Proofs.YtbghkodcfedebaaGreatDoor
open Go.RowKit Go.AB
set_option linter.unusedSimpArgs false

theorem four_get {l : List UInt8} (h : l.length = 4) : l = [l[0], l[1], l[2], l[3]] := by
  match l, h with
  | [a, b, c, d], _ => rfl
theorem four_part {l : List UInt8} (h : 11 ≤ l.length) : (l.drop 7).take 4 = [l[7], l[8], l[9], l[10]] := by
  apply List.ext_getElem
  · simp; omega
  · intro i h1 h2
    simp only [List.length_cons, List.length_nil] at h2
    match i, h2 with
    | 0, _ | 1, _ | 2, _ | 3, _ => simp
theorem eqg4 (u : World) (x y : Operand) (xs ys : Array Value) : (eqGuard .neq 149 x y (.agg xs) (.agg ys)).run Tryz.prog u = .ok () u := run_eqGuard_agg u .neq 149 x y xs ys (by kernel_rfl)
theorem neq4 (u : World) (a b c d e f g h : UInt8) : (binOp .neq 149 (.agg #[.int .u8 (a.toNat : Nat), .int .u8 (b.toNat : Nat), .int .u8 (c.toNat : Nat), .int .u8 (d.toNat : Nat)]) (.agg #[.int .u8 (e.toNat : Nat), .int .u8 (f.toNat : Nat), .int .u8 (g.toNat : Nat), .int .u8 (h.toNat : Nat)])).run Tryz.prog u = .ok (.bool (!([a, b, c, d] == [e, f, g, h]))) u := by
  have h1 := run_equalIn_bytes u 9998 149 5 4 Tryz.underlying149 Tryz.underlying5 (fun _ => by kernel_rfl) [a, b, c, d] [e, f, g, h] rfl rfl
  rw [run_neq_struct]
  exact congrArg (fun r => Result.andThen r fun b w' => Result.ok (Value.bool (!b)) w') h1
set_option maxHeartbeats 2000000 in
set_option maxRecDepth 100000 in
theorem open_calls (v : Value) (l : List UInt8) (w : World) (hv : Bytes w v l) (hl : l.length ≤ 16777216) :
    Calls Tryz.prog 53 #[v] w (NewB3 5 w (openB l)) := by
  have hv' := hv
  obtain ⟨ao, cap, rfl, hcap, hcm, _, hcells⟩ := hv.out
  clear hv
  rcases openB_cases l with ⟨h1, he⟩ | ⟨h1, ⟨h0, h2⟩, he⟩ | ⟨h1, ⟨h0, h2⟩, ⟨h01, h3⟩, he⟩ | ⟨h1, ⟨h0, h2⟩, ⟨h01, h3⟩, he⟩
  · have HE := hid he
    clear he hv' hcells
    go_enter Tryz.func53, Tryz.ntmps53
    go_wp2
    go_ret3
    exact newB3_err HE.out (Chg.refl _ _)
  · obtain ⟨b, off, rfl, hc⟩ := hcells (by omega)
    have x0 := hc 0 (by omega)
    have hx : (((l[0].toNat : Nat) : Int) == 97) = false := by have := n97 h2; simp; omega
    have hx2 : (((l[0].toNat : Nat) : Int) != 97) = true := by have := n97 h2; simp; omega
    have hd : decide ((l.length : Int) < 11) = false := by simp; omega
    simp only [Nat.add_zero] at x0
    have HE := hid he
    clear he hv' hcells hc h2
    go_enter Tryz.func53, Tryz.ntmps53
    go_wp2
    go_ret3
    exact newB3_err HE.out (Chg.refl _ _)
  · obtain ⟨b, off, rfl, hc⟩ := hcells (by omega)
    have x0 := hc 0 (by omega)
    have x1 := hc 1 (by omega)
    have hx : (((l[1].toNat : Nat) : Int) == 98) = false := by have := n98 h3; simp; omega
    have hx2 : (((l[1].toNat : Nat) : Int) != 98) = true := by have := n98 h3; simp; omega
    have hd : decide ((l.length : Int) < 11) = false := by simp; omega
    have x0 : w.cell? ⟨b, off, none⟩ = some (.int .u8 97) := by rw [h2] at x0; exact x0
    have HE := hid he
    clear he hv' hcells hc h2 h3
    go_enter Tryz.func53, Tryz.ntmps53
    go_wp2
    go_ret3
    exact newB3_err HE.out (Chg.refl _ _)
  · obtain ⟨b, off, rfl, hc⟩ := hcells (by omega)
    have x0 : w.cell? ⟨b, off, none⟩ = some (.int .u8 97) := by have := hc 0 (by omega); rw [h2] at this; exact this
    have x1 : w.cell? ⟨b, off + 1, none⟩ = some (.int .u8 98) := by have := hc 1 (by omega); rw [h3] at this; exact this
    have x2 := hc 2 (by omega)
    have hd : decide ((l.length : Int) < 11) = false := by simp; omega
    have g7 : (7 : Int) ≤ (cap : Int) := by omega
    have g11 : (11 : Int) ≤ (l.length : Int) := by omega
    have g2 : (2 : Int) < (l.length : Int) := by omega
    have g2n : 2 < l.length := by omega
    have hpart : ∀ p n, p + n ≤ l.length → Bytes w (.slice (some ⟨b, off + p, none⟩) n (cap - p)) ((l.drop p).take n) := fun p n hpn => by
      have := View.part (w := w) (l := l) (bb := b) (off := off) (cap := cap) (p := p) (v := n) ⟨by simp, by omega, fun j hj => by rw [hc j (by omega)]; simp [List.getD, show j < l.length by omega, B]⟩ hpn hcap hcm
      unfold Bytes
      rw [show ((l.drop p).take n).length = n from by simp; omega]
      exact this
    have HP := hid hpart
    obtain ⟨N, hNe⟩ : ∃ N, leNat ((l.drop 3).take 4) = N := ⟨_, rfl⟩
    have hNl : N < 4294967296 := by
      have := leNat_lt ((l.drop 3).take 4)
      rw [hNe] at this
      have h4 : ((l.drop 3).take 4).length = 4 := by simp; omega
      rw [h4] at this
      exact this
    have hfx : rFixed 4 ((l.drop 3).take 4) ⟨0, 0, 0⟩ = (N, ⟨4, 0, 0⟩) := by
      have h4 : ((l.drop 3).take 4).length = 4 := by simp; omega
      unfold rFixed
      simp only [ne_eq, not_true_eq_false, if_false, Nat.sub_zero, h4, Nat.lt_irrefl, List.drop_zero, List.take_take, Nat.min_self, hNe]
    rw [hNe] at he
    have HFX := hid hfx
    have HNE := hid hNe
    have hb3 := hpart 3 4 (by omega)
    have HN := hid (newReader_calls _ _ w hb3 (by simp; omega))
    clear hNe hfx hpart hb3 hcells hv'
    go_enter Tryz.func53, Tryz.ntmps53
    go_wp2_with (go_at_call 55; refine HN.out.mono ?_; rintro e w1 ⟨br, l1, ao1, cap1, rfl, hR1, hb1, hown1, hc1, HL1⟩; refine halt (fun X hX => ?_))
    rw [hX.out]; clear hX
    have hl1 : l1 = (l.drop 3).take 4 := HL1.out
    subst hl1
    have HT := hid (take_u32_calls hR1 (by simp; omega))
    clear HL1 HN
    go_wp2_with (go_at_call 89; refine HT.out.mono ?_; rw [HFX.out]; rintro e w2 ⟨rfl, hR2, hc2⟩; refine halt (fun X hX => ?_))
    rw [hX.out]; clear hX
    have hC2 : Chg [] w w2 := hc1.trans hc2 (fun x hx => .inr (by simp at hx; omega))
    clear HT HFX hR1 hR2
    have x2' := hC2.cell x2 (by simp)
    have hNw : wrap64 (N : Int) = (N : Int) := by rw [IntWalk.wrap64_in _ (by omega)]
    by_cases c1 : 16777216 < N
    · rw [if_pos c1] at he
      have HE := hid he
      clear he hc
      by_cases hcp : cap = 11
      all_goals
        go_wp2
        go_ret3
        exact newB3_err HE.out hC2
    rw [if_neg c1] at he
    by_cases c2 : l.length - 11 < N
    · rw [if_pos c2] at he
      have HE := hid he
      clear he hc
      by_cases hcp : cap = 11
      all_goals
        go_wp2
        go_ret3
        exact newB3_err HE.out hC2
    rw [if_neg c2] at he
    by_cases c3 : N < l.length - 11
    · rw [if_pos c3] at he
      have HE := hid he
      clear he hc
      by_cases hcp : cap = 11
      all_goals
        go_wp2
        all_goals go_ret3
        all_goals exact newB3_err HE.out hC2
    rw [if_neg c3] at he
    have hN11 : N = l.length - 11 := by omega
    have hv27 := HP.out 2 5 (by omega)
    have hv11 : Bytes w (if cap = 11 then .slice (some ⟨b, off, none⟩) 0 0 else .slice (some ⟨b, off + 11, none⟩) (l.length - 11) (cap - 11)) (l.drop 11) := by
      split
      · have : l.drop 11 = [] := List.drop_of_length_le (by omega)
        rw [this]
        exact ⟨rfl, by simp [maxLen], _, _, rfl, Nat.le_refl _, by simp [maxLen], (fun h => by cases h), fun h => by simp at h⟩
      · have := HP.out 11 (l.length - 11) (by omega)
        have e : (l.drop 11).take (l.length - 11) = l.drop 11 := List.take_of_length_le (by simp)
        rw [e] at this
        exact this
    obtain ⟨v11, hv11e⟩ : ∃ v, (if cap = 11 then Value.slice (some ⟨b, off, none⟩) 0 0 else .slice (some ⟨b, off + 11, none⟩) (l.length - 11) (cap - 11)) = v := ⟨_, rfl⟩
    rw [hv11e] at hv11
    have hs1 : ∀ u, Chg [] w u → Calls Tryz.prog 75 #[.int .u32 4294967295, .slice (some ⟨b, off + 2, none⟩) 5 (cap - 2)] u fun e w' => e = .returned (.int .u32 (crcSum 4294967295 ((l.drop 2).take 5))) ∧ u = w' := fun u hu =>
      sum_calls 4294967295 (by omega) _ ((l.drop 2).take 5) u (hv27.keep hu (by simp)) (by simp; omega)
    have hs2 : ∀ u, Chg [] w u → Calls Tryz.prog 75 #[.int .u32 (crcSum 4294967295 ((l.drop 2).take 5) : Nat), v11] u fun e w' => e = .returned (.int .u32 (crcSum (crcSum 4294967295 ((l.drop 2).take 5)) (l.drop 11))) ∧ u = w' := fun u hu =>
      sum_calls _ (crcSum_lt _ (by omega)) _ (l.drop 11) u (hv11.keep hu (by simp)) (by simp; omega)
    have hxl := crcSum_lt (l.drop 11) (crcSum_lt ((l.drop 2).take 5) (c := 4294967295) (by omega))
    have hsm : crcSum (crcSum 4294967295 ((l.drop 2).take 5)) (l.drop 11) ^^^ 4294967295 = sumB ((l.drop 2).take 5 ++ l.drop 11) := by unfold sumB; rw [crcSum_append]
    have hxb := xorBegin (crcSum (crcSum 4294967295 ((l.drop 2).take 5)) (l.drop 11)) hxl
    rw [hsm] at hxb
    obtain ⟨c1v, hc1v⟩ : ∃ c, crcSum 4294967295 ((l.drop 2).take 5) = c := ⟨_, rfl⟩
    rw [hc1v] at hs1 hs2 hxb hxl
    obtain ⟨c2v, hc2v⟩ : ∃ c, crcSum c1v (l.drop 11) = c := ⟨_, rfl⟩
    rw [hc2v] at hs2 hxb hxl
    have hsl := sumB_lt ((l.drop 2).take 5 ++ l.drop 11)
    obtain ⟨S, hS⟩ : ∃ s, sumB ((l.drop 2).take 5 ++ l.drop 11) = s := ⟨_, rfl⟩
    rw [hS] at hxb hsl he
    have HS1 := hid hs1
    have HS2 := hid hs2
    have hclone : ∀ u, Chg [] w u → Calls Tryz.prog 76 #[v11] u (NewB 5 u (l.drop 11)) := fun u hu => clone_calls v11 (l.drop 11) u (hv11.keep hu (by simp)) (by simp; omega)
    have HCL := hid hclone
    have hW0 : Wr 84 5 (w2.alloc (.cells #[.slice none 0 0] 84)) w2.heap.size none [] none 0 := ⟨heap_alloc_new w2 _, Row.nil _ _ _, by simp⟩
    have hW0' := fun o => hW0.keep ((Chg.refl [] _).alloc o) (by simp) (by simp)
    have hvS : View ((w2.alloc (.cells #[.slice none 0 0] 84)).alloc (.cells #[.int .u32 (S : Nat)] 131)) 1 (.slice (some ⟨w2.heap.size + 1, 0, none⟩) 1 1) 1 [.int .u32 (S : Nat)] := by
      have := View.one (w2.alloc (.cells #[.slice none 0 0] 84)) (.int .u32 (S : Nat)) 131
      rwa [show (w2.alloc (.cells #[.slice none 0 0] 84)).heap.size = w2.heap.size + 1 from by simp] at this
    have hca := hC2.alloc (.cells #[.slice none 0 0] 84)
    have z7 : ∀ j (hj : j < 4), w.cell? ⟨b, off + (7 + j), none⟩ = some (.int .u8 (l[7 + j].toNat : Nat)) := fun j hj => hc (7 + j) (by omega)
    have HZ := hid z7
    have HE := hid he
    have HN11 := hid hN11
    clear hs1 hs2 hclone hsm hc1v hc2v hxl hS z7 he hc hv27 hv11 HP HNE hN11 c1 c2 c3 hW0 hNl
    by_cases hcp : cap = 11
    · rw [if_pos hcp] at hv11e
      subst hcp
      subst hv11e
      have hNl : N ≤ 0 := by rw [HN11.out]; omega
      go_wp2_with (first
        | (go_at_call 75; (with_reducible refine (HS1.out _ hca).mono ?_); rintro e w' ⟨rfl, rfl⟩)
        | (go_at_call 75; (with_reducible refine (HS2.out _ hca).mono ?_); rintro e w' ⟨rfl, rfl⟩)
        | (go_at_call 74; refine halt (fun X hX => ?_)))
      rw [hX.out]; clear hX
      refine (put_u32 [S] (by intro m hm; rw [List.mem_singleton.1 hm]; exact hsl) _ _ _ _ _ _ _ (hW0' _) (by simp) hvS (fun _ g hg => by simp [Value.ownBlock] at hg; subst hg; simp) (by simp)).mono ?_
      rintro e w3 ⟨rfl, l3, r3, ao3, cap3, hW3, hc3, hf3, HL3⟩
      have hl3 : l3 = fixedB 4 S := by rw [HL3.out]; simp
      have hC3 : Chg [] w w3 := (hca.trans' ((Chg.refl [] _).alloc _)).trans hc3 (fun x hx => .inr (by simp at hx; have := hC2.size; omega))
      have HL := hid hl3
      have hl34 : l3.length = 4 := by rw [hl3, fixedB_length]
      have hat : ∃ g3, ao3 = some ⟨g3, 0, none⟩ ∧ w3.cell? ⟨g3, 0, none⟩ = some (.int .u8 (l3[0].toNat : Nat)) ∧ w3.cell? ⟨g3, 1, none⟩ = some (.int .u8 (l3[1].toNat : Nat)) ∧ w3.cell? ⟨g3, 2, none⟩ = some (.int .u8 (l3[2].toNat : Nat)) ∧ w3.cell? ⟨g3, 3, none⟩ = some (.int .u8 (l3[3].toNat : Nat)) := by
        obtain ⟨g0, e0, _, y0, _⟩ := Row.at hW3.row (k := 0) (by omega)
        obtain ⟨g1, e1, _, y1, _⟩ := Row.at hW3.row (k := 1) (by omega)
        obtain ⟨g2, e2, _, y2, _⟩ := Row.at hW3.row (k := 2) (by omega)
        obtain ⟨g3, e3, _, y3, _⟩ := Row.at hW3.row (k := 3) (by omega)
        rw [e0] at e1 e2 e3
        simp only [Option.some.injEq, Addr.mk.injEq, and_true] at e1 e2 e3
        subst e1 e2 e3
        exact ⟨g0, e0, y0, y1, y2, y3⟩
      obtain ⟨g3, rfl, y0, y1, y2, y3⟩ := hat
      have hcell := hW3.cell
      rw [hl34] at hcell
      have t0 := hC3.cell (HZ.out 0 (by omega)) (by simp)
      have t1 := hC3.cell (HZ.out 1 (by omega)) (by simp)
      have t2 := hC3.cell (HZ.out 2 (by omega)) (by simp)
      have t3 := hC3.cell (HZ.out 3 (by omega)) (by simp)
      simp only [Nat.add_zero, Nat.reduceAdd] at t0 t1 t2 t3
      have hcap3 : (4 : Int) ≤ (cap3 : Int) := by
        obtain ⟨_, _, _, _, e, h, _⟩ := hW3.row.view
        simp only [Value.slice.injEq, true_and] at e
        obtain ⟨rfl, rfl⟩ := e
        omega
      have hat : ∀ (u : World) (a : Option Addr) (c : Nat), (Instr.arrayAt 149 (.slice a 4 c)).run Tryz.prog u = .ok (.pointer a) u := fun u a c => run_arrayAt u 149 _ 4 a 4 c Tryz.underlying149 (Nat.le_refl _)
      have e4 := four_get hl34
      have p4 := four_part h1
      have hC3d := fun n => hC3.drewN (n := n)
      have x2c := hC3.cell x2 (by simp)
      have HCLd := fun n => HCL.out _ (hC3.drewN n)
      obtain ⟨q7, hq7⟩ : ∃ x, l[7] = x := ⟨_, rfl⟩
      obtain ⟨q8, hq8⟩ : ∃ x, l[8] = x := ⟨_, rfl⟩
      obtain ⟨q9, hq9⟩ : ∃ x, l[9] = x := ⟨_, rfl⟩
      obtain ⟨q10, hq10⟩ : ∃ x, l[10] = x := ⟨_, rfl⟩
      obtain ⟨r0, hr0⟩ : ∃ x, l3[0] = x := ⟨_, rfl⟩
      obtain ⟨r1, hr1⟩ : ∃ x, l3[1] = x := ⟨_, rfl⟩
      obtain ⟨r2, hr2⟩ : ∃ x, l3[2] = x := ⟨_, rfl⟩
      obtain ⟨r3', hr3'⟩ : ∃ x, l3[3] = x := ⟨_, rfl⟩
      rw [hr0, hr1, hr2, hr3'] at e4
      rw [hq7, hq8, hq9, hq10] at p4
      rw [hq7] at t0
      rw [hq8] at t1
      rw [hq9] at t2
      rw [hq10] at t3
      rw [hr0] at y0
      rw [hr1] at y1
      rw [hr2] at y2
      rw [hr3'] at y3
      have heg := eqg4
      have hnq := fun u => neq4 u q7 q8 q9 q10 r0 r1 r2 r3'
      have hE := HE.out
      rw [p4, ← HL.out, e4] at hE
      have hgd : l.getD 2 0 = l[2] := by simp [List.getD, List.getElem?_eq_getElem (show 2 < l.length by omega)]
      rw [hgd] at hE
      by_cases hgood : [q7, q8, q9, q10] = [r0, r1, r2, r3']
      · rw [if_neg (fun h => h hgood)] at hE
        have hbb : ([q7, q8, q9, q10] == [r0, r1, r2, r3']) = true := by simpa using hgood
        rw [hbb] at hnq
        have HE2 := hid hE
        have HCQ := hid HCLd
        clear hq7 hq8 hq9 hq10 hr0 hr1 hr2 hr3' e4 p4 hE hgood hbb HCLd hl3 hl34 hgd
        go_wp2
        go_quiet (fail)
        go_wp2_with fail
        go_region_held3 (fun w' => w'.cell? ⟨b, off + 2, none⟩ = some (.int .u8 (l[2].toNat : Nat)))
          (first | exact x2c | exact hc5.cell x2c (by simp))
          (first
          | (go_at_call 76; refine (HCL.out _ (by first | exact hC3.drewN _ | exact (hC3.drewN _).drewN _ | exact (hC3.drewN _).drew)).mono ?_; rintro e w5 ⟨l5, ao5, cap5, r5, rfl, hr5, hf5, hc5, HL5⟩))
        go_wp2
        go_ret3
        have hC5 : Chg [] w _ := (by first | exact (hC3.drewN _).trans' hc5 | exact ((hC3.drewN _).drewN _).trans' hc5 | exact ((hC3.drewN _).drew).trans' hc5)
        exact ⟨l5, ao5, cap5, r5, by rw [HE2.out]; rfl, hr5, (Fresh.refl w none).trans (by have := hC3.size; exact this) hf5, hC5, hid (by rw [HE2.out]; exact HL5.out)⟩
      · rw [if_pos hgood] at hE
        have hbb : ([q7, q8, q9, q10] == [r0, r1, r2, r3']) = false := by simpa using hgood
        rw [hbb] at hnq
        have HE2 := hid hE
        clear hq7 hq8 hq9 hq10 hr0 hr1 hr2 hr3' e4 p4 hE hgood hbb HCLd hl3 hl34 hgd
        go_wp2
        go_quiet (fail)
        go_wp2
        go_ret3
        exact newB3_err HE2.out (hC3.drewN _)
    · rw [if_neg hcp] at hv11e
      subst hv11e
      have hNl : N + 11 = l.length := by rw [HN11.out]; omega
      have hNl2 : N ≤ l.length - 11 := by omega
      go_wp2_with (first
        | (go_at_call 75; (with_reducible refine (HS1.out _ hca).mono ?_); rintro e w' ⟨rfl, rfl⟩)
        | (go_at_call 75; (with_reducible refine (HS2.out _ hca).mono ?_); rintro e w' ⟨rfl, rfl⟩)
        | (go_at_call 74; refine halt (fun X hX => ?_)))
      rw [hX.out]; clear hX
      refine (put_u32 [S] (by intro m hm; rw [List.mem_singleton.1 hm]; exact hsl) _ _ _ _ _ _ _ (hW0' _) (by simp) hvS (fun _ g hg => by simp [Value.ownBlock] at hg; subst hg; simp) (by simp)).mono ?_
      rintro e w3 ⟨rfl, l3, r3, ao3, cap3, hW3, hc3, hf3, HL3⟩
      have hl3 : l3 = fixedB 4 S := by rw [HL3.out]; simp
      have hC3 : Chg [] w w3 := (hca.trans' ((Chg.refl [] _).alloc _)).trans hc3 (fun x hx => .inr (by simp at hx; have := hC2.size; omega))
      have HL := hid hl3
      have hl34 : l3.length = 4 := by rw [hl3, fixedB_length]
      have hat : ∃ g3, ao3 = some ⟨g3, 0, none⟩ ∧ w3.cell? ⟨g3, 0, none⟩ = some (.int .u8 (l3[0].toNat : Nat)) ∧ w3.cell? ⟨g3, 1, none⟩ = some (.int .u8 (l3[1].toNat : Nat)) ∧ w3.cell? ⟨g3, 2, none⟩ = some (.int .u8 (l3[2].toNat : Nat)) ∧ w3.cell? ⟨g3, 3, none⟩ = some (.int .u8 (l3[3].toNat : Nat)) := by
        obtain ⟨g0, e0, _, y0, _⟩ := Row.at hW3.row (k := 0) (by omega)
        obtain ⟨g1, e1, _, y1, _⟩ := Row.at hW3.row (k := 1) (by omega)
        obtain ⟨g2, e2, _, y2, _⟩ := Row.at hW3.row (k := 2) (by omega)
        obtain ⟨g3, e3, _, y3, _⟩ := Row.at hW3.row (k := 3) (by omega)
        rw [e0] at e1 e2 e3
        simp only [Option.some.injEq, Addr.mk.injEq, and_true] at e1 e2 e3
        subst e1 e2 e3
        exact ⟨g0, e0, y0, y1, y2, y3⟩
      obtain ⟨g3, rfl, y0, y1, y2, y3⟩ := hat
      have hcell := hW3.cell
      rw [hl34] at hcell
      have t0 := hC3.cell (HZ.out 0 (by omega)) (by simp)
      have t1 := hC3.cell (HZ.out 1 (by omega)) (by simp)
      have t2 := hC3.cell (HZ.out 2 (by omega)) (by simp)
      have t3 := hC3.cell (HZ.out 3 (by omega)) (by simp)
      simp only [Nat.add_zero, Nat.reduceAdd] at t0 t1 t2 t3
      have hcap3 : (4 : Int) ≤ (cap3 : Int) := by
        obtain ⟨_, _, _, _, e, h, _⟩ := hW3.row.view
        simp only [Value.slice.injEq, true_and] at e
        obtain ⟨rfl, rfl⟩ := e
        omega
      have hat : ∀ (u : World) (a : Option Addr) (c : Nat), (Instr.arrayAt 149 (.slice a 4 c)).run Tryz.prog u = .ok (.pointer a) u := fun u a c => run_arrayAt u 149 _ 4 a 4 c Tryz.underlying149 (Nat.le_refl _)
      have e4 := four_get hl34
      have p4 := four_part h1
      have hC3d := fun n => hC3.drewN (n := n)
      have x2c := hC3.cell x2 (by simp)
      have HCLd := fun n => HCL.out _ (hC3.drewN n)
      obtain ⟨q7, hq7⟩ : ∃ x, l[7] = x := ⟨_, rfl⟩
      obtain ⟨q8, hq8⟩ : ∃ x, l[8] = x := ⟨_, rfl⟩
      obtain ⟨q9, hq9⟩ : ∃ x, l[9] = x := ⟨_, rfl⟩
      obtain ⟨q10, hq10⟩ : ∃ x, l[10] = x := ⟨_, rfl⟩
      obtain ⟨r0, hr0⟩ : ∃ x, l3[0] = x := ⟨_, rfl⟩
      obtain ⟨r1, hr1⟩ : ∃ x, l3[1] = x := ⟨_, rfl⟩
      obtain ⟨r2, hr2⟩ : ∃ x, l3[2] = x := ⟨_, rfl⟩
      obtain ⟨r3', hr3'⟩ : ∃ x, l3[3] = x := ⟨_, rfl⟩
      rw [hr0, hr1, hr2, hr3'] at e4
      rw [hq7, hq8, hq9, hq10] at p4
      rw [hq7] at t0
      rw [hq8] at t1
      rw [hq9] at t2
      rw [hq10] at t3
      rw [hr0] at y0
      rw [hr1] at y1
      rw [hr2] at y2
      rw [hr3'] at y3
      have heg := eqg4
      have hnq := fun u => neq4 u q7 q8 q9 q10 r0 r1 r2 r3'
      have hE := HE.out
      rw [p4, ← HL.out, e4] at hE
      have hgd : l.getD 2 0 = l[2] := by simp [List.getD, List.getElem?_eq_getElem (show 2 < l.length by omega)]
      rw [hgd] at hE
      by_cases hgood : [q7, q8, q9, q10] = [r0, r1, r2, r3']
      · rw [if_neg (fun h => h hgood)] at hE
        have hbb : ([q7, q8, q9, q10] == [r0, r1, r2, r3']) = true := by simpa using hgood
        rw [hbb] at hnq
        have HE2 := hid hE
        have HCQ := hid HCLd
        clear hq7 hq8 hq9 hq10 hr0 hr1 hr2 hr3' e4 p4 hE hgood hbb HCLd hl3 hl34 hgd
        go_wp2
        go_quiet (fail)
        go_wp2_with fail
        go_region_held3 (fun w' => w'.cell? ⟨b, off + 2, none⟩ = some (.int .u8 (l[2].toNat : Nat)))
          (first | exact x2c | exact hc5.cell x2c (by simp))
          (first
          | (go_at_call 76; refine (HCL.out _ (by first | exact hC3.drewN _ | exact (hC3.drewN _).drewN _ | exact (hC3.drewN _).drew)).mono ?_; rintro e w5 ⟨l5, ao5, cap5, r5, rfl, hr5, hf5, hc5, HL5⟩))
        go_wp2
        go_ret3
        have hC5 : Chg [] w _ := (by first | exact (hC3.drewN _).trans' hc5 | exact ((hC3.drewN _).drewN _).trans' hc5 | exact ((hC3.drewN _).drew).trans' hc5)
        exact ⟨l5, ao5, cap5, r5, by rw [HE2.out]; rfl, hr5, (Fresh.refl w none).trans (by have := hC3.size; exact this) hf5, hC5, hid (by rw [HE2.out]; exact HL5.out)⟩
      · rw [if_pos hgood] at hE
        have hbb : ([q7, q8, q9, q10] == [r0, r1, r2, r3']) = false := by simpa using hgood
        rw [hbb] at hnq
        have HE2 := hid hE
        clear hq7 hq8 hq9 hq10 hr0 hr1 hr2 hr3' e4 p4 hE hgood hbb HCLd hl3 hl34 hgd
        go_wp2
        go_quiet (fail)
        go_wp2
        go_ret3
        exact newB3_err HE2.out (hC3.drewN _)
end Go.Proofs.YtbghkodcfedebaaGreatDoor
