/- Walks of the frames: the sum, lists joined. -/
import Derived.Test.YtdakcphkaljghaaFplain
import Derived.Test.YtdakcphkaljghaaWe
import Derived.Test.YtdakcphkaljghaaBase2
namespace Go.Proofs.Ytdakcphkaljghaa
open Go.RowKit Go.AB
set_option linter.unusedSimpArgs false

theorem sumAll_calls (v : Value) (l : List UInt8) (w : World) (hv : Bytes w v l) (hl : l.length ≤ 1099511627776) :
    Calls Try.prog 22 #[v] w fun e w' => e = .returned (.int .u32 (sumB l)) ∧ w = w' := by
  have hx := xorBegin (crcSum 4294967295 l) (crcSum_lt l (by omega))
  obtain ⟨n, hn⟩ : ∃ n, crcSum 4294967295 l = n := ⟨_, rfl⟩
  have hs := sum_calls 4294967295 (by omega) v l w hv (by omega)
  unfold sumB
  rw [hn] at hs hx ⊢
  have HS := hid hs
  clear hs hn
  go_enter Try.func22, Try.ntmps22
  go_wp2_with (go_at_call 57; refine HS.out.mono ?_; rintro e w' ⟨rfl, rfl⟩)
  go_ret
  exact ⟨rfl, rfl⟩

theorem crcBit_even {c : Nat} (h : c % 2 = 0) : crcBit c = c / 2 := by unfold crcBit; rw [if_neg (by omega)]
theorem crcBit_odd {c : Nat} (h : c % 2 = 1) : crcBit c = (c / 2) ^^^ 3988292384 := by unfold crcBit; rw [if_pos h]

set_option maxHeartbeats 1000000 in
set_option maxRecDepth 100000 in
theorem q_sum_calls (v : Value) (l : List UInt8) (w : World) (hv : Bytes w v l) (hl : l.length ≤ 1099511627776) :
    Calls Try.prog 23 #[v] w fun e w' => e = .returned (.int .u32 (sumB l)) ∧ w = w' := by
  obtain ⟨ao, cap, rfl, _, _, _, hcells⟩ := hv.out
  clear hv
  go_enter Try.func23, Try.ntmps23
  go_wp2
  go_loop [3, 4, 5, 6] (fun x i _ _ => ∃ k : Nat, k ≤ l.length ∧ i = .int .i64 k ∧ x = .int .u32 (crcSum 4294967295 (l.take k))) (fun _ i _ _ => l.length - (intOf i).toNat)
  case atStart => exact ⟨0, Nat.zero_le _, rfl, rfl⟩
  case round =>
    obtain ⟨k, hk, rfl, rfl⟩ := hrel
    have hn := crcSum_lt (c := 4294967295) (l.take k) (by omega)
    obtain ⟨n, hne⟩ : ∃ n, crcSum 4294967295 (l.take k) = n := ⟨_, rfl⟩
    rw [hne] at hn ⊢
    by_cases hlt : k < l.length
    · have hs : crcSum 4294967295 (l.take (k + 1)) = crcByte n l[k] := by rw [take_snoc l k hlt, crcSum_snoc, hne]
      obtain ⟨b, off, rfl, hcell⟩ := hcells (by omega)
      have hk1 := hcell k hlt
      have hx := crcXor_u32 n hn l[k]
      have hx2 := xor_lt32 n hn l[k]
      have HS := hid hs
      clear hcells hcell hs hne
      go_wp2
      clear hx
      go_loop [3, 5, 6] (fun c i _ => ∃ q : Nat, q ≤ 8 ∧ i = .int .i64 q ∧ c = .int .u32 (crcBits q (n ^^^ l[k].toNat))) (fun _ i _ => 8 - (intOf i).toNat)
      case atStart => exact ⟨0, by omega, rfl, rfl⟩
      case round =>
        obtain ⟨q, hq, rfl, rfl⟩ := hrel
        have hb := crcBits_lt q hx2
        obtain ⟨c, hc⟩ : ∃ c, crcBits q (n ^^^ l[k].toNat) = c := ⟨_, rfl⟩
        rw [hc] at hb ⊢
        have hc1 : crcBits (q + 1) (n ^^^ l[k].toNat) = crcBit c := by rw [← hc]; rfl
        have HC1 := hid hc1
        have HC := hid hc
        clear hc hc1
        by_cases hq8 : q < 8
        · rcases Nat.mod_two_eq_zero_or_one c with h0 | h0
          · have e := crcBit_even h0
            rw [e] at HC1
            have ho : ((c : Int) % 2 == 1) = false := by simp; omega
            clear e
            go_wp2
            go_round
            case rel => exact ⟨q + 1, by omega, by go_num, by rw [HC1.out]; exact congrArg (Value.int .u32) (by omega)⟩
            case measure => simp [intOf]; omega
          · have e := crcBit_odd h0
            rw [e] at HC1
            have ho : ((c : Int) % 2 == 1) = true := by simp; omega
            have hxx : bits .xor .u32 ((c : Int) / 2) 3988292384 = (((c / 2) ^^^ 3988292384 : Nat) : Int) := by
              rw [show (c : Int) / 2 = ((c / 2 : Nat) : Int) from by omega, show (3988292384 : Int) = ((3988292384 : Nat) : Int) from rfl, u32_xor_nat _ _ (by omega) (by omega)]
            clear e
            go_wp2
            go_round
            case rel => exact ⟨q + 1, by omega, by go_num, by rw [HC1.out]⟩
            case measure => simp [intOf]; omega
        · go_wp2
          go_round
          case rel => exact ⟨k + 1, by omega, by go_num, (by have e : q = 8 := (by omega); subst e; rw [HS.out, ← HC.out]; rfl)⟩
          case measure => simp [intOf]; omega
    · have hx := xorBegin n hn
      have hne2 : crcSum 4294967295 l = n := by rw [← hne, List.take_of_length_le (by omega)]
      have HN := hid hne2
      clear hne hne2
      go_wp2
      go_ret
      exact ⟨by unfold sumB; rw [HN.out]; rfl, rfl⟩

set_option maxHeartbeats 1000000 in
set_option maxRecDepth 100000 in
theorem joined_calls (va vb : Value) (a c : List UInt8) (w : World) (ha : Bytes w va a) (hc : Bytes w vb c) (hla : a.length ≤ 549755813888) (hlc : c.length ≤ 549755813888) :
    Calls Try.prog 59 #[va, vb] w (NewB 5 w (a ++ c)) := by
  obtain ⟨aoa, capa, rfl, _, _, _, hcella⟩ := ha.out
  obtain ⟨aoc, capc, rfl, _, _, _, hcellc⟩ := hc.out
  clear ha hc
  go_enter Try.func59, Try.ntmps59
  go_wp2_with fail
  go_loopw [5, 6] (fun x i wr => ∃ k l1 r1 ao1 cap1, k ≤ a.length ∧ i = .int .i64 (k : Nat) ∧ x = .slice ao1 l1.length cap1 ∧ Row wr 5 1 (.slice ao1 l1.length cap1) r1 l1.length (l1.map B) ∧ Hid (l1 = a.take k) ∧ Chg [] w wr ∧ Fresh w none r1)
    (fun _ i _ => a.length - (intOf i).toNat)
  case atStart => exact ⟨0, [], none, none, 0, by omega, rfl, rfl, Row.nil _ _ _, hid (by simp), Chg.refl _ _, Fresh.refl _ _⟩
  case round =>
    obtain ⟨k, l1, r1, ao1, cap1, hk, rfl, rfl, hr1, HL, hch, hfr⟩ := hrel
    have hlen : l1.length ≤ 549755813888 := by rw [HL.out, List.length_take]; omega
    have hrow := fun o => hr1.keep ((Chg.refl [] wr).alloc o) (by simp)
    have hca := fun o => (Chg.refl [] wr).alloc o
    by_cases hlt : k < a.length
    · obtain ⟨bb, off, rfl, hcc⟩ := hcella (by omega)
      have hx := hch.cell (hcc k hlt) (by simp)
      have HS := hid (take_snoc a k hlt)
      clear hcc hcella hcellc
      go_wp2_with (at_builtin; refine wpList_app rfl _ _ 25 rfl elem_u8 rfl (hrow _) rfl (View.one _ _ _) (by simp [Value.oneCell']) (by unfold maxLen; omega) (by omega) (fun ao' cap' r' w2 hr2 hc2 hf2 _ => halt (fun X hX => ?_)))
      rw [hX.out]; clear hX
      go_wp2
      go_roundw
      case rel => exact ⟨k + 1, l1 ++ [a[k]], r', ao', cap', by omega, by go_num, by simp, (by simpa [B] using hr2), hid (by rw [HS.out, HL.out]), own_step hch hfr (hca _) hc2, fresh_step hch hfr (hca _) hf2⟩
      case measure => simp [intOf]; omega
    · have he : a.take k = a := List.take_of_length_le (by omega)
      rw [he] at HL
      have hl1 := HL.out
      clear HL he hcella hrow hca
      subst hl1
      obtain ⟨wo, hwo⟩ : ∃ wo : World, wo = wr := ⟨_, rfl⟩
      rw [← hwo] at hr1 hch ⊢
      clear hwo
      go_wp2_with fail
      go_loopw [5, 7] (fun x i wr => ∃ k l2 r2 ao2 cap2, k ≤ c.length ∧ i = .int .i64 (k : Nat) ∧ x = .slice ao2 l2.length cap2 ∧ Row wr 5 1 (.slice ao2 l2.length cap2) r2 l2.length (l2.map B) ∧ Hid (l2 = l1 ++ c.take k) ∧ Chg [] w wr ∧ Fresh w none r2)
        (fun _ i _ => c.length - (intOf i).toNat)
      case atStart => exact ⟨0, l1, r1, ao1, cap1, by omega, rfl, rfl, hr1, hid (by simp), hch, hfr⟩
      case round =>
        obtain ⟨k, l2, r2, ao2, cap2, hk, rfl, rfl, hr3, HL, hch3, hfr3⟩ := hrel
        have hlen2 : l2.length ≤ 1099511627776 := by rw [HL.out, List.length_append, List.length_take]; omega
        have hrow := fun o => hr3.keep ((Chg.refl [] wr).alloc o) (by simp)
        have hca := fun o => (Chg.refl [] wr).alloc o
        clear hr1
        by_cases hlt : k < c.length
        · obtain ⟨bb, off, rfl, hcc⟩ := hcellc (by omega)
          have hx := hch3.cell (hcc k hlt) (by simp)
          have HS := hid (take_snoc c k hlt)
          clear hcc hcellc
          go_wp2_with (at_builtin; refine wpList_app rfl _ _ 25 rfl elem_u8 rfl (hrow _) rfl (View.one _ _ _) (by simp [Value.oneCell']) (by unfold maxLen; omega) (by omega) (fun ao' cap' r' w2 hr2 hc2 hf2 _ => halt (fun X hX => ?_)))
          rw [hX.out]; clear hX
          go_wp2
          go_roundw
          case rel => exact ⟨k + 1, l2 ++ [c[k]], r', ao', cap', by omega, by go_num, by simp, (by simpa [B] using hr2), hid (by rw [HS.out, HL.out, List.append_assoc]), own_step hch3 hfr3 (hca _) hc2, fresh_step hch3 hfr3 (hca _) hf2⟩
          case measure => simp [intOf]; omega
        · clear hcellc
          go_wp2
          go_ret
          exact NewB.mk' hr3 (by rw [HL.out, List.take_of_length_le (by omega)]) hfr3 hch3
end Go.Proofs.Ytdakcphkaljghaa
