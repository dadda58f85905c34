/- Walks of the wire layer: the sum. -/
import Derived.Test.YtdakcphkaljghaaWw
namespace Go.Proofs.Ytdakcphkaljghaa
open Go.RowKit Go.AB

set_option maxHeartbeats 400000 in
theorem sum_calls (c : Nat) (hc : c < 4294967296) (v : Value) (l : List UInt8) (w : World) (hv : Bytes w v l) (hl : l.length ≤ 4611686018427387904) :
    Calls Try.prog 57 #[.int .u32 c, v] w fun e w' => e = .returned (.int .u32 (crcSum c l)) ∧ w = w' := by
  obtain ⟨ao, cap, rfl, _, _, _, hcells⟩ := hv.out
  clear hv
  go_enter Try.func57, Try.ntmps57
  go_wp2
  go_loop [0, 6, 9] (fun x _ i => ∃ k : Nat, k ≤ l.length ∧ i = .int .i64 k ∧ x = .int .u32 (crcSum c (l.take k))) (fun _ _ i => l.length - (intOf i).toNat)
  case atStart => exact ⟨0, Nat.zero_le _, rfl, rfl⟩
  case round =>
    obtain ⟨k, hk, rfl, rfl⟩ := hrel
    have hn := crcSum_lt (l.take k) hc
    obtain ⟨n, hne⟩ : ∃ n, crcSum c (l.take k) = n := ⟨_, rfl⟩
    rw [hne] at hn ⊢
    by_cases hlt : k < l.length
    · have hs : crcSum c (l.take (k + 1)) = crcByte n l[k] := by rw [take_snoc l k hlt, crcSum_snoc, hne]
      obtain ⟨b, off, rfl, hcell⟩ := hcells (by omega)
      have hk1 := hcell k hlt
      have hx := crcXor_u32 n hn l[k]
      have hx2 := xor_lt32 n hn l[k]
      have HS := hid hs
      clear hcells hcell hs hne
      go_wp2
      clear hx
      go_loop [0, 17] (fun c i => ∃ q : Nat, q ≤ 8 ∧ i = .int .i64 q ∧ c = .int .u32 (crcBits q (n ^^^ l[k].toNat))) (fun _ i => 8 - (intOf i).toNat)
      case atStart => exact ⟨0, by omega, rfl, rfl⟩
      case round =>
        obtain ⟨q, hq, rfl, rfl⟩ := hrel
        have hb := crcBit_u32 _ (crcBits_lt q hx2)
        go_wp2
        · go_round
          case rel => exact ⟨q + 1, by omega, by go_num, rfl⟩
          case measure => simp [intOf]; omega
        · go_round
          case rel => exact ⟨k + 1, by omega, by go_num, (by have e : q = 8 := (by omega); subst e; rw [HS.out]; rfl)⟩
          case measure => simp [intOf]; omega
    · have HN := hid hne
      clear hne
      go_wp2
      go_ret
      exact ⟨(by rw [← HN.out, List.take_of_length_le (by omega)]; rfl), rfl⟩
end Go.Proofs.Ytdakcphkaljghaa
