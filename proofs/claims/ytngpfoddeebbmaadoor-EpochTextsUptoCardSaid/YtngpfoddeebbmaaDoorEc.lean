/- Walks of the epochs' laws: EpochPacks. -/
import Derived.Test.YtngpfoddeebbmaaDoorEb
namespace Go.Proofs.YtngpfoddeebbmaaDoor
open Go.RowKit Go.AB
set_option linter.unusedSimpArgs false
set_option linter.unusedVariables false

theorem packE_bd (t c : Int) (hc : 0 ≤ c) : 0 ≤ (packE t c).1 ∧ (packE t c).1 < 18446744073709551616 := by
  unfold packE
  split
  · simp
  · simp only; omega

set_option maxHeartbeats 1000000 in
set_option maxRecDepth 100000 in
theorem packs_walk (t c : Int) (hc : 0 ≤ c) (w : World) : Calls Tryd.prog 3 #[.int .i64 t, .int .u64 c] w fun e w' => e = .returned (.bool true) ∧ Chg [] w w' := by
  have hp := pack_calls t c hc
  have hq := r_pack_calls t c hc
  have hb := packE_bd t c hc
  obtain ⟨⟨E, f⟩, hE⟩ : ∃ p : Int × Int, packE t c = p := ⟨_, rfl⟩
  rw [hE] at hp hq hb
  have hn := next_calls E hb.1 hb.2
  have hm := r_next_calls E hb.1 hb.2
  obtain ⟨⟨E1, f1⟩, hE1⟩ : ∃ p : Int × Int, nextE E = p := ⟨_, rfl⟩
  rw [hE1] at hn hm
  have HP := hid hp
  have HQ := hid hq
  have HN := hid hn
  have HM := hid hm
  have HL := hid lives_calls
  clear hp hq hn hm hb hE hE1
  go_enter Tryd.func3, Tryd.ntmps3
  go_wp2_with (first
    | (go_at_call 10; refine (HP.out _).mono ?_; rintro e w' ⟨rfl, rfl⟩)
    | (go_at_call 11; refine (HQ.out _).mono ?_; rintro e w' ⟨rfl, rfl⟩)
    | (go_at_call 12; refine (num_calls _ _).mono ?_; rintro e w' ⟨rfl, rfl⟩)
    | (go_at_call 13; refine (HN.out _).mono ?_; rintro e w' ⟨rfl, rfl⟩)
    | (go_at_call 14; refine (HM.out _).mono ?_; rintro e w' ⟨rfl, rfl⟩)
    | (go_at_call 15; refine (HL.out _).mono ?_; rintro e w' ⟨rfl, hc'⟩))
  go_ret
  exact ⟨rfl, hc'⟩
end Go.Proofs.YtngpfoddeebbmaaDoor
