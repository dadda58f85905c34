/- Walks of the law's: bytes that are no frame are refused. -/
import Derived.Test.YtdakcphkaljghaaFe
import Derived.Test.YtdakcphkaljghaaTlaw
namespace Go.Proofs.Ytdakcphkaljghaa
open Go.RowKit Go.AB
set_option linter.unusedSimpArgs false

theorem refused_calls (v : Value) (l : List UInt8) (w : World) (hv : Bytes w v l) (hl : l.length ≤ 16777216) (hbad : (openB l).2.2 ≠ 0) :
    Calls Try.prog 21 #[v] w fun e w' => e = .returned (.bool true) ∧ Chg [] w w' := by
  obtain ⟨h1, h2⟩ := openB_err l hbad
  have ho := open_calls v l w hv hl
  obtain ⟨c, hc⟩ : ∃ c, (openB l).2.2 = c := ⟨_, rfl⟩
  have he : openB l = (0, [], c) := by rw [← hc, ← h1, ← h2]
  rw [he] at ho
  rw [hc] at hbad
  have HO := hid ho
  have g1 : (((c : Nat) : Int) != 0) = true := by simp; omega
  have g2 : (((c : Nat) : Int) == 0) = false := by simp; omega
  clear ho hc he h1 h2 hbad
  go_enter Try.func21, Try.ntmps21
  go_wp2_with (go_at_call 20; refine HO.out.mono ?_; rintro e w1 ⟨l1, ao1, cap1, r1, rfl, hr1, hf1, hc1, HL1⟩; obtain rfl : l1 = [] := HL1.out)
  go_ret
  exact ⟨rfl, hc1⟩
end Go.Proofs.Ytdakcphkaljghaa
