/- Walks of the wire layer: the reader. -/
import Derived.Test.YtdakcphkaljghaaRplain
import Derived.Test.YtdakcphkaljghaaWw
import Derived.Deep.QuietTactic
import Derived.BigQuiet
namespace Go.Proofs.Ytdakcphkaljghaa
open Go.RowKit Go.AB

section
variable {w : World} {b : Nat} {l : List UInt8} {ao : Option Addr} {cap pos wh bad : Nat} (hR : Rd 81 w b l ao cap pos wh bad)
include hR

set_option maxHeartbeats 400000 in
theorem wrong_calls : Calls Try.prog 61 #[.pointer (some ⟨b, 0, none⟩)] w fun e w' => e = .returned (.bool (decide (bad ≠ 0))) ∧ w = w' := by
  have h3 := hR.c3
  by_cases h0 : bad = 0
  · subst h0
    go_enter Try.func61, Try.ntmps61
    go_wp2
    go_ret
    exact ⟨rfl, rfl⟩
  · go_enter Try.func61, Try.ntmps61
    go_wp2
    go_ret
    exact ⟨by simp [h0], rfl⟩

def FailPost (T : Nat) (w : World) (b : Nat) (l : List UInt8) (ao : Option Addr) (cap pos : Nat) (bad : Nat) (e : Ending) (w' : World) : Prop :=
  e = .returned (.tuple #[]) ∧ Rd T w' b l ao cap pos pos bad ∧ Chg [b] w w'
set_option maxHeartbeats 400000 in
theorem fails_calls (e : Nat) : Calls Try.prog 63 #[.pointer (some ⟨b, 0, none⟩), .int .i64 e] w (FailPost 81 w b l ao cap pos e) := by
  have h1 := hR.c1
  have h2 := hR.c2
  have h3 := hR.c3
  have f2 := hR.fr 2
  have f3 := hR.fr 3
  go_enter Try.func63, Try.ntmps63
  go_wp2
  go_end0
  exact ⟨rfl, hR.set23 e⟩

set_option maxHeartbeats 400000 in
theorem at_calls : Calls Try.prog 43 #[.pointer (some ⟨b, 0, none⟩)] w fun e w' => e = .returned (.int .i64 pos) ∧ w = w' := by
  have h1 := hR.c1
  go_enter Try.func43, Try.ntmps43
  go_wp2
  go_ret
  exact ⟨rfl, rfl⟩
set_option maxHeartbeats 400000 in
theorem fault_calls : Calls Try.prog 42 #[.pointer (some ⟨b, 0, none⟩)] w fun e w' => e = .returned (.tuple #[.int .i64 wh, .int .i64 bad]) ∧ Drew w w' := by
  have h2 := hR.c2
  have h3 := hR.c3
  go_enter Try.func42, Try.ntmps42
  go_wp2
  go_quiet (fail)
  go_wp2
  go_ret2
  exact ⟨rfl, Drew.refl⟩
end
end Go.Proofs.Ytdakcphkaljghaa
