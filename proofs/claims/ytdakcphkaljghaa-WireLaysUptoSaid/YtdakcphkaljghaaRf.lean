/- Walks of the wire layer: a new reader; whether all was taken. -/
import Derived.Test.YtdakcphkaljghaaRe
import Derived.Test.YtdakcphkaljghaaWe
namespace Go.Proofs.Ytdakcphkaljghaa
open Go.RowKit Go.AB

/-- A new reader of the bytes l, in new memory. -/
def NewRd (T : Nat) (w : World) (l : List UInt8) (e : Ending) (w' : World) : Prop :=
  ∃ b l' ao cap, e = .returned (.pointer (some ⟨b, 0, none⟩)) ∧ Rd T w' b l' ao cap 0 0 0 ∧ w.heap.size ≤ b ∧ (∀ g, (Value.slice ao l'.length cap).ownBlock = some g → w.heap.size ≤ g ∧ g < w'.heap.size) ∧ Chg [] w w' ∧ Hid (l' = l)

set_option maxHeartbeats 400000 in
theorem newReader_calls (v : Value) (l : List UInt8) (w : World) (hv : Bytes w v l) (hl : l.length ≤ 1099511627776) :
    Calls Try.prog 27 #[v] w (NewRd 81 w l) := by
  go_enter Try.func27, Try.ntmps27
  go_wp2_with (go_at_call 52; refine (clone_calls _ _ _ hv hl).mono ?_; rintro e w1 ⟨l2, ao, cap, r2, rfl, hrow2, hfr2, hch2, HL2⟩)
  go_ret
  have hca := (Chg.refl [] w1).alloc (.cells #[.slice ao l2.length cap, .int .i64 0, .int .i64 0, .int .i64 0] 81)
  have hown : ∀ g, (Value.slice ao l2.length cap).ownBlock = some g → w.heap.size ≤ g ∧ g < w1.heap.size := fun g hg =>
    ⟨(hfr2 g (hrow2.blk.symm.trans hg)).resolve_left (by simp), hrow2.lt g (hrow2.blk.symm.trans hg)⟩
  exact ⟨w1.heap.size, l2, ao, cap, rfl, ⟨heap_alloc_new w1 _, (hrow2.keep hca (by simp)).view, fun g hg e => by have := (hown g hg).2; omega, Nat.zero_le _⟩, hch2.size, fun g hg => ⟨(hown g hg).1, by have := (hown g hg).2; simp; omega⟩, hch2.trans' hca, HL2⟩

section
variable {w : World} {b : Nat} {l : List UInt8} {ao : Option Addr} {cap pos wh bad : Nat} (hR : Rd 81 w b l ao cap pos wh bad)
include hR
set_option maxHeartbeats 1000000 in
theorem end_calls : Calls Try.prog 29 #[.pointer (some ⟨b, 0, none⟩)] w fun e w' => e = .returned (.int .i64 (rEnd l ⟨pos, wh, bad⟩)) ∧ Drew w w' := by
  have h0 := hR.c0
  have h1 := hR.c1
  by_cases hb : bad = 0
  · subst hb
    by_cases hlt : pos < l.length
    · have he : rEnd l ⟨pos, wh, 0⟩ = 13 := by unfold rEnd; simp [hlt]
      rw [he]
      clear he
      go_enter Try.func29, Try.ntmps29
      go_wp2_with (go_at_call 42; refine (fault_calls hR).mono ?_; rintro e w1 ⟨rfl, n, rfl⟩)
      go_quiet (fail)
      go_wp2
      go_ret
      exact ⟨rfl, (by first | exact Drew.refl | exact Drew.refl.trans Drew.refl)⟩
    · have he : rEnd l ⟨pos, wh, 0⟩ = 0 := by unfold rEnd; simp [hlt]
      rw [he]
      clear he
      go_enter Try.func29, Try.ntmps29
      go_wp2_with (go_at_call 42; refine (fault_calls hR).mono ?_; rintro e w1 ⟨rfl, n, rfl⟩)
      go_quiet (fail)
      go_wp2
      go_ret
      exact ⟨rfl, (by first | exact Drew.refl | exact Drew.refl.trans Drew.refl)⟩
  · have he : rEnd l ⟨pos, wh, bad⟩ = bad := by unfold rEnd; simp [hb]
    rw [he]
    clear he
    go_enter Try.func29, Try.ntmps29
    go_wp2_with (go_at_call 42; refine (fault_calls hR).mono ?_; rintro e w1 ⟨rfl, n, rfl⟩)
    go_quiet (fail)
    go_wp2
    go_ret
    exact ⟨rfl, (by first | exact Drew.refl | exact Drew.refl.trans Drew.refl)⟩
end
end Go.Proofs.Ytdakcphkaljghaa
