/- Walks of the reference's reader: its takes. -/
import Derived.Test.YtbghkodcfedebaaGreatDoorQb
namespace Go.Proofs.YtbghkodcfedebaaGreatDoor
open Go.RowKit Go.AB
set_option linter.unusedSimpArgs false
section
variable {w : World} {b : Nat} {l : List UInt8} {ao : Option Addr} {cap pos wh bad : Nat} (hR : Rd 161 w b l ao cap pos wh bad)
include hR

set_option maxHeartbeats 1000000 in
theorem q_short_calls (hl : l.length ≤ 1099511627776) (most : Nat) :
    Calls Tryz.prog 96 #[.pointer (some ⟨b, 0, none⟩), .int .u64 most] w (RdPost 161 w b l ao cap (.int .u64 (rShort most l ⟨pos, wh, bad⟩).1) (rShort most l ⟨pos, wh, bad⟩).2) := by
  have h3 := hR.c3
  by_cases hb : bad = 0
  · subst hb
    rcases peek_cases _ (peekF_err 10 0 (l.drop pos)) with ⟨v, n, hp⟩ | ⟨c, hc, hp⟩
    · have hp' : peekS (l.drop pos) = (v, n, 0) := hp
      have hpo := peekS_pos l pos hR.ok (by rw [hp'])
      rw [hp'] at hpo
      by_cases hm : most < v
      · have hs : rShort most l ⟨pos, wh, 0⟩ = (0, ⟨pos, pos, 12⟩) := by unfold rShort; simp [hp', hm, RS.fails]
        rw [hs]
        have HP := hid hp'
        clear hp hp' hs
        go_enter Tryz.func96, Tryz.ntmps96
        go_wp2_with (go_at_call 110; refine (q_peek_ok hR hl HP.out).mono ?_; rintro e w1 ⟨rfl, hd1⟩; refine halt (fun X hX => ?_))
        rw [hX.out]; clear hX
        go_wp2_with (go_at_call 111; refine (q_fails_calls (Qd_drew hR hd1) 12).mono ?_; rintro e w' ⟨rfl, hR2, hc2⟩)
        go_ret
        exact ⟨rfl, hR2, (hd1.chg (S := [b])).trans' hc2⟩
      · have hs : rShort most l ⟨pos, wh, 0⟩ = (v, ⟨pos + n, wh, 0⟩) := by unfold rShort; simp [hp', hm]
        rw [hs]
        have HP := hid hp'
        clear hp hp' hs
        go_enter Tryz.func96, Tryz.ntmps96
        go_wp2_with (go_at_call 110; refine (q_peek_ok hR hl HP.out).mono ?_; rintro e w1 ⟨rfl, hd1⟩; refine halt (fun X hX => ?_))
        rw [hX.out]; clear hX
        have hR1 := Qd_drew hR hd1
        have h1 := hR1.c1
        have hll : pos + n ≤ 1099511627776 := by omega
        have f1 := hR1.fr 1
        go_wp2
        go_ret
        exact ⟨rfl, (hR1.set1 (pos + n) hpo).1, (hd1.chg (S := [b])).trans' (hR1.set1 (pos + n) hpo).2⟩
    · have hp' : peekS (l.drop pos) = (0, 0, c) := hp
      have hs : rShort most l ⟨pos, wh, 0⟩ = (0, ⟨pos, pos, c⟩) := by unfold rShort; simp [hp', hc, RS.fails]
      rw [hs]
      have HP := hid hp'
      clear hp hp' hs
      go_enter Tryz.func96, Tryz.ntmps96
      go_wp2_with (go_at_call 110; refine (q_peek_bad hR hl hc HP.out).mono ?_; rintro e w1 ⟨rfl, hd1⟩; refine halt (fun X hX => ?_))
      rw [hX.out]; clear hX
      go_wp2_with (go_at_call 111; refine (q_fails_calls (Qd_drew hR hd1) c).mono ?_; rintro e w' ⟨rfl, hR2, hc2⟩)
      go_ret
      exact ⟨rfl, hR2, (hd1.chg (S := [b])).trans' hc2⟩
  · have hs : rShort most l ⟨pos, wh, bad⟩ = (0, ⟨pos, wh, bad⟩) := by unfold rShort; simp [hb]
    rw [hs]
    clear hs
    go_enter Tryz.func96, Tryz.ntmps96
    go_wp2
    go_ret
    exact ⟨rfl, hR, Chg.refl _ _⟩

end
end Go.Proofs.YtbghkodcfedebaaGreatDoor
