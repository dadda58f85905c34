/- Walks of the reference's reader: its takes. -/
import Derived.Test.YtbikekgljabalaaQb
namespace Go.Proofs.Ytbikekgljabalaa
open Go.RowKit Go.AB
set_option linter.unusedSimpArgs false
section
variable {w : World} {b : Nat} {l : List UInt8} {ao : Option Addr} {cap pos wh bad : Nat} (hR : Rd 145 w b l ao cap pos wh bad)
include hR

set_option maxHeartbeats 1000000 in
theorem q_short_calls (hl : l.length ≤ 1099511627776) (most : Nat) :
    Calls Try.prog 106 #[.pointer (some ⟨b, 0, none⟩), .int .u64 most] w (RdPost 145 w b l ao cap (.int .u64 (rShort most l ⟨pos, wh, bad⟩).1) (rShort most l ⟨pos, wh, bad⟩).2) := by
  have h3 := hR.c3
  by_cases hb : bad = 0
  · subst hb
    rcases peek_cases _ (peekF_err 10 0 (l.drop pos)) with ⟨v, n, hp⟩ | ⟨c, hc, hp⟩
    · have hp' : peekS (l.drop pos) = (v, n, 0) := hp
      have hpo := peekS_pos l pos hR.ok (by rw [hp'])
      rw [hp'] at hpo
      by_cases hm : most < v
      · have hs : rShort most l ⟨pos, wh, 0⟩ = (0, ⟨pos, pos, 12⟩) := by unfold rShort; simp [hp', hm, RS.fails]
        rw [hs]
        have HP := hid hp'
        clear hp hp' hs
        go_enter Try.func106, Try.ntmps106
        go_wp2_with (go_at_call 107; refine (q_peek_ok hR hl HP.out).mono ?_; rintro e w1 ⟨rfl, hd1⟩; refine halt (fun X hX => ?_))
        rw [hX.out]; clear hX
        go_wp2_with (go_at_call 108; refine (q_fails_calls (Qd_drew hR hd1) 12).mono ?_; rintro e w' ⟨rfl, hR2, hc2⟩)
        go_ret
        exact ⟨rfl, hR2, (hd1.chg (S := [b])).trans' hc2⟩
      · have hs : rShort most l ⟨pos, wh, 0⟩ = (v, ⟨pos + n, wh, 0⟩) := by unfold rShort; simp [hp', hm]
        rw [hs]
        have HP := hid hp'
        clear hp hp' hs
        go_enter Try.func106, Try.ntmps106
        go_wp2_with (go_at_call 107; refine (q_peek_ok hR hl HP.out).mono ?_; rintro e w1 ⟨rfl, hd1⟩; refine halt (fun X hX => ?_))
        rw [hX.out]; clear hX
        have hR1 := Qd_drew hR hd1
        have h1 := hR1.c1
        have hll : pos + n ≤ 1099511627776 := by omega
        have f1 := hR1.fr 1
        go_wp2
        go_ret
        exact ⟨rfl, (hR1.set1 (pos + n) hpo).1, (hd1.chg (S := [b])).trans' (hR1.set1 (pos + n) hpo).2⟩
    · have hp' : peekS (l.drop pos) = (0, 0, c) := hp
      have hs : rShort most l ⟨pos, wh, 0⟩ = (0, ⟨pos, pos, c⟩) := by unfold rShort; simp [hp', hc, RS.fails]
      rw [hs]
      have HP := hid hp'
      clear hp hp' hs
      go_enter Try.func106, Try.ntmps106
      go_wp2_with (go_at_call 107; refine (q_peek_bad hR hl hc HP.out).mono ?_; rintro e w1 ⟨rfl, hd1⟩; refine halt (fun X hX => ?_))
      rw [hX.out]; clear hX
      go_wp2_with (go_at_call 108; refine (q_fails_calls (Qd_drew hR hd1) c).mono ?_; rintro e w' ⟨rfl, hR2, hc2⟩)
      go_ret
      exact ⟨rfl, hR2, (hd1.chg (S := [b])).trans' hc2⟩
  · have hs : rShort most l ⟨pos, wh, bad⟩ = (0, ⟨pos, wh, bad⟩) := by unfold rShort; simp [hb]
    rw [hs]
    clear hs
    go_enter Try.func106, Try.ntmps106
    go_wp2
    go_ret
    exact ⟨rfl, hR, Chg.refl _ _⟩

set_option maxHeartbeats 400000 in
theorem q_signed_calls (hl : l.length ≤ 1099511627776) :
    Calls Try.prog 92 #[.pointer (some ⟨b, 0, none⟩)] w (RdPost 145 w b l ao cap (.int .i64 (rSigned l ⟨pos, wh, bad⟩).1) (rSigned l ⟨pos, wh, bad⟩).2) := by
  have hu := rShort_U64 18446744073709551615 l ⟨pos, wh, bad⟩
  obtain ⟨v, hv⟩ : ∃ v, rShort 18446744073709551615 l ⟨pos, wh, bad⟩ = v := ⟨_, rfl⟩
  unfold rSigned
  rw [hv] at hu ⊢
  have hd : IntKind.u64.wrap ((v.1 : Int) / 2) = ((v.1 / 2 : Nat) : Int) := wrap_u64_div hu 2
  have hu2 := hu.out
  have hdw : wrap64 (((v.1 / 2 : Nat) : Int)) = ((v.1 / 2 : Nat) : Int) := by rw [IntWalk.wrap64_in _ (by omega)]
  obtain ⟨h, hh⟩ : ∃ h, v.1 / 2 = h := ⟨_, rfl⟩
  have hhl : h ≤ 9223372036854775807 := by omega
  rw [hh] at hd hdw
  have HV := hid hv
  have HH := hid hh
  clear hv hh hu2
  by_cases hodd : v.1 % 2 = 1
  · have he : unzig v.1 = -(h : Int) - 1 := by unfold unzig; rw [if_pos hodd, HH.out]
    rw [he]
    have ho : ((v.1 : Int) % 2 == 1) = true := by simp; omega
    clear he hodd
    go_enter Try.func92, Try.ntmps92
    go_wp2_with (go_at_call 106; refine (q_short_calls hR hl 18446744073709551615).mono ?_; rw [HV.out]; rintro e w1 ⟨rfl, hR2, hc2⟩)
    go_ret
    exact ⟨rfl, hR2, hc2⟩
  · have he : unzig v.1 = (h : Int) := by unfold unzig; rw [if_neg hodd, HH.out]
    rw [he]
    have ho : ((v.1 : Int) % 2 == 1) = false := by simp; omega
    clear he hodd
    go_enter Try.func92, Try.ntmps92
    go_wp2_with (go_at_call 106; refine (q_short_calls hR hl 18446744073709551615).mono ?_; rw [HV.out]; rintro e w1 ⟨rfl, hR2, hc2⟩)
    go_ret
    exact ⟨rfl, hR2, hc2⟩
end
end Go.Proofs.Ytbikekgljabalaa
