/- Walks of the reference's reader: its takes. -/
import Derived.Test.YtdakcphkaljghaaQb
namespace Go.Proofs.Ytdakcphkaljghaa
open Go.RowKit Go.AB
set_option linter.unusedSimpArgs false
section
variable {w : World} {b : Nat} {l : List UInt8} {ao : Option Addr} {cap pos wh bad : Nat} (hR : Rd 108 w b l ao cap pos wh bad)
include hR

set_option maxHeartbeats 1000000 in
theorem q_short_calls (hl : l.length ≤ 1099511627776) (most : Nat) :
    Calls Try.prog 65 #[.pointer (some ⟨b, 0, none⟩), .int .u64 most] w (RdPost 108 w b l ao cap (.int .u64 (rShort most l ⟨pos, wh, bad⟩).1) (rShort most l ⟨pos, wh, bad⟩).2) := by
  have h3 := hR.c3
  by_cases hb : bad = 0
  · subst hb
    rcases peek_cases _ (peekF_err 10 0 (l.drop pos)) with ⟨v, n, hp⟩ | ⟨c, hc, hp⟩
    · have hp' : peekS (l.drop pos) = (v, n, 0) := hp
      have hpo := peekS_pos l pos hR.ok (by rw [hp'])
      rw [hp'] at hpo
      by_cases hm : most < v
      · have hs : rShort most l ⟨pos, wh, 0⟩ = (0, ⟨pos, pos, 12⟩) := by unfold rShort; simp [hp', hm, RS.fails]
        rw [hs]
        have HP := hid hp'
        clear hp hp' hs
        go_enter Try.func65, Try.ntmps65
        go_wp2_with (go_at_call 87; refine (q_peek_ok hR hl HP.out).mono ?_; rintro e w1 ⟨rfl, hd1⟩; refine halt (fun X hX => ?_))
        rw [hX.out]; clear hX
        go_wp2_with (go_at_call 86; refine (q_fails_calls (Qd_drew hR hd1) 12).mono ?_; rintro e w' ⟨rfl, hR2, hc2⟩)
        go_ret
        exact ⟨rfl, hR2, (hd1.chg (S := [b])).trans' hc2⟩
      · have hs : rShort most l ⟨pos, wh, 0⟩ = (v, ⟨pos + n, wh, 0⟩) := by unfold rShort; simp [hp', hm]
        rw [hs]
        have HP := hid hp'
        clear hp hp' hs
        go_enter Try.func65, Try.ntmps65
        go_wp2_with (go_at_call 87; refine (q_peek_ok hR hl HP.out).mono ?_; rintro e w1 ⟨rfl, hd1⟩; refine halt (fun X hX => ?_))
        rw [hX.out]; clear hX
        have hR1 := Qd_drew hR hd1
        have h1 := hR1.c1
        have hll : pos + n ≤ 1099511627776 := by omega
        have f1 := hR1.fr 1
        go_wp2
        go_ret
        exact ⟨rfl, (hR1.set1 (pos + n) hpo).1, (hd1.chg (S := [b])).trans' (hR1.set1 (pos + n) hpo).2⟩
    · have hp' : peekS (l.drop pos) = (0, 0, c) := hp
      have hs : rShort most l ⟨pos, wh, 0⟩ = (0, ⟨pos, pos, c⟩) := by unfold rShort; simp [hp', hc, RS.fails]
      rw [hs]
      have HP := hid hp'
      clear hp hp' hs
      go_enter Try.func65, Try.ntmps65
      go_wp2_with (go_at_call 87; refine (q_peek_bad hR hl hc HP.out).mono ?_; rintro e w1 ⟨rfl, hd1⟩; refine halt (fun X hX => ?_))
      rw [hX.out]; clear hX
      go_wp2_with (go_at_call 86; refine (q_fails_calls (Qd_drew hR hd1) c).mono ?_; rintro e w' ⟨rfl, hR2, hc2⟩)
      go_ret
      exact ⟨rfl, hR2, (hd1.chg (S := [b])).trans' hc2⟩
  · have hs : rShort most l ⟨pos, wh, bad⟩ = (0, ⟨pos, wh, bad⟩) := by unfold rShort; simp [hb]
    rw [hs]
    clear hs
    go_enter Try.func65, Try.ntmps65
    go_wp2
    go_ret
    exact ⟨rfl, hR, Chg.refl _ _⟩

set_option maxHeartbeats 1000000 in
theorem q_flag_calls (hl : l.length ≤ 1099511627776) :
    Calls Try.prog 67 #[.pointer (some ⟨b, 0, none⟩)] w (RdPost 108 w b l ao cap (.bool (rFlag l ⟨pos, wh, bad⟩).1) (rFlag l ⟨pos, wh, bad⟩).2) := by
  have h0 := hR.c0
  have h1 := hR.c1
  have h3 := hR.c3
  by_cases hb : bad = 0
  · subst hb
    by_cases hlt : pos < l.length
    · obtain ⟨_, _, ao', cap', hao, _, _, _, hcells⟩ := hR.view
      simp only [Value.slice.injEq, true_and] at hao
      obtain ⟨rfl, rfl⟩ := hao
      obtain ⟨bb, off, rfl, hc⟩ := hcells (by omega)
      have hx : w.cell? ⟨bb, off + pos, none⟩ = some (.int .u8 (l[pos].toNat : Int)) := (hc pos (by omega)).trans (by simp [List.getD, hlt, B])
      have hdrop : l.drop pos = l[pos] :: l.drop (pos + 1) := List.drop_eq_getElem_cons hlt
      have hbb : bb ≠ b := hR.ne bb rfl
      obtain ⟨x, hxe⟩ : ∃ x, l[pos] = x := ⟨_, rfl⟩
      rw [hxe] at hdrop hx
      clear hcells hc hxe
      by_cases hx1 : 1 < x.toNat
      · have hs : rFlag l ⟨pos, wh, 0⟩ = (false, ⟨pos, pos, 11⟩) := by unfold rFlag; simp only [hdrop]; simp [hx1, RS.fails]
        rw [hs]
        clear hs hdrop
        go_enter Try.func67, Try.ntmps67
        go_wp2
        go_quiet (fail)
        go_wp2
        go_quiet (fail)
        have hR' := fun n => hR.keep (Chg.of_drewN [] w n) (by simp) (by simp)
        go_wp2_with (go_at_call 86; refine (q_fails_calls (hR' _) 11).mono ?_; rintro e w' ⟨rfl, hR2, hc2⟩)
        go_ret
        exact ⟨rfl, hR2, (Chg.of_drewN _ _ _).trans' hc2⟩
      · have hs : rFlag l ⟨pos, wh, 0⟩ = (x == 1, ⟨pos + 1, wh, 0⟩) := by unfold rFlag; simp only [hdrop]; simp [hx1]
        rw [hs]
        clear hs hdrop
        have f1 := hR.fr 1
        go_enter Try.func67, Try.ntmps67
        go_wp2
        go_quiet (fail)
        go_wp2
        go_quiet (fail)
        go_wp2
        go_ret
        have hR' := fun n => hR.keep (Chg.of_drewN [] w n) (by simp) (by simp)
        refine ⟨?_, ((hR' _).set1 (pos + 1) hlt).1, (Chg.of_drewN _ _ _).trans' ((hR' _).set1 (pos + 1) hlt).2⟩
        show Ending.returned (.bool ((x.toNat : Int) == 1)) = _
        congr 2
        rw [Bool.eq_iff_iff]
        simp [← UInt8.toNat_inj]
        omega
    · have hdrop : l.drop pos = [] := List.drop_of_length_le (by omega)
      have hs : rFlag l ⟨pos, wh, 0⟩ = (false, ⟨pos, pos, 10⟩) := by unfold rFlag; simp only [hdrop]; simp [RS.fails]
      rw [hs]
      clear hs hdrop
      go_enter Try.func67, Try.ntmps67
      go_wp2
      go_quiet (fail)
      have hR' := fun n => hR.keep (Chg.of_drewN [] w n) (by simp) (by simp)
      go_wp2_with (go_at_call 86; refine (q_fails_calls (hR' _) 10).mono ?_; rintro e w' ⟨rfl, hR2, hc2⟩)
      go_ret
      exact ⟨rfl, hR2, (Chg.of_drewN _ _ _).trans' hc2⟩
  · have hs : rFlag l ⟨pos, wh, bad⟩ = (false, ⟨pos, wh, bad⟩) := by unfold rFlag; simp [hb]
    rw [hs]
    clear hs
    go_enter Try.func67, Try.ntmps67
    go_wp2
    go_ret
    exact ⟨rfl, hR, Chg.refl _ _⟩
set_option maxHeartbeats 400000 in
theorem q_signed_calls (hl : l.length ≤ 1099511627776) :
    Calls Try.prog 66 #[.pointer (some ⟨b, 0, none⟩)] w (RdPost 108 w b l ao cap (.int .i64 (rSigned l ⟨pos, wh, bad⟩).1) (rSigned l ⟨pos, wh, bad⟩).2) := by
  have hu := rShort_U64 18446744073709551615 l ⟨pos, wh, bad⟩
  obtain ⟨v, hv⟩ : ∃ v, rShort 18446744073709551615 l ⟨pos, wh, bad⟩ = v := ⟨_, rfl⟩
  unfold rSigned
  rw [hv] at hu ⊢
  have hd : IntKind.u64.wrap ((v.1 : Int) / 2) = ((v.1 / 2 : Nat) : Int) := wrap_u64_div hu 2
  have hu2 := hu.out
  have hdw : wrap64 (((v.1 / 2 : Nat) : Int)) = ((v.1 / 2 : Nat) : Int) := by rw [IntWalk.wrap64_in _ (by omega)]
  obtain ⟨h, hh⟩ : ∃ h, v.1 / 2 = h := ⟨_, rfl⟩
  have hhl : h ≤ 9223372036854775807 := by omega
  rw [hh] at hd hdw
  have HV := hid hv
  have HH := hid hh
  clear hv hh hu2
  by_cases hodd : v.1 % 2 = 1
  · have he : unzig v.1 = -(h : Int) - 1 := by unfold unzig; rw [if_pos hodd, HH.out]
    rw [he]
    have ho : ((v.1 : Int) % 2 == 1) = true := by simp; omega
    clear he hodd
    go_enter Try.func66, Try.ntmps66
    go_wp2_with (go_at_call 65; refine (q_short_calls hR hl 18446744073709551615).mono ?_; rw [HV.out]; rintro e w1 ⟨rfl, hR2, hc2⟩)
    go_ret
    exact ⟨rfl, hR2, hc2⟩
  · have he : unzig v.1 = (h : Int) := by unfold unzig; rw [if_neg hodd, HH.out]
    rw [he]
    have ho : ((v.1 : Int) % 2 == 1) = false := by simp; omega
    clear he hodd
    go_enter Try.func66, Try.ntmps66
    go_wp2_with (go_at_call 65; refine (q_short_calls hR hl 18446744073709551615).mono ?_; rw [HV.out]; rintro e w1 ⟨rfl, hR2, hc2⟩)
    go_ret
    exact ⟨rfl, hR2, hc2⟩
end
end Go.Proofs.Ytdakcphkaljghaa
