/- Walks of the wire layer: the reader's takes. -/
import Derived.Test.YtdakcphkaljghaaRb
namespace Go.Proofs.Ytdakcphkaljghaa
open Go.RowKit Go.AB

/-- A call on a reader: what it answers, where the reader stands then. -/
def RdPost (T : Nat) (w : World) (b : Nat) (l : List UInt8) (ao : Option Addr) (cap : Nat) (v : Value) (s : RS) (e : Ending) (w' : World) : Prop :=
  e = .returned v ∧ Rd T w' b l ao cap s.pos s.wh s.bad ∧ Chg [b] w w'

theorem peek_cases (p : Nat × Nat × Nat) (h : p.2.2 = 0 ∨ (p.1 = 0 ∧ p.2.1 = 0)) : (∃ v n, p = (v, n, 0)) ∨ (∃ e, e ≠ 0 ∧ p = (0, 0, e)) := by
  obtain ⟨a, b, c⟩ := p
  by_cases hc : c = 0
  · subst hc; exact .inl ⟨a, b, rfl⟩
  · simp [hc] at h
    obtain ⟨rfl, rfl⟩ := h
    exact .inr ⟨c, hc, rfl⟩

section
variable {w : World} {b : Nat} {l : List UInt8} {ao : Option Addr} {cap pos wh bad : Nat} (hR : Rd 81 w b l ao cap pos wh bad)
include hR
theorem Rd_drew {w' : World} (h : Drew w w') : Rd 81 w' b l ao cap pos wh bad := hR.keep (h.chg (S := [])) (by simp) (by simp)
theorem peek_ok_calls (hl : l.length ≤ 1099511627776) {v n : Nat} (h : peekS (l.drop pos) = (v, n, 0)) : Calls Try.prog 70 #[.pointer (some ⟨b, 0, none⟩)] w fun e w' => e = .returned (.tuple #[.int .u64 v, .int .i64 (pos + n : Nat), .int .i64 0]) ∧ Drew w w' := by
  refine (peek_calls hR hl).mono fun e w' ⟨he, hw⟩ => ⟨?_, hw⟩
  rw [he, h]; rfl
theorem peek_bad_calls (hl : l.length ≤ 1099511627776) {c : Nat} (hc : c ≠ 0) (h : peekS (l.drop pos) = (0, 0, c)) : Calls Try.prog 70 #[.pointer (some ⟨b, 0, none⟩)] w fun e w' => e = .returned (.tuple #[.int .u64 0, .int .i64 0, .int .i64 c]) ∧ Drew w w' := by
  refine (peek_calls hR hl).mono fun e w' ⟨he, hw⟩ => ⟨?_, hw⟩
  rw [he, h]; unfold peekV; simp [hc]

set_option maxHeartbeats 1000000 in
theorem rshort_calls (hl : l.length ≤ 1099511627776) (most : Nat) :
    Calls Try.prog 33 #[.pointer (some ⟨b, 0, none⟩), .int .u64 most] w (RdPost 81 w b l ao cap (.int .u64 (rShort most l ⟨pos, wh, bad⟩).1) (rShort most l ⟨pos, wh, bad⟩).2) := by
  by_cases hb : bad = 0
  · subst hb
    rcases peek_cases _ (peekF_err 10 0 (l.drop pos)) with ⟨v, n, hp⟩ | ⟨c, hc, hp⟩
    · have hp' : peekS (l.drop pos) = (v, n, 0) := hp
      have hpo := peekS_pos l pos hR.ok (by rw [hp'])
      rw [hp'] at hpo
      by_cases hm : most < v
      · have hs : rShort most l ⟨pos, wh, 0⟩ = (0, ⟨pos, pos, 12⟩) := by unfold rShort; simp [hp', hm, RS.fails]
        rw [hs]
        have HP := hid hp'
        clear hp hp' hs
        go_enter Try.func33, Try.ntmps33
        go_wp2_with (go_at_call 61; refine (wrong_calls hR).mono ?_; rintro e w' ⟨rfl, rfl⟩; refine halt (fun X hX => ?_))
        rw [hX.out]; clear hX
        go_wp2_with (go_at_call 70; refine (peek_ok_calls hR hl HP.out).mono ?_; rintro e w1 ⟨rfl, hd1⟩; refine halt (fun X hX => ?_))
        rw [hX.out]; clear hX
        go_wp2_with (go_at_call 63; refine (fails_calls (Rd_drew hR hd1) 12).mono ?_; rintro e w' ⟨rfl, hR2, hc2⟩)
        go_ret
        exact ⟨rfl, hR2, (hd1.chg (S := [b])).trans' hc2⟩
      · have hs : rShort most l ⟨pos, wh, 0⟩ = (v, ⟨pos + n, wh, 0⟩) := by unfold rShort; simp [hp', hm]
        rw [hs]
        have HP := hid hp'
        clear hp hp' hs
        go_enter Try.func33, Try.ntmps33
        go_wp2_with (go_at_call 61; refine (wrong_calls hR).mono ?_; rintro e w' ⟨rfl, rfl⟩; refine halt (fun X hX => ?_))
        rw [hX.out]; clear hX
        go_wp2_with (go_at_call 70; refine (peek_ok_calls hR hl HP.out).mono ?_; rintro e w1 ⟨rfl, hd1⟩; refine halt (fun X hX => ?_))
        rw [hX.out]; clear hX
        have hR1 := Rd_drew hR hd1
        have h1 := hR1.c1
        have f1 := hR1.fr 1
        go_wp2
        go_ret
        exact ⟨rfl, (hR1.set1 (pos + n) hpo).1, (hd1.chg (S := [b])).trans' (hR1.set1 (pos + n) hpo).2⟩
    · have hp' : peekS (l.drop pos) = (0, 0, c) := hp
      have hs : rShort most l ⟨pos, wh, 0⟩ = (0, ⟨pos, pos, c⟩) := by unfold rShort; simp [hp', hc, RS.fails]
      rw [hs]
      have HP := hid hp'
      clear hp hp' hs
      go_enter Try.func33, Try.ntmps33
      go_wp2_with (go_at_call 61; refine (wrong_calls hR).mono ?_; rintro e w' ⟨rfl, rfl⟩; refine halt (fun X hX => ?_))
      rw [hX.out]; clear hX
      go_wp2_with (go_at_call 70; refine (peek_bad_calls hR hl hc HP.out).mono ?_; rintro e w1 ⟨rfl, hd1⟩; refine halt (fun X hX => ?_))
      rw [hX.out]; clear hX
      go_wp2_with (go_at_call 63; refine (fails_calls (Rd_drew hR hd1) c).mono ?_; rintro e w' ⟨rfl, hR2, hc2⟩)
      go_ret
      exact ⟨rfl, hR2, (hd1.chg (S := [b])).trans' hc2⟩
  · have hs : rShort most l ⟨pos, wh, bad⟩ = (0, ⟨pos, wh, bad⟩) := by unfold rShort; simp [hb]
    rw [hs]
    clear hs
    go_enter Try.func33, Try.ntmps33
    go_wp2_with (go_at_call 61; refine (wrong_calls hR).mono ?_; rintro e w' ⟨rfl, rfl⟩)
    go_ret
    exact ⟨rfl, hR, Chg.refl _ _⟩

set_option maxHeartbeats 400000 in
theorem rsigned_calls (hl : l.length ≤ 1099511627776) :
    Calls Try.prog 37 #[.pointer (some ⟨b, 0, none⟩)] w (RdPost 81 w b l ao cap (.int .i64 (rSigned l ⟨pos, wh, bad⟩).1) (rSigned l ⟨pos, wh, bad⟩).2) := by
  have hu := rShort_U64 18446744073709551615 l ⟨pos, wh, bad⟩
  obtain ⟨v, hv⟩ : ∃ v, rShort 18446744073709551615 l ⟨pos, wh, bad⟩ = v := ⟨_, rfl⟩
  unfold rSigned
  rw [hv] at hu ⊢
  have hz := unzig_i64 hu
  have HV := hid hv
  clear hv hu
  go_enter Try.func37, Try.ntmps37
  go_wp2_with (go_at_call 33; refine (rshort_calls hR hl 18446744073709551615).mono ?_; rw [HV.out]; rintro e w1 ⟨rfl, hR2, hc2⟩)
  go_ret
  exact ⟨rfl, hR2, hc2⟩

set_option maxHeartbeats 1000000 in
theorem rflag_calls (hl : l.length ≤ 1099511627776) :
    Calls Try.prog 38 #[.pointer (some ⟨b, 0, none⟩)] w (RdPost 81 w b l ao cap (.bool (rFlag l ⟨pos, wh, bad⟩).1) (rFlag l ⟨pos, wh, bad⟩).2) := by
  have h0 := hR.c0
  have h1 := hR.c1
  by_cases hb : bad = 0
  · subst hb
    by_cases hlt : pos < l.length
    · obtain ⟨_, _, ao', cap', hao, _, _, _, hcells⟩ := hR.view
      simp only [Value.slice.injEq, true_and] at hao
      obtain ⟨rfl, rfl⟩ := hao
      obtain ⟨bb, off, rfl, hc⟩ := hcells (by omega)
      have hx : w.cell? ⟨bb, off + pos, none⟩ = some (.int .u8 (l[pos].toNat : Int)) := (hc pos (by omega)).trans (by simp [List.getD, hlt, B])
      have hdrop : l.drop pos = l[pos] :: l.drop (pos + 1) := List.drop_eq_getElem_cons hlt
      have hbb : bb ≠ b := hR.ne bb rfl
      obtain ⟨x, hxe⟩ : ∃ x, l[pos] = x := ⟨_, rfl⟩
      rw [hxe] at hdrop hx
      clear hcells hc hxe
      by_cases hx1 : 1 < x.toNat
      · have hs : rFlag l ⟨pos, wh, 0⟩ = (false, ⟨pos, pos, 11⟩) := by unfold rFlag; simp only [hdrop]; simp [hx1, RS.fails]
        rw [hs]
        clear hs hdrop
        go_enter Try.func38, Try.ntmps38
        go_wp2_with (go_at_call 61; refine (wrong_calls hR).mono ?_; rintro e w' ⟨rfl, rfl⟩)
        go_quiet (fail)
        go_wp2
        go_quiet (fail)
        have hR' := fun n => hR.keep (Chg.of_drewN [] w n) (by simp) (by simp)
        go_wp2_with (go_at_call 63; refine (fails_calls (hR' _) 11).mono ?_; rintro e w' ⟨rfl, hR2, hc2⟩)
        go_ret
        exact ⟨rfl, hR2, (Chg.of_drewN _ _ _).trans' hc2⟩
      · have hs : rFlag l ⟨pos, wh, 0⟩ = (x == 1, ⟨pos + 1, wh, 0⟩) := by unfold rFlag; simp only [hdrop]; simp [hx1]
        rw [hs]
        clear hs hdrop
        have f1 := hR.fr 1
        go_enter Try.func38, Try.ntmps38
        go_wp2_with (go_at_call 61; refine (wrong_calls hR).mono ?_; rintro e w' ⟨rfl, rfl⟩)
        go_quiet (fail)
        go_wp2
        go_quiet (fail)
        go_wp2
        go_quiet (fail)
        go_wp2
        go_ret
        have hR' := fun n => hR.keep (Chg.of_drewN [] w n) (by simp) (by simp)
        refine ⟨?_, Rd_drew ((hR' _).set1 (pos + 1) hlt).1 Drew.refl, (Chg.of_drewN _ _ _).trans' (((hR' _).set1 (pos + 1) hlt).2.trans' (Chg.of_drewN _ _ _))⟩
        show Ending.returned (.bool ((x.toNat : Int) == 1)) = _
        congr 2
        rw [Bool.eq_iff_iff]
        simp [← UInt8.toNat_inj]
        omega
    · have hdrop : l.drop pos = [] := List.drop_of_length_le (by omega)
      have hs : rFlag l ⟨pos, wh, 0⟩ = (false, ⟨pos, pos, 10⟩) := by unfold rFlag; simp only [hdrop]; simp [RS.fails]
      rw [hs]
      clear hs hdrop
      go_enter Try.func38, Try.ntmps38
      go_wp2_with (go_at_call 61; refine (wrong_calls hR).mono ?_; rintro e w' ⟨rfl, rfl⟩)
      go_quiet (fail)
      have hR' := fun n => hR.keep (Chg.of_drewN [] w n) (by simp) (by simp)
      go_wp2_with (go_at_call 63; refine (fails_calls (hR' _) 10).mono ?_; rintro e w' ⟨rfl, hR2, hc2⟩)
      go_ret
      exact ⟨rfl, hR2, (Chg.of_drewN _ _ _).trans' hc2⟩
  · have hs : rFlag l ⟨pos, wh, bad⟩ = (false, ⟨pos, wh, bad⟩) := by unfold rFlag; simp [hb]
    rw [hs]
    clear hs
    go_enter Try.func38, Try.ntmps38
    go_wp2_with (go_at_call 61; refine (wrong_calls hR).mono ?_; rintro e w' ⟨rfl, rfl⟩)
    go_ret
    exact ⟨rfl, hR, Chg.refl _ _⟩
end
end Go.Proofs.Ytdakcphkaljghaa
