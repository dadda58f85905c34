/- Several texts of this seat, one behind the other: Rc, Rd, Re, Rf, Rg, Rh, Law, Law2, Ladds, Llaid, Fb, Fc. -/
import Derived.Test.YtbikekgljabalaaRb
import Derived.Test.YtbikekgljabalaaM01
import Derived.Deep.RegionHeld3
import Derived.Test.YtbikekgljabalaaRows
import Derived.JoinedCond
import Derived.Deep.RegionLaw
/- Walks of the wire layer: the reader's takes. -/
namespace Go.Proofs.Ytbikekgljabalaa
open Go.RowKit Go.AB

/-- A call on a reader: what it answers, where the reader stands then. -/
def RdPost (T : Nat) (w : World) (b : Nat) (l : List UInt8) (ao : Option Addr) (cap : Nat) (v : Value) (s : RS) (e : Ending) (w' : World) : Prop :=
  e = .returned v ∧ Rd T w' b l ao cap s.pos s.wh s.bad ∧ Chg [b] w w'

theorem peek_cases (p : Nat × Nat × Nat) (h : p.2.2 = 0 ∨ (p.1 = 0 ∧ p.2.1 = 0)) : (∃ v n, p = (v, n, 0)) ∨ (∃ e, e ≠ 0 ∧ p = (0, 0, e)) := by
  obtain ⟨a, b, c⟩ := p
  by_cases hc : c = 0
  · subst hc; exact .inl ⟨a, b, rfl⟩
  · simp [hc] at h
    obtain ⟨rfl, rfl⟩ := h
    exact .inr ⟨c, hc, rfl⟩

section
variable {w : World} {b : Nat} {l : List UInt8} {ao : Option Addr} {cap pos wh bad : Nat} (hR : Rd 133 w b l ao cap pos wh bad)
include hR
theorem Rd_drew {w' : World} (h : Drew w w') : Rd 133 w' b l ao cap pos wh bad := hR.keep (h.chg (S := [])) (by simp) (by simp)
theorem peek_ok_calls (hl : l.length ≤ 1099511627776) {v n : Nat} (h : peekS (l.drop pos) = (v, n, 0)) : Calls Try.prog 104 #[.pointer (some ⟨b, 0, none⟩)] w fun e w' => e = .returned (.tuple #[.int .u64 v, .int .i64 (pos + n : Nat), .int .i64 0]) ∧ Drew w w' := by
  refine (peek_calls hR hl).mono fun e w' ⟨he, hw⟩ => ⟨?_, hw⟩
  rw [he, h]; rfl
theorem peek_bad_calls (hl : l.length ≤ 1099511627776) {c : Nat} (hc : c ≠ 0) (h : peekS (l.drop pos) = (0, 0, c)) : Calls Try.prog 104 #[.pointer (some ⟨b, 0, none⟩)] w fun e w' => e = .returned (.tuple #[.int .u64 0, .int .i64 0, .int .i64 c]) ∧ Drew w w' := by
  refine (peek_calls hR hl).mono fun e w' ⟨he, hw⟩ => ⟨?_, hw⟩
  rw [he, h]; unfold peekV; simp [hc]

set_option maxHeartbeats 1000000 in
theorem rshort_calls (hl : l.length ≤ 1099511627776) (most : Nat) :
    Calls Try.prog 84 #[.pointer (some ⟨b, 0, none⟩), .int .u64 most] w (RdPost 133 w b l ao cap (.int .u64 (rShort most l ⟨pos, wh, bad⟩).1) (rShort most l ⟨pos, wh, bad⟩).2) := by
  by_cases hb : bad = 0
  · subst hb
    rcases peek_cases _ (peekF_err 10 0 (l.drop pos)) with ⟨v, n, hp⟩ | ⟨c, hc, hp⟩
    · have hp' : peekS (l.drop pos) = (v, n, 0) := hp
      have hpo := peekS_pos l pos hR.ok (by rw [hp'])
      rw [hp'] at hpo
      by_cases hm : most < v
      · have hs : rShort most l ⟨pos, wh, 0⟩ = (0, ⟨pos, pos, 12⟩) := by unfold rShort; simp [hp', hm, RS.fails]
        rw [hs]
        have HP := hid hp'
        clear hp hp' hs
        go_enter Try.func84, Try.ntmps84
        go_wp2_with (go_at_call 102; refine (wrong_calls hR).mono ?_; rintro e w' ⟨rfl, rfl⟩; refine halt (fun X hX => ?_))
        rw [hX.out]; clear hX
        go_wp2_with (go_at_call 104; refine (peek_ok_calls hR hl HP.out).mono ?_; rintro e w1 ⟨rfl, hd1⟩; refine halt (fun X hX => ?_))
        rw [hX.out]; clear hX
        go_wp2_with (go_at_call 103; refine (fails_calls (Rd_drew hR hd1) 12).mono ?_; rintro e w' ⟨rfl, hR2, hc2⟩)
        go_ret
        exact ⟨rfl, hR2, (hd1.chg (S := [b])).trans' hc2⟩
      · have hs : rShort most l ⟨pos, wh, 0⟩ = (v, ⟨pos + n, wh, 0⟩) := by unfold rShort; simp [hp', hm]
        rw [hs]
        have HP := hid hp'
        clear hp hp' hs
        go_enter Try.func84, Try.ntmps84
        go_wp2_with (go_at_call 102; refine (wrong_calls hR).mono ?_; rintro e w' ⟨rfl, rfl⟩; refine halt (fun X hX => ?_))
        rw [hX.out]; clear hX
        go_wp2_with (go_at_call 104; refine (peek_ok_calls hR hl HP.out).mono ?_; rintro e w1 ⟨rfl, hd1⟩; refine halt (fun X hX => ?_))
        rw [hX.out]; clear hX
        have hR1 := Rd_drew hR hd1
        have h1 := hR1.c1
        have f1 := hR1.fr 1
        go_wp2
        go_ret
        exact ⟨rfl, (hR1.set1 (pos + n) hpo).1, (hd1.chg (S := [b])).trans' (hR1.set1 (pos + n) hpo).2⟩
    · have hp' : peekS (l.drop pos) = (0, 0, c) := hp
      have hs : rShort most l ⟨pos, wh, 0⟩ = (0, ⟨pos, pos, c⟩) := by unfold rShort; simp [hp', hc, RS.fails]
      rw [hs]
      have HP := hid hp'
      clear hp hp' hs
      go_enter Try.func84, Try.ntmps84
      go_wp2_with (go_at_call 102; refine (wrong_calls hR).mono ?_; rintro e w' ⟨rfl, rfl⟩; refine halt (fun X hX => ?_))
      rw [hX.out]; clear hX
      go_wp2_with (go_at_call 104; refine (peek_bad_calls hR hl hc HP.out).mono ?_; rintro e w1 ⟨rfl, hd1⟩; refine halt (fun X hX => ?_))
      rw [hX.out]; clear hX
      go_wp2_with (go_at_call 103; refine (fails_calls (Rd_drew hR hd1) c).mono ?_; rintro e w' ⟨rfl, hR2, hc2⟩)
      go_ret
      exact ⟨rfl, hR2, (hd1.chg (S := [b])).trans' hc2⟩
  · have hs : rShort most l ⟨pos, wh, bad⟩ = (0, ⟨pos, wh, bad⟩) := by unfold rShort; simp [hb]
    rw [hs]
    clear hs
    go_enter Try.func84, Try.ntmps84
    go_wp2_with (go_at_call 102; refine (wrong_calls hR).mono ?_; rintro e w' ⟨rfl, rfl⟩)
    go_ret
    exact ⟨rfl, hR, Chg.refl _ _⟩

set_option maxHeartbeats 400000 in
theorem rsigned_calls (hl : l.length ≤ 1099511627776) :
    Calls Try.prog 49 #[.pointer (some ⟨b, 0, none⟩)] w (RdPost 133 w b l ao cap (.int .i64 (rSigned l ⟨pos, wh, bad⟩).1) (rSigned l ⟨pos, wh, bad⟩).2) := by
  have hu := rShort_U64 18446744073709551615 l ⟨pos, wh, bad⟩
  obtain ⟨v, hv⟩ : ∃ v, rShort 18446744073709551615 l ⟨pos, wh, bad⟩ = v := ⟨_, rfl⟩
  unfold rSigned
  rw [hv] at hu ⊢
  have hz := unzig_i64 hu
  have HV := hid hv
  clear hv hu
  go_enter Try.func49, Try.ntmps49
  go_wp2_with (go_at_call 84; refine (rshort_calls hR hl 18446744073709551615).mono ?_; rw [HV.out]; rintro e w1 ⟨rfl, hR2, hc2⟩)
  go_ret
  exact ⟨rfl, hR2, hc2⟩

end
end Go.Proofs.Ytbikekgljabalaa

/- Walks of the wire layer: the reader's texts. -/
namespace Go.Proofs.Ytbikekgljabalaa
open Go.RowKit Go.AB
def strB (l : List UInt8) : Value := .string ⟨l.toArray⟩
theorem wrap_u64_nat {n : Nat} (h : U64 n) : IntKind.u64.wrap (n : Int) = (n : Int) := by have := h.out; rw [IntKind.wrap_u64]; omega
section
variable {w : World} {b : Nat} {l : List UInt8} {ao : Option Addr} {cap pos wh bad : Nat}
set_option maxHeartbeats 1000000 in
set_option maxRecDepth 100000 in
theorem rtext_err (hR : Rd 133 w b l ao cap pos wh 0) (hl : l.length ≤ 1099511627776) {c : Nat} (hc : c ≠ 0) (hp : Hid (peekS (l.drop pos) = (0, 0, c))) (most : Int) : Calls Try.prog 85 #[.pointer (some ⟨b, 0, none⟩), .int .i64 most] w (RdPost 133 w b l ao cap (strB []) ⟨pos, pos, c⟩) := by
  go_enter Try.func85, Try.ntmps85
  go_wp2_with (go_at_call 102; refine (wrong_calls hR).mono ?_; rintro e w' ⟨rfl, rfl⟩; refine halt (fun X hX => ?_))
  rw [hX.out]; clear hX
  go_wp2_with (go_at_call 104; refine (peek_bad_calls hR hl hc hp.out).mono ?_; rintro e w1 ⟨rfl, hd1⟩; refine halt (fun X hX => ?_))
  rw [hX.out]; clear hX
  go_wp2_with (go_at_call 103; refine (fails_calls (Rd_drew hR hd1) c).mono ?_; rintro e w' ⟨rfl, hR2, hc2⟩)
  go_ret
  exact ⟨rfl, hR2, (hd1.chg (S := [b])).trans' hc2⟩
set_option maxHeartbeats 1000000 in
set_option maxRecDepth 100000 in
theorem rtext_over_p (hR : Rd 133 w b l ao cap pos wh 0) (hl : l.length ≤ 1099511627776) {v n : Nat} (hp : Hid (peekS (l.drop pos) = (v, n, 0))) (m : Nat) (hmu : U64 m) (hm0 : 0 < m) (hm : m < v) : Calls Try.prog 85 #[.pointer (some ⟨b, 0, none⟩), .int .i64 m] w (RdPost 133 w b l ao cap (strB []) ⟨pos, pos, 12⟩) := by
  have hw := wrap_u64_nat hmu
  have hm0 : 0 < m := hm0
  go_enter Try.func85, Try.ntmps85
  go_wp2_with (go_at_call 102; refine (wrong_calls hR).mono ?_; rintro e w' ⟨rfl, rfl⟩; refine halt (fun X hX => ?_))
  rw [hX.out]; clear hX
  go_wp2_with (go_at_call 104; refine (peek_ok_calls hR hl hp.out).mono ?_; rintro e w1 ⟨rfl, hd1⟩; refine halt (fun X hX => ?_))
  rw [hX.out]; clear hX
  go_wp2_with (go_at_call 103; refine (fails_calls (Rd_drew hR hd1) 12).mono ?_; rintro e w' ⟨rfl, hR2, hc2⟩)
  go_ret
  exact ⟨rfl, hR2, (hd1.chg (S := [b])).trans' hc2⟩
set_option maxHeartbeats 1000000 in
set_option maxRecDepth 100000 in
theorem rtext_long_p (hR : Rd 133 w b l ao cap pos wh 0) (hl : l.length ≤ 1099511627776) {v n : Nat} (hp : Hid (peekS (l.drop pos) = (v, n, 0))) (hpo : pos + n ≤ l.length) (m : Nat) (hmu : U64 m) (hm0 : 0 < m) (hm : v ≤ m) (hlong : l.length - (pos + n) < v) : Calls Try.prog 85 #[.pointer (some ⟨b, 0, none⟩), .int .i64 m] w (RdPost 133 w b l ao cap (strB []) ⟨pos, pos, 10⟩) := by
  have hw := wrap_u64_nat hmu
  have hm0 : 0 < m := hm0
  have hw2 : IntKind.u64.wrap ((l.length : Int) - ((pos : Int) + (n : Int))) = ((l.length - (pos + n) : Nat) : Int) := by rw [IntKind.wrap_u64]; omega
  go_enter Try.func85, Try.ntmps85
  go_wp2_with (go_at_call 102; refine (wrong_calls hR).mono ?_; rintro e w' ⟨rfl, rfl⟩; refine halt (fun X hX => ?_))
  rw [hX.out]; clear hX
  go_wp2_with (go_at_call 104; refine (peek_ok_calls hR hl hp.out).mono ?_; rintro e w1 ⟨rfl, hd1⟩; refine halt (fun X hX => ?_))
  rw [hX.out]; clear hX
  have h0 := (Rd_drew hR hd1).c0
  go_wp2_with (go_at_call 103; refine (fails_calls (Rd_drew hR hd1) 10).mono ?_; rintro e w' ⟨rfl, hR2, hc2⟩)
  go_ret
  exact ⟨rfl, hR2, (hd1.chg (S := [b])).trans' hc2⟩
set_option maxHeartbeats 1000000 in
set_option maxRecDepth 100000 in
theorem rtext_none_p (hR : Rd 133 w b l ao cap pos wh 0) (hl : l.length ≤ 1099511627776) {n : Nat} (hp : Hid (peekS (l.drop pos) = (0, n, 0))) (hpo : pos + n ≤ l.length) (m : Nat) (hmu : U64 m) (hm0 : 0 < m) : Calls Try.prog 85 #[.pointer (some ⟨b, 0, none⟩), .int .i64 m] w (RdPost 133 w b l ao cap (strB []) ⟨pos + n, wh, 0⟩) := by
  have hw := wrap_u64_nat hmu
  have hm0 : 0 < m := hm0
  have _hw2 : IntKind.u64.wrap ((l.length : Int) - ((pos : Int) + (n : Int))) = ((l.length - (pos + n) : Nat) : Int) := by rw [IntKind.wrap_u64]; omega
  go_enter Try.func85, Try.ntmps85
  go_wp2_with (go_at_call 102; refine (wrong_calls hR).mono ?_; rintro e w' ⟨rfl, rfl⟩; refine halt (fun X hX => ?_))
  rw [hX.out]; clear hX
  go_wp2_with (go_at_call 104; refine (peek_ok_calls hR hl hp.out).mono ?_; rintro e w1 ⟨rfl, hd1⟩; refine halt (fun X hX => ?_))
  rw [hX.out]; clear hX
  have hR1 := Rd_drew hR hd1
  have h0 := hR1.c0
  have h1 := hR1.c1
  have f1 := hR1.fr 1
  obtain ⟨hset, hcset⟩ := hR1.set1 (pos + n) hpo
  have hcv : ∀ (k : Nat) (ad : Option Addr) (c : Nat), (convert 29 9 (.slice ad 0 c)).run Try.prog ((w1.setCell ⟨b, 1, none⟩ (.int .i64 ((pos : Int) + (n : Int)))).drewN k) = .ok (strB []) ((w1.setCell ⟨b, 1, none⟩ (.int .i64 ((pos : Int) + (n : Int)))).drewN k) := fun k ad c =>
    run_conv_empty Try.underlying29 Try.underlying5 Try.underlying9 _ _ _
  have hcap := hR1.view.2.2
  have hcap : l.length ≤ cap := by
    obtain ⟨_, _, h1, h2, _⟩ := hcap
    simp only [Value.slice.injEq, true_and] at h1
    obtain ⟨rfl, rfl⟩ := h1
    exact h2
  by_cases hcp : cap = pos + n
  all_goals
    go_wp2
    go_quiet (fail)
    go_wp2
    go_ret
    exact ⟨rfl, Rd_drew hset Drew.refl, ((hd1.chg (S := [b])).trans' hcset).trans' (Chg.of_drewN _ _ _)⟩
set_option maxHeartbeats 1000000 in
set_option maxRecDepth 100000 in
theorem rtext_ok_p (hR : Rd 133 w b l ao cap pos wh 0) (hl : l.length ≤ 1099511627776) {v n : Nat} (hp : Hid (peekS (l.drop pos) = (v, n, 0))) (hpo : pos + n ≤ l.length) (m : Nat) (hmu : U64 m) (hm0 : 0 < m) (hm : v ≤ m) (hfit : pos + n + v ≤ l.length) (hvp : 0 < v) : Calls Try.prog 85 #[.pointer (some ⟨b, 0, none⟩), .int .i64 m] w (RdPost 133 w b l ao cap (strB ((l.drop (pos + n)).take v)) ⟨pos + n + v, wh, 0⟩) := by
  have hw := wrap_u64_nat hmu
  have hm0 : 0 < m := hm0
  have hw2 : IntKind.u64.wrap ((l.length : Int) - ((pos : Int) + (n : Int))) = ((l.length - (pos + n) : Nat) : Int) := by rw [IntKind.wrap_u64]; omega
  go_enter Try.func85, Try.ntmps85
  go_wp2_with (go_at_call 102; refine (wrong_calls hR).mono ?_; rintro e w' ⟨rfl, rfl⟩; refine halt (fun X hX => ?_))
  rw [hX.out]; clear hX
  go_wp2_with (go_at_call 104; refine (peek_ok_calls hR hl hp.out).mono ?_; rintro e w1 ⟨rfl, hd1⟩; refine halt (fun X hX => ?_))
  rw [hX.out]; clear hX
  have hR1 := Rd_drew hR hd1
  have h0 := hR1.c0
  have h1 := hR1.c1
  have f1 := hR1.fr 1
  obtain ⟨hset, hcset⟩ := hR1.set1 (pos + n + v) hfit
  obtain ⟨_, _, ao', cap', hao, hlc, hcm, _, hcells⟩ := hR1.view
  simp only [Value.slice.injEq, true_and] at hao
  obtain ⟨rfl, rfl⟩ := hao
  obtain ⟨bb, off, rfl, hc⟩ := hcells (by omega)
  have hbb : bb ≠ b := hR1.ne bb rfl
  have hvw : View w1 1 (.slice (some ⟨bb, off + (pos + n), none⟩) v (cap - (pos + n))) v (((l.drop (pos + n)).take v).map B) :=
    View.part ⟨by simp, by omega, hc⟩ (by omega) (by omega) (by omega)
  have hcv : ∀ k : Nat, (convert 29 9 (.slice (some ⟨bb, off + (pos + n), none⟩) v (cap - (pos + n)))).run Try.prog ((w1.setCell ⟨b, 1, none⟩ (.int .i64 ((pos : Int) + (n : Int) + (v : Int)))).drewN k) = .ok (strB ((l.drop (pos + n)).take v)) ((w1.setCell ⟨b, 1, none⟩ (.int .i64 ((pos : Int) + (n : Int) + (v : Int)))).drewN k) := fun k =>
    run_conv_view Try.underlying29 Try.underlying5 Try.underlying9 (w := w1.setCell ⟨b, 1, none⟩ (.int .i64 ((pos : Int) + (n : Int) + (v : Int)))) (hvw.keep hcset (by intro g hg; cases hg; simpa using hbb)) _ rfl
  clear hcells hc
  go_wp2
  go_quiet (fail)
  go_wp2
  go_ret
  exact ⟨rfl, Rd_drew hset Drew.refl, ((hd1.chg (S := [b])).trans' hcset).trans' (Chg.of_drewN _ _ _)⟩
set_option maxHeartbeats 1000000 in
set_option maxRecDepth 100000 in
theorem rtext_over_n (hR : Rd 133 w b l ao cap pos wh 0) (hl : l.length ≤ 1099511627776) {v n : Nat} (hp : Hid (peekS (l.drop pos) = (v, n, 0))) (most : Int) (hm0 : ¬ 0 < most) (hm : 0 < v) : Calls Try.prog 85 #[.pointer (some ⟨b, 0, none⟩), .int .i64 most] w (RdPost 133 w b l ao cap (strB []) ⟨pos, pos, 12⟩) := by
  have hw0 : IntKind.u64.wrap 0 = 0 := by decide
  go_enter Try.func85, Try.ntmps85
  go_wp2_with (go_at_call 102; refine (wrong_calls hR).mono ?_; rintro e w' ⟨rfl, rfl⟩; refine halt (fun X hX => ?_))
  rw [hX.out]; clear hX
  go_wp2_with (go_at_call 104; refine (peek_ok_calls hR hl hp.out).mono ?_; rintro e w1 ⟨rfl, hd1⟩; refine halt (fun X hX => ?_))
  rw [hX.out]; clear hX
  go_wp2_with (go_at_call 103; refine (fails_calls (Rd_drew hR hd1) 12).mono ?_; rintro e w' ⟨rfl, hR2, hc2⟩)
  go_ret
  exact ⟨rfl, hR2, (hd1.chg (S := [b])).trans' hc2⟩
set_option maxHeartbeats 1000000 in
set_option maxRecDepth 100000 in
theorem rtext_none_n (hR : Rd 133 w b l ao cap pos wh 0) (hl : l.length ≤ 1099511627776) {n : Nat} (hp : Hid (peekS (l.drop pos) = (0, n, 0))) (hpo : pos + n ≤ l.length) (most : Int) (hm0 : ¬ 0 < most) : Calls Try.prog 85 #[.pointer (some ⟨b, 0, none⟩), .int .i64 most] w (RdPost 133 w b l ao cap (strB []) ⟨pos + n, wh, 0⟩) := by
  have hw0 : IntKind.u64.wrap 0 = 0 := by decide
  have _hw2 : IntKind.u64.wrap ((l.length : Int) - ((pos : Int) + (n : Int))) = ((l.length - (pos + n) : Nat) : Int) := by rw [IntKind.wrap_u64]; omega
  go_enter Try.func85, Try.ntmps85
  go_wp2_with (go_at_call 102; refine (wrong_calls hR).mono ?_; rintro e w' ⟨rfl, rfl⟩; refine halt (fun X hX => ?_))
  rw [hX.out]; clear hX
  go_wp2_with (go_at_call 104; refine (peek_ok_calls hR hl hp.out).mono ?_; rintro e w1 ⟨rfl, hd1⟩; refine halt (fun X hX => ?_))
  rw [hX.out]; clear hX
  have hR1 := Rd_drew hR hd1
  have h0 := hR1.c0
  have h1 := hR1.c1
  have f1 := hR1.fr 1
  obtain ⟨hset, hcset⟩ := hR1.set1 (pos + n) hpo
  have hcv : ∀ (k : Nat) (ad : Option Addr) (c : Nat), (convert 29 9 (.slice ad 0 c)).run Try.prog ((w1.setCell ⟨b, 1, none⟩ (.int .i64 ((pos : Int) + (n : Int)))).drewN k) = .ok (strB []) ((w1.setCell ⟨b, 1, none⟩ (.int .i64 ((pos : Int) + (n : Int)))).drewN k) := fun k ad c =>
    run_conv_empty Try.underlying29 Try.underlying5 Try.underlying9 _ _ _
  have hcap := hR1.view.2.2
  have hcap : l.length ≤ cap := by
    obtain ⟨_, _, h1, h2, _⟩ := hcap
    simp only [Value.slice.injEq, true_and] at h1
    obtain ⟨rfl, rfl⟩ := h1
    exact h2
  by_cases hcp : cap = pos + n
  all_goals
    go_wp2
    go_quiet (fail)
    go_wp2
    go_ret
    exact ⟨rfl, Rd_drew hset Drew.refl, ((hd1.chg (S := [b])).trans' hcset).trans' (Chg.of_drewN _ _ _)⟩

theorem rtext_bad (hR : Rd 133 w b l ao cap pos wh bad) (hb : bad ≠ 0) (most : Int) : Calls Try.prog 85 #[.pointer (some ⟨b, 0, none⟩), .int .i64 most] w (RdPost 133 w b l ao cap (strB []) ⟨pos, wh, bad⟩) := by
  go_enter Try.func85, Try.ntmps85
  go_wp2_with (go_at_call 102; refine (wrong_calls hR).mono ?_; rintro e w' ⟨rfl, rfl⟩)
  go_ret
  exact ⟨rfl, hR, Chg.refl _ _⟩
theorem rtext_calls (hR : Rd 133 w b l ao cap pos wh bad) (hl : l.length ≤ 1099511627776) (most : Int) (hmost : I64 most) :
    Calls Try.prog 85 #[.pointer (some ⟨b, 0, none⟩), .int .i64 most] w (RdPost 133 w b l ao cap (strB (rText most l ⟨pos, wh, bad⟩).1) (rText most l ⟨pos, wh, bad⟩).2) := by
  by_cases hb : bad = 0
  · subst hb
    rcases peek_cases _ (peekF_err 10 0 (l.drop pos)) with ⟨v, n, hp⟩ | ⟨c, hc, hp⟩
    · have hp' : peekS (l.drop pos) = (v, n, 0) := hp
      have hpo := peekS_pos l pos hR.ok (by rw [hp'])
      rw [hp'] at hpo
      have hpo : pos + n ≤ l.length := hpo
      by_cases hm : most.toNat < v
      · have hs : rText most l ⟨pos, wh, 0⟩ = ([], ⟨pos, pos, 12⟩) := by unfold rText; simp [hp', hm, RS.fails]
        rw [hs]
        by_cases hm0 : 0 < most
        · obtain ⟨m, rfl⟩ := Int.eq_ofNat_of_zero_le (show 0 ≤ most by omega)
          exact rtext_over_p hR hl (hid hp') m (by unfold I64 at hmost; unfold U64; omega) (by omega) (by simpa using hm)
        · exact rtext_over_n hR hl (hid hp') most hm0 (by omega)
      · by_cases hlong : l.length - (pos + n) < v
        · have hs : rText most l ⟨pos, wh, 0⟩ = ([], ⟨pos, pos, 10⟩) := by unfold rText; simp [hp', hm, hlong, RS.fails]
          rw [hs]
          by_cases hm0 : 0 < most
          · obtain ⟨m, rfl⟩ := Int.eq_ofNat_of_zero_le (show 0 ≤ most by omega)
            exact rtext_long_p hR hl (hid hp') hpo m (by unfold I64 at hmost; unfold U64; omega) (by omega) (by simpa using hm) hlong
          · exact absurd hm (by omega)
        · have hs : rText most l ⟨pos, wh, 0⟩ = ((l.drop (pos + n)).take v, ⟨pos + n + v, wh, 0⟩) := by unfold rText; simp [hp', hm, hlong]
          rw [hs]
          rcases Nat.eq_zero_or_pos v with hv0 | hvp
          · subst hv0
            rw [List.take_zero]
            by_cases hm0 : 0 < most
            · obtain ⟨m, rfl⟩ := Int.eq_ofNat_of_zero_le (show 0 ≤ most by omega)
              exact rtext_none_p hR hl (hid hp') hpo m (by unfold I64 at hmost; unfold U64; omega) (by omega)
            · exact rtext_none_n hR hl (hid hp') hpo most hm0
          · by_cases hm0 : 0 < most
            · obtain ⟨m, rfl⟩ := Int.eq_ofNat_of_zero_le (show 0 ≤ most by omega)
              exact rtext_ok_p hR hl (hid hp') hpo m (by unfold I64 at hmost; unfold U64; omega) (by omega) (by simpa using hm) (by omega) hvp
            · exact absurd hm (by omega)
    · have hp' : peekS (l.drop pos) = (0, 0, c) := hp
      have hs : rText most l ⟨pos, wh, 0⟩ = ([], ⟨pos, pos, c⟩) := by unfold rText; simp [hp', hc, RS.fails]
      rw [hs]
      exact rtext_err hR hl hc (hid hp') most
  · have hs : rText most l ⟨pos, wh, bad⟩ = ([], ⟨pos, wh, bad⟩) := by unfold rText; simp [hb]
    rw [hs]
    exact rtext_bad hR hb most
end
end Go.Proofs.Ytbikekgljabalaa

/- Walks of the wire layer: numbers of fixed width taken. -/
namespace Go.Proofs.Ytbikekgljabalaa
open Go.RowKit Go.AB

section
variable {w : World} {b : Nat} {l : List UInt8} {ao : Option Addr} {cap pos wh bad : Nat}
theorem take_u8_bad (hR : Rd 133 w b l ao cap pos wh bad) (hb : bad ≠ 0) : Calls Try.prog 105 #[.pointer (some ⟨b, 0, none⟩)] w (RdPost 133 w b l ao cap (.int .u8 0) ⟨pos, wh, bad⟩) := by
  go_enter Try.func105, Try.ntmps105
  go_wp2_with (go_at_call 102; refine (wrong_calls hR).mono ?_; rintro e w' ⟨rfl, rfl⟩)
  go_ret
  exact ⟨rfl, hR, Chg.refl _ _⟩
set_option maxHeartbeats 1000000 in
set_option maxRecDepth 100000 in
theorem take_u8_short (hR : Rd 133 w b l ao cap pos wh 0) (hl : l.length ≤ 1099511627776) (hs : l.length - pos < 1) : Calls Try.prog 105 #[.pointer (some ⟨b, 0, none⟩)] w (RdPost 133 w b l ao cap (.int .u8 0) ⟨pos, pos, 10⟩) := by
  have h0 := hR.c0
  have h1 := hR.c1
  have hok := hR.ok
  have hR' := fun n => hR.keep (Chg.of_drewN [] w n) (by simp) (by simp)
  go_enter Try.func105, Try.ntmps105
  go_wp2_with (first | (go_at_call 102; refine (wrong_calls hR).mono ?_; rintro e w' ⟨rfl, rfl⟩) | (go_at_call 99; refine (width_u8 _).mono ?_; rintro e w' ⟨rfl, rfl⟩))
  go_quiet (fail)
  go_wp2_with (go_at_call 103; refine (fails_calls (hR' _) 10).mono ?_; rintro e w' ⟨rfl, hR2, hc2⟩)
  go_ret
  exact ⟨rfl, hR2, (Chg.of_drewN _ _ _).trans' hc2⟩
set_option maxHeartbeats 2000000 in
set_option maxRecDepth 100000 in
theorem take_u8_ok (hR : Rd 133 w b l ao cap pos wh 0) (hl : l.length ≤ 1099511627776) (hs : pos + 1 ≤ l.length) : Calls Try.prog 105 #[.pointer (some ⟨b, 0, none⟩)] w (RdPost 133 w b l ao cap (.int .u8 ((leNat ((l.drop pos).take 1) : Nat) : Int)) ⟨pos + 1, wh, 0⟩) := by
  have h0 := hR.c0
  have h1 := hR.c1
  have f1 := hR.fr 1
  obtain ⟨hset, hcset⟩ := hR.set1 (pos + 1) hs
  obtain ⟨_, _, ao', cap', hao, hlc, hcm, _, hcells⟩ := hR.view
  simp only [Value.slice.injEq, true_and] at hao
  obtain ⟨rfl, rfl⟩ := hao
  obtain ⟨bb, off, rfl, hc⟩ := hcells (by omega)
  have hbb : bb ≠ b := hR.ne bb rfl
  have hdr : (l.drop pos).take 1 = [l[pos]] := by
    apply List.ext_getElem
    · simp; omega
    · intro i h1 h2
      simp at h2
      match i, h2 with
      | 0, _ => simp
  rw [hdr]
  clear hdr
  have x0 : w.cell? ⟨bb, off + pos, none⟩ = some (.int .u8 (l[pos].toNat : Int)) := (hc (pos) (by omega)).trans (by simp [List.getD, show pos < l.length by omega, B])
  obtain ⟨b0, hb0⟩ : ∃ u, l[pos] = u := ⟨_, rfl⟩
  rw [hb0] at x0 ⊢
  clear hb0 hc hcells
  go_enter Try.func105, Try.ntmps105
  go_wp2_with (first | (go_at_call 102; refine (wrong_calls hR).mono ?_; rintro e w' ⟨rfl, rfl⟩) | (go_at_call 99; refine (width_u8 _).mono ?_; rintro e w' ⟨rfl, rfl⟩))
  go_quiet (fail)
  go_wp2
  go_quiet (fail)
  go_wp2


  go_ret
  refine ⟨?_, hset.same rfl, hcset.same rfl rfl rfl rfl⟩
  exact (congrArg (fun z => Ending.returned (.int .u8 (z % 256))) (le1 b0)).trans (congrArg (fun z => Ending.returned (.int .u8 z)) (leNat_lt1 b0))
end

section
variable {w : World} {b : Nat} {l : List UInt8} {ao : Option Addr} {cap pos wh bad : Nat}
end

section
variable {w : World} {b : Nat} {l : List UInt8} {ao : Option Addr} {cap pos wh bad : Nat}
theorem take_u32_bad (hR : Rd 133 w b l ao cap pos wh bad) (hb : bad ≠ 0) : Calls Try.prog 83 #[.pointer (some ⟨b, 0, none⟩)] w (RdPost 133 w b l ao cap (.int .u32 0) ⟨pos, wh, bad⟩) := by
  go_enter Try.func83, Try.ntmps83
  go_wp2_with (go_at_call 102; refine (wrong_calls hR).mono ?_; rintro e w' ⟨rfl, rfl⟩)
  go_ret
  exact ⟨rfl, hR, Chg.refl _ _⟩
set_option maxHeartbeats 1000000 in
set_option maxRecDepth 100000 in
theorem take_u32_short (hR : Rd 133 w b l ao cap pos wh 0) (hl : l.length ≤ 1099511627776) (hs : l.length - pos < 4) : Calls Try.prog 83 #[.pointer (some ⟨b, 0, none⟩)] w (RdPost 133 w b l ao cap (.int .u32 0) ⟨pos, pos, 10⟩) := by
  have h0 := hR.c0
  have h1 := hR.c1
  have hok := hR.ok
  have hR' := fun n => hR.keep (Chg.of_drewN [] w n) (by simp) (by simp)
  go_enter Try.func83, Try.ntmps83
  go_wp2_with (first | (go_at_call 102; refine (wrong_calls hR).mono ?_; rintro e w' ⟨rfl, rfl⟩) | (go_at_call 100; refine (width_u32 _).mono ?_; rintro e w' ⟨rfl, rfl⟩))
  go_quiet (fail)
  go_wp2_with (go_at_call 103; refine (fails_calls (hR' _) 10).mono ?_; rintro e w' ⟨rfl, hR2, hc2⟩)
  go_ret
  exact ⟨rfl, hR2, (Chg.of_drewN _ _ _).trans' hc2⟩
set_option maxHeartbeats 2000000 in
set_option maxRecDepth 100000 in
theorem take_u32_ok (hR : Rd 133 w b l ao cap pos wh 0) (hl : l.length ≤ 1099511627776) (hs : pos + 4 ≤ l.length) : Calls Try.prog 83 #[.pointer (some ⟨b, 0, none⟩)] w (RdPost 133 w b l ao cap (.int .u32 ((leNat ((l.drop pos).take 4) : Nat) : Int)) ⟨pos + 4, wh, 0⟩) := by
  have h0 := hR.c0
  have h1 := hR.c1
  have f1 := hR.fr 1
  obtain ⟨hset, hcset⟩ := hR.set1 (pos + 4) hs
  obtain ⟨_, _, ao', cap', hao, hlc, hcm, _, hcells⟩ := hR.view
  simp only [Value.slice.injEq, true_and] at hao
  obtain ⟨rfl, rfl⟩ := hao
  obtain ⟨bb, off, rfl, hc⟩ := hcells (by omega)
  have hbb : bb ≠ b := hR.ne bb rfl
  have hdr : (l.drop pos).take 4 = [l[pos], l[pos + 1], l[pos + 2], l[pos + 3]] := by
    apply List.ext_getElem
    · simp; omega
    · intro i h1 h2
      simp at h2
      match i, h2 with
      | 0, _ | 1, _ | 2, _ | 3, _ => simp
  rw [hdr]
  clear hdr
  have x0 : w.cell? ⟨bb, off + pos, none⟩ = some (.int .u8 (l[pos].toNat : Int)) := (hc (pos) (by omega)).trans (by simp [List.getD, show pos < l.length by omega, B])
  have x1 : w.cell? ⟨bb, off + pos + 1, none⟩ = some (.int .u8 (l[pos + 1].toNat : Int)) := (hc (pos + 1) (by omega)).trans (by simp [List.getD, show pos + 1 < l.length by omega, B])
  have x2 : w.cell? ⟨bb, off + pos + 2, none⟩ = some (.int .u8 (l[pos + 2].toNat : Int)) := (hc (pos + 2) (by omega)).trans (by simp [List.getD, show pos + 2 < l.length by omega, B])
  have x3 : w.cell? ⟨bb, off + pos + 3, none⟩ = some (.int .u8 (l[pos + 3].toNat : Int)) := (hc (pos + 3) (by omega)).trans (by simp [List.getD, show pos + 3 < l.length by omega, B])
  obtain ⟨b0, hb0⟩ : ∃ u, l[pos] = u := ⟨_, rfl⟩
  rw [hb0] at x0 ⊢
  obtain ⟨b1, hb1⟩ : ∃ u, l[pos + 1] = u := ⟨_, rfl⟩
  rw [hb1] at x1 ⊢
  obtain ⟨b2, hb2⟩ : ∃ u, l[pos + 2] = u := ⟨_, rfl⟩
  rw [hb2] at x2 ⊢
  obtain ⟨b3, hb3⟩ : ∃ u, l[pos + 3] = u := ⟨_, rfl⟩
  rw [hb3] at x3 ⊢
  clear hb0 hb1 hb2 hb3 hc hcells
  go_enter Try.func83, Try.ntmps83
  go_wp2_with (first | (go_at_call 102; refine (wrong_calls hR).mono ?_; rintro e w' ⟨rfl, rfl⟩) | (go_at_call 100; refine (width_u32 _).mono ?_; rintro e w' ⟨rfl, rfl⟩))
  go_quiet (fail)
  go_wp2
  go_quiet (fail)
  go_wp2
  go_quiet (fail)
  go_wp2

  go_ret
  refine ⟨?_, hset.same rfl, hcset.same rfl rfl rfl rfl⟩
  exact (congrArg (fun z => Ending.returned (.int .u32 (z % 4294967296))) (le4 b0 b1 b2 b3)).trans (congrArg (fun z => Ending.returned (.int .u32 z)) (leNat_lt4 b0 b1 b2 b3))
end

section
variable {w : World} {b : Nat} {l : List UInt8} {ao : Option Addr} {cap pos wh bad : Nat}
end

section
variable {w : World} {b : Nat} {l : List UInt8} {ao : Option Addr} {cap pos wh bad : Nat}
end

section
variable {w : World} {b : Nat} {l : List UInt8} {ao : Option Addr} {cap pos wh bad : Nat}
end

section
variable {w : World} {b : Nat} {l : List UInt8} {ao : Option Addr} {cap pos wh bad : Nat}
end

section
variable {w : World} {b : Nat} {l : List UInt8} {ao : Option Addr} {cap pos wh bad : Nat}
end

theorem take_u8_calls {w : World} {b : Nat} {l : List UInt8} {ao : Option Addr} {cap pos wh bad : Nat} (hR : Rd 133 w b l ao cap pos wh bad) (hl : l.length ≤ 1099511627776) :
    Calls Try.prog 105 #[.pointer (some ⟨b, 0, none⟩)] w (RdPost 133 w b l ao cap (.int .u8 (((rFixed 1 l ⟨pos, wh, bad⟩).1 : Int))) (rFixed 1 l ⟨pos, wh, bad⟩).2) := by
  have hz : ((0 : Nat) : Int) = 0 := rfl
  by_cases hb : bad = 0
  · subst hb
    by_cases hs : l.length - pos < 1
    · have he : rFixed 1 l ⟨pos, wh, 0⟩ = (0, ⟨pos, pos, 10⟩) := by unfold rFixed; simp [hs, RS.fails]
      rw [he]
      simp only [hz]
      exact take_u8_short hR hl hs
    · have hok := hR.ok
      have he : rFixed 1 l ⟨pos, wh, 0⟩ = (leNat ((l.drop pos).take 1), ⟨pos + 1, wh, 0⟩) := by unfold rFixed; simp [hs]
      rw [he]
      exact take_u8_ok hR hl (by omega)
  · have he : rFixed 1 l ⟨pos, wh, bad⟩ = (0, ⟨pos, wh, bad⟩) := by unfold rFixed; simp [hb]
    rw [he]
    simp only [hz]
    exact take_u8_bad hR hb

theorem take_u32_calls {w : World} {b : Nat} {l : List UInt8} {ao : Option Addr} {cap pos wh bad : Nat} (hR : Rd 133 w b l ao cap pos wh bad) (hl : l.length ≤ 1099511627776) :
    Calls Try.prog 83 #[.pointer (some ⟨b, 0, none⟩)] w (RdPost 133 w b l ao cap (.int .u32 (((rFixed 4 l ⟨pos, wh, bad⟩).1 : Int))) (rFixed 4 l ⟨pos, wh, bad⟩).2) := by
  have hz : ((0 : Nat) : Int) = 0 := rfl
  by_cases hb : bad = 0
  · subst hb
    by_cases hs : l.length - pos < 4
    · have he : rFixed 4 l ⟨pos, wh, 0⟩ = (0, ⟨pos, pos, 10⟩) := by unfold rFixed; simp [hs, RS.fails]
      rw [he]
      simp only [hz]
      exact take_u32_short hR hl hs
    · have hok := hR.ok
      have he : rFixed 4 l ⟨pos, wh, 0⟩ = (leNat ((l.drop pos).take 4), ⟨pos + 4, wh, 0⟩) := by unfold rFixed; simp [hs]
      rw [he]
      exact take_u32_ok hR hl (by omega)
  · have he : rFixed 4 l ⟨pos, wh, bad⟩ = (0, ⟨pos, wh, bad⟩) := by unfold rFixed; simp [hb]
    rw [he]
    simp only [hz]
    exact take_u32_bad hR hb

end Go.Proofs.Ytbikekgljabalaa

/- Walks of the wire layer: a new reader; whether all was taken. -/
namespace Go.Proofs.Ytbikekgljabalaa
open Go.RowKit Go.AB

/-- A new reader of the bytes l, in new memory. -/
def NewRd (T : Nat) (w : World) (l : List UInt8) (e : Ending) (w' : World) : Prop :=
  ∃ b l' ao cap, e = .returned (.pointer (some ⟨b, 0, none⟩)) ∧ Rd T w' b l' ao cap 0 0 0 ∧ w.heap.size ≤ b ∧ (∀ g, (Value.slice ao l'.length cap).ownBlock = some g → w.heap.size ≤ g ∧ g < w'.heap.size) ∧ Chg [] w w' ∧ Hid (l' = l)

set_option maxHeartbeats 400000 in
theorem newReader_calls (v : Value) (l : List UInt8) (w : World) (hv : Bytes w v l) (hl : l.length ≤ 1099511627776) :
    Calls Try.prog 44 #[v] w (NewRd 133 w l) := by
  go_enter Try.func44, Try.ntmps44
  go_wp2_with (go_at_call 81; refine (clone_calls _ _ _ hv hl).mono ?_; rintro e w1 ⟨l2, ao, cap, r2, rfl, hrow2, hfr2, hch2, HL2⟩)
  go_ret
  have hca := (Chg.refl [] w1).alloc (.cells #[.slice ao l2.length cap, .int .i64 0, .int .i64 0, .int .i64 0] 133)
  have hown : ∀ g, (Value.slice ao l2.length cap).ownBlock = some g → w.heap.size ≤ g ∧ g < w1.heap.size := fun g hg =>
    ⟨(hfr2 g (hrow2.blk.symm.trans hg)).resolve_left (by simp), hrow2.lt g (hrow2.blk.symm.trans hg)⟩
  exact ⟨w1.heap.size, l2, ao, cap, rfl, ⟨heap_alloc_new w1 _, (hrow2.keep hca (by simp)).view, fun g hg e => by have := (hown g hg).2; omega, Nat.zero_le _⟩, hch2.size, fun g hg => ⟨(hown g hg).1, by have := (hown g hg).2; simp; omega⟩, hch2.trans' hca, HL2⟩

section
variable {w : World} {b : Nat} {l : List UInt8} {ao : Option Addr} {cap pos wh bad : Nat} (hR : Rd 133 w b l ao cap pos wh bad)
include hR
set_option maxHeartbeats 1000000 in
theorem end_calls : Calls Try.prog 51 #[.pointer (some ⟨b, 0, none⟩)] w fun e w' => e = .returned (.int .i64 (rEnd l ⟨pos, wh, bad⟩)) ∧ Drew w w' := by
  have h0 := hR.c0
  have h1 := hR.c1
  by_cases hb : bad = 0
  · subst hb
    by_cases hlt : pos < l.length
    · have he : rEnd l ⟨pos, wh, 0⟩ = 13 := by unfold rEnd; simp [hlt]
      rw [he]
      clear he
      go_enter Try.func51, Try.ntmps51
      go_wp2_with (go_at_call 86; refine (fault_calls hR).mono ?_; rintro e w1 ⟨rfl, n, rfl⟩)
      go_quiet (fail)
      go_wp2
      go_ret
      exact ⟨rfl, (by first | exact Drew.refl | exact Drew.refl.trans Drew.refl)⟩
    · have he : rEnd l ⟨pos, wh, 0⟩ = 0 := by unfold rEnd; simp [hlt]
      rw [he]
      clear he
      go_enter Try.func51, Try.ntmps51
      go_wp2_with (go_at_call 86; refine (fault_calls hR).mono ?_; rintro e w1 ⟨rfl, n, rfl⟩)
      go_quiet (fail)
      go_wp2
      go_ret
      exact ⟨rfl, (by first | exact Drew.refl | exact Drew.refl.trans Drew.refl)⟩
  · have he : rEnd l ⟨pos, wh, bad⟩ = bad := by unfold rEnd; simp [hb]
    rw [he]
    clear he
    go_enter Try.func51, Try.ntmps51
    go_wp2_with (go_at_call 86; refine (fault_calls hR).mono ?_; rintro e w1 ⟨rfl, n, rfl⟩)
    go_quiet (fail)
    go_wp2
    go_ret
    exact ⟨rfl, (by first | exact Drew.refl | exact Drew.refl.trans Drew.refl)⟩
end
end Go.Proofs.Ytbikekgljabalaa

/- Walks of the wire layer: the law's numbers of a width, taken. -/
namespace Go.Proofs.Ytbikekgljabalaa
open Go.RowKit Go.AB
theorem fx {A B : Int} (h : A = B) : Ending.returned (.tuple #[.int .u64 A, .bool true]) = .returned (.tuple #[.int .u64 B, .bool true]) := by rw [h]
theorem fx_wrap {z : Nat} (h : z < 18446744073709551616) : IntKind.u64.wrap (z : Int) = (z : Int) := by rw [IntKind.wrap_u64]; omega
theorem fx_i8 {z : Nat} (h : z < 256) : IntKind.i8.wrap (z : Int) % 256 = (z : Int) := by
  simp only [IntKind.wrap, IntKind.bits, IntKind.signed]; simp; split <;> omega
theorem fx_i16 {z : Nat} (h : z < 65536) : IntKind.u16.wrap (IntKind.i16.wrap (z : Int)) = (z : Int) := by
  rw [IntKind.wrap_u16]; simp only [IntKind.wrap, IntKind.bits, IntKind.signed]; simp; split <;> omega
theorem fx_i32 {z : Nat} (h : z < 4294967296) : wrap32 (z : Int) % 4294967296 = (z : Int) := by unfold wrap32; omega
theorem fx_i64 {z : Nat} (h : z < 18446744073709551616) : IntKind.u64.wrap (wrap64 (z : Int)) = (z : Int) := by rw [IntKind.wrap_u64]; unfold wrap64; omega
theorem rFixed_lt (n : Nat) (l : List UInt8) (s : RS) : (rFixed n l s).1 < 256 ^ n := by
  unfold rFixed
  have h0 : 0 < 256 ^ n := Nat.pow_pos (by decide)
  repeat' split
  · exact h0
  · exact h0
  · have := leNat_lt ((l.drop s.pos).take n)
    refine Nat.lt_of_lt_of_le this (Nat.pow_le_pow_right (by decide) ?_)
    rw [List.length_take]; omega
section
variable {w : World} {b : Nat} {l : List UInt8} {ao : Option Addr} {cap pos wh bad : Nat} (hR : Rd 133 w b l ao cap pos wh bad)
include hR

end
end Go.Proofs.Ytbikekgljabalaa

/- Walks of the wire layer: what was laid is taken off by the same calls. -/
namespace Go.Proofs.Ytbikekgljabalaa
open Go.RowKit Go.AB
set_option linter.unusedSectionVars false

theorem cv_i64_wrap (m : Nat) : IntKind.i64.wrap (m : Int) = cv_i64 m := by unfold cv_i64; rw [IntKind.wrap_i64]; simp [wrap64]
theorem sizeI_cases {k : Int} (h : 0 ≤ k ∧ k < 8) : sizeI k = 1 ∨ sizeI k = 2 ∨ sizeI k = 4 ∨ sizeI k = 8 := by
  obtain ⟨q, rfl⟩ := Int.eq_ofNat_of_zero_le h.1
  unfold sizeI
  rw [if_pos h]
  match q, h with
  | 0, _ | 1, _ | 2, _ | 3, _ | 4, _ | 5, _ | 6, _ | 7, _ => decide
  | q + 8, h => omega
section
variable {w : World} {b : Nat} {L rest : List UInt8} {ao : Option Addr} {cap pos wh : Nat} (hR : Rd 133 w b L ao cap pos wh 0) (hl : L.length ≤ 1073741824)
  {width : Int} {many : List Nat} {text : ByteArray} {v : Value} (hv : View w 1 v many.length (many.map cU)) (hvb : 0 < many.length → ∀ g, v.ownBlock = some g → g ≠ b) (hm : ∀ m ∈ many, U64 m) (hn : many.length ≤ 16777216)
include hR hl hv hvb hm hn

end
end Go.Proofs.Ytbikekgljabalaa

/- From the form of the rows to plain data: what the arguments are, what a law's end must show. -/
namespace Go.Proofs.Ytbikekgljabalaa
open Go.RowKit Go.AB Go.ChangeShapes Go.WideShapes Go.ChangeAt

theorem own : ownKnob Try.prog.godebug = none := by kernel_rfl
theorem laidOut : laidOutB Try.prog = true := by kernel_rfl

theorem one_le {H : Type} (d : DataW H) : 1 ≤ Rows.uptoBulk d := by
  cases d with
  | lit l => cases l <;> simp [Rows.uptoBulk]
  | nil => simp [Rows.uptoBulk]
  | ptr d => simp [Rows.uptoBulk]
  | slice elems spare => simp [Rows.uptoBulk]
  | agg parts => simp [Rows.uptoBulk]
  | iface t d => simp [Rows.uptoBulk]
  | map entries => simp [Rows.uptoBulk]
  | held h => simp [Rows.uptoBulk]
theorem bulk_append {H : Type} (l r : List (DataW H)) : Rows.uptoBulkAll (l ++ r) = Rows.uptoBulkAll l + Rows.uptoBulkAll r := by
  induction l with
  | nil => simp [Rows.uptoBulkAll]
  | cons x l ih => simp only [List.cons_append, Rows.uptoBulkAll, ih]; omega

/-- ARGS at the end: each argument reads as it did. -/
theorem trodAll_below {H : Type} {enc : TypeId × Value → H} {P : Program} (hl : laidOutB P = true) {W W' : World} (hb : Below W.heap.size W W') :
    ∀ (ts : List TypeId) (vs : List Value) (ds : List (DataW H)) (ps : List MemPlace), (∀ t ∈ ts, P.readableRec t = true ∧ t < P.types.size) → DataW.TrodAll enc P W 0 (fun _ => true) true ts vs ds ps → (∀ x ∈ ps, x.block < W.heap.size) →
      DataW.TrodAll enc P W' 0 (fun b => decide (b < W.heap.size)) true ts vs ds ps
  | [], [], [], _, _, h, _ => h
  | t :: ts, v :: vs, d :: ds, ps, hr, h, hlt => by
    obtain ⟨p, q, h1, h2, rfl⟩ := h
    have ht := hr t (by simp)
    exact ⟨p, q, Below.trod hl ht.1 ht.2 h1 hb (fun x hx => hlt x (by simp [hx])), trodAll_below hl hb ts vs ds q (fun t' h' => hr t' (by simp [h'])) h2 (fun x hx => hlt x (by simp [hx])), rfl⟩
  | [], [], _ :: _, _, _, h, _ => h.elim
  | [], _ :: _, _, _, _, h, _ => h.elim
  | _ :: _, [], _, _, _, h, _ => h.elim
  | _ :: _, _ :: _, [], _, _, h, _ => h.elim

/-- A law's end: it answered true, and what was there when the call began is as it was. -/
theorem law_post {H : Type} {enc : TypeId × Value → H} {P : Program} (hl : laidOutB P = true) {f : Func} {s : ChangeSpec} (hv : s.vars = []) {tb : TypeId} (hrt : f.resultTypes = #[tb]) (htb : P.underlying tb = some .bool)
    (hr : ∀ t ∈ f.params.toList, P.readableRec t = true ∧ t < P.types.size) {W W' : World} {args : Array Value} {ds gs : List (DataW H)} {before : List MemPlace}
    (hW : DataW.Whole enc P f.params.toList s.vars false W args.toList ds gs before) (hfn : s.fn H (ds ++ gs) = { results := [.lit (.bool true)], args := ds }) (hb : Below W.heap.size W W') :
    s.post enc P f false true false false W args (.bool true) W' := by
  have hW' := hW
  obtain ⟨p, q, hA, hV, rfl, hfz, hnd⟩ := hW
  have hV' := hV
  rw [hv] at hV'
  obtain ⟨rfl, rfl⟩ := trodVars_none hV'
  refine ⟨ds, [], p ++ [], [], p, [], hW', ?_, ?_, ?_, hb.frame _, fun h => by cases h⟩
  · rw [hfn, hrt]
    exact trodAll_mk1 (shut_bool htb _)
  · rw [hfn]
    exact trodAll_below hl hb _ _ _ _ hr hA (fun x hx => by simpa using hW'.lt x (by simp [hx]))
  · rw [hfn, hv]
    exact rfl

/-- How a type's cells read as data of Lean's own: R, and what the reading weighs at least. -/
def Opens {α : Type} (w : World) (t k : Nat) (R : α → List Value → Prop) (sz : α → Nat) : Prop :=
  ∀ (H : Type) (enc : TypeId × Value → H) (base : Nat) (spare : Nat → Bool) (held : Bool) (fuel : Nat) (cs : List Value) (x : DataW H × List MemPlace),
    DataW.trod enc Try.prog w base spare held fuel t cs = some x → cs.length = k ∧ ∃ a, R a cs ∧ sz a ≤ Rows.uptoBulk x.1

theorem opens_int {w : World} {t : Nat} {k : IntKind} (ht : Try.prog.underlying t = some (.int k)) : Opens w t 1 (fun (n : Int) cs => cs = [.int k n] ∧ (Lit.int k n).wf = true) (fun _ => 1) := by
  intro H enc base spare held fuel cs x h
  obtain ⟨n, rfl, rfl, hw⟩ := DataW.trod_int ht h
  exact ⟨rfl, n, ⟨rfl, hw⟩, one_le _⟩
theorem opens_string {w : World} {t : Nat} (ht : Try.prog.underlying t = some .string) : Opens w t 1 (fun (s : ByteArray) cs => cs = [.string s]) (fun s => s.size + 1) := by
  intro H enc base spare held fuel cs x h
  obtain ⟨s, rfl, rfl, hw⟩ := DataW.trod_string ht h
  refine ⟨rfl, s, rfl, ?_⟩
  simp [Rows.uptoBulk]
theorem Opens.imp {α : Type} {w : World} {t k : Nat} {R R' : α → List Value → Prop} {sz : α → Nat} (h : Opens w t k R sz) (hi : ∀ a cs, R a cs → R' a cs) : Opens w t k R' sz := by
  intro H enc base spare held fuel cs x hx
  obtain ⟨h1, a, h2, h3⟩ := h H enc base spare held fuel cs x hx
  exact ⟨h1, a, hi _ _ h2, h3⟩

/-- A slice that is read, element by element. -/
structure VL {α : Type} (w : World) (k : Nat) (R : α → List Value → Prop) (v : Value) (xs : List α) : Prop where
  ex : ∃ css : List (List Value), View w k v xs.length css.flatten ∧ css.length = xs.length ∧ ∀ i (hi : i < xs.length) (hi' : i < css.length), css[i].length = k ∧ R xs[i] css[i]

theorem exists_list {α : Type} {n : Nat} {Q : Nat → α → Prop} (h : ∀ i, i < n → ∃ a, Q i a) : ∃ xs : List α, xs.length = n ∧ ∀ i (hi : i < xs.length), Q i xs[i] := by
  refine ⟨List.ofFn fun i : Fin n => Classical.choose (h i i.2), by simp, fun i hi => ?_⟩
  rw [List.getElem_ofFn]
  exact Classical.choose_spec (h i (by simpa using hi))
theorem bulk_sum {H : Type} (l : List (DataW H)) : Rows.uptoBulkAll l = (l.map Rows.uptoBulk).sum := by
  induction l with
  | nil => simp [Rows.uptoBulkAll]
  | cons x l ih => simp [Rows.uptoBulkAll, ih]
theorem sum_le_sum {α β : Type} (f : α → Nat) (g : β → Nat) : ∀ (xs : List α) (ys : List β), xs.length = ys.length → (∀ i (h1 : i < xs.length) (h2 : i < ys.length), f xs[i] ≤ g ys[i]) → (xs.map f).sum ≤ (ys.map g).sum
  | [], _, _, _ => by simp
  | x :: xs, [], h, _ => by simp at h
  | x :: xs, y :: ys, h, hi => by
    have h0 := hi 0 (by simp) (by simp)
    have h1 := sum_le_sum f g xs ys (by simpa using h) (fun i h1 h2 => hi (i + 1) (by simpa using h1) (by simpa using h2))
    simp only [List.map_cons, List.sum_cons]
    simp only [List.getElem_cons_zero] at h0
    omega
theorem flat_get {k : Nat} : ∀ (css : List (List Value)), (∀ i (h : i < css.length), css[i].length = k) → css.flatten.length = css.length * k ∧ ∀ i j (hi : i < css.length), j < k → css.flatten.getD (i * k + j) undef = css[i].getD j undef
  | [], _ => ⟨by simp, fun i j hi => by simp at hi⟩
  | c :: css, h => by
    have hc : c.length = k := h 0 (by simp)
    obtain ⟨h1, h2⟩ := flat_get css (fun i hi => h (i + 1) (by simpa using hi))
    refine ⟨by simp [h1, hc, Nat.succ_mul]; omega, fun i j hi hj => ?_⟩
    cases i with
    | zero => simp [List.getD, List.getElem?_append_left (show j < c.length by omega)]
    | succ i =>
      have := h2 i j (by simpa using hi) hj
      simp only [List.flatten_cons, List.getElem_cons_succ]
      rw [← this, Nat.succ_mul]
      simp only [List.getD]
      rw [List.getElem?_append_right (by omega)]
      congr 2
      omega

theorem opens_slice {α : Type} {w : World} {t e k : Nat} {R : α → List Value → Prop} {sz : α → Nat} (ht : Try.prog.underlying t = some (.slice e)) (hk : Try.prog.cellsOf e = k) (he : Opens w e k R sz) :
    Opens w t 1 (fun (xs : List α) cs => ∃ v, cs = [v] ∧ VL w k R v xs) (fun xs => (xs.map sz).sum + 1) := by
  intro H enc base spare held fuel cs x h
  rcases DataW.trod_slice ht h with ⟨rfl, rfl⟩ | ⟨a, len, cap, elems, rest, n, _, rfl, rfl, hb, hl, hm, hlen, hel, _, _⟩
  · refine ⟨rfl, [], ⟨_, rfl, ⟨[], ⟨by simp, by simp, none, 0, rfl, Nat.le_refl _, by simp, (fun _ => ⟨rfl, rfl⟩), fun h => by simp at h⟩, rfl, fun i hi => by simp at hi⟩⟩, by simp [Rows.uptoBulk]⟩
  · rw [hk] at hel
    have each : ∀ i, i < len → ∃ p : List Value × α, w.cells? base (a.add (i * k)) k = some p.1 ∧ p.1.length = k ∧ R p.2 p.1 ∧ sz p.2 ≤ Rows.uptoBulk ((elems.map (·.1)).getD i .nil) := by
      intro i hi
      have h1 := hel i hi
      rw [List.getElem?_eq_getElem (by omega), Option.bind_eq_some_iff] at h1
      obtain ⟨c, hc, hx⟩ := h1
      obtain ⟨h2, y, h3, h4⟩ := he H enc base spare held n c _ hx
      exact ⟨(c, y), hc, h2, h3, by simpa [List.getD, hlen, hi] using h4⟩
    obtain ⟨ps, hpl, hps⟩ := exists_list each
    refine ⟨rfl, ps.map (·.2), ⟨_, rfl, ⟨ps.map (·.1), ?_, by simp, ?_⟩⟩, ?_⟩
    · have hfl := flat_get (k := k) (ps.map (·.1)) (fun i hi => by simpa using (hps i (by simpa using hi)).2.1)
      refine ⟨by rw [hfl.1]; simp, by simp; omega, some a, cap, by simp [hpl], by simp [hpl]; exact hl, hm, (fun h => by cases h), fun h0 => ?_⟩
      have hk0 : 0 < k := by rcases Nat.eq_zero_or_pos k with h | h; subst h; simp at h0; exact h
      have hp0 : 0 < ps.length := by rcases Nat.eq_zero_or_pos ps.length with h | h; simp [h] at h0; exact h
      have hspot : a.spot = none := by
        have h1 := (World.cells?_some (hps 0 hp0).1).2.2 0 hk0
        have h2 := (hps 0 hp0).2.1
        rw [List.getElem?_eq_getElem (by omega)] at h1
        simp only [Nat.zero_mul, Addr.add, if_true] at h1
        unfold World.cell? at h1
        cases hs : a.spot with
        | none => rfl
        | some _ => split at h1 <;> simp [hs] at h1
      obtain ⟨b, off, spot⟩ := a
      simp only at hspot
      subst hspot
      refine ⟨b, off, rfl, fun j hj => ?_⟩
      have hj' : j < ps.length * k := by simpa using hj
      have hq : j / k < ps.length := Nat.div_lt_of_lt_mul (by rwa [Nat.mul_comm])
      have hr : j % k < k := Nat.mod_lt _ hk0
      have hdm : j / k * k + j % k = j := by rw [Nat.mul_comm]; exact Nat.div_add_mod j k
      have h1 := (World.cells?_some (hps (j / k) hq).1).2.2 (j % k) hr
      rw [Addr.add_lit, Addr.add_lit, Nat.add_assoc, hdm] at h1
      rw [h1]
      have h2 := hfl.2 (j / k) (j % k) (by simpa using hq) hr
      rw [hdm] at h2
      rw [h2]
      simp only [List.getElem_map, List.getD]
      rw [List.getElem?_eq_getElem (by have := (hps (j / k) hq).2.1; omega)]
      rfl
    · intro i hi hi'
      have := hps i (by simpa using hi')
      simpa using ⟨this.2.1, this.2.2.1⟩
    · simp only [Rows.uptoBulk]
      have : (List.map sz (ps.map (·.2))).sum ≤ Rows.uptoBulkAll (elems.map (·.1)) := by
        rw [bulk_sum]
        refine sum_le_sum sz Rows.uptoBulk _ _ (by simp; omega) (fun i h1 h2 => ?_)
        have h3 := (hps i (by simpa using h1)).2.2.2
        simp only [List.getElem_map] at h3 ⊢
        simpa [List.getD, show i < elems.length by simpa using h2] using h3
      omega
theorem four {α : Type} (l : List α) (h : l.length = 4) : ∃ a b c d, l = [a, b, c, d] := by
  match l, h with
  | [a, b, c, d], _ => exact ⟨a, b, c, d, rfl⟩
/-- A struct of four fields of one cell each. -/
theorem opens_struct4 {α β γ δ : Type} {w : World} {t : Nat} {f0 f1 f2 f3 : Field} (ht : Try.prog.underlying t = some (.struct #[f0, f1, f2, f3])) (hc : Try.prog.cellsOf t = 4)
    (o0 : (f0.offset, Try.prog.cellsOf f0.type) = (0, 1)) (o1 : (f1.offset, Try.prog.cellsOf f1.type) = (1, 1)) (o2 : (f2.offset, Try.prog.cellsOf f2.type) = (2, 1)) (o3 : (f3.offset, Try.prog.cellsOf f3.type) = (3, 1))
    {R0 : α → List Value → Prop} {R1 : β → List Value → Prop} {R2 : γ → List Value → Prop} {R3 : δ → List Value → Prop} {s0 : α → Nat} {s1 : β → Nat} {s2 : γ → Nat} {s3 : δ → Nat}
    (h0 : Opens w f0.type 1 R0 s0) (h1 : Opens w f1.type 1 R1 s1) (h2 : Opens w f2.type 1 R2 s2) (h3 : Opens w f3.type 1 R3 s3) :
    Opens w t 4 (fun (p : α × β × γ × δ) cs => ∃ c0 c1 c2 c3, cs = [c0, c1, c2, c3] ∧ R0 p.1 [c0] ∧ R1 p.2.1 [c1] ∧ R2 p.2.2.1 [c2] ∧ R3 p.2.2.2 [c3]) (fun p => s0 p.1 + s1 p.2.1 + s2 p.2.2.1 + s3 p.2.2.2 + 1) := by
  intro H enc base spare held fuel cs x h
  obtain ⟨xs, n, _, rfl, hl, hxl, hx⟩ := DataW.trod_struct ht h
  rw [hc] at hl
  simp only [Prod.mk.injEq] at o0 o1 o2 o3
  obtain ⟨c0, c1, c2, c3, rfl⟩ := four cs hl
  obtain ⟨x0, x1, x2, x3, rfl⟩ := four xs (by simpa using hxl)
  have e0 := hx 0 f0 rfl
  have e1 := hx 1 f1 rfl
  have e2 := hx 2 f2 rfl
  have e3 := hx 3 f3 rfl
  rw [o0.1, o0.2] at e0
  rw [o1.1, o1.2] at e1
  rw [o2.1, o2.2] at e2
  rw [o3.1, o3.2] at e3
  obtain ⟨_, a0, r0, b0⟩ := h0 H enc base spare held n [c0] x0 e0
  obtain ⟨_, a1, r1, b1⟩ := h1 H enc base spare held n [c1] x1 e1
  obtain ⟨_, a2, r2, b2⟩ := h2 H enc base spare held n [c2] x2 e2
  obtain ⟨_, a3, r3, b3⟩ := h3 H enc base spare held n [c3] x3 e3
  refine ⟨rfl, (a0, a1, a2, a3), ⟨c0, c1, c2, c3, rfl, r0, r1, r2, r3⟩, ?_⟩
  simp only [List.map_cons, List.map_nil, Rows.uptoBulk, Rows.uptoBulkAll]
  omega
/-- One argument, out of the reading of all. -/
theorem opens_arg {α : Type} {w : World} {t k : Nat} {R : α → List Value → Prop} {sz : α → Nat} (ho : Opens w t k R sz) {H : Type} {enc : TypeId × Value → H} {v : Value} {d : DataW H} {p : List MemPlace} (h : DataW.Trod enc Try.prog w 0 (fun _ => true) true t v d p) :
    ∃ a, R a v.cells.toList ∧ sz a ≤ Rows.uptoBulk d := by
  obtain ⟨fuel, hf⟩ := h
  obtain ⟨_, a, h1, h2⟩ := ho H enc _ _ _ fuel _ (d, p) hf
  exact ⟨a, h1, h2⟩
end Go.Proofs.Ytbikekgljabalaa

/- From the form of the rows to plain data, for the laws of the wire layer: bytes, and the small facts that each law's frame wants. -/
namespace Go.Proofs.Ytbikekgljabalaa
open Go.RowKit Go.AB Go.ChangeShapes Go.WideShapes Go.ChangeAt

theorem small_bound {H : Type} {l : List (DataW H)} (hk : Rows.uptoSmall H l = true) : Rows.uptoBulkAll l ≤ 1048576 := of_decide_eq_true hk

theorem sum_ge {α : Type} (f : α → Nat) (xs : List α) (h : ∀ x, 1 ≤ f x) : xs.length ≤ (xs.map f).sum := by
  induction xs with
  | nil => simp
  | cons x xs ih => have := h x; simp only [List.map_cons, List.sum_cons, List.length_cons]; omega
theorem cells_uint8 : Try.prog.cellsOf 5 = 1 := by kernel_rfl
theorem opens_bytes (w : World) : Opens w 29 1 (fun (l : List UInt8) cs => ∃ v, cs = [v] ∧ Bytes w v l) (fun l => l.length + 1) := by
  intro H enc base spare held fuel cs x h
  obtain ⟨h1, xs, ⟨v, rfl, ⟨css, hv, hl, he⟩⟩, h3⟩ := opens_slice Try.underlying29 cells_uint8 (opens_int Try.underlying5) H enc base spare held fuel cs x h
  refine ⟨h1, xs.map fun n => UInt8.ofNat n.toNat, ⟨v, rfl, ?_⟩, ?_⟩
  · have hfl : css.flatten = (xs.map fun n => UInt8.ofNat n.toNat).map B := by
      apply List.ext_getElem
      · have := (flat_get (k := 1) css (fun i hi => (he i (by omega) hi).1)).1
        rw [this]; simp [hl]
      · intro i h4 h5
        have hi : i < xs.length := by simpa using h5
        have hc := (he i hi (by omega)).2
        have hfg := (flat_get (k := 1) css (fun i hi => (he i (by omega) hi).1)).2 i 0 (by omega) (by omega)
        simp only [Nat.mul_one, Nat.add_zero] at hfg
        rw [hc.1] at hfg
        have hw := hc.2
        have hx : 0 ≤ xs[i] ∧ xs[i] ≤ 255 := by simpa [Lit.wf, IntKind.min, IntKind.max, IntKind.signed, IntKind.bits] using hw
        simp only [List.getD, List.getElem?_eq_getElem h4, Option.getD_some, List.getElem?_cons_zero] at hfg
        rw [hfg]
        simp only [List.getElem_map, B]
        congr 1
        simp
        omega
    have hn : (xs.map fun n => UInt8.ofNat n.toNat).length = xs.length := by simp
    unfold Bytes
    rw [hn, ← hfl]
    exact hv
  · have h4 := sum_ge (fun _ : Int => 1) xs (fun _ => by decide)
    have h5 : (xs.map (fun _ : Int => 1)).sum + 1 ≤ Rows.uptoBulk x.1 := h3
    simp only [List.length_map]
    omega
theorem wf_i64 {n : Int} (h : (Lit.int .i64 n).wf = true) : I64 n := by
  have h2 : -9223372036854775808 ≤ n ∧ n ≤ 9223372036854775807 := by simpa [Lit.wf, IntKind.min, IntKind.max, IntKind.signed, IntKind.bits] using h
  exact h2
theorem wf_u64 {n : Int} (h : (Lit.int .u64 n).wf = true) : 0 ≤ n ∧ n < 18446744073709551616 := by
  have h2 : 0 ≤ n ∧ n ≤ 18446744073709551615 := by simpa [Lit.wf, IntKind.min, IntKind.max, IntKind.signed, IntKind.bits] using h
  exact ⟨h2.1, by omega⟩
theorem cells_one {v : Value} {c : Value} {a : Option Addr} {n cap : Nat} (hv : v = .slice a n cap) (h : v.cells.toList = [c]) : c = v := by
  subst hv
  simpa [Value.cells] using h.symm
end Go.Proofs.Ytbikekgljabalaa

/- The law's scripts of adds, al they come in; what they lay is not long. -/
namespace Go.Proofs.Ytbikekgljabalaa
open Go.RowKit Go.AB

theorem View.own_lt {w : World} {k n : Nat} {v : Value} {xs : List Value} (h : View w k v n xs) (h0 : 0 < n * k) : ∀ g, v.ownBlock = some g → g < w.heap.size := by
  obtain ⟨_, _, ao, cap, rfl, _, _, _, hc⟩ := h
  obtain ⟨b, off, rfl, hcell⟩ := hc h0
  intro g hg
  simp only [Value.ownBlock, Option.some.injEq] at hg
  subst hg
  exact World.block_lt_of_cell? w _ (hcell 0 h0)

theorem Opens.map {α β : Type} {w : World} {t k : Nat} {R : α → List Value → Prop} {R' : β → List Value → Prop} {sz : α → Nat} {sz' : β → Nat} (f : α → β) (h : Opens w t k R sz) (hi : ∀ a cs, R a cs → R' (f a) cs ∧ sz' (f a) ≤ sz a) : Opens w t k R' sz' := by
  intro H enc base spare held fuel cs x hx
  obtain ⟨h1, a, h2, h3⟩ := h H enc base spare held fuel cs x hx
  exact ⟨h1, f a, (hi a cs h2).1, Nat.le_trans (hi a cs h2).2 h3⟩

def addR (W : World) (a : AddD) (cs : List Value) : Prop :=
  ∃ v, cs = [.int .i64 a.kind, .int .i64 a.width, v, .string a.text] ∧ View W 1 v a.many.length (a.many.map cU) ∧ ∀ m ∈ a.many, U64 m
def addSz (a : AddD) : Nat := a.many.length + a.text.size + 2

theorem opens_u64s (w : World) : Opens w 122 1 (fun (l : List Nat) cs => ∃ v, cs = [v] ∧ View w 1 v l.length (l.map cU) ∧ ∀ m ∈ l, U64 m) (fun l => l.length) := by
  intro H enc base spare held fuel cs x h
  obtain ⟨h1, xs, ⟨v, rfl, ⟨css, hv, hl, he⟩⟩, h3⟩ := opens_slice Try.underlying122 (by kernel_rfl) (opens_int Try.underlying76) H enc base spare held fuel cs x h
  have hx : ∀ i (hi : i < xs.length), 0 ≤ xs[i] ∧ xs[i] < 18446744073709551616 := fun i hi => wf_u64 (he i hi (by omega)).2.2
  refine ⟨h1, xs.map Int.toNat, ⟨v, rfl, ?_, ?_⟩, ?_⟩
  · have hfl : css.flatten = (xs.map Int.toNat).map cU := by
      apply List.ext_getElem
      · have := (flat_get (k := 1) css (fun i hi => (he i (by omega) hi).1)).1
        rw [this]; simp [hl]
      · intro i h4 h5
        have hi : i < xs.length := by simpa using h5
        have hc := (he i hi (by omega)).2
        have hfg := (flat_get (k := 1) css (fun i hi => (he i (by omega) hi).1)).2 i 0 (by omega) (by omega)
        simp only [Nat.mul_one, Nat.add_zero] at hfg
        rw [hc.1] at hfg
        have hxi := hx i hi
        simp only [List.getD, List.getElem?_eq_getElem h4, Option.getD_some, List.getElem?_cons_zero] at hfg
        rw [hfg]
        simp only [List.getElem_map, cU]
        congr 1
        omega
    rw [List.length_map, ← hfl]
    exact hv
  · intro m hm
    obtain ⟨n, hn, rfl⟩ := List.mem_map.1 hm
    obtain ⟨i, hi, rfl⟩ := List.mem_iff_getElem.1 hn
    have := hx i hi
    unfold U64; omega
  · have h4 := sum_ge (fun _ : Int => 1) xs (fun _ => by decide)
    have h5 : (xs.map (fun _ : Int => 1)).sum + 1 ≤ Rows.uptoBulk x.1 := h3
    simp only [List.length_map]
    omega
theorem fixedI_len (k : Int) (m : Nat) : (fixedB (sizeI k) m).length ≤ 10 := by
  rw [fixedB_length]
  unfold sizeI
  split
  · rename_i h
    obtain ⟨q, rfl⟩ := Int.eq_ofNat_of_zero_le h.1
    match q, h with
    | 0, _ | 1, _ | 2, _ | 3, _ | 4, _ | 5, _ | 6, _ | 7, _ => decide
    | q + 8, h => omega
  · decide
theorem laidB_len (a : AddD) (ha : ∀ m ∈ a.many, U64 m) (ht : a.text.size < 18446744073709551616) : (laidB a).length ≤ 10 * addSz a := by
  unfold laidB addSz
  split
  · have := flat_len_le 10 a.many (fixedB (sizeI a.width)) (fun m _ => fixedI_len _ m); omega
  split
  · have := flat_len_le 10 a.many shortB (fun m hm => shortB_len10 (ha m hm)); omega
  split
  · have := flat_len_le 10 a.many (fun m => shortB (zig (cv_i64 m))) (fun m _ => shortB_len10 (zig_U64 (cv_i64_I64 m))); omega
  split
  · simp; omega
  split
  · have h1 := shortB_len10 (v := a.text.size) ht
    have h2 : a.text.data.toList.length = a.text.size := by rw [Array.length_toList]; rfl
    rw [List.length_append]; omega
  · simp
theorem laidAll_len (al : List AddD) (ha : ∀ a ∈ al, (∀ m ∈ a.many, U64 m) ∧ a.text.size < 18446744073709551616) : (al.flatMap laidB).length ≤ 10 * (al.map addSz).sum := by
  induction al with
  | nil => simp
  | cons a al ih =>
    have h1 := laidB_len a (ha a (by simp)).1 (ha a (by simp)).2
    have h2 := ih fun b hb => ha b (by simp [hb])
    rw [List.flatMap_cons, List.length_append, List.map_cons, List.sum_cons]; omega
theorem mem_sum_le {α : Type} (f : α → Nat) {xs : List α} {x : α} (h : x ∈ xs) : f x ≤ (xs.map f).sum := by
  induction xs with
  | nil => cases h
  | cons y ys ih =>
    simp only [List.map_cons, List.sum_cons]
    cases List.mem_cons.1 h with
    | inl e => subst e; omega
    | inr e => have := ih e; omega

/-- What a round asks of the script: the k-th step's value where it stands, in whatever world has but new blocks more. -/
theorem add_at {W : World} {v : Value} {al : List AddD} (h : VL W 4 (addR W) v al) {ao : Option Addr} {cap : Nat} (hv : v = .slice ao al.length cap) {k : Nat} (hk : k < al.length) :
    ∃ b off u, ao = some ⟨b, off, none⟩ ∧ View W 1 u al[k].many.length (al[k].many.map cU) ∧ (∀ m ∈ al[k].many, U64 m) ∧ ∀ W', Below W.heap.size W W' →
      W'.cell? ⟨b, off + k * 4, none⟩ = some (.int .i64 al[k].kind) ∧ W'.cell? ⟨b, off + k * 4 + 1, none⟩ = some (.int .i64 al[k].width) ∧ W'.cell? ⟨b, off + k * 4 + 2, none⟩ = some u ∧ W'.cell? ⟨b, off + k * 4 + 3, none⟩ = some (.string al[k].text) := by
  obtain ⟨css, ⟨hfl, _, ao', cap', hv', _, _, _, hcells⟩, hcl, hcs⟩ := h
  rw [hv] at hv'
  simp only [Value.slice.injEq, true_and] at hv'
  obtain ⟨rfl, rfl⟩ := hv'
  obtain ⟨b, off, rfl, hcell⟩ := hcells (by omega)
  obtain ⟨hc4, u, hu, hview, hm⟩ := hcs k hk (by omega)
  have hfg := (flat_get (k := 4) css (fun i hi => (hcs i (by omega) hi).1)).2 k
  refine ⟨b, off, u, rfl, hview, hm, fun W' hb => ?_⟩
  have cj : ∀ j, j < 4 → W'.cell? ⟨b, off + k * 4 + j, none⟩ = some (css[k].getD j undef) := fun j hj => by
    have h1 := hcell (k * 4 + j) (by omega)
    rw [← hfg j (by omega) hj, Nat.add_assoc]
    exact (hb.cell (World.block_lt_of_cell? W _ h1)).trans h1
  rw [hu] at cj
  exact ⟨cj 0 (by omega), cj 1 (by omega), cj 2 (by omega), cj 3 (by omega)⟩
end Go.Proofs.Ytbikekgljabalaa

/- Walks of the law's own: what the document lays for one step of a script. -/
namespace Go.Proofs.Ytbikekgljabalaa
open Go.RowKit Go.AB
set_option linter.unusedSectionVars false

/-- append as a step of a region that draws its order. -/
theorem step_app {P : Program} {w : World} {ops : Array Oper} {o : Oper} {a : Act} {K : Act → World → Prop} {Q : Exit → Act → World → Prop} {E0 : Prop} (hgd : o.guard = none) (s x : Operand) (t : TypeId)
    (ho : o.op = .call { callee := .builtin .append, args := #[s, x], argTypes := #[t, t] }) {e k bytes : Nat} (E : ElemOk P t e k bytes)
    {v : Value} {r : Option Nat} {n : Nat} {xs : List Value} (hs : a.eval s = v) (hrow : Row w e k v r n xs)
    {y : Value} {m : Nat} {ys : List Value} (hx : a.eval x = y) (hy : View w k y m ys) (h1 : ∀ u ∈ ys, u.oneCell' = true) (h63 : n + m ≤ maxLen) (hbytes : (n + m) * bytes ≤ 140737488355328)
    (h : ∀ ao' cap' r' w', Row w' e k (.slice ao' (n + m) cap') r' (n + m) (xs ++ ys) → Chg r.toList w w' → Fresh w r r' → K (a.put o.dst (.slice ao' (n + m) cap')) w') :
    if Region.wanted o (yielded ops a.tmps) = true then Oper.wp P o a w K Q else E0 := by
  have hw : Region.wanted o (yielded ops a.tmps) = true := by simp [Region.wanted, hgd]
  rw [if_pos hw]
  obtain ⟨i, z, hi, hz, hs', hb, hzs⟩ := E.info
  have hlen : (Builtin.lenOf y).run P w = .ok m w := by obtain ⟨_, _, ao, cap, rfl, _⟩ := hy; rfl
  obtain ⟨v', w', r', hr, h2, h3, h4, h5⟩ := run_append_gen (P := P) w t t o.type e _ i z k bytes E.und E.und (.inl ⟨_, rfl⟩) hi hz hs' hb hzs E.pos v r n xs hrow y m ys hy.1 hlen (firstCells_view hy) h1 h63 hbytes
  unfold Oper.wp execOp
  simp only [ho, resolve, invoke, builtin, Sem.run_bind, Sem.run_pure, Result.andThen_ok, List.map_toArray, List.map_cons, List.map_nil, hs, hx, hr]
  obtain ⟨ao', cap', rfl⟩ := h2.shape
  exact h ao' cap' r' w' h2 h3 h4

theorem sizeI_le8 (k : Int) : sizeI k ≤ 8 := sizeI_le k

section
variable {w : World} {many : List Nat} {v : Value} {width : Int} {text : ByteArray} (hv : View w 1 v many.length (many.map cU)) (hm : ∀ m ∈ many, U64 m) (hn : many.length ≤ 16777216)
include hv hm hn

end

end Go.Proofs.Ytbikekgljabalaa

/- Walks of the frames: a frame around a body. -/
namespace Go.Proofs.Ytbikekgljabalaa
open Go.RowKit Go.AB
set_option linter.unusedSimpArgs false

/-- A slice of bytes in new memory, and a number. -/
def NewB2 (U : Nat) (w : World) (l : List UInt8) (c : Nat) (e : Ending) (w' : World) : Prop :=
  ∃ l' ao cap r, e = .returned (.tuple #[.slice ao l'.length cap, .int .i64 c]) ∧ Row w' U 1 (.slice ao l'.length cap) r l'.length (l'.map B) ∧ Fresh w none r ∧ Chg [] w w' ∧ Hid (l' = l)

theorem fixedB4_u64 (n : Nat) (h : n < 4294967296) : U64 n := by unfold U64; omega

set_option maxHeartbeats 1000000 in
set_option maxRecDepth 100000 in
theorem q_frame_calls (kind : UInt8) (v : Value) (body : List UInt8) (w : World) (hv : Bytes w v body) (hl : body.length ≤ 16777216) :
    Calls Try.prog 19 #[.int .u8 kind.toNat, v] w (NewB2 5 w (frameB kind body) 0) := by
  obtain ⟨ao, cap, rfl, _, _, _, _⟩ := hv.out
  have hwr : IntKind.u64.wrap (body.length : Int) = ((body.length : Nat) : Int) := by rw [IntKind.wrap_u64]; omega
  have hb1 : ∀ u : World, Bytes (u.alloc (.cells #[.int .u8 (kind.toNat : Nat)] 5)) (.slice (some ⟨u.heap.size, 0, none⟩) 1 1) [kind] := fun u => View.one _ _ _
  have HV := hid hv
  have hc0 : ∀ o, Chg [] w (w.alloc o) := fun o => (Chg.refl [] w).alloc o
  clear hv
  go_enter Try.func19, Try.ntmps19
  go_wp2_with (first
    | (go_at_call 53; refine (ref_fixed_calls body.length (fixedB4_u64 _ (by omega)) 4 (by omega) _).mono ?_; rintro e w1 ⟨l1, ao1, cap1, r1, rfl, hr1, hf1, hc1, HL1⟩; have hh := (hb1 w).keep hc1 (by simp); have hc1' := (hc0 _).trans' hc1; have hl1 : l1.length ≤ 4 := (by rw [HL1.out, fixedB_length]; omega))
    | (go_at_call 52; refine (joined_calls _ _ [kind] l1 _ hh hr1.view (by simp) (by omega)).mono ?_; rintro e w2 ⟨l2, ao2, cap2, r2, rfl, hr2, hf2, hc2, HL2⟩; refine halt (fun X hX => ?_)))
  rw [hX.out]; clear hX
  have hc2' := hc1'.trans' hc2
  have e2 : l2 = headB kind body.length := by rw [HL2.out, HL1.out]; rfl
  have hl2 : l2.length ≤ 5 := by rw [e2, headB_length]; omega
  have HE2 := hid e2
  have hb2 := HV.out.keep hc2' (by simp)
  clear HL2 HL1 e2 hc1 hc1' hr1 hh
  go_wp2_with (go_at_call 52; refine (joined_calls _ _ l2 body _ hr2.view hb2 (by omega) (by omega)).mono ?_; rintro e w3 ⟨l3, ao3, cap3, r3, rfl, hr3, hf3, hc3, HL3⟩; refine halt (fun X hX => ?_))
  rw [hX.out]; clear hX
  have hl3 : l3.length ≤ 16777221 := by rw [HL3.out, List.length_append]; omega
  go_wp2_with (go_at_call 54; refine (q_sum_calls _ l3 _ hr3.view (by omega)).mono ?_; rintro e w' ⟨rfl, rfl⟩; refine halt (fun X hX => ?_))
  rw [hX.out]; clear hX
  have hs := sumB_lt l3
  obtain ⟨sm, hsm⟩ : ∃ s, sumB l3 = s := ⟨_, rfl⟩
  rw [hsm] at hs
  rw [hsm]
  have HSM := hid hsm
  clear hsm
  have hws : IntKind.u64.wrap (sm : Int) = (sm : Int) := by rw [IntKind.wrap_u64]; omega
  have hr2' := hr2.keep hc3 (by simp)
  have hbm : ∀ u : World, Bytes (u.alloc (.cells #[.int .u8 97, .int .u8 98] 5)) (.slice (some ⟨u.heap.size, 0, none⟩) 2 2) [97, 98] := fun u => View.news u [.int .u8 97, .int .u8 98] _ (by simp [maxLen])
  have hr2'' := fun o => hr2'.keep ((Chg.refl [] w3).alloc o) (by simp)
  have hca3 := fun o => (Chg.refl [] w3).alloc o
  go_wp2_with (go_at_call 52; refine (joined_calls _ _ [97, 98] l2 _ (hbm _) (hr2'' _).view (by simp) (by omega)).mono ?_; rintro e w4 ⟨l4, ao4, cap4, r4, rfl, hr4, hf4, hc4, HL4⟩; refine halt (fun X hX => ?_))
  rw [hX.out]; clear hX
  have hl4 : l4.length ≤ 7 := by rw [HL4.out, List.length_append]; simp; omega
  go_wp2_with (first
    | (go_at_call 53; refine (ref_fixed_calls sm (fixedB4_u64 _ hs) 4 (by omega) _).mono ?_; rintro e w5 ⟨l5, ao5, cap5, r5, rfl, hr5, hf5, hc5, HL5⟩; have hl5 : l5.length ≤ 4 := (by rw [HL5.out, fixedB_length]; omega); have hr4' := hr4.keep hc5 (by simp))
    | (go_at_call 52; refine (joined_calls _ _ l4 l5 _ hr4'.view hr5.view (by omega) (by omega)).mono ?_; rintro e w6 ⟨l6, ao6, cap6, r6, rfl, hr6, hf6, hc6, HL6⟩; refine halt (fun X hX => ?_)))
  rw [hX.out]; clear hX
  have hl6 : l6.length ≤ 11 := by rw [HL6.out, List.length_append]; omega
  have hcall : Chg [] w w6 := (((((hc2'.trans' hc3).trans' (hca3 _)).trans' hc4).trans' hc5).trans' hc6)
  have hb6 := HV.out.keep hcall (by simp)
  go_wp2_with (go_at_call 52; refine (joined_calls _ _ l6 body _ hr6.view hb6 (by omega) (by omega)).mono ?_; rintro e w7 ⟨l7, ao7, cap7, r7, rfl, hr7, hf7, hc7, HL7⟩; refine halt (fun X hX => ?_))
  rw [hX.out]; clear hX
  go_wp2
  go_ret2
  refine ⟨l7, ao7, cap7, r7, rfl, hr7, (Fresh.refl w none).trans hcall.size hf7, hcall.trans' hc7, hid ?_⟩
  rw [HL7.out, HL6.out, HL5.out, HL4.out, ← HSM.out, HL3.out, HE2.out]
  simp [frameB]
end Go.Proofs.Ytbikekgljabalaa

/- Walks of the frames: the program's frame. -/
namespace Go.Proofs.Ytbikekgljabalaa
open Go.RowKit Go.AB
set_option linter.unusedSimpArgs false

set_option maxHeartbeats 2000000 in
set_option maxRecDepth 100000 in
theorem frame_calls (kind : UInt8) (v : Value) (body : List UInt8) (w : World) (hv : Bytes w v body) (hl : body.length ≤ 16777216) :
    Calls Try.prog 38 #[.int .u8 kind.toNat, v] w (NewB2 5 w (frameB kind body) 0) := by
  obtain ⟨ao, cap, rfl, _, _, _, _⟩ := hv.out
  have hmod : (body.length : Int) % 4294967296 = (body.length : Int) := by omega
  have HV := hid hv
  have hW0 : Wr 73 5 (w.alloc (.cells #[.slice none 0 0] 73)) w.heap.size none [] none 0 := ⟨heap_alloc_new w _, Row.nil _ _ _, by simp⟩
  have hc0 : Chg [] w (w.alloc (.cells #[.slice none 0 0] 73)) := (Chg.refl [] w).alloc _
  have hW0' := fun o => hW0.keep ((Chg.refl [] _).alloc o) (by simp) (by simp)
  have hk := kind.toNat_lt
  have hv1 : View ((w.alloc (.cells #[.slice none 0 0] 73)).alloc (.cells #[.int .u8 (kind.toNat : Nat)] 5)) 1 (.slice (some ⟨w.heap.size + 1, 0, none⟩) 1 1) 1 [.int .u8 (kind.toNat : Nat)] := by
    have := View.one (w.alloc (.cells #[.slice none 0 0] 73)) (.int .u8 (kind.toNat : Nat)) 5
    rwa [show (w.alloc (.cells #[.slice none 0 0] 73)).heap.size = w.heap.size + 1 from by simp] at this
  clear hv
  go_enter Try.func38, Try.ntmps38
  go_wp2_with (go_at_call 78; refine (put_u8 [kind.toNat] (by intro m hm; rw [List.mem_singleton.1 hm]; exact hk) _ _ _ _ _ _ _ (hW0' _) (by simp) hv1 (fun _ g hg => by simp [Value.ownBlock] at hg; subst hg; simp) (by simp)).mono ?_; rintro e w1 ⟨rfl, l1, r1, ao1, cap1, hW1, hc1, hf1, HL1⟩; refine halt (fun X hX => ?_))
  rw [hX.out]; clear hX
  have e1 : l1 = [kind] := by rw [HL1.out]; simp [fixedB]
  have hn1 : l1.length ≤ 1 := by rw [e1]; simp
  have HE1 := hid e1
  have hc1' : Chg [w.heap.size] w w1 := (hc0.nil.trans' ((Chg.refl _ _).alloc _)).trans (hc1) (fun x hx => by simp at hx; exact .inl (by simp [hx]))
  have hf1' : Fresh w none r1 := by
    intro g hg
    rcases hf1 g hg with h | h
    · simp at h
    · simp at h; exact .inr (by omega)
  clear HL1 e1 hc1 hf1 hW0 hW0'
  have hb1 : w.heap.size < w1.heap.size := blk_lt hW1.blk
  have hW1' := fun o => hW1.keep ((Chg.refl [] w1).alloc o) (by simp) (by simp)
  have hr1lt := hW1.row.lt
  go_wp2_with (go_at_call 79; refine (put_u32 [body.length] (by intro m hm; rw [List.mem_singleton.1 hm]; omega) _ _ _ _ _ _ _ (hW1' _) (by omega) (View.one _ _ _) (fun _ g hg => by simp [Value.ownBlock] at hg; subst hg; exact ⟨by omega, fun e => by have := hr1lt _ e; omega⟩) (by simp)).mono ?_; rintro e w2 ⟨rfl, l2, r2, ao2, cap2, hW2, hc2, hf2, HL2⟩; refine halt (fun X hX => ?_))
  rw [hX.out]; clear hX
  have e2 : l2 = headB kind body.length := by rw [HL2.out, HE1.out]; simp [headB]
  have hn2 : l2.length ≤ 5 := by rw [e2, headB_length]; omega
  have HE2 := hid e2
  have hc2' : Chg [w.heap.size] w w2 := (hc1'.trans' ((Chg.refl [w.heap.size] w1).alloc (.cells #[.int .u32 (body.length : Nat)] 99))).trans hc2 (fun x hx => by
    rcases List.mem_cons.1 hx with h | h
    · exact .inl (by simp [h])
    · exact .inr ((hf1' x (by simpa using h)).resolve_left (by simp)))
  have hf2' : Fresh w none r2 := by
    intro g hg
    rcases hf2 g hg with h | h
    · exact hf1' g h
    · simp at h; exact .inr (by omega)
  clear HL2 e2 hc2 hf2 HE1 hW1' hr1lt hc1' hf1'
  have hb2 : w.heap.size < w2.heap.size := blk_lt hW2.blk
  have hr2lt := hW2.row.lt
  clear hv1
  go_wp2_with fail
  obtain ⟨w3, hw3⟩ : ∃ w3, w3 = (w2.alloc (.cells #[.int .u8 97, .int .u8 98] 5)).alloc (.cells #[.slice (some ⟨w2.heap.size, 0, none⟩) 2 2] 73) := ⟨_, rfl⟩
  rw [← hw3]
  have hca : Chg [] w2 w3 := by rw [hw3]; exact ((Chg.refl [] w2).alloc _).alloc _
  have hsz : w3.heap.size = w2.heap.size + 2 := by rw [hw3]; simp
  have hF3 : Wr 73 5 w3 (w2.heap.size + 1) (some w2.heap.size) [97, 98] (some ⟨w2.heap.size, 0, none⟩) 2 := by
    refine ⟨?_, ⟨⟨rfl, .inr ⟨w2.heap.size, 2, #[.int .u8 97, .int .u8 98], rfl, Nat.zero_le _, ?_, Nat.le_refl _, by simp [maxLen], rfl, rfl⟩⟩, rfl⟩, by simp⟩
    · rw [hw3]
      have := heap_alloc_new (w2.alloc (.cells #[.int .u8 97, .int .u8 98] 5)) (.cells #[.slice (some ⟨w2.heap.size, 0, none⟩) 2 2] 73)
      simpa using this
    · rw [hw3]
      exact blk_alloc_old (blk_alloc_new w2 _) _
  clear hw3
  have hW3 := hW2.keep hca (by simp) (by simp)
  have HSZ := hid hsz
  clear hsz
  have hx1 := hW3.cell
  have hx2 := hF3.cell
  have hrow3 := hF3.row.keep (Chg.of_drewN [] w3 1) (by simp)
  have hrowH := hW3.row.keep (Chg.of_drewN [] w3 1) (by simp)
  simp only [List.length_cons, List.length_nil, Nat.zero_add] at hx2 hrow3
  go_region_law (first | (refine step_app rfl _ _ 29 rfl elem_u8 rfl hrow3 rfl hrowH.view (B_one _) (by unfold maxLen; omega) (by omega) (fun ao' cap' r' w4 hr4 hc4 hf4 => ?_); obtain ⟨hcell, hfree⟩ := hF3.put_cell (Chg.of_drewN [] w3 1) hc4; have hp := hF3.put (l' := [97, 98] ++ l2) (Chg.of_drewN [] w3 1) (by rw [List.map_append]; exact hr4) hc4 hf4))
  all_goals
    obtain ⟨p1, p2, p3⟩ := hp
    obtain ⟨w5, hw5⟩ : ∃ w5, w5 = w4.setCell ⟨w2.heap.size + 1, 0, none⟩ (.slice ao' (2 + l2.length) cap') := ⟨_, rfl⟩
    have p1' : Wr 73 5 w5 (w2.heap.size + 1) r' ([97, 98] ++ l2) ao' cap' := by rw [hw5]; exact p1
    have p2' : Chg ((w2.heap.size + 1) :: [w2.heap.size]) w3 w5 := by rw [hw5]; exact p2
    rw [← hw5]
    clear p1 p2 hw5 hcell hfree hr4 hc4 hf4
    have hC5 : Chg [] w w5 := ((hc2'.trans' hca.nil).trans p2' (fun x hx => by simp at hx; exact .inr (by omega))).mono (fun x hx => .inr (by simp at hx; omega))
    have hr2lt2 : ∀ g, r2 = some g → g ≠ w2.heap.size + 1 ∧ g ≠ w2.heap.size := fun g hg => by have := hr2lt g hg; omega
    have hH5 := hW3.keep p2' (by simp; omega) (fun g hg => by have := hr2lt2 g hg; simpa using this)
    have hb5 := HV.out.keep hC5 (by simp)
    have hr'W : Fresh w none r' := fun g hg => by
      rcases p3 g hg with h | h
      · exact .inr (by simp at h; omega)
      · exact .inr (by have := hca.size; omega)
    have y1 := hH5.cell
    have hl5 : ([97, 98] ++ l2).length ≤ 7 := by simp; omega
    have hs1 := sum_calls 4294967295 (by omega) _ l2 w5 hH5.row.view (by omega)
    rw [show ((4294967295 : Nat) : Int) = 4294967295 from rfl] at hs1
    have hs2 := sum_calls (crcSum 4294967295 l2) (crcSum_lt l2 (by omega)) _ body w5 hb5 (by omega)
    have hxl := crcSum_lt body (crcSum_lt l2 (c := 4294967295) (by omega))
    have hsm : crcSum (crcSum 4294967295 l2) body ^^^ 4294967295 = sumB (l2 ++ body) := by unfold sumB; rw [crcSum_append]
    have hxb := xorBegin (crcSum (crcSum 4294967295 l2) body) hxl
    rw [hsm] at hxb
    obtain ⟨c1, hc1⟩ : ∃ c, crcSum 4294967295 l2 = c := ⟨_, rfl⟩
    rw [hc1] at hs1 hs2 hxb hxl
    obtain ⟨c2, hc2⟩ : ∃ c, crcSum c1 body = c := ⟨_, rfl⟩
    rw [hc2] at hs2 hxb hxl
    have hsl := sumB_lt (l2 ++ body)
    obtain ⟨sm, hsmE⟩ : ∃ s, sumB (l2 ++ body) = s := ⟨_, rfl⟩
    rw [hsmE] at hxb hsl
    have HS1 := hid hs1
    have HS2 := hid hs2
    have HSM := hid hsmE
    clear hs1 hs2 hsm hsmE hc1 hc2 hxl hx1 hx2 hrow3 hrowH
    have p1a := fun o => p1'.keep ((Chg.refl [] w5).alloc o) (by simp) (by simp)
    have hbf : w2.heap.size + 1 < w5.heap.size := blk_lt p1'.blk
    have hrf := p1'.row.lt
    go_wp2_with (first
      | (go_at_call 80; (with_reducible refine HS2.out.mono ?_); rintro e w' ⟨rfl, rfl⟩)
      | (go_at_call 80; (with_reducible refine HS1.out.mono ?_); rintro e w' ⟨rfl, rfl⟩)
      | (go_at_call 79; refine (put_u32 [sm] (by intro m hm; rw [List.mem_singleton.1 hm]; exact hsl) _ _ _ _ _ _ _ (p1a _) (by omega) (View.one _ _ _) (fun _ g hg => by simp [Value.ownBlock] at hg; subst hg; exact ⟨by omega, fun e => by have := hrf _ e; omega⟩) (by simp)).mono ?_; rintro e w6 ⟨rfl, l6, r6, ao6, cap6, hW6, hc6, hf6, HL6⟩; refine halt (fun X hX => ?_)))
    rw [hX.out]; clear hX
    have hca5 := (Chg.refl [] w5).alloc (.cells #[.int .u32 (sm : Nat)] 99)
    have hC6 : Chg [] w w6 := (hC5.trans' hca5).trans hc6 (fun x hx => by
      rcases List.mem_cons.1 hx with h | h
      · exact .inr (by omega)
      · exact .inr ((hr'W x (by simpa using h)).resolve_left (by simp)))
    have hf6W : Fresh w none r6 := fun g hg => by
      rcases hf6 g hg with h | h
      · exact hr'W g h
      · have := hC5.size; simp at h; exact .inr (by omega)
    have hb6 := HV.out.keep hC6 (by simp)
    have y6 := hW6.cell
    have hl6 : l6.length ≤ 11 := by rw [HL6.out, List.length_append]; simp [fixedB]; omega
    have e6 : l6 = [97, 98] ++ l2 ++ fixedB 4 sm := by rw [HL6.out]; simp
    have HE6 := hid e6
    clear HL6 e6 hc6 hf6 p1a hrf hb5 hH5 y1
    go_wp2_with (at_builtin; refine wpList_app rfl _ _ 29 rfl elem_u8 rfl (hW6.row) rfl (hb6) (B_one _) (by unfold maxLen; omega) (by omega) (fun ao7 cap7 r7 w7 hr7 hc7 hf7 hnil7 => halt (fun X hX => ?_)))
    rw [hX.out]; clear hX
    clear hnil7
    obtain ⟨hcell, hfree⟩ := hW6.put_cell (Chg.refl [] w6) hc7
    obtain ⟨q1, q2, q3⟩ := hW6.put (l' := l6 ++ body) (Chg.refl [] w6) (by rw [List.map_append]; exact hr7) hc7 hf7
    have hrow8 := q1.row
    have HQ1 := hid hrow8
    clear hrow8
    go_wp2
    go_ret2
    refine ⟨l6 ++ body, ao7, cap7, r7, ?_, HQ1.out, ?_, ?_, hid ?_⟩
    · rw [List.length_append]; rfl
    · exact fun g hg => (q3 g hg).elim (fun h => hf6W g h) (fun h => .inr (by have := hC6.size; omega))
    · exact hC6.trans q2 (fun x hx => by
        rcases List.mem_cons.1 hx with h | h
        · exact .inr (by omega)
        · exact .inr ((hf6W x (by simpa using h)).resolve_left (by simp)))
    · rw [HE6.out, ← HSM.out, HE2.out]
      simp [frameB]
end Go.Proofs.Ytbikekgljabalaa
