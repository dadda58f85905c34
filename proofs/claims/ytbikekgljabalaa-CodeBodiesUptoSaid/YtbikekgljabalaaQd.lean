/- Walks of the reference's reader: texts; a new reader. -/
import Derived.Test.YtbikekgljabalaaQc
import Derived.Test.YtbikekgljabalaaM02
namespace Go.Proofs.Ytbikekgljabalaa
open Go.RowKit Go.AB
set_option linter.unusedSimpArgs false
set_option linter.unusedVariables false
section
variable {w : World} {b : Nat} {l : List UInt8} {ao : Option Addr} {cap pos wh bad : Nat}
set_option maxHeartbeats 1000000 in
set_option maxRecDepth 100000 in
theorem q_text_err_p (hR : Rd 145 w b l ao cap pos wh 0) (hl : l.length ≤ 1099511627776) {c : Nat} (hc : c ≠ 0) (hp : Hid (peekS (l.drop pos) = (0, 0, c))) (m : Nat) (hmu : m < 9223372036854775808) : Calls Try.prog 91 #[.pointer (some ⟨b, 0, none⟩), .int .i64 m] w (RdPost 145 w b l ao cap (strB []) ⟨pos, pos, c⟩) := by
  have h3 := hR.c3
  have hw : IntKind.u64.wrap (m : Int) = (m : Int) := by rw [IntKind.wrap_u64]; omega
  have hm0 : ¬ ((m : Int) < 0) := by omega
  have hc0 : ((c : Int) == 0) = false := by simpa using hc
  go_enter Try.func91, Try.ntmps91
  go_wp2_with (go_at_call 107; refine (q_peek_bad hR hl hc hp.out).mono ?_; rintro e w1 ⟨rfl, hd1⟩; refine halt (fun X hX => ?_))
  rw [hX.out]; clear hX
  have hR1 := Qd_drew hR hd1
  go_wp2
  go_quiet (fail)
  go_wp2_with (go_at_call 108; refine (q_fails_calls (Qd_drew hR1 Drew.refl) c).mono ?_; rintro e w' ⟨rfl, hR2, hc2⟩)
  go_ret
  exact ⟨rfl, hR2, (hd1.chg (S := [b])).trans' ((Chg.of_drewN _ _ _).trans' hc2)⟩
set_option maxHeartbeats 1000000 in
set_option maxRecDepth 100000 in
theorem q_text_over_p (hR : Rd 145 w b l ao cap pos wh 0) (hl : l.length ≤ 1099511627776) {v n : Nat} (hp : Hid (peekS (l.drop pos) = (v, n, 0))) (m : Nat) (hmu : m < 9223372036854775808) (hm : m < v) : Calls Try.prog 91 #[.pointer (some ⟨b, 0, none⟩), .int .i64 m] w (RdPost 145 w b l ao cap (strB []) ⟨pos, pos, 12⟩) := by
  have h3 := hR.c3
  have hw : IntKind.u64.wrap (m : Int) = (m : Int) := by rw [IntKind.wrap_u64]; omega
  have hm0 : ¬ ((m : Int) < 0) := by omega
  go_enter Try.func91, Try.ntmps91
  go_wp2_with (go_at_call 107; refine (q_peek_ok hR hl hp.out).mono ?_; rintro e w1 ⟨rfl, hd1⟩; refine halt (fun X hX => ?_))
  rw [hX.out]; clear hX
  have hR1 := Qd_drew hR hd1
  go_wp2
  go_quiet (fail)
  go_wp2_with (go_at_call 108; refine (q_fails_calls (Qd_drew hR1 Drew.refl) 12).mono ?_; rintro e w' ⟨rfl, hR2, hc2⟩)
  go_ret
  exact ⟨rfl, hR2, (hd1.chg (S := [b])).trans' ((Chg.of_drewN _ _ _).trans' hc2)⟩
set_option maxHeartbeats 1000000 in
set_option maxRecDepth 100000 in
theorem q_text_long_p (hR : Rd 145 w b l ao cap pos wh 0) (hl : l.length ≤ 1099511627776) {v n : Nat} (hp : Hid (peekS (l.drop pos) = (v, n, 0))) (hpo : pos + n ≤ l.length) (m : Nat) (hmu : m < 9223372036854775808) (hm : v ≤ m) (hlong : l.length - pos - n < v) : Calls Try.prog 91 #[.pointer (some ⟨b, 0, none⟩), .int .i64 m] w (RdPost 145 w b l ao cap (strB []) ⟨pos, pos, 10⟩) := by
  have h3 := hR.c3
  have hw : IntKind.u64.wrap (m : Int) = (m : Int) := by rw [IntKind.wrap_u64]; omega
  have hm0 : ¬ ((m : Int) < 0) := by omega
  have hw2 : IntKind.u64.wrap ((l.length : Int) - (pos : Int) - (n : Int)) = ((l.length - pos - n : Nat) : Int) := by rw [IntKind.wrap_u64]; omega
  go_enter Try.func91, Try.ntmps91
  go_wp2_with (go_at_call 107; refine (q_peek_ok hR hl hp.out).mono ?_; rintro e w1 ⟨rfl, hd1⟩; refine halt (fun X hX => ?_))
  rw [hX.out]; clear hX
  have h0 := (Qd_drew hR hd1).c0
  have h1 := (Qd_drew hR hd1).c1
  have hR1 := Qd_drew hR hd1
  go_wp2
  go_quiet (fail)
  go_wp2_with (go_at_call 108; refine (q_fails_calls (Qd_drew hR1 Drew.refl) 10).mono ?_; rintro e w' ⟨rfl, hR2, hc2⟩)
  go_ret
  exact ⟨rfl, hR2, (hd1.chg (S := [b])).trans' ((Chg.of_drewN _ _ _).trans' hc2)⟩
set_option maxHeartbeats 1000000 in
set_option maxRecDepth 100000 in
theorem q_text_none_p (hR : Rd 145 w b l ao cap pos wh 0) (hl : l.length ≤ 1099511627776) {n : Nat} (hp : Hid (peekS (l.drop pos) = (0, n, 0))) (hpo : pos + n ≤ l.length) (m : Nat) (hmu : m < 9223372036854775808) : Calls Try.prog 91 #[.pointer (some ⟨b, 0, none⟩), .int .i64 m] w (RdPost 145 w b l ao cap (strB []) ⟨pos + n, wh, 0⟩) := by
  have h3 := hR.c3
  have hw : IntKind.u64.wrap (m : Int) = (m : Int) := by rw [IntKind.wrap_u64]; omega
  have hm0 : ¬ ((m : Int) < 0) := by omega
  have hw2 : IntKind.u64.wrap ((l.length : Int) - (pos : Int) - (n : Int)) = ((l.length - pos - n : Nat) : Int) := by rw [IntKind.wrap_u64]; omega
  go_enter Try.func91, Try.ntmps91
  go_wp2_with (go_at_call 107; refine (q_peek_ok hR hl hp.out).mono ?_; rintro e w1 ⟨rfl, hd1⟩; refine halt (fun X hX => ?_))
  rw [hX.out]; clear hX
  have hR1 := Qd_drew hR hd1
  have h0 := hR1.c0
  have h1 := hR1.c1
  have f1 := hR1.fr 1
  obtain ⟨hset, hcset⟩ := (Qd_drew hR1 (Drew.refl (n := 0))).set1 (pos + n) hpo
  have hcv : ∀ (k : Nat) (ad : Option Addr) (c : Nat), (convert 29 9 (.slice ad 0 c)).run Try.prog (w1.drewN k) = .ok (strB []) (w1.drewN k) := fun k ad c =>
    run_conv_empty Try.underlying29 Try.underlying5 Try.underlying9 _ _ _
  have hcap := hR1.view.2.2
  have hcap : l.length ≤ cap := by
    obtain ⟨_, _, h1, h2, _⟩ := hcap
    simp only [Value.slice.injEq, true_and] at h1
    obtain ⟨rfl, rfl⟩ := h1
    exact h2
  have hz : (pos : Int) + (n : Int) ≤ (l.length : Int) := by omega
  clear hset hcset
  by_cases hcp : cap = pos + n
  all_goals
    go_wp2
    go_quiet (fail)
    go_wp2
    go_quiet (fail)
    go_wp2
    go_ret
    have hR2 := fun n => Qd_drew hR1 (Drew.refl (n := n))
    exact ⟨rfl, ((hR2 _).set1 (pos + n) hpo).1, (hd1.chg (S := [b])).trans' ((Chg.of_drewN _ _ _).trans' ((hR2 _).set1 (pos + n) hpo).2)⟩
set_option maxHeartbeats 1000000 in
set_option maxRecDepth 100000 in
theorem q_text_ok_p (hR : Rd 145 w b l ao cap pos wh 0) (hl : l.length ≤ 1099511627776) {v n : Nat} (hp : Hid (peekS (l.drop pos) = (v, n, 0))) (hpo : pos + n ≤ l.length) (m : Nat) (hmu : m < 9223372036854775808) (hm : v ≤ m) (hfit : pos + n + v ≤ l.length) (hvp : 0 < v) : Calls Try.prog 91 #[.pointer (some ⟨b, 0, none⟩), .int .i64 m] w (RdPost 145 w b l ao cap (strB ((l.drop (pos + n)).take v)) ⟨pos + n + v, wh, 0⟩) := by
  have h3 := hR.c3
  have hw : IntKind.u64.wrap (m : Int) = (m : Int) := by rw [IntKind.wrap_u64]; omega
  have hm0 : ¬ ((m : Int) < 0) := by omega
  have hw2 : IntKind.u64.wrap ((l.length : Int) - (pos : Int) - (n : Int)) = ((l.length - pos - n : Nat) : Int) := by rw [IntKind.wrap_u64]; omega
  have hvw : wrap64 (v : Int) = (v : Int) := by rw [IntWalk.wrap64_in _ (by omega)]
  go_enter Try.func91, Try.ntmps91
  go_wp2_with (go_at_call 107; refine (q_peek_ok hR hl hp.out).mono ?_; rintro e w1 ⟨rfl, hd1⟩; refine halt (fun X hX => ?_))
  rw [hX.out]; clear hX
  have hR1 := Qd_drew hR hd1
  have h0 := hR1.c0
  have h1 := hR1.c1
  have f1 := hR1.fr 1
  obtain ⟨_, _, ao', cap', hao, hlc, hcm, _, hcells⟩ := hR1.view
  simp only [Value.slice.injEq, true_and] at hao
  obtain ⟨rfl, rfl⟩ := hao
  obtain ⟨bb, off, rfl, hc⟩ := hcells (by omega)
  have hvx : ∀ k, View (w1.drewN k) 1 (.slice (some ⟨bb, off + (pos + n), none⟩) v (cap - (pos + n))) v (((l.drop (pos + n)).take v).map B) := fun k => View.part ⟨by simp, by omega, fun j hj => hc j hj⟩ (by omega) hlc hcm
  have hcv : ∀ k, (convert 29 9 (.slice (some ⟨bb, off + (pos + n), none⟩) v (cap - (pos + n)))).run Try.prog (w1.drewN k) = .ok (strB ((l.drop (pos + n)).take v)) (w1.drewN k) := fun k =>
    run_conv_view Try.underlying29 Try.underlying5 Try.underlying9 (hvx k) _ rfl
  have hz : (pos : Int) + (n : Int) + (v : Int) ≤ (l.length : Int) := by omega
  have hz2 : ((pos + n + v : Nat) : Int) ≤ (cap : Int) := by omega
  clear hvx hcells hc
  go_wp2
  go_quiet (fail)
  go_wp2
  go_quiet (fail)
  go_wp2
  go_ret
  have hR2 := fun n => Qd_drew hR1 (Drew.refl (n := n))
  exact ⟨rfl, ((hR2 _).set1 (pos + n + v) hfit).1, (hd1.chg (S := [b])).trans' ((Chg.of_drewN _ _ _).trans' ((hR2 _).set1 (pos + n + v) hfit).2)⟩
set_option maxHeartbeats 1000000 in
set_option maxRecDepth 100000 in
theorem q_text_err_n (hR : Rd 145 w b l ao cap pos wh 0) (hl : l.length ≤ 1099511627776) {c : Nat} (hc : c ≠ 0) (hp : Hid (peekS (l.drop pos) = (0, 0, c))) (most : Int) (hmn : most < 0) : Calls Try.prog 91 #[.pointer (some ⟨b, 0, none⟩), .int .i64 most] w (RdPost 145 w b l ao cap (strB []) ⟨pos, pos, c⟩) := by
  have h3 := hR.c3
  have hw0 : IntKind.u64.wrap 0 = 0 := by decide
  have hc0 : ((c : Int) == 0) = false := by simpa using hc
  go_enter Try.func91, Try.ntmps91
  go_wp2_with (go_at_call 107; refine (q_peek_bad hR hl hc hp.out).mono ?_; rintro e w1 ⟨rfl, hd1⟩; refine halt (fun X hX => ?_))
  rw [hX.out]; clear hX
  have hR1 := Qd_drew hR hd1
  go_wp2
  go_quiet (fail)
  go_wp2_with (go_at_call 108; refine (q_fails_calls (Qd_drew hR1 Drew.refl) c).mono ?_; rintro e w' ⟨rfl, hR2, hc2⟩)
  go_ret
  exact ⟨rfl, hR2, (hd1.chg (S := [b])).trans' ((Chg.of_drewN _ _ _).trans' hc2)⟩
set_option maxHeartbeats 1000000 in
set_option maxRecDepth 100000 in
theorem q_text_over_n (hR : Rd 145 w b l ao cap pos wh 0) (hl : l.length ≤ 1099511627776) {v n : Nat} (hp : Hid (peekS (l.drop pos) = (v, n, 0))) (most : Int) (hmn : most < 0) (hm : 0 < v) : Calls Try.prog 91 #[.pointer (some ⟨b, 0, none⟩), .int .i64 most] w (RdPost 145 w b l ao cap (strB []) ⟨pos, pos, 12⟩) := by
  have h3 := hR.c3
  have hw0 : IntKind.u64.wrap 0 = 0 := by decide
  go_enter Try.func91, Try.ntmps91
  go_wp2_with (go_at_call 107; refine (q_peek_ok hR hl hp.out).mono ?_; rintro e w1 ⟨rfl, hd1⟩; refine halt (fun X hX => ?_))
  rw [hX.out]; clear hX
  have hR1 := Qd_drew hR hd1
  go_wp2
  go_quiet (fail)
  go_wp2_with (go_at_call 108; refine (q_fails_calls (Qd_drew hR1 Drew.refl) 12).mono ?_; rintro e w' ⟨rfl, hR2, hc2⟩)
  go_ret
  exact ⟨rfl, hR2, (hd1.chg (S := [b])).trans' ((Chg.of_drewN _ _ _).trans' hc2)⟩
set_option maxHeartbeats 1000000 in
set_option maxRecDepth 100000 in
theorem q_text_none_n (hR : Rd 145 w b l ao cap pos wh 0) (hl : l.length ≤ 1099511627776) {n : Nat} (hp : Hid (peekS (l.drop pos) = (0, n, 0))) (hpo : pos + n ≤ l.length) (most : Int) (hmn : most < 0) : Calls Try.prog 91 #[.pointer (some ⟨b, 0, none⟩), .int .i64 most] w (RdPost 145 w b l ao cap (strB []) ⟨pos + n, wh, 0⟩) := by
  have h3 := hR.c3
  have hw0 : IntKind.u64.wrap 0 = 0 := by decide
  have hw2 : IntKind.u64.wrap ((l.length : Int) - (pos : Int) - (n : Int)) = ((l.length - pos - n : Nat) : Int) := by rw [IntKind.wrap_u64]; omega
  go_enter Try.func91, Try.ntmps91
  go_wp2_with (go_at_call 107; refine (q_peek_ok hR hl hp.out).mono ?_; rintro e w1 ⟨rfl, hd1⟩; refine halt (fun X hX => ?_))
  rw [hX.out]; clear hX
  have hR1 := Qd_drew hR hd1
  have h0 := hR1.c0
  have h1 := hR1.c1
  have f1 := hR1.fr 1
  obtain ⟨hset, hcset⟩ := (Qd_drew hR1 (Drew.refl (n := 0))).set1 (pos + n) hpo
  have hcv : ∀ (k : Nat) (ad : Option Addr) (c : Nat), (convert 29 9 (.slice ad 0 c)).run Try.prog (w1.drewN k) = .ok (strB []) (w1.drewN k) := fun k ad c =>
    run_conv_empty Try.underlying29 Try.underlying5 Try.underlying9 _ _ _
  have hcap := hR1.view.2.2
  have hcap : l.length ≤ cap := by
    obtain ⟨_, _, h1, h2, _⟩ := hcap
    simp only [Value.slice.injEq, true_and] at h1
    obtain ⟨rfl, rfl⟩ := h1
    exact h2
  have hz : (pos : Int) + (n : Int) ≤ (l.length : Int) := by omega
  clear hset hcset
  by_cases hcp : cap = pos + n
  all_goals
    go_wp2
    go_quiet (fail)
    go_wp2
    go_quiet (fail)
    go_wp2
    go_ret
    have hR2 := fun n => Qd_drew hR1 (Drew.refl (n := n))
    exact ⟨rfl, ((hR2 _).set1 (pos + n) hpo).1, (hd1.chg (S := [b])).trans' ((Chg.of_drewN _ _ _).trans' ((hR2 _).set1 (pos + n) hpo).2)⟩

theorem q_text_bad (hR : Rd 145 w b l ao cap pos wh bad) (hb : bad ≠ 0) (most : Int) : Calls Try.prog 91 #[.pointer (some ⟨b, 0, none⟩), .int .i64 most] w (RdPost 145 w b l ao cap (strB []) ⟨pos, wh, bad⟩) := by
  have h3 := hR.c3
  go_enter Try.func91, Try.ntmps91
  go_wp2
  go_ret
  exact ⟨rfl, hR, Chg.refl _ _⟩
theorem q_text_calls (hR : Rd 145 w b l ao cap pos wh bad) (hl : l.length ≤ 1099511627776) (most : Int) (hmost : I64 most) :
    Calls Try.prog 91 #[.pointer (some ⟨b, 0, none⟩), .int .i64 most] w (RdPost 145 w b l ao cap (strB (rText most l ⟨pos, wh, bad⟩).1) (rText most l ⟨pos, wh, bad⟩).2) := by
  by_cases hb : bad = 0
  · subst hb
    rcases peek_cases _ (peekF_err 10 0 (l.drop pos)) with ⟨v, n, hp⟩ | ⟨c, hc, hp⟩
    · have hp' : peekS (l.drop pos) = (v, n, 0) := hp
      have hpo := peekS_pos l pos hR.ok (by rw [hp'])
      rw [hp'] at hpo
      have hpo : pos + n ≤ l.length := hpo
      by_cases hm : most.toNat < v
      · have hs : rText most l ⟨pos, wh, 0⟩ = ([], ⟨pos, pos, 12⟩) := by unfold rText; simp [hp', hm, RS.fails]
        rw [hs]
        by_cases hm0 : 0 ≤ most
        · obtain ⟨m, rfl⟩ := Int.eq_ofNat_of_zero_le hm0
          exact q_text_over_p hR hl (hid hp') m (by unfold I64 at hmost; omega) (by simpa using hm)
        · exact q_text_over_n hR hl (hid hp') most (by omega) (by omega)
      · by_cases hlong : l.length - (pos + n) < v
        · have hs : rText most l ⟨pos, wh, 0⟩ = ([], ⟨pos, pos, 10⟩) := by unfold rText; simp [hp', hm, hlong, RS.fails]
          rw [hs]
          by_cases hm0 : 0 ≤ most
          · obtain ⟨m, rfl⟩ := Int.eq_ofNat_of_zero_le hm0
            exact q_text_long_p hR hl (hid hp') hpo m (by unfold I64 at hmost; omega) (by simpa using hm) (by omega)
          · exact absurd hm (by omega)
        · have hs : rText most l ⟨pos, wh, 0⟩ = ((l.drop (pos + n)).take v, ⟨pos + n + v, wh, 0⟩) := by unfold rText; simp [hp', hm, hlong]
          rw [hs]
          rcases Nat.eq_zero_or_pos v with hv0 | hvp
          · subst hv0
            rw [List.take_zero]
            by_cases hm0 : 0 ≤ most
            · obtain ⟨m, rfl⟩ := Int.eq_ofNat_of_zero_le hm0
              exact q_text_none_p hR hl (hid hp') hpo m (by unfold I64 at hmost; omega)
            · exact q_text_none_n hR hl (hid hp') hpo most (by omega)
          · by_cases hm0 : 0 ≤ most
            · obtain ⟨m, rfl⟩ := Int.eq_ofNat_of_zero_le hm0
              exact q_text_ok_p hR hl (hid hp') hpo m (by unfold I64 at hmost; omega) (by simpa using hm) (by omega) hvp
            · exact absurd hm (by omega)
    · have hp' : peekS (l.drop pos) = (0, 0, c) := hp
      have hs : rText most l ⟨pos, wh, 0⟩ = ([], ⟨pos, pos, c⟩) := by unfold rText; simp [hp', hc, RS.fails]
      rw [hs]
      by_cases hm0 : 0 ≤ most
      · obtain ⟨m, rfl⟩ := Int.eq_ofNat_of_zero_le hm0
        exact q_text_err_p hR hl hc (hid hp') m (by unfold I64 at hmost; omega)
      · exact q_text_err_n hR hl hc (hid hp') most (by omega)
  · have hs : rText most l ⟨pos, wh, bad⟩ = ([], ⟨pos, wh, bad⟩) := by unfold rText; simp [hb]
    rw [hs]
    exact q_text_bad hR hb most
end
end Go.Proofs.Ytbikekgljabalaa
