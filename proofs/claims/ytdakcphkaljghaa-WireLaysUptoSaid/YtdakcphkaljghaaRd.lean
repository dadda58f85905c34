/- Walks of the wire layer: the reader's texts. -/
import Derived.Test.YtdakcphkaljghaaRc
namespace Go.Proofs.Ytdakcphkaljghaa
open Go.RowKit Go.AB
def strB (l : List UInt8) : Value := .string ⟨l.toArray⟩
theorem wrap_u64_nat {n : Nat} (h : U64 n) : IntKind.u64.wrap (n : Int) = (n : Int) := by have := h.out; rw [IntKind.wrap_u64]; omega
section
variable {w : World} {b : Nat} {l : List UInt8} {ao : Option Addr} {cap pos wh bad : Nat}
set_option maxHeartbeats 1000000 in
set_option maxRecDepth 100000 in
theorem rtext_err (hR : Rd 81 w b l ao cap pos wh 0) (hl : l.length ≤ 1099511627776) {c : Nat} (hc : c ≠ 0) (hp : Hid (peekS (l.drop pos) = (0, 0, c))) (most : Int) : Calls Try.prog 40 #[.pointer (some ⟨b, 0, none⟩), .int .i64 most] w (RdPost 81 w b l ao cap (strB []) ⟨pos, pos, c⟩) := by
  go_enter Try.func40, Try.ntmps40
  go_wp2_with (go_at_call 61; refine (wrong_calls hR).mono ?_; rintro e w' ⟨rfl, rfl⟩; refine halt (fun X hX => ?_))
  rw [hX.out]; clear hX
  go_wp2_with (go_at_call 70; refine (peek_bad_calls hR hl hc hp.out).mono ?_; rintro e w1 ⟨rfl, hd1⟩; refine halt (fun X hX => ?_))
  rw [hX.out]; clear hX
  go_wp2_with (go_at_call 63; refine (fails_calls (Rd_drew hR hd1) c).mono ?_; rintro e w' ⟨rfl, hR2, hc2⟩)
  go_ret
  exact ⟨rfl, hR2, (hd1.chg (S := [b])).trans' hc2⟩
set_option maxHeartbeats 1000000 in
set_option maxRecDepth 100000 in
theorem rtext_over_p (hR : Rd 81 w b l ao cap pos wh 0) (hl : l.length ≤ 1099511627776) {v n : Nat} (hp : Hid (peekS (l.drop pos) = (v, n, 0))) (m : Nat) (hmu : U64 m) (hm0 : 0 < m) (hm : m < v) : Calls Try.prog 40 #[.pointer (some ⟨b, 0, none⟩), .int .i64 m] w (RdPost 81 w b l ao cap (strB []) ⟨pos, pos, 12⟩) := by
  have hw := wrap_u64_nat hmu
  have hm0 : 0 < m := hm0
  go_enter Try.func40, Try.ntmps40
  go_wp2_with (go_at_call 61; refine (wrong_calls hR).mono ?_; rintro e w' ⟨rfl, rfl⟩; refine halt (fun X hX => ?_))
  rw [hX.out]; clear hX
  go_wp2_with (go_at_call 70; refine (peek_ok_calls hR hl hp.out).mono ?_; rintro e w1 ⟨rfl, hd1⟩; refine halt (fun X hX => ?_))
  rw [hX.out]; clear hX
  go_wp2_with (go_at_call 63; refine (fails_calls (Rd_drew hR hd1) 12).mono ?_; rintro e w' ⟨rfl, hR2, hc2⟩)
  go_ret
  exact ⟨rfl, hR2, (hd1.chg (S := [b])).trans' hc2⟩
set_option maxHeartbeats 1000000 in
set_option maxRecDepth 100000 in
theorem rtext_long_p (hR : Rd 81 w b l ao cap pos wh 0) (hl : l.length ≤ 1099511627776) {v n : Nat} (hp : Hid (peekS (l.drop pos) = (v, n, 0))) (hpo : pos + n ≤ l.length) (m : Nat) (hmu : U64 m) (hm0 : 0 < m) (hm : v ≤ m) (hlong : l.length - (pos + n) < v) : Calls Try.prog 40 #[.pointer (some ⟨b, 0, none⟩), .int .i64 m] w (RdPost 81 w b l ao cap (strB []) ⟨pos, pos, 10⟩) := by
  have hw := wrap_u64_nat hmu
  have hm0 : 0 < m := hm0
  have hw2 : IntKind.u64.wrap ((l.length : Int) - ((pos : Int) + (n : Int))) = ((l.length - (pos + n) : Nat) : Int) := by rw [IntKind.wrap_u64]; omega
  go_enter Try.func40, Try.ntmps40
  go_wp2_with (go_at_call 61; refine (wrong_calls hR).mono ?_; rintro e w' ⟨rfl, rfl⟩; refine halt (fun X hX => ?_))
  rw [hX.out]; clear hX
  go_wp2_with (go_at_call 70; refine (peek_ok_calls hR hl hp.out).mono ?_; rintro e w1 ⟨rfl, hd1⟩; refine halt (fun X hX => ?_))
  rw [hX.out]; clear hX
  have h0 := (Rd_drew hR hd1).c0
  go_wp2_with (go_at_call 63; refine (fails_calls (Rd_drew hR hd1) 10).mono ?_; rintro e w' ⟨rfl, hR2, hc2⟩)
  go_ret
  exact ⟨rfl, hR2, (hd1.chg (S := [b])).trans' hc2⟩
set_option maxHeartbeats 1000000 in
set_option maxRecDepth 100000 in
theorem rtext_none_p (hR : Rd 81 w b l ao cap pos wh 0) (hl : l.length ≤ 1099511627776) {n : Nat} (hp : Hid (peekS (l.drop pos) = (0, n, 0))) (hpo : pos + n ≤ l.length) (m : Nat) (hmu : U64 m) (hm0 : 0 < m) : Calls Try.prog 40 #[.pointer (some ⟨b, 0, none⟩), .int .i64 m] w (RdPost 81 w b l ao cap (strB []) ⟨pos + n, wh, 0⟩) := by
  have hw := wrap_u64_nat hmu
  have hm0 : 0 < m := hm0
  have _hw2 : IntKind.u64.wrap ((l.length : Int) - ((pos : Int) + (n : Int))) = ((l.length - (pos + n) : Nat) : Int) := by rw [IntKind.wrap_u64]; omega
  go_enter Try.func40, Try.ntmps40
  go_wp2_with (go_at_call 61; refine (wrong_calls hR).mono ?_; rintro e w' ⟨rfl, rfl⟩; refine halt (fun X hX => ?_))
  rw [hX.out]; clear hX
  go_wp2_with (go_at_call 70; refine (peek_ok_calls hR hl hp.out).mono ?_; rintro e w1 ⟨rfl, hd1⟩; refine halt (fun X hX => ?_))
  rw [hX.out]; clear hX
  have hR1 := Rd_drew hR hd1
  have h0 := hR1.c0
  have h1 := hR1.c1
  have f1 := hR1.fr 1
  obtain ⟨hset, hcset⟩ := hR1.set1 (pos + n) hpo
  have hcv : ∀ (k : Nat) (ad : Option Addr) (c : Nat), (convert 25 9 (.slice ad 0 c)).run Try.prog ((w1.setCell ⟨b, 1, none⟩ (.int .i64 ((pos : Int) + (n : Int)))).drewN k) = .ok (strB []) ((w1.setCell ⟨b, 1, none⟩ (.int .i64 ((pos : Int) + (n : Int)))).drewN k) := fun k ad c =>
    run_conv_empty Try.underlying25 Try.underlying5 Try.underlying9 _ _ _
  have hcap := hR1.view.2.2
  have hcap : l.length ≤ cap := by
    obtain ⟨_, _, h1, h2, _⟩ := hcap
    simp only [Value.slice.injEq, true_and] at h1
    obtain ⟨rfl, rfl⟩ := h1
    exact h2
  by_cases hcp : cap = pos + n
  all_goals
    go_wp2
    go_quiet (fail)
    go_wp2
    go_ret
    exact ⟨rfl, Rd_drew hset Drew.refl, ((hd1.chg (S := [b])).trans' hcset).trans' (Chg.of_drewN _ _ _)⟩
set_option maxHeartbeats 1000000 in
set_option maxRecDepth 100000 in
theorem rtext_ok_p (hR : Rd 81 w b l ao cap pos wh 0) (hl : l.length ≤ 1099511627776) {v n : Nat} (hp : Hid (peekS (l.drop pos) = (v, n, 0))) (hpo : pos + n ≤ l.length) (m : Nat) (hmu : U64 m) (hm0 : 0 < m) (hm : v ≤ m) (hfit : pos + n + v ≤ l.length) (hvp : 0 < v) : Calls Try.prog 40 #[.pointer (some ⟨b, 0, none⟩), .int .i64 m] w (RdPost 81 w b l ao cap (strB ((l.drop (pos + n)).take v)) ⟨pos + n + v, wh, 0⟩) := by
  have hw := wrap_u64_nat hmu
  have hm0 : 0 < m := hm0
  have hw2 : IntKind.u64.wrap ((l.length : Int) - ((pos : Int) + (n : Int))) = ((l.length - (pos + n) : Nat) : Int) := by rw [IntKind.wrap_u64]; omega
  go_enter Try.func40, Try.ntmps40
  go_wp2_with (go_at_call 61; refine (wrong_calls hR).mono ?_; rintro e w' ⟨rfl, rfl⟩; refine halt (fun X hX => ?_))
  rw [hX.out]; clear hX
  go_wp2_with (go_at_call 70; refine (peek_ok_calls hR hl hp.out).mono ?_; rintro e w1 ⟨rfl, hd1⟩; refine halt (fun X hX => ?_))
  rw [hX.out]; clear hX
  have hR1 := Rd_drew hR hd1
  have h0 := hR1.c0
  have h1 := hR1.c1
  have f1 := hR1.fr 1
  obtain ⟨hset, hcset⟩ := hR1.set1 (pos + n + v) hfit
  obtain ⟨_, _, ao', cap', hao, hlc, hcm, _, hcells⟩ := hR1.view
  simp only [Value.slice.injEq, true_and] at hao
  obtain ⟨rfl, rfl⟩ := hao
  obtain ⟨bb, off, rfl, hc⟩ := hcells (by omega)
  have hbb : bb ≠ b := hR1.ne bb rfl
  have hvw : View w1 1 (.slice (some ⟨bb, off + (pos + n), none⟩) v (cap - (pos + n))) v (((l.drop (pos + n)).take v).map B) :=
    View.part ⟨by simp, by omega, hc⟩ (by omega) (by omega) (by omega)
  have hcv : ∀ k : Nat, (convert 25 9 (.slice (some ⟨bb, off + (pos + n), none⟩) v (cap - (pos + n)))).run Try.prog ((w1.setCell ⟨b, 1, none⟩ (.int .i64 ((pos : Int) + (n : Int) + (v : Int)))).drewN k) = .ok (strB ((l.drop (pos + n)).take v)) ((w1.setCell ⟨b, 1, none⟩ (.int .i64 ((pos : Int) + (n : Int) + (v : Int)))).drewN k) := fun k =>
    run_conv_view Try.underlying25 Try.underlying5 Try.underlying9 (w := w1.setCell ⟨b, 1, none⟩ (.int .i64 ((pos : Int) + (n : Int) + (v : Int)))) (hvw.keep hcset (by intro g hg; cases hg; simpa using hbb)) _ rfl
  clear hcells hc
  go_wp2
  go_quiet (fail)
  go_wp2
  go_ret
  exact ⟨rfl, Rd_drew hset Drew.refl, ((hd1.chg (S := [b])).trans' hcset).trans' (Chg.of_drewN _ _ _)⟩
set_option maxHeartbeats 1000000 in
set_option maxRecDepth 100000 in
theorem rtext_over_n (hR : Rd 81 w b l ao cap pos wh 0) (hl : l.length ≤ 1099511627776) {v n : Nat} (hp : Hid (peekS (l.drop pos) = (v, n, 0))) (most : Int) (hm0 : ¬ 0 < most) (hm : 0 < v) : Calls Try.prog 40 #[.pointer (some ⟨b, 0, none⟩), .int .i64 most] w (RdPost 81 w b l ao cap (strB []) ⟨pos, pos, 12⟩) := by
  have hw0 : IntKind.u64.wrap 0 = 0 := by decide
  go_enter Try.func40, Try.ntmps40
  go_wp2_with (go_at_call 61; refine (wrong_calls hR).mono ?_; rintro e w' ⟨rfl, rfl⟩; refine halt (fun X hX => ?_))
  rw [hX.out]; clear hX
  go_wp2_with (go_at_call 70; refine (peek_ok_calls hR hl hp.out).mono ?_; rintro e w1 ⟨rfl, hd1⟩; refine halt (fun X hX => ?_))
  rw [hX.out]; clear hX
  go_wp2_with (go_at_call 63; refine (fails_calls (Rd_drew hR hd1) 12).mono ?_; rintro e w' ⟨rfl, hR2, hc2⟩)
  go_ret
  exact ⟨rfl, hR2, (hd1.chg (S := [b])).trans' hc2⟩
set_option maxHeartbeats 1000000 in
set_option maxRecDepth 100000 in
theorem rtext_none_n (hR : Rd 81 w b l ao cap pos wh 0) (hl : l.length ≤ 1099511627776) {n : Nat} (hp : Hid (peekS (l.drop pos) = (0, n, 0))) (hpo : pos + n ≤ l.length) (most : Int) (hm0 : ¬ 0 < most) : Calls Try.prog 40 #[.pointer (some ⟨b, 0, none⟩), .int .i64 most] w (RdPost 81 w b l ao cap (strB []) ⟨pos + n, wh, 0⟩) := by
  have hw0 : IntKind.u64.wrap 0 = 0 := by decide
  have _hw2 : IntKind.u64.wrap ((l.length : Int) - ((pos : Int) + (n : Int))) = ((l.length - (pos + n) : Nat) : Int) := by rw [IntKind.wrap_u64]; omega
  go_enter Try.func40, Try.ntmps40
  go_wp2_with (go_at_call 61; refine (wrong_calls hR).mono ?_; rintro e w' ⟨rfl, rfl⟩; refine halt (fun X hX => ?_))
  rw [hX.out]; clear hX
  go_wp2_with (go_at_call 70; refine (peek_ok_calls hR hl hp.out).mono ?_; rintro e w1 ⟨rfl, hd1⟩; refine halt (fun X hX => ?_))
  rw [hX.out]; clear hX
  have hR1 := Rd_drew hR hd1
  have h0 := hR1.c0
  have h1 := hR1.c1
  have f1 := hR1.fr 1
  obtain ⟨hset, hcset⟩ := hR1.set1 (pos + n) hpo
  have hcv : ∀ (k : Nat) (ad : Option Addr) (c : Nat), (convert 25 9 (.slice ad 0 c)).run Try.prog ((w1.setCell ⟨b, 1, none⟩ (.int .i64 ((pos : Int) + (n : Int)))).drewN k) = .ok (strB []) ((w1.setCell ⟨b, 1, none⟩ (.int .i64 ((pos : Int) + (n : Int)))).drewN k) := fun k ad c =>
    run_conv_empty Try.underlying25 Try.underlying5 Try.underlying9 _ _ _
  have hcap := hR1.view.2.2
  have hcap : l.length ≤ cap := by
    obtain ⟨_, _, h1, h2, _⟩ := hcap
    simp only [Value.slice.injEq, true_and] at h1
    obtain ⟨rfl, rfl⟩ := h1
    exact h2
  by_cases hcp : cap = pos + n
  all_goals
    go_wp2
    go_quiet (fail)
    go_wp2
    go_ret
    exact ⟨rfl, Rd_drew hset Drew.refl, ((hd1.chg (S := [b])).trans' hcset).trans' (Chg.of_drewN _ _ _)⟩

theorem rtext_bad (hR : Rd 81 w b l ao cap pos wh bad) (hb : bad ≠ 0) (most : Int) : Calls Try.prog 40 #[.pointer (some ⟨b, 0, none⟩), .int .i64 most] w (RdPost 81 w b l ao cap (strB []) ⟨pos, wh, bad⟩) := by
  go_enter Try.func40, Try.ntmps40
  go_wp2_with (go_at_call 61; refine (wrong_calls hR).mono ?_; rintro e w' ⟨rfl, rfl⟩)
  go_ret
  exact ⟨rfl, hR, Chg.refl _ _⟩
theorem rtext_calls (hR : Rd 81 w b l ao cap pos wh bad) (hl : l.length ≤ 1099511627776) (most : Int) (hmost : I64 most) :
    Calls Try.prog 40 #[.pointer (some ⟨b, 0, none⟩), .int .i64 most] w (RdPost 81 w b l ao cap (strB (rText most l ⟨pos, wh, bad⟩).1) (rText most l ⟨pos, wh, bad⟩).2) := by
  by_cases hb : bad = 0
  · subst hb
    rcases peek_cases _ (peekF_err 10 0 (l.drop pos)) with ⟨v, n, hp⟩ | ⟨c, hc, hp⟩
    · have hp' : peekS (l.drop pos) = (v, n, 0) := hp
      have hpo := peekS_pos l pos hR.ok (by rw [hp'])
      rw [hp'] at hpo
      have hpo : pos + n ≤ l.length := hpo
      by_cases hm : most.toNat < v
      · have hs : rText most l ⟨pos, wh, 0⟩ = ([], ⟨pos, pos, 12⟩) := by unfold rText; simp [hp', hm, RS.fails]
        rw [hs]
        by_cases hm0 : 0 < most
        · obtain ⟨m, rfl⟩ := Int.eq_ofNat_of_zero_le (show 0 ≤ most by omega)
          exact rtext_over_p hR hl (hid hp') m (by unfold I64 at hmost; unfold U64; omega) (by omega) (by simpa using hm)
        · exact rtext_over_n hR hl (hid hp') most hm0 (by omega)
      · by_cases hlong : l.length - (pos + n) < v
        · have hs : rText most l ⟨pos, wh, 0⟩ = ([], ⟨pos, pos, 10⟩) := by unfold rText; simp [hp', hm, hlong, RS.fails]
          rw [hs]
          by_cases hm0 : 0 < most
          · obtain ⟨m, rfl⟩ := Int.eq_ofNat_of_zero_le (show 0 ≤ most by omega)
            exact rtext_long_p hR hl (hid hp') hpo m (by unfold I64 at hmost; unfold U64; omega) (by omega) (by simpa using hm) hlong
          · exact absurd hm (by omega)
        · have hs : rText most l ⟨pos, wh, 0⟩ = ((l.drop (pos + n)).take v, ⟨pos + n + v, wh, 0⟩) := by unfold rText; simp [hp', hm, hlong]
          rw [hs]
          rcases Nat.eq_zero_or_pos v with hv0 | hvp
          · subst hv0
            rw [List.take_zero]
            by_cases hm0 : 0 < most
            · obtain ⟨m, rfl⟩ := Int.eq_ofNat_of_zero_le (show 0 ≤ most by omega)
              exact rtext_none_p hR hl (hid hp') hpo m (by unfold I64 at hmost; unfold U64; omega) (by omega)
            · exact rtext_none_n hR hl (hid hp') hpo most hm0
          · by_cases hm0 : 0 < most
            · obtain ⟨m, rfl⟩ := Int.eq_ofNat_of_zero_le (show 0 ≤ most by omega)
              exact rtext_ok_p hR hl (hid hp') hpo m (by unfold I64 at hmost; unfold U64; omega) (by omega) (by simpa using hm) (by omega) hvp
            · exact absurd hm (by omega)
    · have hp' : peekS (l.drop pos) = (0, 0, c) := hp
      have hs : rText most l ⟨pos, wh, 0⟩ = ([], ⟨pos, pos, c⟩) := by unfold rText; simp [hp', hc, RS.fails]
      rw [hs]
      exact rtext_err hR hl hc (hid hp') most
  · have hs : rText most l ⟨pos, wh, bad⟩ = ([], ⟨pos, wh, bad⟩) := by unfold rText; simp [hb]
    rw [hs]
    exact rtext_bad hR hb most
end
end Go.Proofs.Ytdakcphkaljghaa
