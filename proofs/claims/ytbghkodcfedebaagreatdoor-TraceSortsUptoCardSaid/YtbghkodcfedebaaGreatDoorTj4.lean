/- Joined by join.py out of Ra, Rb, Rc, Rd, Re, Rf, Rg, Rh, Llaid. -/
import Derived.Test.YtbghkodcfedebaaGreatDoorTj2
import Derived.Test.YtbghkodcfedebaaGreatDoorTj3
import Derived.Deep.QuietTactic
import Derived.BigQuiet
import Derived.Deep.RegionHeld3
import Derived.Deep.RegionLaw
set_option linter.unusedSimpArgs false
set_option linter.unusedVariables false
set_option linter.unusedSectionVars false

/- Walks of the wire layer: the reader. -/
namespace Go.Proofs.YtbghkodcfedebaaGreatDoor
open Go.RowKit Go.AB

section
variable {w : World} {b : Nat} {l : List UInt8} {ao : Option Addr} {cap pos wh bad : Nat} (hR : Rd 151 w b l ao cap pos wh bad)
include hR

set_option maxHeartbeats 400000 in
theorem wrong_calls : Calls Tryz.prog 90 #[.pointer (some ⟨b, 0, none⟩)] w fun e w' => e = .returned (.bool (decide (bad ≠ 0))) ∧ w = w' := by
  have h3 := hR.c3
  by_cases h0 : bad = 0
  · subst h0
    go_enter Tryz.func90, Tryz.ntmps90
    go_wp2
    go_ret
    exact ⟨rfl, rfl⟩
  · go_enter Tryz.func90, Tryz.ntmps90
    go_wp2
    go_ret
    exact ⟨by simp [h0], rfl⟩

def FailPost (T : Nat) (w : World) (b : Nat) (l : List UInt8) (ao : Option Addr) (cap pos : Nat) (bad : Nat) (e : Ending) (w' : World) : Prop :=
  e = .returned (.tuple #[]) ∧ Rd T w' b l ao cap pos pos bad ∧ Chg [b] w w'
set_option maxHeartbeats 400000 in
theorem fails_calls (e : Nat) : Calls Tryz.prog 92 #[.pointer (some ⟨b, 0, none⟩), .int .i64 e] w (FailPost 151 w b l ao cap pos e) := by
  have h1 := hR.c1
  have h2 := hR.c2
  have h3 := hR.c3
  have f2 := hR.fr 2
  have f3 := hR.fr 3
  go_enter Tryz.func92, Tryz.ntmps92
  go_wp2
  go_end0
  exact ⟨rfl, hR.set23 e⟩

set_option maxHeartbeats 400000 in
theorem fault_calls : Calls Tryz.prog 93 #[.pointer (some ⟨b, 0, none⟩)] w fun e w' => e = .returned (.tuple #[.int .i64 wh, .int .i64 bad]) ∧ Drew w w' := by
  have h2 := hR.c2
  have h3 := hR.c3
  go_enter Tryz.func93, Tryz.ntmps93
  go_wp2
  go_quiet (fail)
  go_wp2
  go_ret2
  exact ⟨rfl, Drew.refl⟩
end
end Go.Proofs.YtbghkodcfedebaaGreatDoor

/- Walks of the wire layer: the short number that stands at the reader's place. -/
namespace Go.Proofs.YtbghkodcfedebaaGreatDoor
open Go.RowKit Go.AB

/-- What the rounds that are left make of what has been gathered. -/
def peekAcc (acc i : Nat) (p : Nat × Nat × Nat) : Nat × Nat × Nat := if p.2.2 = 0 then (acc + 128 ^ i * p.1, p.2.1, 0) else (0, 0, p.2.2)
def peekV (pos : Nat) (p : Nat × Nat × Nat) : Value := .tuple #[.int .u64 p.1, .int .i64 (if p.2.2 = 0 then pos + p.2.1 else 0 : Nat), .int .i64 p.2.2]
theorem peekV_ok {pos a n : Nat} {p : Nat × Nat × Nat} (h : p = (a, n, 0)) {A N : Int} (hA : A = a) (hN : N = pos + n) : Ending.returned (.tuple #[.int .u64 A, .int .i64 N, .int .i64 0]) = .returned (peekV pos p) := by
  subst h hA hN; rfl
theorem peekV_bad {pos e : Nat} {p : Nat × Nat × Nat} (h : p = (0, 0, e)) (he : e ≠ 0) : Ending.returned (.tuple #[.int .u64 0, .int .i64 0, .int .i64 e]) = .returned (peekV pos p) := by
  subst h; unfold peekV; simp [he]
theorem peekAcc_bad (acc q e : Nat) (he : e ≠ 0) : peekAcc acc q (0, 0, e) = (0, 0, e) := by unfold peekAcc; simp [he]
theorem peekAcc_ok (acc q v n : Nat) : peekAcc acc q (v, n, 0) = (acc + 128 ^ q * v, n, 0) := rfl
theorem peekAcc_next (acc q x : Nat) (p : Nat × Nat × Nat) (hx : 128 ≤ x ∧ x < 256) : peekAcc acc q (if p.2.2 = 0 then (x - 128 + 128 * p.1, p.2.1, 0) else (0, 0, p.2.2)) = peekAcc (acc + 128 ^ q * (x % 128)) (q + 1) p := by
  unfold peekAcc
  by_cases h : p.2.2 = 0
  · simp only [h, if_true]
    have : x - 128 = x % 128 := by omega
    rw [this, Nat.mul_add, Nat.pow_succ, Nat.mul_assoc, Nat.add_assoc]
  · simp [h]
theorem pow128_lt (q : Nat) (h : q ≤ 9) : 128 ^ q < 18446744073709551616 := Nat.lt_of_le_of_lt (Nat.pow_le_pow_right (by decide) h) (by decide)
theorem acc_bound {x q : Nat} (hq : q ≤ 9) (h : q ≠ 9 ∨ x % 128 ≤ 1) : x % 128 * 2 ^ (7 * q) < 18446744073709551616 := by
  rcases Nat.lt_or_ge q 9 with h1 | h1
  · have h2 : 2 ^ (7 * q) ≤ 2 ^ 56 := Nat.pow_le_pow_right (by decide) (by omega)
    have h3 : x % 128 * 2 ^ (7 * q) ≤ 127 * 2 ^ 56 := Nat.mul_le_mul (by omega) h2
    omega
  · obtain rfl : q = 9 := by omega
    have h2 : x % 128 * 2 ^ (7 * 9) ≤ 1 * 2 ^ 63 := Nat.mul_le_mul (by omega) (Nat.le_refl _)
    omega
theorem acc_next {x q acc : Nat} (h : acc < 128 ^ q) : acc + 128 ^ q * (x % 128) < 128 ^ (q + 1) := by
  rw [Nat.pow_succ]
  have h1 : 128 ^ q * (x % 128) ≤ 128 ^ q * 127 := Nat.mul_le_mul (Nat.le_refl _) (by omega)
  omega
theorem peekAcc_zero (f i : Nat) (l : List UInt8) : peekF f i l = peekAcc 0 0 (peekF f i l) := by
  unfold peekAcc
  rcases peekF_err f i l with h | ⟨h1, h2⟩
  · rw [if_pos h]
    generalize peekF f i l = p at *
    obtain ⟨a, b, c⟩ := p
    simp at h ⊢
    exact h
  · split
    · rename_i h
      generalize peekF f i l = p at *
      obtain ⟨a, b, c⟩ := p
      simp at h ⊢
      exact h
    · generalize peekF f i l = p at *
      obtain ⟨a, b, c⟩ := p
      simp at h1 h2 ⊢
      exact ⟨h1, h2⟩

section
variable {w : World} {b : Nat} {l : List UInt8} {ao : Option Addr} {cap pos wh bad : Nat} (hR : Rd 151 w b l ao cap pos wh bad)
include hR

set_option maxHeartbeats 1000000 in
set_option maxRecDepth 100000 in
theorem peek_calls (hl : l.length ≤ 1099511627776) : Calls Tryz.prog 91 #[.pointer (some ⟨b, 0, none⟩)] w fun e w' => e = .returned (peekV pos (peekS (l.drop pos))) ∧ Drew w w' := by
  have h0 := hR.c0
  have h1 := hR.c1
  have hok := hR.ok
  obtain ⟨_, _, ao', cap', hao, _, _, _, hcells⟩ := hR.view
  simp only [Value.slice.injEq, true_and] at hao
  obtain ⟨rfl, rfl⟩ := hao
  go_enter Tryz.func91, Tryz.ntmps91
  go_wp2
  go_loopw [5, 6, 7, 8] (fun a _ _ i wr => ∃ acc q n, q ≤ 10 ∧ i = .int .i64 (q : Nat) ∧ a = .int .u64 (acc : Nat) ∧ acc < 128 ^ q ∧ pos + q ≤ l.length ∧ Hid (peekS (l.drop pos) = peekAcc acc q (peekF (10 - q) q (l.drop (pos + q)))) ∧ wr = w.drewN n)
    (fun _ _ _ i _ => 10 - (intOf i).toNat)
  case atStart => exact ⟨0, 0, 0, by omega, rfl, rfl, by decide, by omega, hid (peekAcc_zero _ _ _), rfl⟩
  case round =>
    obtain ⟨acc, q, n, hq, rfl, rfl, hacc, hpq, HP, rfl⟩ := hrel
    by_cases hq10 : q < 10
    · by_cases hlt : pos + q < l.length
      · obtain ⟨bb, off, rfl, hc⟩ := hcells (by omega)
        have hx : w.cell? ⟨bb, off + (pos + q), none⟩ = some (.int .u8 (l[pos + q].toNat : Int)) := (hc (pos + q) (by omega)).trans (by simp [List.getD, hlt, B])
        have hdrop : l.drop (pos + q) = l[pos + q] :: l.drop (pos + q + 1) := List.drop_eq_getElem_cons hlt
        have hq9 : 10 - q = (9 - q) + 1 := by omega
        have hP := HP.out
        rw [hdrop, hq9, peekF] at hP
        have hx8 := l[pos + q].toNat_lt
        clear hc hcells HP hdrop hq9
        obtain ⟨x, hxe⟩ : ∃ x, l[pos + q].toNat = x := ⟨_, rfl⟩
        rw [hxe] at hP hx hx8
        clear hxe
        by_cases c1 : (q = 9 ∧ 1 < x) ∨ (x = 0 ∧ 0 < q)
        · rw [if_pos c1, peekAcc_bad _ _ _ (by decide)] at hP
          have HP := hid hP
          clear hP
          by_cases h9 : q = 9
          · subst h9
            by_cases hx1 : 1 < x
            · clear c1
              go_wp2
              go_quiet (fail)
              go_wp2
              go_quiet (fail)
              go_wp2
              go_ret3
              exact ⟨peekV_bad HP.out (by decide), (by first | exact Drew.refl | exact Drew.refl.trans Drew.refl)⟩
            · have hx0 : x ≤ 0 := by omega
              clear c1
              go_wp2
              go_quiet (fail)
              go_wp2
              go_quiet (fail)
              go_wp2
              go_ret3
              exact ⟨peekV_bad HP.out (by decide), (by first | exact Drew.refl | exact Drew.refl.trans Drew.refl)⟩
          · obtain ⟨hx0, hq0⟩ : x ≤ 0 ∧ 0 < q := by omega
            clear c1
            go_wp2
            go_quiet (fail)
            go_wp2
            go_quiet (fail)
            go_wp2
            go_ret3
            exact ⟨peekV_bad HP.out (by decide), (by first | exact Drew.refl | exact Drew.refl.trans Drew.refl)⟩
        · rw [if_neg c1] at hP
          have hb1 : q ≠ 9 ∨ x ≤ 1 := by omega
          have hb2 : x ≠ 0 ∨ q = 0 := by omega
          clear c1
          have hstep := acc_step x q acc hacc hx8 (acc_bound (by omega) (by omega)) (pow128_lt q (by omega))
          have hnext := acc_next (x := x) hacc
          by_cases hx128 : x < 128
          · rw [if_pos hx128, peekAcc_ok] at hP
            have hxm : x % 128 = x := Nat.mod_eq_of_lt hx128
            rw [← hxm] at hP
            have HP := hid hP
            clear hP hxm hnext
            by_cases h9 : q = 9
            · obtain ⟨hx0, hx1⟩ : x ≠ 0 ∧ x ≤ 1 := by omega
              have HS := hid hstep
              have hq9 : 9 ≤ q := by omega
              clear hb1 hb2 h9
              go_wp2
              go_quiet (fail)
              go_wp2
              go_quiet (fail)
              go_wp2
              go_quiet (fail)
              go_wp2
              go_ret3
              exact ⟨peekV_ok HP.out (by have h9' : q = 9 := (by omega); have := HS.out; subst h9'; exact this) (by omega), (by first | exact Drew.refl | exact Drew.refl.trans Drew.refl)⟩
            · by_cases hx0 : x = 0
              · obtain rfl : q = 0 := by omega
                subst hx0
                obtain rfl : acc = 0 := by simpa using hacc
                simp only [Nat.add_zero] at hx
                clear hb1 hb2 hstep h9 hacc
                go_wp2
                go_quiet (fail)
                go_wp2
                go_quiet (fail)
                go_wp2
                go_quiet (fail)
                go_wp2
                go_ret3
                exact ⟨peekV_ok HP.out (by decide) (by simp), (by first | exact Drew.refl | exact Drew.refl.trans Drew.refl)⟩
              · clear hb1 hb2
                go_wp2
                go_quiet (fail)
                go_wp2
                go_quiet (fail)
                go_wp2
                go_quiet (fail)
                go_wp2
                go_ret3
                exact ⟨peekV_ok HP.out rfl (by omega), (by first | exact Drew.refl | exact Drew.refl.trans Drew.refl)⟩
          · rw [if_neg hx128, peekAcc_next _ _ _ _ (by omega)] at hP
            have HP := hid hP
            have HN := hid hnext
            clear hP hnext
            have h9 : q ≠ 9 := by omega
            have hx0 : x ≠ 0 := by omega
            clear hb1 hb2
            go_wp2
            go_quiet (fail)
            go_wp2
            go_quiet (fail)
            go_wp2
            go_roundw
            case rel => exact ⟨acc + 128 ^ q * (x % 128), q + 1, _, by omega, by go_num, rfl, HN.out, by omega, hid (by rw [HP.out, show 9 - q = 10 - (q + 1) from by omega, Nat.add_assoc]), rfl⟩
            case measure => simp [intOf]; omega
      · have hP := HP.out
        have hd : l.drop (pos + q) = [] := List.drop_of_length_le (by omega)
        have h10 : 10 - q = (9 - q) + 1 := by omega
        rw [hd, h10, peekF, peekAcc_bad _ _ _ (by decide)] at hP
        have HP2 := hid hP
        clear hP HP hcells hd h10
        go_wp2
        go_quiet (fail)
        go_wp2
        go_ret3
        exact ⟨peekV_bad HP2.out (by decide), (by first | exact Drew.refl | exact Drew.refl.trans Drew.refl)⟩
    · have hP := HP.out
      obtain rfl : q = 10 := by omega
      rw [show 10 - 10 = 0 from rfl, peekF, peekAcc_bad _ _ _ (by decide)] at hP
      have HP2 := hid hP
      clear hP HP hcells
      go_wp2
      go_ret3
      exact ⟨peekV_bad HP2.out (by decide), (by first | exact Drew.refl | exact Drew.refl.trans Drew.refl)⟩
end
end Go.Proofs.YtbghkodcfedebaaGreatDoor

/- Walks of the wire layer: the reader's takes. -/
namespace Go.Proofs.YtbghkodcfedebaaGreatDoor
open Go.RowKit Go.AB

/-- A call on a reader: what it answers, where the reader stands then. -/
def RdPost (T : Nat) (w : World) (b : Nat) (l : List UInt8) (ao : Option Addr) (cap : Nat) (v : Value) (s : RS) (e : Ending) (w' : World) : Prop :=
  e = .returned v ∧ Rd T w' b l ao cap s.pos s.wh s.bad ∧ Chg [b] w w'

theorem peek_cases (p : Nat × Nat × Nat) (h : p.2.2 = 0 ∨ (p.1 = 0 ∧ p.2.1 = 0)) : (∃ v n, p = (v, n, 0)) ∨ (∃ e, e ≠ 0 ∧ p = (0, 0, e)) := by
  obtain ⟨a, b, c⟩ := p
  by_cases hc : c = 0
  · subst hc; exact .inl ⟨a, b, rfl⟩
  · simp [hc] at h
    obtain ⟨rfl, rfl⟩ := h
    exact .inr ⟨c, hc, rfl⟩

section
variable {w : World} {b : Nat} {l : List UInt8} {ao : Option Addr} {cap pos wh bad : Nat} (hR : Rd 151 w b l ao cap pos wh bad)
include hR
theorem Rd_drew {w' : World} (h : Drew w w') : Rd 151 w' b l ao cap pos wh bad := hR.keep (h.chg (S := [])) (by simp) (by simp)
theorem peek_ok_calls (hl : l.length ≤ 1099511627776) {v n : Nat} (h : peekS (l.drop pos) = (v, n, 0)) : Calls Tryz.prog 91 #[.pointer (some ⟨b, 0, none⟩)] w fun e w' => e = .returned (.tuple #[.int .u64 v, .int .i64 (pos + n : Nat), .int .i64 0]) ∧ Drew w w' := by
  refine (peek_calls hR hl).mono fun e w' ⟨he, hw⟩ => ⟨?_, hw⟩
  rw [he, h]; rfl
theorem peek_bad_calls (hl : l.length ≤ 1099511627776) {c : Nat} (hc : c ≠ 0) (h : peekS (l.drop pos) = (0, 0, c)) : Calls Tryz.prog 91 #[.pointer (some ⟨b, 0, none⟩)] w fun e w' => e = .returned (.tuple #[.int .u64 0, .int .i64 0, .int .i64 c]) ∧ Drew w w' := by
  refine (peek_calls hR hl).mono fun e w' ⟨he, hw⟩ => ⟨?_, hw⟩
  rw [he, h]; unfold peekV; simp [hc]

set_option maxHeartbeats 1000000 in
theorem rshort_calls (hl : l.length ≤ 1099511627776) (most : Nat) :
    Calls Tryz.prog 56 #[.pointer (some ⟨b, 0, none⟩), .int .u64 most] w (RdPost 151 w b l ao cap (.int .u64 (rShort most l ⟨pos, wh, bad⟩).1) (rShort most l ⟨pos, wh, bad⟩).2) := by
  by_cases hb : bad = 0
  · subst hb
    rcases peek_cases _ (peekF_err 10 0 (l.drop pos)) with ⟨v, n, hp⟩ | ⟨c, hc, hp⟩
    · have hp' : peekS (l.drop pos) = (v, n, 0) := hp
      have hpo := peekS_pos l pos hR.ok (by rw [hp'])
      rw [hp'] at hpo
      by_cases hm : most < v
      · have hs : rShort most l ⟨pos, wh, 0⟩ = (0, ⟨pos, pos, 12⟩) := by unfold rShort; simp [hp', hm, RS.fails]
        rw [hs]
        have HP := hid hp'
        clear hp hp' hs
        go_enter Tryz.func56, Tryz.ntmps56
        go_wp2_with (go_at_call 90; refine (wrong_calls hR).mono ?_; rintro e w' ⟨rfl, rfl⟩; refine halt (fun X hX => ?_))
        rw [hX.out]; clear hX
        go_wp2_with (go_at_call 91; refine (peek_ok_calls hR hl HP.out).mono ?_; rintro e w1 ⟨rfl, hd1⟩; refine halt (fun X hX => ?_))
        rw [hX.out]; clear hX
        go_wp2_with (go_at_call 92; refine (fails_calls (Rd_drew hR hd1) 12).mono ?_; rintro e w' ⟨rfl, hR2, hc2⟩)
        go_ret
        exact ⟨rfl, hR2, (hd1.chg (S := [b])).trans' hc2⟩
      · have hs : rShort most l ⟨pos, wh, 0⟩ = (v, ⟨pos + n, wh, 0⟩) := by unfold rShort; simp [hp', hm]
        rw [hs]
        have HP := hid hp'
        clear hp hp' hs
        go_enter Tryz.func56, Tryz.ntmps56
        go_wp2_with (go_at_call 90; refine (wrong_calls hR).mono ?_; rintro e w' ⟨rfl, rfl⟩; refine halt (fun X hX => ?_))
        rw [hX.out]; clear hX
        go_wp2_with (go_at_call 91; refine (peek_ok_calls hR hl HP.out).mono ?_; rintro e w1 ⟨rfl, hd1⟩; refine halt (fun X hX => ?_))
        rw [hX.out]; clear hX
        have hR1 := Rd_drew hR hd1
        have h1 := hR1.c1
        have f1 := hR1.fr 1
        go_wp2
        go_ret
        exact ⟨rfl, (hR1.set1 (pos + n) hpo).1, (hd1.chg (S := [b])).trans' (hR1.set1 (pos + n) hpo).2⟩
    · have hp' : peekS (l.drop pos) = (0, 0, c) := hp
      have hs : rShort most l ⟨pos, wh, 0⟩ = (0, ⟨pos, pos, c⟩) := by unfold rShort; simp [hp', hc, RS.fails]
      rw [hs]
      have HP := hid hp'
      clear hp hp' hs
      go_enter Tryz.func56, Tryz.ntmps56
      go_wp2_with (go_at_call 90; refine (wrong_calls hR).mono ?_; rintro e w' ⟨rfl, rfl⟩; refine halt (fun X hX => ?_))
      rw [hX.out]; clear hX
      go_wp2_with (go_at_call 91; refine (peek_bad_calls hR hl hc HP.out).mono ?_; rintro e w1 ⟨rfl, hd1⟩; refine halt (fun X hX => ?_))
      rw [hX.out]; clear hX
      go_wp2_with (go_at_call 92; refine (fails_calls (Rd_drew hR hd1) c).mono ?_; rintro e w' ⟨rfl, hR2, hc2⟩)
      go_ret
      exact ⟨rfl, hR2, (hd1.chg (S := [b])).trans' hc2⟩
  · have hs : rShort most l ⟨pos, wh, bad⟩ = (0, ⟨pos, wh, bad⟩) := by unfold rShort; simp [hb]
    rw [hs]
    clear hs
    go_enter Tryz.func56, Tryz.ntmps56
    go_wp2_with (go_at_call 90; refine (wrong_calls hR).mono ?_; rintro e w' ⟨rfl, rfl⟩)
    go_ret
    exact ⟨rfl, hR, Chg.refl _ _⟩

end
end Go.Proofs.YtbghkodcfedebaaGreatDoor

/- Walks of the wire layer: the reader's texts. -/
namespace Go.Proofs.YtbghkodcfedebaaGreatDoor
open Go.RowKit Go.AB
def strB (l : List UInt8) : Value := .string ⟨l.toArray⟩
theorem wrap_u64_nat {n : Nat} (h : U64 n) : IntKind.u64.wrap (n : Int) = (n : Int) := by have := h.out; rw [IntKind.wrap_u64]; omega
section
variable {w : World} {b : Nat} {l : List UInt8} {ao : Option Addr} {cap pos wh bad : Nat}
end
end Go.Proofs.YtbghkodcfedebaaGreatDoor

/- Walks of the wire layer: numbers of fixed width taken. -/
namespace Go.Proofs.YtbghkodcfedebaaGreatDoor
open Go.RowKit Go.AB

section
variable {w : World} {b : Nat} {l : List UInt8} {ao : Option Addr} {cap pos wh bad : Nat}
theorem take_u8_bad (hR : Rd 151 w b l ao cap pos wh bad) (hb : bad ≠ 0) : Calls Tryz.prog 94 #[.pointer (some ⟨b, 0, none⟩)] w (RdPost 151 w b l ao cap (.int .u8 0) ⟨pos, wh, bad⟩) := by
  go_enter Tryz.func94, Tryz.ntmps94
  go_wp2_with (go_at_call 90; refine (wrong_calls hR).mono ?_; rintro e w' ⟨rfl, rfl⟩)
  go_ret
  exact ⟨rfl, hR, Chg.refl _ _⟩
set_option maxHeartbeats 1000000 in
set_option maxRecDepth 100000 in
theorem take_u8_short (hR : Rd 151 w b l ao cap pos wh 0) (hl : l.length ≤ 1099511627776) (hs : l.length - pos < 1) : Calls Tryz.prog 94 #[.pointer (some ⟨b, 0, none⟩)] w (RdPost 151 w b l ao cap (.int .u8 0) ⟨pos, pos, 10⟩) := by
  have h0 := hR.c0
  have h1 := hR.c1
  have hok := hR.ok
  have hR' := fun n => hR.keep (Chg.of_drewN [] w n) (by simp) (by simp)
  go_enter Tryz.func94, Tryz.ntmps94
  go_wp2_with (first | (go_at_call 90; refine (wrong_calls hR).mono ?_; rintro e w' ⟨rfl, rfl⟩) | (go_at_call 73; refine (width_u8 _).mono ?_; rintro e w' ⟨rfl, rfl⟩))
  go_quiet (fail)
  go_wp2_with (go_at_call 92; refine (fails_calls (hR' _) 10).mono ?_; rintro e w' ⟨rfl, hR2, hc2⟩)
  go_ret
  exact ⟨rfl, hR2, (Chg.of_drewN _ _ _).trans' hc2⟩
set_option maxHeartbeats 2000000 in
set_option maxRecDepth 100000 in
theorem take_u8_ok (hR : Rd 151 w b l ao cap pos wh 0) (hl : l.length ≤ 1099511627776) (hs : pos + 1 ≤ l.length) : Calls Tryz.prog 94 #[.pointer (some ⟨b, 0, none⟩)] w (RdPost 151 w b l ao cap (.int .u8 ((leNat ((l.drop pos).take 1) : Nat) : Int)) ⟨pos + 1, wh, 0⟩) := by
  have h0 := hR.c0
  have h1 := hR.c1
  have f1 := hR.fr 1
  obtain ⟨hset, hcset⟩ := hR.set1 (pos + 1) hs
  obtain ⟨_, _, ao', cap', hao, hlc, hcm, _, hcells⟩ := hR.view
  simp only [Value.slice.injEq, true_and] at hao
  obtain ⟨rfl, rfl⟩ := hao
  obtain ⟨bb, off, rfl, hc⟩ := hcells (by omega)
  have hbb : bb ≠ b := hR.ne bb rfl
  have hdr : (l.drop pos).take 1 = [l[pos]] := by
    apply List.ext_getElem
    · simp; omega
    · intro i h1 h2
      simp at h2
      match i, h2 with
      | 0, _ => simp
  rw [hdr]
  clear hdr
  have x0 : w.cell? ⟨bb, off + pos, none⟩ = some (.int .u8 (l[pos].toNat : Int)) := (hc (pos) (by omega)).trans (by simp [List.getD, show pos < l.length by omega, B])
  obtain ⟨b0, hb0⟩ : ∃ u, l[pos] = u := ⟨_, rfl⟩
  rw [hb0] at x0 ⊢
  clear hb0 hc hcells
  go_enter Tryz.func94, Tryz.ntmps94
  go_wp2_with (first | (go_at_call 90; refine (wrong_calls hR).mono ?_; rintro e w' ⟨rfl, rfl⟩) | (go_at_call 73; refine (width_u8 _).mono ?_; rintro e w' ⟨rfl, rfl⟩))
  go_quiet (fail)
  go_wp2
  go_quiet (fail)
  go_wp2


  go_ret
  refine ⟨?_, hset.same rfl, hcset.same rfl rfl rfl rfl⟩
  exact (congrArg (fun z => Ending.returned (.int .u8 (z % 256))) (le1 b0)).trans (congrArg (fun z => Ending.returned (.int .u8 z)) (leNat_lt1 b0))
end

section
variable {w : World} {b : Nat} {l : List UInt8} {ao : Option Addr} {cap pos wh bad : Nat}
end

section
variable {w : World} {b : Nat} {l : List UInt8} {ao : Option Addr} {cap pos wh bad : Nat}
theorem take_u32_bad (hR : Rd 151 w b l ao cap pos wh bad) (hb : bad ≠ 0) : Calls Tryz.prog 89 #[.pointer (some ⟨b, 0, none⟩)] w (RdPost 151 w b l ao cap (.int .u32 0) ⟨pos, wh, bad⟩) := by
  go_enter Tryz.func89, Tryz.ntmps89
  go_wp2_with (go_at_call 90; refine (wrong_calls hR).mono ?_; rintro e w' ⟨rfl, rfl⟩)
  go_ret
  exact ⟨rfl, hR, Chg.refl _ _⟩
set_option maxHeartbeats 1000000 in
set_option maxRecDepth 100000 in
theorem take_u32_short (hR : Rd 151 w b l ao cap pos wh 0) (hl : l.length ≤ 1099511627776) (hs : l.length - pos < 4) : Calls Tryz.prog 89 #[.pointer (some ⟨b, 0, none⟩)] w (RdPost 151 w b l ao cap (.int .u32 0) ⟨pos, pos, 10⟩) := by
  have h0 := hR.c0
  have h1 := hR.c1
  have hok := hR.ok
  have hR' := fun n => hR.keep (Chg.of_drewN [] w n) (by simp) (by simp)
  go_enter Tryz.func89, Tryz.ntmps89
  go_wp2_with (first | (go_at_call 90; refine (wrong_calls hR).mono ?_; rintro e w' ⟨rfl, rfl⟩) | (go_at_call 105; refine (width_u32 _).mono ?_; rintro e w' ⟨rfl, rfl⟩))
  go_quiet (fail)
  go_wp2_with (go_at_call 92; refine (fails_calls (hR' _) 10).mono ?_; rintro e w' ⟨rfl, hR2, hc2⟩)
  go_ret
  exact ⟨rfl, hR2, (Chg.of_drewN _ _ _).trans' hc2⟩
set_option maxHeartbeats 2000000 in
set_option maxRecDepth 100000 in
theorem take_u32_ok (hR : Rd 151 w b l ao cap pos wh 0) (hl : l.length ≤ 1099511627776) (hs : pos + 4 ≤ l.length) : Calls Tryz.prog 89 #[.pointer (some ⟨b, 0, none⟩)] w (RdPost 151 w b l ao cap (.int .u32 ((leNat ((l.drop pos).take 4) : Nat) : Int)) ⟨pos + 4, wh, 0⟩) := by
  have h0 := hR.c0
  have h1 := hR.c1
  have f1 := hR.fr 1
  obtain ⟨hset, hcset⟩ := hR.set1 (pos + 4) hs
  obtain ⟨_, _, ao', cap', hao, hlc, hcm, _, hcells⟩ := hR.view
  simp only [Value.slice.injEq, true_and] at hao
  obtain ⟨rfl, rfl⟩ := hao
  obtain ⟨bb, off, rfl, hc⟩ := hcells (by omega)
  have hbb : bb ≠ b := hR.ne bb rfl
  have hdr : (l.drop pos).take 4 = [l[pos], l[pos + 1], l[pos + 2], l[pos + 3]] := by
    apply List.ext_getElem
    · simp; omega
    · intro i h1 h2
      simp at h2
      match i, h2 with
      | 0, _ | 1, _ | 2, _ | 3, _ => simp
  rw [hdr]
  clear hdr
  have x0 : w.cell? ⟨bb, off + pos, none⟩ = some (.int .u8 (l[pos].toNat : Int)) := (hc (pos) (by omega)).trans (by simp [List.getD, show pos < l.length by omega, B])
  have x1 : w.cell? ⟨bb, off + pos + 1, none⟩ = some (.int .u8 (l[pos + 1].toNat : Int)) := (hc (pos + 1) (by omega)).trans (by simp [List.getD, show pos + 1 < l.length by omega, B])
  have x2 : w.cell? ⟨bb, off + pos + 2, none⟩ = some (.int .u8 (l[pos + 2].toNat : Int)) := (hc (pos + 2) (by omega)).trans (by simp [List.getD, show pos + 2 < l.length by omega, B])
  have x3 : w.cell? ⟨bb, off + pos + 3, none⟩ = some (.int .u8 (l[pos + 3].toNat : Int)) := (hc (pos + 3) (by omega)).trans (by simp [List.getD, show pos + 3 < l.length by omega, B])
  obtain ⟨b0, hb0⟩ : ∃ u, l[pos] = u := ⟨_, rfl⟩
  rw [hb0] at x0 ⊢
  obtain ⟨b1, hb1⟩ : ∃ u, l[pos + 1] = u := ⟨_, rfl⟩
  rw [hb1] at x1 ⊢
  obtain ⟨b2, hb2⟩ : ∃ u, l[pos + 2] = u := ⟨_, rfl⟩
  rw [hb2] at x2 ⊢
  obtain ⟨b3, hb3⟩ : ∃ u, l[pos + 3] = u := ⟨_, rfl⟩
  rw [hb3] at x3 ⊢
  clear hb0 hb1 hb2 hb3 hc hcells
  go_enter Tryz.func89, Tryz.ntmps89
  go_wp2_with (first | (go_at_call 90; refine (wrong_calls hR).mono ?_; rintro e w' ⟨rfl, rfl⟩) | (go_at_call 105; refine (width_u32 _).mono ?_; rintro e w' ⟨rfl, rfl⟩))
  go_quiet (fail)
  go_wp2
  go_quiet (fail)
  go_wp2
  go_quiet (fail)
  go_wp2

  go_ret
  refine ⟨?_, hset.same rfl, hcset.same rfl rfl rfl rfl⟩
  exact (congrArg (fun z => Ending.returned (.int .u32 (z % 4294967296))) (le4 b0 b1 b2 b3)).trans (congrArg (fun z => Ending.returned (.int .u32 z)) (leNat_lt4 b0 b1 b2 b3))
end

section
variable {w : World} {b : Nat} {l : List UInt8} {ao : Option Addr} {cap pos wh bad : Nat}
end

section
variable {w : World} {b : Nat} {l : List UInt8} {ao : Option Addr} {cap pos wh bad : Nat}
end

section
variable {w : World} {b : Nat} {l : List UInt8} {ao : Option Addr} {cap pos wh bad : Nat}
end

section
variable {w : World} {b : Nat} {l : List UInt8} {ao : Option Addr} {cap pos wh bad : Nat}
end

section
variable {w : World} {b : Nat} {l : List UInt8} {ao : Option Addr} {cap pos wh bad : Nat}
end

theorem take_u8_calls {w : World} {b : Nat} {l : List UInt8} {ao : Option Addr} {cap pos wh bad : Nat} (hR : Rd 151 w b l ao cap pos wh bad) (hl : l.length ≤ 1099511627776) :
    Calls Tryz.prog 94 #[.pointer (some ⟨b, 0, none⟩)] w (RdPost 151 w b l ao cap (.int .u8 (((rFixed 1 l ⟨pos, wh, bad⟩).1 : Int))) (rFixed 1 l ⟨pos, wh, bad⟩).2) := by
  have hz : ((0 : Nat) : Int) = 0 := rfl
  by_cases hb : bad = 0
  · subst hb
    by_cases hs : l.length - pos < 1
    · have he : rFixed 1 l ⟨pos, wh, 0⟩ = (0, ⟨pos, pos, 10⟩) := by unfold rFixed; simp [hs, RS.fails]
      rw [he]
      simp only [hz]
      exact take_u8_short hR hl hs
    · have hok := hR.ok
      have he : rFixed 1 l ⟨pos, wh, 0⟩ = (leNat ((l.drop pos).take 1), ⟨pos + 1, wh, 0⟩) := by unfold rFixed; simp [hs]
      rw [he]
      exact take_u8_ok hR hl (by omega)
  · have he : rFixed 1 l ⟨pos, wh, bad⟩ = (0, ⟨pos, wh, bad⟩) := by unfold rFixed; simp [hb]
    rw [he]
    simp only [hz]
    exact take_u8_bad hR hb

theorem take_u32_calls {w : World} {b : Nat} {l : List UInt8} {ao : Option Addr} {cap pos wh bad : Nat} (hR : Rd 151 w b l ao cap pos wh bad) (hl : l.length ≤ 1099511627776) :
    Calls Tryz.prog 89 #[.pointer (some ⟨b, 0, none⟩)] w (RdPost 151 w b l ao cap (.int .u32 (((rFixed 4 l ⟨pos, wh, bad⟩).1 : Int))) (rFixed 4 l ⟨pos, wh, bad⟩).2) := by
  have hz : ((0 : Nat) : Int) = 0 := rfl
  by_cases hb : bad = 0
  · subst hb
    by_cases hs : l.length - pos < 4
    · have he : rFixed 4 l ⟨pos, wh, 0⟩ = (0, ⟨pos, pos, 10⟩) := by unfold rFixed; simp [hs, RS.fails]
      rw [he]
      simp only [hz]
      exact take_u32_short hR hl hs
    · have hok := hR.ok
      have he : rFixed 4 l ⟨pos, wh, 0⟩ = (leNat ((l.drop pos).take 4), ⟨pos + 4, wh, 0⟩) := by unfold rFixed; simp [hs]
      rw [he]
      exact take_u32_ok hR hl (by omega)
  · have he : rFixed 4 l ⟨pos, wh, bad⟩ = (0, ⟨pos, wh, bad⟩) := by unfold rFixed; simp [hb]
    rw [he]
    simp only [hz]
    exact take_u32_bad hR hb

end Go.Proofs.YtbghkodcfedebaaGreatDoor

/- Walks of the wire layer: a new reader; whether all was taken. -/
namespace Go.Proofs.YtbghkodcfedebaaGreatDoor
open Go.RowKit Go.AB

/-- A new reader of the bytes l, in new memory. -/
def NewRd (T : Nat) (w : World) (l : List UInt8) (e : Ending) (w' : World) : Prop :=
  ∃ b l' ao cap, e = .returned (.pointer (some ⟨b, 0, none⟩)) ∧ Rd T w' b l' ao cap 0 0 0 ∧ w.heap.size ≤ b ∧ (∀ g, (Value.slice ao l'.length cap).ownBlock = some g → w.heap.size ≤ g ∧ g < w'.heap.size) ∧ Chg [] w w' ∧ Hid (l' = l)

set_option maxHeartbeats 400000 in
theorem newReader_calls (v : Value) (l : List UInt8) (w : World) (hv : Bytes w v l) (hl : l.length ≤ 1099511627776) :
    Calls Tryz.prog 55 #[v] w (NewRd 151 w l) := by
  go_enter Tryz.func55, Tryz.ntmps55
  go_wp2_with (go_at_call 76; refine (clone_calls _ _ _ hv hl).mono ?_; rintro e w1 ⟨l2, ao, cap, r2, rfl, hrow2, hfr2, hch2, HL2⟩)
  go_ret
  have hca := (Chg.refl [] w1).alloc (.cells #[.slice ao l2.length cap, .int .i64 0, .int .i64 0, .int .i64 0] 151)
  have hown : ∀ g, (Value.slice ao l2.length cap).ownBlock = some g → w.heap.size ≤ g ∧ g < w1.heap.size := fun g hg =>
    ⟨(hfr2 g (hrow2.blk.symm.trans hg)).resolve_left (by simp), hrow2.lt g (hrow2.blk.symm.trans hg)⟩
  exact ⟨w1.heap.size, l2, ao, cap, rfl, ⟨heap_alloc_new w1 _, (hrow2.keep hca (by simp)).view, fun g hg e => by have := (hown g hg).2; omega, Nat.zero_le _⟩, hch2.size, fun g hg => ⟨(hown g hg).1, by have := (hown g hg).2; simp; omega⟩, hch2.trans' hca, HL2⟩

section
variable {w : World} {b : Nat} {l : List UInt8} {ao : Option Addr} {cap pos wh bad : Nat} (hR : Rd 151 w b l ao cap pos wh bad)
include hR
set_option maxHeartbeats 1000000 in
theorem end_calls : Calls Tryz.prog 59 #[.pointer (some ⟨b, 0, none⟩)] w fun e w' => e = .returned (.int .i64 (rEnd l ⟨pos, wh, bad⟩)) ∧ Drew w w' := by
  have h0 := hR.c0
  have h1 := hR.c1
  by_cases hb : bad = 0
  · subst hb
    by_cases hlt : pos < l.length
    · have he : rEnd l ⟨pos, wh, 0⟩ = 13 := by unfold rEnd; simp [hlt]
      rw [he]
      clear he
      go_enter Tryz.func59, Tryz.ntmps59
      go_wp2_with (go_at_call 93; refine (fault_calls hR).mono ?_; rintro e w1 ⟨rfl, n, rfl⟩)
      go_quiet (fail)
      go_wp2
      go_ret
      exact ⟨rfl, (by first | exact Drew.refl | exact Drew.refl.trans Drew.refl)⟩
    · have he : rEnd l ⟨pos, wh, 0⟩ = 0 := by unfold rEnd; simp [hlt]
      rw [he]
      clear he
      go_enter Tryz.func59, Tryz.ntmps59
      go_wp2_with (go_at_call 93; refine (fault_calls hR).mono ?_; rintro e w1 ⟨rfl, n, rfl⟩)
      go_quiet (fail)
      go_wp2
      go_ret
      exact ⟨rfl, (by first | exact Drew.refl | exact Drew.refl.trans Drew.refl)⟩
  · have he : rEnd l ⟨pos, wh, bad⟩ = bad := by unfold rEnd; simp [hb]
    rw [he]
    clear he
    go_enter Tryz.func59, Tryz.ntmps59
    go_wp2_with (go_at_call 93; refine (fault_calls hR).mono ?_; rintro e w1 ⟨rfl, n, rfl⟩)
    go_quiet (fail)
    go_wp2
    go_ret
    exact ⟨rfl, (by first | exact Drew.refl | exact Drew.refl.trans Drew.refl)⟩
end
end Go.Proofs.YtbghkodcfedebaaGreatDoor

/- Walks of the wire layer: the law's numbers of a width, taken. -/
namespace Go.Proofs.YtbghkodcfedebaaGreatDoor
open Go.RowKit Go.AB
theorem fx {A B : Int} (h : A = B) : Ending.returned (.tuple #[.int .u64 A, .bool true]) = .returned (.tuple #[.int .u64 B, .bool true]) := by rw [h]
theorem fx_wrap {z : Nat} (h : z < 18446744073709551616) : IntKind.u64.wrap (z : Int) = (z : Int) := by rw [IntKind.wrap_u64]; omega
theorem fx_i8 {z : Nat} (h : z < 256) : IntKind.i8.wrap (z : Int) % 256 = (z : Int) := by
  simp only [IntKind.wrap, IntKind.bits, IntKind.signed]; simp; split <;> omega
theorem fx_i16 {z : Nat} (h : z < 65536) : IntKind.u16.wrap (IntKind.i16.wrap (z : Int)) = (z : Int) := by
  rw [IntKind.wrap_u16]; simp only [IntKind.wrap, IntKind.bits, IntKind.signed]; simp; split <;> omega
theorem fx_i32 {z : Nat} (h : z < 4294967296) : wrap32 (z : Int) % 4294967296 = (z : Int) := by unfold wrap32; omega
theorem fx_i64 {z : Nat} (h : z < 18446744073709551616) : IntKind.u64.wrap (wrap64 (z : Int)) = (z : Int) := by rw [IntKind.wrap_u64]; unfold wrap64; omega
theorem rFixed_lt (n : Nat) (l : List UInt8) (s : RS) : (rFixed n l s).1 < 256 ^ n := by
  unfold rFixed
  have h0 : 0 < 256 ^ n := Nat.pow_pos (by decide)
  repeat' split
  · exact h0
  · exact h0
  · have := leNat_lt ((l.drop s.pos).take n)
    refine Nat.lt_of_lt_of_le this (Nat.pow_le_pow_right (by decide) ?_)
    rw [List.length_take]; omega
section
variable {w : World} {b : Nat} {l : List UInt8} {ao : Option Addr} {cap pos wh bad : Nat} (hR : Rd 151 w b l ao cap pos wh bad)
include hR

end
end Go.Proofs.YtbghkodcfedebaaGreatDoor

/- Walks of the wire layer: what was laid is taken off by the same calls. -/
namespace Go.Proofs.YtbghkodcfedebaaGreatDoor
open Go.RowKit Go.AB
set_option linter.unusedSectionVars false

theorem cv_i64_wrap (m : Nat) : IntKind.i64.wrap (m : Int) = cv_i64 m := by unfold cv_i64; rw [IntKind.wrap_i64]; simp [wrap64]
theorem sizeI_cases {k : Int} (h : 0 ≤ k ∧ k < 8) : sizeI k = 1 ∨ sizeI k = 2 ∨ sizeI k = 4 ∨ sizeI k = 8 := by
  obtain ⟨q, rfl⟩ := Int.eq_ofNat_of_zero_le h.1
  unfold sizeI
  rw [if_pos h]
  match q, h with
  | 0, _ | 1, _ | 2, _ | 3, _ | 4, _ | 5, _ | 6, _ | 7, _ => decide
  | q + 8, h => omega
section
variable {w : World} {b : Nat} {L rest : List UInt8} {ao : Option Addr} {cap pos wh : Nat} (hR : Rd 151 w b L ao cap pos wh 0) (hl : L.length ≤ 1073741824)
  {width : Int} {many : List Nat} {text : ByteArray} {v : Value} (hv : View w 1 v many.length (many.map cU)) (hvb : 0 < many.length → ∀ g, v.ownBlock = some g → g ≠ b) (hm : ∀ m ∈ many, U64 m) (hn : many.length ≤ 16777216)
include hR hl hv hvb hm hn

end
end Go.Proofs.YtbghkodcfedebaaGreatDoor

/- Walks of the law's own: what the document lays for one step of a script. -/
namespace Go.Proofs.YtbghkodcfedebaaGreatDoor
open Go.RowKit Go.AB
set_option linter.unusedSectionVars false

/-- append as a step of a region that draws its order. -/
theorem step_app {P : Program} {w : World} {ops : Array Oper} {o : Oper} {a : Act} {K : Act → World → Prop} {Q : Exit → Act → World → Prop} {E0 : Prop} (hgd : o.guard = none) (s x : Operand) (t : TypeId)
    (ho : o.op = .call { callee := .builtin .append, args := #[s, x], argTypes := #[t, t] }) {e k bytes : Nat} (E : ElemOk P t e k bytes)
    {v : Value} {r : Option Nat} {n : Nat} {xs : List Value} (hs : a.eval s = v) (hrow : Row w e k v r n xs)
    {y : Value} {m : Nat} {ys : List Value} (hx : a.eval x = y) (hy : View w k y m ys) (h1 : ∀ u ∈ ys, u.oneCell' = true) (h63 : n + m ≤ maxLen) (hbytes : (n + m) * bytes ≤ 140737488355328)
    (h : ∀ ao' cap' r' w', Row w' e k (.slice ao' (n + m) cap') r' (n + m) (xs ++ ys) → Chg r.toList w w' → Fresh w r r' → K (a.put o.dst (.slice ao' (n + m) cap')) w') :
    if Region.wanted o (yielded ops a.tmps) = true then Oper.wp P o a w K Q else E0 := by
  have hw : Region.wanted o (yielded ops a.tmps) = true := by simp [Region.wanted, hgd]
  rw [if_pos hw]
  obtain ⟨i, z, hi, hz, hs', hb, hzs⟩ := E.info
  have hlen : (Builtin.lenOf y).run P w = .ok m w := by obtain ⟨_, _, ao, cap, rfl, _⟩ := hy; rfl
  obtain ⟨v', w', r', hr, h2, h3, h4, h5⟩ := run_append_gen (P := P) w t t o.type e _ i z k bytes E.und E.und (.inl ⟨_, rfl⟩) hi hz hs' hb hzs E.pos v r n xs hrow y m ys hy.1 hlen (firstCells_view hy) h1 h63 hbytes
  unfold Oper.wp execOp
  simp only [ho, resolve, invoke, builtin, Sem.run_bind, Sem.run_pure, Result.andThen_ok, List.map_toArray, List.map_cons, List.map_nil, hs, hx, hr]
  obtain ⟨ao', cap', rfl⟩ := h2.shape
  exact h ao' cap' r' w' h2 h3 h4

theorem sizeI_le8 (k : Int) : sizeI k ≤ 8 := sizeI_le k

section
variable {w : World} {many : List Nat} {v : Value} {width : Int} {text : ByteArray} (hv : View w 1 v many.length (many.map cU)) (hm : ∀ m ∈ many, U64 m) (hn : many.length ≤ 16777216)
include hv hm hn

end

end Go.Proofs.YtbghkodcfedebaaGreatDoor
