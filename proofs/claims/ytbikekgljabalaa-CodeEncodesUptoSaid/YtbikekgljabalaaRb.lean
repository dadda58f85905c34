/- Walks of the wire layer: the short number that stands at the reader's place. -/
import Derived.Test.YtbikekgljabalaaM01
namespace Go.Proofs.Ytbikekgljabalaa
open Go.RowKit Go.AB

/-- What the rounds that are left make of what has been gathered. -/
def peekAcc (acc i : Nat) (p : Nat × Nat × Nat) : Nat × Nat × Nat := if p.2.2 = 0 then (acc + 128 ^ i * p.1, p.2.1, 0) else (0, 0, p.2.2)
def peekV (pos : Nat) (p : Nat × Nat × Nat) : Value := .tuple #[.int .u64 p.1, .int .i64 (if p.2.2 = 0 then pos + p.2.1 else 0 : Nat), .int .i64 p.2.2]
theorem peekV_ok {pos a n : Nat} {p : Nat × Nat × Nat} (h : p = (a, n, 0)) {A N : Int} (hA : A = a) (hN : N = pos + n) : Ending.returned (.tuple #[.int .u64 A, .int .i64 N, .int .i64 0]) = .returned (peekV pos p) := by
  subst h hA hN; rfl
theorem peekV_bad {pos e : Nat} {p : Nat × Nat × Nat} (h : p = (0, 0, e)) (he : e ≠ 0) : Ending.returned (.tuple #[.int .u64 0, .int .i64 0, .int .i64 e]) = .returned (peekV pos p) := by
  subst h; unfold peekV; simp [he]
theorem peekAcc_bad (acc q e : Nat) (he : e ≠ 0) : peekAcc acc q (0, 0, e) = (0, 0, e) := by unfold peekAcc; simp [he]
theorem peekAcc_ok (acc q v n : Nat) : peekAcc acc q (v, n, 0) = (acc + 128 ^ q * v, n, 0) := rfl
theorem peekAcc_next (acc q x : Nat) (p : Nat × Nat × Nat) (hx : 128 ≤ x ∧ x < 256) : peekAcc acc q (if p.2.2 = 0 then (x - 128 + 128 * p.1, p.2.1, 0) else (0, 0, p.2.2)) = peekAcc (acc + 128 ^ q * (x % 128)) (q + 1) p := by
  unfold peekAcc
  by_cases h : p.2.2 = 0
  · simp only [h, if_true]
    have : x - 128 = x % 128 := by omega
    rw [this, Nat.mul_add, Nat.pow_succ, Nat.mul_assoc, Nat.add_assoc]
  · simp [h]
theorem pow128_lt (q : Nat) (h : q ≤ 9) : 128 ^ q < 18446744073709551616 := Nat.lt_of_le_of_lt (Nat.pow_le_pow_right (by decide) h) (by decide)
theorem acc_bound {x q : Nat} (hq : q ≤ 9) (h : q ≠ 9 ∨ x % 128 ≤ 1) : x % 128 * 2 ^ (7 * q) < 18446744073709551616 := by
  rcases Nat.lt_or_ge q 9 with h1 | h1
  · have h2 : 2 ^ (7 * q) ≤ 2 ^ 56 := Nat.pow_le_pow_right (by decide) (by omega)
    have h3 : x % 128 * 2 ^ (7 * q) ≤ 127 * 2 ^ 56 := Nat.mul_le_mul (by omega) h2
    omega
  · obtain rfl : q = 9 := by omega
    have h2 : x % 128 * 2 ^ (7 * 9) ≤ 1 * 2 ^ 63 := Nat.mul_le_mul (by omega) (Nat.le_refl _)
    omega
theorem acc_next {x q acc : Nat} (h : acc < 128 ^ q) : acc + 128 ^ q * (x % 128) < 128 ^ (q + 1) := by
  rw [Nat.pow_succ]
  have h1 : 128 ^ q * (x % 128) ≤ 128 ^ q * 127 := Nat.mul_le_mul (Nat.le_refl _) (by omega)
  omega
theorem peekAcc_zero (f i : Nat) (l : List UInt8) : peekF f i l = peekAcc 0 0 (peekF f i l) := by
  unfold peekAcc
  rcases peekF_err f i l with h | ⟨h1, h2⟩
  · rw [if_pos h]
    generalize peekF f i l = p at *
    obtain ⟨a, b, c⟩ := p
    simp at h ⊢
    exact h
  · split
    · rename_i h
      generalize peekF f i l = p at *
      obtain ⟨a, b, c⟩ := p
      simp at h ⊢
      exact h
    · generalize peekF f i l = p at *
      obtain ⟨a, b, c⟩ := p
      simp at h1 h2 ⊢
      exact ⟨h1, h2⟩

section
variable {w : World} {b : Nat} {l : List UInt8} {ao : Option Addr} {cap pos wh bad : Nat} (hR : Rd 133 w b l ao cap pos wh bad)
include hR

set_option maxHeartbeats 1000000 in
set_option maxRecDepth 100000 in
theorem peek_calls (hl : l.length ≤ 1099511627776) : Calls Try.prog 104 #[.pointer (some ⟨b, 0, none⟩)] w fun e w' => e = .returned (peekV pos (peekS (l.drop pos))) ∧ Drew w w' := by
  have h0 := hR.c0
  have h1 := hR.c1
  have hok := hR.ok
  obtain ⟨_, _, ao', cap', hao, _, _, _, hcells⟩ := hR.view
  simp only [Value.slice.injEq, true_and] at hao
  obtain ⟨rfl, rfl⟩ := hao
  go_enter Try.func104, Try.ntmps104
  go_wp2
  go_loopw [5, 6, 7, 8] (fun a _ _ i wr => ∃ acc q n, q ≤ 10 ∧ i = .int .i64 (q : Nat) ∧ a = .int .u64 (acc : Nat) ∧ acc < 128 ^ q ∧ pos + q ≤ l.length ∧ Hid (peekS (l.drop pos) = peekAcc acc q (peekF (10 - q) q (l.drop (pos + q)))) ∧ wr = w.drewN n)
    (fun _ _ _ i _ => 10 - (intOf i).toNat)
  case atStart => exact ⟨0, 0, 0, by omega, rfl, rfl, by decide, by omega, hid (peekAcc_zero _ _ _), rfl⟩
  case round =>
    obtain ⟨acc, q, n, hq, rfl, rfl, hacc, hpq, HP, rfl⟩ := hrel
    by_cases hq10 : q < 10
    · by_cases hlt : pos + q < l.length
      · obtain ⟨bb, off, rfl, hc⟩ := hcells (by omega)
        have hx : w.cell? ⟨bb, off + (pos + q), none⟩ = some (.int .u8 (l[pos + q].toNat : Int)) := (hc (pos + q) (by omega)).trans (by simp [List.getD, hlt, B])
        have hdrop : l.drop (pos + q) = l[pos + q] :: l.drop (pos + q + 1) := List.drop_eq_getElem_cons hlt
        have hq9 : 10 - q = (9 - q) + 1 := by omega
        have hP := HP.out
        rw [hdrop, hq9, peekF] at hP
        have hx8 := l[pos + q].toNat_lt
        clear hc hcells HP hdrop hq9
        obtain ⟨x, hxe⟩ : ∃ x, l[pos + q].toNat = x := ⟨_, rfl⟩
        rw [hxe] at hP hx hx8
        clear hxe
        by_cases c1 : (q = 9 ∧ 1 < x) ∨ (x = 0 ∧ 0 < q)
        · rw [if_pos c1, peekAcc_bad _ _ _ (by decide)] at hP
          have HP := hid hP
          clear hP
          by_cases h9 : q = 9
          · subst h9
            by_cases hx1 : 1 < x
            · clear c1
              go_wp2
              go_quiet (fail)
              go_wp2
              go_quiet (fail)
              go_wp2
              go_ret3
              exact ⟨peekV_bad HP.out (by decide), (by first | exact Drew.refl | exact Drew.refl.trans Drew.refl)⟩
            · have hx0 : x ≤ 0 := by omega
              clear c1
              go_wp2
              go_quiet (fail)
              go_wp2
              go_quiet (fail)
              go_wp2
              go_ret3
              exact ⟨peekV_bad HP.out (by decide), (by first | exact Drew.refl | exact Drew.refl.trans Drew.refl)⟩
          · obtain ⟨hx0, hq0⟩ : x ≤ 0 ∧ 0 < q := by omega
            clear c1
            go_wp2
            go_quiet (fail)
            go_wp2
            go_quiet (fail)
            go_wp2
            go_ret3
            exact ⟨peekV_bad HP.out (by decide), (by first | exact Drew.refl | exact Drew.refl.trans Drew.refl)⟩
        · rw [if_neg c1] at hP
          have hb1 : q ≠ 9 ∨ x ≤ 1 := by omega
          have hb2 : x ≠ 0 ∨ q = 0 := by omega
          clear c1
          have hstep := acc_step x q acc hacc hx8 (acc_bound (by omega) (by omega)) (pow128_lt q (by omega))
          have hnext := acc_next (x := x) hacc
          by_cases hx128 : x < 128
          · rw [if_pos hx128, peekAcc_ok] at hP
            have hxm : x % 128 = x := Nat.mod_eq_of_lt hx128
            rw [← hxm] at hP
            have HP := hid hP
            clear hP hxm hnext
            by_cases h9 : q = 9
            · obtain ⟨hx0, hx1⟩ : x ≠ 0 ∧ x ≤ 1 := by omega
              have HS := hid hstep
              have hq9 : 9 ≤ q := by omega
              clear hb1 hb2 h9
              go_wp2
              go_quiet (fail)
              go_wp2
              go_quiet (fail)
              go_wp2
              go_quiet (fail)
              go_wp2
              go_ret3
              exact ⟨peekV_ok HP.out (by have h9' : q = 9 := (by omega); have := HS.out; subst h9'; exact this) (by omega), (by first | exact Drew.refl | exact Drew.refl.trans Drew.refl)⟩
            · by_cases hx0 : x = 0
              · obtain rfl : q = 0 := by omega
                subst hx0
                obtain rfl : acc = 0 := by simpa using hacc
                simp only [Nat.add_zero] at hx
                clear hb1 hb2 hstep h9 hacc
                go_wp2
                go_quiet (fail)
                go_wp2
                go_quiet (fail)
                go_wp2
                go_quiet (fail)
                go_wp2
                go_ret3
                exact ⟨peekV_ok HP.out (by decide) (by simp), (by first | exact Drew.refl | exact Drew.refl.trans Drew.refl)⟩
              · clear hb1 hb2
                go_wp2
                go_quiet (fail)
                go_wp2
                go_quiet (fail)
                go_wp2
                go_quiet (fail)
                go_wp2
                go_ret3
                exact ⟨peekV_ok HP.out rfl (by omega), (by first | exact Drew.refl | exact Drew.refl.trans Drew.refl)⟩
          · rw [if_neg hx128, peekAcc_next _ _ _ _ (by omega)] at hP
            have HP := hid hP
            have HN := hid hnext
            clear hP hnext
            have h9 : q ≠ 9 := by omega
            have hx0 : x ≠ 0 := by omega
            clear hb1 hb2
            go_wp2
            go_quiet (fail)
            go_wp2
            go_quiet (fail)
            go_wp2
            go_roundw
            case rel => exact ⟨acc + 128 ^ q * (x % 128), q + 1, _, by omega, by go_num, rfl, HN.out, by omega, hid (by rw [HP.out, show 9 - q = 10 - (q + 1) from by omega, Nat.add_assoc]), rfl⟩
            case measure => simp [intOf]; omega
      · have hP := HP.out
        have hd : l.drop (pos + q) = [] := List.drop_of_length_le (by omega)
        have h10 : 10 - q = (9 - q) + 1 := by omega
        rw [hd, h10, peekF, peekAcc_bad _ _ _ (by decide)] at hP
        have HP2 := hid hP
        clear hP HP hcells hd h10
        go_wp2
        go_quiet (fail)
        go_wp2
        go_ret3
        exact ⟨peekV_bad HP2.out (by decide), (by first | exact Drew.refl | exact Drew.refl.trans Drew.refl)⟩
    · have hP := HP.out
      obtain rfl : q = 10 := by omega
      rw [show 10 - 10 = 0 from rfl, peekF, peekAcc_bad _ _ _ (by decide)] at hP
      have HP2 := hid hP
      clear hP HP hcells
      go_wp2
      go_ret3
      exact ⟨peekV_bad HP2.out (by decide), (by first | exact Drew.refl | exact Drew.refl.trans Drew.refl)⟩
end
end Go.Proofs.Ytbikekgljabalaa
