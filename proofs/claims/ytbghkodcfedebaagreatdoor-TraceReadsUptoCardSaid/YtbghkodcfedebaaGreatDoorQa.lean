/- Walks of the reference's reader: the place, the fault, the length of a short number. -/
import Derived.Test.YtbghkodcfedebaaGreatDoorTj4
import Derived.Test.YtbghkodcfedebaaGreatDoorTj3
namespace Go.Proofs.YtbghkodcfedebaaGreatDoor
open Go.RowKit Go.AB

/-- A short number's bytes alone: its value. -/
def sevens : List UInt8 → Nat
  | [] => 0
  | b :: r => b.toNat % 128 + 128 * sevens r
theorem peekF_val : ∀ f i l, (peekF f i l).2.2 = 0 → (peekF f i l).1 = sevens (l.take ((peekF f i l).2.1 - i))
  | 0, _, _, h => by simp [peekF] at h
  | f + 1, i, [], h => by simp [peekF] at h
  | f + 1, i, b :: rest, h => by
    unfold peekF at h ⊢
    split
    · rename_i h1; rw [if_pos h1] at h; simp at h
    · rename_i h1
      rw [if_neg h1] at h
      split
      · rename_i h2
        simp [sevens, Nat.mod_eq_of_lt h2, show i + 1 - i = 1 by omega]
      · rename_i h2
        rw [if_neg h2] at h
        split
        · rename_i h3
          have ih := peekF_val f (i + 1) rest h3
          have hl := peekF_len f (i + 1) rest h3
          have hb := b.toNat_lt
          simp only
          rw [show (peekF f (i + 1) rest).2.1 - i = ((peekF f (i + 1) rest).2.1 - (i + 1)) + 1 from by omega, List.take_succ_cons, sevens, ← ih]
          omega
        · rename_i h3
          rw [if_neg h3] at h
          exact absurd h h3
theorem sevens_mono (k : Nat) : ∀ l : List UInt8, sevens (l.drop k) ≤ sevens l := by
  induction k with
  | zero => intro l; simp
  | succ k ih =>
    intro l
    cases l with
    | nil => simp [sevens]
    | cons b l =>
      have := ih l
      simp only [List.drop_succ_cons, sevens]
      omega
/-- What stays of the answer once a byte of 128 or more went by. -/
theorem peekF_by (f i : Nat) (b : UInt8) (rest : List UInt8) (h : f + i = 9) (hb : 128 ≤ b.toNat) : (peekF (f + 1) i (b :: rest)).2 = (peekF f (i + 1) rest).2 := by
  conv => lhs; unfold peekF
  by_cases h9 : i = 9
  · obtain rfl : f = 0 := by omega
    rw [if_pos (.inl ⟨h9, by omega⟩)] <;> rfl
  · rw [if_neg (by omega), if_neg (by omega)]
    split
    · rename_i h1
      generalize peekF f (i + 1) rest = p at *
      obtain ⟨x, y, z⟩ := p
      simp at h1 ⊢
      exact h1.symm
    · rename_i h1
      have := (peekF_err f (i + 1) rest).resolve_left h1
      generalize peekF f (i + 1) rest = p at *
      obtain ⟨x, y, z⟩ := p
      simp at this ⊢
      exact this.2.symm
theorem peekF_end (f i : Nat) (b : UInt8) (rest : List UInt8) (hb : b.toNat < 128) : (peekF (f + 1) i (b :: rest)).2 = if (i = 9 ∧ 1 < b.toNat) ∨ (b.toNat = 0 ∧ 0 < i) then (0, 11) else (i + 1, 0) := by
  unfold peekF
  split
  · rfl
  · simp

section
variable {w : World} {b : Nat} {l : List UInt8} {ao : Option Addr} {cap pos wh bad : Nat} (hR : Rd 161 w b l ao cap pos wh bad)
include hR
theorem Qd_drew {w' : World} (h : Drew w w') : Rd 161 w' b l ao cap pos wh bad := hR.keep (h.chg (S := [])) (by simp) (by simp)
set_option maxHeartbeats 400000 in
theorem q_fails_calls (e : Nat) : Calls Tryz.prog 111 #[.pointer (some ⟨b, 0, none⟩), .int .i64 e] w (FailPost 161 w b l ao cap pos e) := by
  have h1 := hR.c1
  have h2 := hR.c2
  have h3 := hR.c3
  have f2 := hR.fr 2
  have f3 := hR.fr 3
  go_enter Tryz.func111, Tryz.ntmps111
  go_wp2
  go_end0
  exact ⟨rfl, hR.set23 e⟩
set_option maxHeartbeats 400000 in
theorem q_end_calls : Calls Tryz.prog 98 #[.pointer (some ⟨b, 0, none⟩)] w fun e w' => e = .returned (.int .i64 (rEnd l ⟨pos, wh, bad⟩)) ∧ Drew w w' := by
  have h0 := hR.c0
  have h1 := hR.c1
  have h3 := hR.c3
  by_cases hb : bad = 0
  · subst hb
    by_cases hlt : pos < l.length
    · have he : rEnd l ⟨pos, wh, 0⟩ = 13 := by unfold rEnd; simp [hlt]
      rw [he]
      clear he
      go_enter Tryz.func98, Tryz.ntmps98
      go_wp2
      go_quiet (fail)
      go_wp2
      go_ret
      exact ⟨rfl, (by first | exact Drew.refl | exact Drew.refl.trans Drew.refl)⟩
    · have he : rEnd l ⟨pos, wh, 0⟩ = 0 := by unfold rEnd; simp [hlt]
      rw [he]
      clear he
      go_enter Tryz.func98, Tryz.ntmps98
      go_wp2
      go_quiet (fail)
      go_wp2
      go_ret
      exact ⟨rfl, (by first | exact Drew.refl | exact Drew.refl.trans Drew.refl)⟩
  · have he : rEnd l ⟨pos, wh, bad⟩ = bad := by unfold rEnd; simp [hb]
    rw [he]
    clear he
    go_enter Tryz.func98, Tryz.ntmps98
    go_wp2
    go_ret
    exact ⟨rfl, (by first | exact Drew.refl0 | exact Drew.refl | exact Drew.refl.trans Drew.refl)⟩
end
end Go.Proofs.YtbghkodcfedebaaGreatDoor
