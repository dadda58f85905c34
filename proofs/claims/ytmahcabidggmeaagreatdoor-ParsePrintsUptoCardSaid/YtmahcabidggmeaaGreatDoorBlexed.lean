/- A source without fault, token by token. No program in sight. -/
import Derived.Test.YtmahcabidggmeaaGreatDoorBcut
namespace Go.AB
open Go.RowKit

def adv (p : Nat × Nat) (c : UInt8) : Nat × Nat := if c.toNat = 10 then (p.1 + 1, 1) else (p.1, p.2 + 1)
/-- Where one stands behind some bytes. -/
def pos (p : Nat × Nat) (l : List UInt8) : Nat × Nat := l.foldl adv p
theorem pos_append (p : Nat × Nat) (l m : List UInt8) : pos p (l ++ m) = pos (pos p l) m := by simp [pos, List.foldl_append]
theorem pos_no10 (l : List UInt8) : ∀ p : Nat × Nat, (∀ c ∈ l, c.toNat ≠ 10) → pos p l = (p.1, p.2 + l.length) := by
  induction l with
  | nil => intro p _; rfl
  | cons c l ih =>
    intro p h
    show pos (adv p c) l = _
    rw [ih _ (fun x hx => h x (by simp [hx])), adv, if_neg (h c (by simp))]
    simp only [List.length_cons]
    congr 1
    omega
theorem pos_take (p : Nat × Nat) (d : List UInt8) (n : Nat) : pos (pos p (d.take n)) (d.drop n) = pos p d := by rw [← pos_append, List.take_append_drop]
def lfs (l : List UInt8) : Nat := (l.filter fun c => c.toNat == 10).length
theorem pos_line (l : List UInt8) : ∀ p : Nat × Nat, (pos p l).1 = p.1 + lfs l := by
  induction l with
  | nil => intro p; rfl
  | cons c l ih =>
    intro p
    show (pos (adv p c) l).1 = _
    rw [ih]
    unfold adv lfs
    rw [List.filter_cons]
    by_cases h : c.toNat = 10
    · simp [h]; omega
    · simp [h]

inductive Lexed : List UInt8 → Nat × Nat → List Tok → Prop
  | stop (p : Nat × Nat) : Lexed [] p [⟨7, [], 0, p.1, p.2⟩]
  | pass {d : List UInt8} {n : Nat} {p : Nat × Nat} {ts : List Tok} (h : act1 d = .pass n) (hr : Lexed (d.drop n) (pos p (d.take n)) ts) : Lexed d p ts
  | tok {d : List UInt8} {k : Nat} {t : List UInt8} {v : Int} {n : Nat} {p : Nat × Nat} {ts : List Tok} (h : act1 d = .tok k t v n) (hk : k ≠ 7) (hr : Lexed (d.drop n) (pos p (d.take n)) ts) : Lexed d p (⟨k, t, v, p.1, p.2⟩ :: ts)

theorem pos_pass {d : List UInt8} {n : Nat} (h : act1 d = .pass n) (p : Nat × Nat) : pos p (d.take n) = (p.1, p.2 + n) := by
  rw [pos_no10 _ _ (act1_pass_bytes h), List.length_take, Nat.min_eq_left (act1_pass h).2]
theorem tok_le {d : List UInt8} {k : Nat} {t : List UInt8} {v : Int} {n : Nat} (h : act1 d = .tok k t v n) (hk : k ≠ 7) : 1 ≤ n ∧ n ≤ d.length ∧ 1 ≤ k ∧ k ≤ 6 := by
  rcases act1_tok h with ⟨_, h1, _⟩ | ⟨_, h1, h2, h3, h4⟩
  · exact absurd h1 hk
  · exact ⟨h3, h4, h1, h2⟩
theorem pos_tok {d : List UInt8} {k : Nat} {t : List UInt8} {v : Int} {n : Nat} (h : act1 d = .tok k t v n) (hk : k ≠ 7) (p : Nat × Nat) : pos p (d.take n) = if k = 6 then (p.1 + 1, 1) else (p.1, p.2 + n) := by
  rcases act1_tok_bytes h hk with ⟨h1, rfl, r, rfl⟩ | ⟨h1, h2⟩
  · rw [if_pos h1]; rfl
  · rw [if_neg h1, pos_no10 _ _ h2, List.length_take, Nat.min_eq_left (tok_le h hk).2.1]

theorem Lexed.scan {d : List UInt8} {p : Nat × Nat} {ts : List Tok} (h : Lexed d p ts) : scanD d p.1 p.2 = (ts, (0, 0, 0)) := by
  induction h with
  | stop p => rw [scanD_eq]; rfl
  | @pass d n p ts h _ ih =>
    rw [scanD_eq, h]
    rw [pos_pass h] at ih
    exact ih
  | @tok d k t v n p ts h hk _ ih =>
    rw [scanD_eq, h]
    rw [pos_tok h hk] at ih
    simp only [if_neg hk]
    by_cases h6 : k = 6
    · rw [if_pos h6] at ih ⊢; rw [ih]
    · rw [if_neg h6] at ih ⊢; rw [ih]
theorem lexed_of_scan : ∀ m (d : List UInt8) (p : Nat × Nat), d.length < m → (scanD d p.1 p.2).2.1 = 0 → Lexed d p (scanD d p.1 p.2).1
  | 0, d, p, h, _ => by omega
  | m + 1, d, p, hm, h0 => by
    rw [scanD_eq] at h0 ⊢
    cases ha : act1 d with
    | pass n =>
      rw [ha] at h0
      simp only at h0 ⊢
      refine .pass ha ?_
      rw [pos_pass ha]
      exact lexed_of_scan m (d.drop n) (p.1, p.2 + n) (by have := act1_pass ha; rw [List.length_drop]; omega) h0
    | fault e =>
      rw [ha] at h0
      simp only at h0
      unfold act1 at ha
      split at ha
      · split at ha
        · cases ha
        · split at ha
          · cases ha
          · split at ha
            · rename_i he; cases ha; exact absurd h0 he
            · cases ha
      · cases ha
    | tok k t v n =>
      rw [ha] at h0
      simp only at h0 ⊢
      by_cases hk : k = 7
      · rw [if_pos hk]
        have hd : d = [] := by
          rcases act1_tok ha with ⟨h1, _⟩ | ⟨_, _, h1, _⟩
          · exact h1
          · omega
        subst hd
        exact .stop p
      · rw [if_neg hk] at h0 ⊢
        have hl := tok_le ha hk
        have hdl : (d.drop n).length < m := by rw [List.length_drop]; omega
        by_cases h6 : k = 6
        · rw [if_pos h6] at h0 ⊢
          refine .tok ha hk ?_
          rw [pos_tok ha hk, if_pos h6]
          exact lexed_of_scan m (d.drop n) (p.1 + 1, 1) hdl h0
        · rw [if_neg h6] at h0 ⊢
          refine .tok ha hk ?_
          rw [pos_tok ha hk, if_neg h6]
          exact lexed_of_scan m (d.drop n) (p.1, p.2 + n) hdl h0

/-- Two sources with a line's end between. -/
theorem Lexed.join {d : List UInt8} {p : Nat × Nat} {ts : List Tok} (h : Lexed d p ts) : ∀ (r : List UInt8) (us : List Tok), Lexed r ((pos p d).1 + 1, 1) us →
    ∃ ts0, ts = ts0 ++ [⟨7, [], 0, (pos p d).1, (pos p d).2⟩] ∧ Lexed (d ++ 10 :: r) p (ts0 ++ ⟨6, [], 0, (pos p d).1, (pos p d).2⟩ :: us) := by
  induction h with
  | stop p =>
    intro r us hu
    refine ⟨[], rfl, ?_⟩
    exact Lexed.tok (d := 10 :: r) (k := 6) (t := []) (v := 0) (n := 1) (act1_of_tokAt (by decide) (by decide) (by simp [tokAt, isLetter, isDigit])) (by omega) hu
  | @pass d n p ts h _ ih =>
    intro r us hu
    obtain ⟨ts0, h1, h2⟩ := ih r us (by rw [pos_take]; exact hu)
    rw [pos_take] at h1 h2
    have hle := (act1_pass h).2
    refine ⟨ts0, h1, .pass (act1_pass_lf h) ?_⟩
    rw [List.drop_append_of_le_length hle, List.take_append_of_le_length hle]
    exact h2
  | @tok d k t v n p ts h hk _ ih =>
    intro r us hu
    obtain ⟨ts0, h1, h2⟩ := ih r us (by rw [pos_take]; exact hu)
    rw [pos_take] at h1 h2
    have hle := (tok_le h hk).2.1
    refine ⟨⟨k, t, v, p.1, p.2⟩ :: ts0, by rw [h1]; rfl, ?_⟩
    refine Lexed.tok (act1_app h hk (nonw_cons (by decide))).1 hk ?_
    rw [List.drop_append_of_le_length hle, List.take_append_of_le_length hle]
    exact h2

def Tok.down (m : Nat) (t : Tok) : Tok := { t with line := t.line + m }
theorem pos_down (l : List UInt8) (m : Nat) : ∀ p : Nat × Nat, pos (p.1 + m, p.2) l = ((pos p l).1 + m, (pos p l).2) := by
  induction l with
  | nil => intro p; rfl
  | cons c l ih =>
    intro p
    show pos (adv (p.1 + m, p.2) c) l = ((pos (adv p c) l).1 + m, (pos (adv p c) l).2)
    rw [← ih]
    congr 1
    unfold adv
    split
    · simp only; congr 1; omega
    · rfl
theorem Lexed.down {d : List UInt8} {p : Nat × Nat} {ts : List Tok} (h : Lexed d p ts) (m : Nat) : Lexed d (p.1 + m, p.2) (ts.map (Tok.down m)) := by
  induction h with
  | stop p => exact .stop _
  | @pass d n p ts h _ ih => exact .pass h (by rw [pos_down]; exact ih)
  | @tok d k t v n p ts h hk _ ih => exact .tok h hk (by rw [pos_down]; exact ih)

theorem lfs_le (l : List UInt8) : lfs l ≤ l.length := List.length_filter_le _ _
theorem Lexed.line {d : List UInt8} {p : Nat × Nat} {ts : List Tok} (h : Lexed d p ts) : ∀ t ∈ ts, t.line ≤ p.1 + d.length := by
  have key : ∀ (d : List UInt8) (n : Nat) (p : Nat × Nat), (pos p (d.take n)).1 + (d.drop n).length ≤ p.1 + d.length := fun d n p => by
    rw [pos_line]
    have := lfs_le (d.take n)
    rw [List.length_take] at this
    rw [List.length_drop]
    omega
  induction h with
  | stop p => intro t ht; rw [List.mem_singleton.1 ht]; simp
  | @pass d n p ts h _ ih => intro t ht; have := ih t ht; have := key d n p; omega
  | @tok d k t v n p ts h hk _ ih =>
    intro t ht
    rcases List.mem_cons.1 ht with rfl | ht
    · simp
    · have := ih t ht; have := key d n p; omega
/-- What the law on two joined sources wants. -/
theorem joined_tokens {A Bb : List UInt8} {ta tb : List Tok} (ha : Lexed A (1, 1) ta) (hb : Lexed Bb (1, 1) tb) : ∃ ta0 x, ta = ta0 ++ [x] ∧ x.kind = 7 ∧ x.text = [] ∧ x.num = 0 ∧ scanD (A ++ 10 :: Bb) 1 1 = (ta0 ++ { x with kind := 6 } :: tb.map (Tok.down (lfs A + 1)), (0, 0, 0)) := by
  have h1 := hb.down (lfs A + 1)
  have e : (pos (1, 1) A).1 + 1 = 1 + (lfs A + 1) := by rw [pos_line]; omega
  obtain ⟨ts0, h2, h3⟩ := ha.join Bb _ (by rw [e]; exact h1)
  exact ⟨ts0, _, h2, rfl, rfl, rfl, h3.scan⟩
end Go.AB
