/- The wire layer's plain laws: what is taken and laid again is the same bytes. No program in sight. -/
import Derived.Test.YtdakcphkaljghaaRplain
namespace Go.AB
open Go.RowKit

theorem fixedB_leNat (l : List UInt8) : fixedB l.length (leNat l) = l := by
  induction l with
  | nil => rfl
  | cons b l ih =>
    have hb := b.toNat_lt
    simp only [List.length_cons, fixedB, leNat]
    rw [show (b.toNat + 256 * leNat l) / 256 = leNat l by omega, ih]
    congr 1
    apply UInt8.toNat_inj.1
    simp
theorem peekF_pos : ∀ f i l, 0 < i → (peekF f i l).2.2 = 0 → 0 < (peekF f i l).1
  | 0, _, _, _, h => by simp [peekF] at h
  | f + 1, i, [], _, h => by simp [peekF] at h
  | f + 1, i, b :: rest, hi, h => by
    unfold peekF at h ⊢
    split
    · rename_i h1; rw [if_pos h1] at h; simp at h
    · rename_i h1
      rw [if_neg h1] at h
      split
      · simp only; omega
      · rename_i h2
        rw [if_neg h2] at h
        split
        · rename_i h3
          have := peekF_pos f (i + 1) rest (by omega) h3
          simp only
          omega
        · rename_i h3
          rw [if_neg h3] at h
          exact absurd h h3
theorem shortB_peekF : ∀ f i l, (peekF f i l).2.2 = 0 → shortB (peekF f i l).1 = l.take ((peekF f i l).2.1 - i)
  | 0, _, _, h => by simp [peekF] at h
  | f + 1, i, [], h => by simp [peekF] at h
  | f + 1, i, b :: rest, h => by
    have hb := b.toNat_lt
    have hob : UInt8.ofNat b.toNat = b := by simp
    unfold peekF at h ⊢
    split
    · rename_i h1; rw [if_pos h1] at h; simp at h
    · rename_i h1
      rw [if_neg h1] at h
      split
      · rename_i h2
        rw [shortB_lt h2, show i + 1 - i = 1 by omega]
        simp
      · rename_i h2
        rw [if_neg h2] at h
        split
        · rename_i h3
          have hp := peekF_pos f (i + 1) rest (by omega) h3
          have hs := shortB_peekF f (i + 1) rest h3
          have hl := peekF_len f (i + 1) rest h3
          simp only
          generalize peekF f (i + 1) rest = p at *
          have hge : 128 ≤ b.toNat - 128 + 128 * p.1 := by omega
          rw [shortB_ge hge, show (b.toNat - 128 + 128 * p.1) / 128 = p.1 by omega, hs, show p.2.1 - i = (p.2.1 - (i + 1)) + 1 by omega, List.take_succ_cons]
          congr 1
          rw [show 128 + (b.toNat - 128 + 128 * p.1) % 128 = b.toNat by omega, hob]
        · rename_i h3
          rw [if_neg h3] at h
          exact absurd h h3
theorem shortB_peekS (l : List UInt8) (h : (peekS l).2.2 = 0) : shortB (peekS l).1 = l.take (peekS l).2.1 := shortB_peekF 10 0 l h
theorem zig_unzig (v : Nat) : zig (unzig v) = v := by
  unfold zig unzig
  rcases Nat.mod_two_eq_zero_or_one v with h | h
  · rw [if_neg (by omega), if_neg (by omega)]; omega
  · rw [if_pos h, if_pos (by omega)]; omega
theorem unzig_I64 {v : Nat} (h : U64 v) : I64 (unzig v) := by
  unfold U64 at h; unfold I64 unzig
  split <;> omega

/-- A take of the law's script. -/
structure TakeD where
  kind : Int
  width : Int
  n : Int
  most : Nat
/-- One take, and what is laid of it. -/
def onlyStep (l : List UInt8) (t : TakeD) (s : RS) : RS × List UInt8 :=
  if t.kind = 1 then ((rWidth t.width l s).2, fixedB (sizeI t.width) (rWidth t.width l s).1)
  else if t.kind = 2 then ((rShort t.most l s).2, shortB (rShort t.most l s).1)
  else if t.kind = 3 then ((rSigned l s).2, shortB (zig (rSigned l s).1))
  else if t.kind = 4 then ((rFlag l s).2, [if (rFlag l s).1 then 1 else 0])
  else if t.kind = 5 then ((rText t.n l s).2, shortB (rText t.n l s).1.length ++ (rText t.n l s).1)
  else (s, [])
/-- What holds of a step: the reader stays in the bytes; while it is right, what is laid is what was taken; what is laid is short. -/
structure StepOk (l : List UInt8) (s : RS) (r : RS × List UInt8) : Prop where
  ok : r.1.ok l
  le : s.pos ≤ r.1.pos
  keep : r.1.bad = 0 → s.bad = 0 ∧ l.take r.1.pos = l.take s.pos ++ r.2
  len : r.2.length + s.pos ≤ r.1.pos + 10
theorem take_drop_take {α : Type} (l : List α) (p n : Nat) : l.take (p + n) = l.take p ++ (l.drop p).take n := by rw [List.take_add]
theorem sizeI_le (k : Int) : sizeI k ≤ 8 := by
  unfold sizeI; split
  · rename_i h
    obtain ⟨q, rfl⟩ := Int.eq_ofNat_of_zero_le h.1
    match q, h with
    | 0, _ | 1, _ | 2, _ | 3, _ | 4, _ | 5, _ | 6, _ | 7, _ => decide
    | q + 8, h => omega
  · decide
theorem step_short (l : List UInt8) (m : Nat) (s : RS) (h : s.ok l) : StepOk l s ((rShort m l s).2, shortB (rShort m l s).1) := by
  have hok := rShort_ok (n := m) h
  have hlen := shortB_len10 (rShort_U64 m l s)
  unfold rShort at *
  repeat' split
  all_goals simp_all only [if_true, if_false, RS.fails, ne_eq, not_false_eq_true]
  · rename_i hb
    exact ⟨h, Nat.le_refl _, fun h0 => absurd h0 (by simpa using hb), by simp only; omega⟩
  · rename_i hb he
    exact ⟨h, Nat.le_refl _, fun h0 => absurd h0 he, by simp only; omega⟩
  · exact ⟨h, Nat.le_refl _, fun h0 => by simp at h0, by simp only; omega⟩
  · rename_i hb he hm
    refine ⟨hok, by simp only; omega, fun h0 => ⟨h0, ?_⟩, by simp only; omega⟩
    simp only
    rw [take_drop_take, shortB_peekS _ (by simpa using he)]
theorem step_signed (l : List UInt8) (s : RS) (h : s.ok l) : StepOk l s ((rSigned l s).2, shortB (zig (rSigned l s).1)) := by
  unfold rSigned
  rw [zig_unzig]
  exact step_short l _ s h
theorem step_flag (l : List UInt8) (s : RS) (h : s.ok l) : StepOk l s ((rFlag l s).2, [if (rFlag l s).1 then 1 else 0]) := by
  have hok := rFlag_ok h
  unfold rFlag at *
  split
  · rename_i hb
    exact ⟨h, Nat.le_refl _, fun h0 => absurd h0 (by simpa using hb), by simp; omega⟩
  · rename_i hb
    simp only [hb, if_false] at hok
    cases hd : l.drop s.pos with
    | nil => exact ⟨h, Nat.le_refl _, fun h0 => by simp [RS.fails] at h0, by simp [RS.fails]; omega⟩
    | cons b t =>
      rw [hd] at hok
      simp only at hok ⊢
      split
      · exact ⟨h, Nat.le_refl _, fun h0 => by simp [RS.fails] at h0, by simp [RS.fails]; omega⟩
      · rename_i hb1
        rw [if_neg hb1] at hok
        refine ⟨hok, by simp, fun h0 => ⟨h0, ?_⟩, by simp; omega⟩
        simp only
        rw [take_drop_take, hd]
        have : b = 0 ∨ b = 1 := by
          rcases Nat.lt_or_ge b.toNat 1 with h2 | h2
          · exact .inl (UInt8.toNat_inj.1 (by simp; omega))
          · exact .inr (UInt8.toNat_inj.1 (by simp; omega))
        rcases this with rfl | rfl <;> simp
theorem step_fixed (l : List UInt8) (n : Nat) (hn : n ≤ 8) (s : RS) (h : s.ok l) : StepOk l s ((rFixed n l s).2, fixedB n (rFixed n l s).1) := by
  have hok := rFixed_ok (n := n) h
  unfold rFixed at *
  split
  · rename_i hb
    exact ⟨h, Nat.le_refl _, fun h0 => absurd h0 (by simpa using hb), by simp [fixedB_length]; omega⟩
  · rename_i hb
    rw [if_neg hb] at hok
    split
    · exact ⟨h, Nat.le_refl _, fun h0 => by simp [RS.fails] at h0, by simp [RS.fails, fixedB_length]; omega⟩
    · rename_i hs
      rw [if_neg hs] at hok
      refine ⟨hok, by simp, fun h0 => ⟨h0, ?_⟩, by simp [fixedB_length]; omega⟩
      simp only
      rw [take_drop_take]
      congr 1
      have hl : ((l.drop s.pos).take n).length = n := by
        unfold RS.ok at h
        rw [List.length_take, List.length_drop]; omega
      have := fixedB_leNat ((l.drop s.pos).take n)
      rw [hl] at this
      exact this.symm
theorem step_width (l : List UInt8) (k : Int) (s : RS) (h : s.ok l) : StepOk l s ((rWidth k l s).2, fixedB (sizeI k) (rWidth k l s).1) := by
  unfold rWidth
  split
  · exact step_fixed l _ (sizeI_le k) s h
  · rename_i hk
    have : sizeI k = 0 := by unfold sizeI; rw [if_neg hk]
    rw [this]
    exact ⟨h, Nat.le_refl _, fun h0 => ⟨h0, by simp [fixedB]⟩, by simp [fixedB]⟩
theorem rText_len (m : Int) (l : List UInt8) (s : RS) {N : Nat} (h : l.length ≤ N) : (rText m l s).1.length ≤ N := by
  unfold rText
  repeat' split
  all_goals first | (simp; done) | (simp only [List.length_take, List.length_drop]; omega)
theorem step_text (l : List UInt8) (hl : l.length < 18446744073709551616) (m : Int) (s : RS) (h : s.ok l) : StepOk l s ((rText m l s).2, shortB (rText m l s).1.length ++ (rText m l s).1) := by
  have hok := rText_ok (n := m) h
  have hz : (shortB ([] : List UInt8).length ++ []).length = 1 := by rw [List.length_nil, shortB_lt (by decide)]; rfl
  unfold rText at *
  split
  · rename_i hb
    exact ⟨h, Nat.le_refl _, fun h0 => absurd h0 (by simpa using hb), by simp only [hz]; omega⟩
  · rename_i hb
    rw [if_neg hb] at hok
    split
    · rename_i he
      exact ⟨h, Nat.le_refl _, fun h0 => absurd h0 (by simpa [RS.fails] using he), by simp only [hz, RS.fails]; omega⟩
    · rename_i he
      rw [if_neg he] at hok
      split
      · exact ⟨h, Nat.le_refl _, fun h0 => by simp [RS.fails] at h0, by simp only [hz, RS.fails]; omega⟩
      · rename_i hm
        rw [if_neg hm] at hok
        split
        · exact ⟨h, Nat.le_refl _, fun h0 => by simp [RS.fails] at h0, by simp only [hz, RS.fails]; omega⟩
        · rename_i hlong
          rw [if_neg hlong] at hok
          have hp := peekS_pos l s.pos h (by simpa using he)
          have hlen : ((l.drop (s.pos + (peekS (l.drop s.pos)).2.1)).take (peekS (l.drop s.pos)).1).length = (peekS (l.drop s.pos)).1 := by
            rw [List.length_take, List.length_drop]; omega
          have h10 := shortB_len10 (peekS_U64 (l.drop s.pos))
          refine ⟨hok, by simp only; omega, fun h0 => ⟨h0, ?_⟩, ?_⟩
          · simp only
            rw [hlen, take_drop_take l (s.pos + (peekS (l.drop s.pos)).2.1), take_drop_take l s.pos, shortB_peekS _ (by simpa using he), List.append_assoc]
          · simp only [List.length_append, hlen]
            omega
theorem onlyStep_ok (l : List UInt8) (hl : l.length < 18446744073709551616) (t : TakeD) (s : RS) (h : s.ok l) : StepOk l s (onlyStep l t s) := by
  unfold onlyStep
  split
  · exact step_width l _ s h
  split
  · exact step_short l _ s h
  split
  · exact step_signed l s h
  split
  · exact step_flag l s h
  split
  · exact step_text l hl _ s h
  · exact ⟨h, Nat.le_refl _, fun h0 => ⟨h0, by simp⟩, by simp⟩
theorem only_next {l : List UInt8} (hl : l.length < 18446744073709551616) (t : TakeD) {s : RS} {out : List UInt8} {k : Nat} (h : s.ok l) (hlen : out.length ≤ s.pos + 10 * k) (hb : s.bad = 0 → out = l.take s.pos) :
    (out ++ (onlyStep l t s).2).length ≤ (onlyStep l t s).1.pos + 10 * (k + 1) ∧ ((onlyStep l t s).1.bad = 0 → out ++ (onlyStep l t s).2 = l.take (onlyStep l t s).1.pos) := by
  have hs := onlyStep_ok l hl t s h
  refine ⟨by have := hs.len; have := hs.le; rw [List.length_append]; omega, fun h0 => ?_⟩
  obtain ⟨h1, h2⟩ := hs.keep h0
  rw [h2, hb h1]
end Go.AB
