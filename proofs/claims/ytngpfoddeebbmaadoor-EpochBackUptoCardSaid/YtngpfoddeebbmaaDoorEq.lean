/- The texts of epochs, plain: what the program reads, what the document reads. No program in sight. -/
import Derived.Test.YtngpfoddeebbmaaDoorEo
import Derived.Lib.IndexBytes
namespace Go.AB
open Go.RowKit
set_option linter.unusedVariables false

/-- An epoch's text. -/
def textL (E : Int) : List UInt8 := if (partsE E).2.1 = 0 then [110, 111, 110, 101] else Lib.decDigits (partsE E).2.1.toNat ++ 64 :: Lib.decDigits (partsE E).1.toNat
/-- What the document reads. -/
def parseE (l : List UInt8) : Int × Int :=
  if l = [110, 111, 110, 101] then (0, 0) else
  match cutAt l with
  | none => (0, 21)
  | some p =>
    match numL 281474976710655 p.1, numL 65534 p.2 with
    | some c, some t => if c < 1 then (0, 21) else packE t c
    | _, _ => (0, 21)
/-- What the program reads. -/
def progE (l : List UInt8) : Int × Int :=
  if l = [110, 111, 110, 101] then (0, 0) else
  match puL 18446744073709551615 (Lib.cut l [64]).1, puL 65535 (Lib.cut l [64]).2.1 with
  | some c, some t => if (packE t c).2 ≠ 0 ∨ textL (packE t c).1 ≠ l then (0, 21) else ((packE t c).1, 0)
  | _, _ => (0, 21)
theorem index_at : ∀ l : List UInt8, (cutAt l = none → Lib.indexByte l 64 = -1) ∧ (∀ a b, cutAt l = some (a, b) → Lib.indexByte l 64 = a.length)
  | [] => ⟨fun _ => rfl, fun a b h => by cases h⟩
  | c :: r => by
    obtain ⟨h1, h2⟩ := index_at r
    unfold cutAt Lib.indexByte
    by_cases hc : c = 64
    · subst hc
      rw [if_pos rfl, if_pos (by rfl)]
      refine ⟨fun h => (by cases h), fun a b h => ?_⟩
      simp only [Option.some.injEq, Prod.mk.injEq] at h
      rw [← h.1]; rfl
    · rw [if_neg hc, if_neg (by simpa using hc)]
      cases hr : cutAt r with
      | none =>
        rw [if_pos (by rw [h1 hr]; rfl)]
        exact ⟨fun _ => rfl, fun a b h => by cases h⟩
      | some p =>
        obtain ⟨a', b'⟩ := p
        have h3 := h2 a' b' hr
        rw [h3, if_neg (by simp)]
        refine ⟨fun h => (by cases h), fun a b h => ?_⟩
        simp only [Option.map_some, Option.some.injEq, Prod.mk.injEq] at h
        rw [← h.1]
        simp
theorem cut_none {l : List UInt8} (h : cutAt l = none) : Lib.cut l [64] = (l, [], false) := by
  unfold Lib.cut
  rw [Lib.index_one, (index_at l).1 h, if_neg (by omega)]
theorem cut_some {l a b : List UInt8} (h : cutAt l = some (a, b)) : Lib.cut l [64] = (a, b, true) := by
  unfold Lib.cut
  rw [Lib.index_one, (index_at l).2 a b h, if_pos (by omega), Int.toNat_natCast]
  have hl := cutAt_some h
  have e1 : l.take a.length = a := by rw [hl, List.take_left]
  have e2 : l.drop (a.length + [(64 : UInt8)].length) = b := by
    rw [hl, List.length_singleton, ← List.drop_drop, List.drop_left]; rfl
  rw [e1, e2]
theorem pack_ok {t c : Nat} (h : (packE t c).2 = 0) : (t : Int) < 65535 ∧ 1 ≤ c ∧ c ≤ 281474976710655 ∧ (packE t c).1 = (t : Int) * 281474976710656 + c := by
  unfold packE at h ⊢
  split at h
  · simp at h
  · rename_i h1
    rw [if_neg h1]
    refine ⟨by omega, by omega, by omega, rfl⟩
theorem text_pack {t c : Nat} (h0 : (t : Int) < 65535) (h1 : 1 ≤ c) (h2 : c ≤ 281474976710655) : textL ((t : Int) * 281474976710656 + c) = Lib.decDigits c ++ 64 :: Lib.decDigits t := by
  unfold textL
  rw [partsE_pack (by omega) h0 (by omega) (by omega)]
  simp only
  rw [if_neg (by omega), Int.toNat_natCast, Int.toNat_natCast]
theorem cut_text (c t : Nat) : cutAt (Lib.decDigits c ++ 64 :: Lib.decDigits t) = some (Lib.decDigits c, Lib.decDigits t) :=
  cutAt_of _ _ fun x hx => dg_ne (dec_all c x hx)
theorem not_none (c t : Nat) : Lib.decDigits c ++ 64 :: Lib.decDigits t ≠ [110, 111, 110, 101] := fun h => by
  have h2 : (110 : UInt8) ∈ Lib.decDigits c := by
    have h3 : (Lib.decDigits c ++ 64 :: Lib.decDigits t).head? = some 110 := by rw [h]; rfl
    rw [head_app (dec_ne c)] at h3
    exact List.mem_of_head? h3
  exact absurd (dec_all c _ h2) (by decide)
theorem parse_text {t c : Nat} (h0 : (t : Int) < 65535) (h1 : 1 ≤ c) (h2 : c ≤ 281474976710655) : parseE (Lib.decDigits c ++ 64 :: Lib.decDigits t) = ((t : Int) * 281474976710656 + c, 0) := by
  unfold parseE
  rw [if_neg (not_none c t), cut_text]
  simp only
  rw [numL_dec h2 (by omega), numL_dec (by omega) (by omega)]
  simp only
  rw [if_neg (by omega), packE_yes (by omega) h0 (by omega) (by omega)]
/-- What is read is a text. -/
theorem parse_cases (l : List UInt8) : (l = [110, 111, 110, 101] ∧ parseE l = (0, 0)) ∨ (∃ t c : Nat, (t : Int) < 65535 ∧ 1 ≤ c ∧ c ≤ 281474976710655 ∧ l = Lib.decDigits c ++ 64 :: Lib.decDigits t ∧ parseE l = ((t : Int) * 281474976710656 + c, 0)) ∨
    (l ≠ [110, 111, 110, 101] ∧ (∀ t c : Nat, (t : Int) < 65535 → 1 ≤ c → c ≤ 281474976710655 → l ≠ Lib.decDigits c ++ 64 :: Lib.decDigits t) ∧ parseE l = (0, 21)) := by
  by_cases hn : l = [110, 111, 110, 101]
  · exact .inl ⟨hn, by unfold parseE; rw [if_pos hn]⟩
  by_cases hc : ∃ t c : Nat, (t : Int) < 65535 ∧ 1 ≤ c ∧ c ≤ 281474976710655 ∧ l = Lib.decDigits c ++ 64 :: Lib.decDigits t
  · obtain ⟨t, c, h0, h1, h2, h3⟩ := hc
    exact .inr (.inl ⟨t, c, h0, h1, h2, h3, by rw [h3]; exact parse_text h0 h1 h2⟩)
  · refine .inr (.inr ⟨hn, fun t c h0 h1 h2 h3 => hc ⟨t, c, h0, h1, h2, h3⟩, ?_⟩)
    unfold parseE
    rw [if_neg hn]
    cases hcut : cutAt l with
    | none => rfl
    | some p =>
      obtain ⟨a, b⟩ := p
      simp only
      cases ha : numL 281474976710655 a with
      | none => rfl
      | some c =>
        cases hb : numL 65534 b with
        | none => rfl
        | some t =>
          simp only
          by_cases h1 : c < 1
          · rw [if_pos h1]
          · exfalso
            obtain ⟨e1, e2⟩ := numL_some ha
            obtain ⟨e3, e4⟩ := numL_some hb
            exact hc ⟨t, c, by omega, by omega, e2, by rw [cutAt_some hcut, e1, e3]⟩
theorem prog_eq (l : List UInt8) : progE l = parseE l := by
  rcases parse_cases l with ⟨h1, h2⟩ | ⟨t, c, h0, h1, h2, h3, h4⟩ | ⟨h1, h2, h3⟩
  · rw [h2]; unfold progE; rw [if_pos h1]
  · rw [h4]
    subst h3
    unfold progE
    rw [if_neg (not_none c t), cut_some (cut_text c t)]
    simp only
    rw [puL_dec (by omega), puL_dec (by omega)]
    simp only
    rw [packE_yes (by omega) h0 (by omega) (by omega)]
    simp only
    rw [text_pack h0 h1 h2, if_neg (by simp)]
  · rw [h3]
    unfold progE
    rw [if_neg h1]
    cases ha : puL 18446744073709551615 (Lib.cut l [64]).1 with
    | none => rfl
    | some c =>
      cases hb : puL 65535 (Lib.cut l [64]).2.1 with
      | none => rfl
      | some t =>
        simp only
        by_cases h : (packE t c).2 ≠ 0 ∨ textL (packE t c).1 ≠ l
        · rw [if_pos h]
        · exfalso
          simp only [not_or, Classical.not_not] at h
          obtain ⟨e0, e1, e2, e3⟩ := pack_ok h.1
          rw [e3, text_pack e0 e1 e2] at h
          exact h2 t c e0 e1 e2 h.2.symm
/-- The text of what was read is what was read. -/
theorem text_parse {l : List UInt8} (h : (parseE l).2 = 0) : textL (parseE l).1 = l := by
  rcases parse_cases l with ⟨h1, h2⟩ | ⟨t, c, h0, h1, h2, h3, h4⟩ | ⟨h1, h2, h3⟩
  · rw [h2, h1]; rfl
  · rw [h4, h3]; exact text_pack h0 h1 h2
  · rw [h3] at h; simp at h
end Go.AB
