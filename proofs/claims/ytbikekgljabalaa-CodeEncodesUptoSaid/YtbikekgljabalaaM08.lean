/- Several texts of this seat, one behind the other: Tplain, Tlaw, Ho, Ub, Uc, Ls. -/
import Derived.Test.YtbikekgljabalaaM01
import Derived.Test.YtbikekgljabalaaHn
import Derived.Test.YtbikekgljabalaaM05
import Derived.Test.YtbikekgljabalaaM02
/- The sum tells a change of at most four neighbouring bytes. No program in sight. -/
namespace Go.AB
open Go.RowKit
set_option linter.unusedSectionVars false

theorem xor_cancel_r {a b c : Nat} (h : a ^^^ c = b ^^^ c) : a = b := by
  have := congrArg (· ^^^ c) h
  simpa [Nat.xor_assoc] using this
theorem xor_cancel_l {a b c : Nat} (h : c ^^^ a = c ^^^ b) : a = b := xor_cancel_r (c := c) (by rwa [Nat.xor_comm a, Nat.xor_comm b])
theorem crcBit_top {c : Nat} (h : c < 4294967296) : (crcBit c).testBit 31 = decide (c % 2 = 1) := by
  have hd : (c / 2).testBit 31 = false := Nat.testBit_lt_two_pow (by omega)
  unfold crcBit
  split
  · rename_i h1
    rw [Nat.testBit_xor, hd, decide_eq_true h1]
    decide
  · rename_i h1
    rw [hd]
    simp; omega
theorem crcBit_inj {a b : Nat} (ha : a < 4294967296) (hb : b < 4294967296) (h : crcBit a = crcBit b) : a = b := by
  have h1 := crcBit_top ha
  have h2 := crcBit_top hb
  rw [h, h2] at h1
  have h3 : (a % 2 = 1) ↔ (b % 2 = 1) := by simpa using h1.symm
  unfold crcBit at h
  by_cases hp : a % 2 = 1
  · rw [if_pos hp, if_pos (h3.1 hp)] at h
    have := xor_cancel_r h
    have := h3.1 hp
    omega
  · rw [if_neg hp, if_neg (fun e => hp (h3.2 e))] at h
    have h5 : ¬ b % 2 = 1 := fun e => hp (h3.2 e)
    omega
theorem crcBits_inj (q : Nat) : ∀ {a b : Nat}, a < 4294967296 → b < 4294967296 → crcBits q a = crcBits q b → a = b := by
  induction q with
  | zero => intro a b _ _ h; exact h
  | succ q ih => intro a b ha hb h; exact ih ha hb (crcBit_inj (crcBits_lt q ha) (crcBits_lt q hb) h)
theorem crcBit_shift (a b : Nat) : crcBit (a ^^^ (b <<< 1)) = crcBit a ^^^ b := by
  have h1 : (a ^^^ (b <<< 1)) % 2 = a % 2 := by
    have h := Nat.xor_mod_two_pow (a := a) (b := b <<< 1) (n := 1)
    rw [show (b <<< 1) % 2 ^ 1 = 0 from by rw [Nat.shiftLeft_eq]; omega, Nat.xor_zero] at h
    exact h
  have h2 : (a ^^^ (b <<< 1)) / 2 = a / 2 ^^^ b := by
    have h := Nat.shiftRight_xor_distrib (a := a) (b := b <<< 1) (i := 1)
    rw [Nat.shiftRight_eq_div_pow, Nat.shiftRight_eq_div_pow, Nat.shiftRight_eq_div_pow, Nat.shiftLeft_eq, show 2 ^ 1 = 2 from rfl, Nat.mul_div_cancel _ (by decide)] at h
    rw [Nat.shiftLeft_eq]
    exact h
  unfold crcBit
  rw [h1, h2]
  split
  · rw [Nat.xor_assoc, Nat.xor_comm b, ← Nat.xor_assoc]
  · rfl
theorem crcBits_shift (q : Nat) : ∀ a b, crcBits q (a ^^^ (b <<< q)) = crcBits q a ^^^ b := by
  induction q with
  | zero => intro a b; rfl
  | succ q ih =>
    intro a b
    have e : b <<< (q + 1) = (b <<< 1) <<< q := by rw [← Nat.shiftLeft_add, Nat.add_comm]
    show crcBit (crcBits q _) = crcBit (crcBits q a) ^^^ b
    rw [e, ih, crcBit_shift]
theorem crcBits_add (m n c : Nat) : crcBits (m + n) c = crcBits m (crcBits n c) := by
  induction m with
  | zero => rw [Nat.zero_add]; rfl
  | succ m ih => rw [Nat.succ_add]; show crcBit _ = crcBit _; rw [ih]
def packB : List UInt8 → Nat
  | [] => 0
  | x :: l => x.toNat ^^^ (packB l <<< 8)
theorem crcSum_pack (l : List UInt8) : ∀ c, crcSum c l = crcBits (8 * l.length) (c ^^^ packB l) := by
  induction l with
  | nil => intro c; simp [crcSum, packB, crcBits]
  | cons x l ih =>
    intro c
    have h1 : crcSum c (x :: l) = crcSum (crcBits 8 (c ^^^ x.toNat)) l := rfl
    rw [h1, ih, ← crcBits_shift 8, List.length_cons, Nat.mul_succ, crcBits_add, packB, Nat.xor_assoc]
theorem packB_split (x : UInt8) (l : List UInt8) : packB (x :: l) % 256 = x.toNat ∧ packB (x :: l) / 256 = packB l := by
  have hx := x.toNat_lt
  have h := Nat.xor_mod_two_pow (a := x.toNat) (b := packB l <<< 8) (n := 8)
  rw [show (packB l <<< 8) % 2 ^ 8 = 0 from by rw [Nat.shiftLeft_eq]; omega, Nat.xor_zero, show 2 ^ 8 = 256 from rfl] at h
  have h2 := Nat.shiftRight_xor_distrib (a := x.toNat) (b := packB l <<< 8) (i := 8)
  rw [show x.toNat >>> 8 = 0 from by rw [Nat.shiftRight_eq_div_pow]; omega, Nat.shiftLeft_shiftRight, Nat.zero_xor, Nat.shiftRight_eq_div_pow] at h2
  have e : packB (x :: l) = x.toNat ^^^ (packB l <<< 8) := rfl
  rw [e]
  exact ⟨by rw [h]; omega, h2⟩
theorem packB_lt (l : List UInt8) : packB l < 256 ^ l.length := by
  induction l with
  | nil => simp [packB]
  | cons x l ih =>
    obtain ⟨h1, h2⟩ := packB_split x l
    have hx := x.toNat_lt
    rw [List.length_cons, Nat.pow_succ]
    omega
theorem packB_inj : ∀ {l m : List UInt8}, l.length = m.length → packB l = packB m → l = m
  | [], [], _, _ => rfl
  | x :: l, y :: m, hl, h => by
    obtain ⟨h1, h2⟩ := packB_split x l
    obtain ⟨h3, h4⟩ := packB_split y m
    rw [h] at h1 h2
    have e1 : x = y := UInt8.toNat_inj.1 (by omega)
    have e2 := packB_inj (l := l) (m := m) (by simpa using hl) (by omega)
    rw [e1, e2]
  | [], _ :: _, hl, _ => by simp at hl
  | _ :: _, [], hl, _ => by simp at hl
theorem crcSum_inj_state (l : List UInt8) {a b : Nat} (ha : a < 4294967296) (hb : b < 4294967296) (h : crcSum a l = crcSum b l) : a = b := by
  induction l generalizing a b with
  | nil => exact h
  | cons x l ih =>
    have h1 := ih (crcByte_lt ha x) (crcByte_lt hb x) h
    have h2 := crcBits_inj 8 (xor_lt32 a ha x) (xor_lt32 b hb x) h1
    exact xor_cancel_r h2
theorem crcSum_inj_part {l m : List UInt8} (hl : l.length = m.length) (h4 : l.length ≤ 4) {c : Nat} (hc : c < 4294967296) (h : crcSum c l = crcSum c m) : l = m := by
  rw [crcSum_pack, crcSum_pack, ← hl] at h
  have hp : ∀ k : List UInt8, k.length ≤ 4 → packB k < 4294967296 := fun k hk => Nat.lt_of_lt_of_le (packB_lt k) (by
    have := Nat.pow_le_pow_right (n := 256) (by decide) hk
    omega)
  have h1 := crcBits_inj _ (Nat.xor_lt_two_pow (n := 32) hc (hp l h4)) (Nat.xor_lt_two_pow (n := 32) hc (hp m (by omega))) h
  exact packB_inj hl (xor_cancel_l h1)
/-- A window of at most four bytes that differs: the sum differs. -/
theorem sumB_window {a l m z : List UInt8} (hl : l.length = m.length) (h4 : l.length ≤ 4) (h : sumB (a ++ l ++ z) = sumB (a ++ m ++ z)) : l = m := by
  unfold sumB at h
  have h1 := xor_cancel_r h
  rw [crcSum_append, crcSum_append, crcSum_append, crcSum_append] at h1
  have hc := crcSum_lt (c := 4294967295) a (by omega)
  exact crcSum_inj_part hl h4 hc (crcSum_inj_state z (crcSum_lt l hc) (crcSum_lt m hc) h1)
end Go.AB

/- What is opened is a frame; a frame that was turned is none. No program in sight. -/
namespace Go.AB
open Go.RowKit
set_option linter.unusedSectionVars false

theorem openB_err (l : List UInt8) (h : (openB l).2.2 ≠ 0) : (openB l).1 = 0 ∧ (openB l).2.1 = [] := by
  unfold openB at *
  repeat' split
  all_goals first | exact ⟨rfl, rfl⟩ | (exfalso; simp_all)
theorem headB_part (l : List UInt8) (h : 11 ≤ l.length) (hn : leNat ((l.drop 3).take 4) + 11 = l.length) : headB (l.getD 2 0) (l.drop 11).length = (l.drop 2).take 5 := by
  have e1 : fixedB 4 (l.drop 11).length = (l.drop 3).take 4 := by
    have h4 : ((l.drop 3).take 4).length = 4 := by simp; omega
    have := fixedB_leNat ((l.drop 3).take 4)
    rw [h4] at this
    rw [← this]
    congr 1
    simp; omega
  unfold headB
  have e2 : l.drop 2 = l[2] :: l.drop 3 := List.drop_eq_getElem_cons (show 2 < l.length by omega)
  rw [e1, e2, List.take_succ_cons]
  simp [List.getD, show 2 < l.length by omega]
theorem cut_parts (l : List UInt8) : l = l.take 2 ++ (l.drop 2).take 5 ++ (l.drop 7).take 4 ++ l.drop 11 := by
  have h1 : (l.drop 7).take 4 ++ l.drop 11 = l.drop 7 := by
    conv => rhs; rw [← List.take_append_drop 4 (l.drop 7), List.drop_drop]
  have h2 : (l.drop 2).take 5 ++ l.drop 7 = l.drop 2 := by
    conv => rhs; rw [← List.take_append_drop 5 (l.drop 2), List.drop_drop]
  rw [List.append_assoc, h1, List.append_assoc, h2, List.take_append_drop]
theorem openB_frame (l : List UInt8) (h : (openB l).2.2 = 0) : l = frameB (openB l).1 (openB l).2.1 := by
  unfold openB at *
  split at h
  · simp at h
  · rename_i h1
    rw [if_neg h1] at *
    split at h
    · simp at h
    · rename_i h2
      rw [if_neg h2] at *
      split at h
      · simp at h
      · rename_i h3
        rw [if_neg h3] at *
        split at h
        · simp at h
        · rename_i h4
          rw [if_neg h4] at *
          split at h
          · simp at h
          · rename_i h5
            rw [if_neg h5] at *
            simp only
            have hl : ¬ l.length < 11 := fun h => h1 (.inl h)
            have a0 : l[0]? = some 97 := Classical.not_not.1 fun h => h1 (.inr (.inl h))
            have a1 : l[1]? = some 98 := Classical.not_not.1 fun h => h1 (.inr (.inr h))
            have hs := Classical.not_not.1 h5
            have ht : l.take 2 = [97, 98] := by
              apply List.ext_getElem?
              intro i
              rw [List.getElem?_take]
              match i with
              | 0 => simpa using a0
              | 1 => simpa using a1
              | i + 2 => rw [if_neg (by omega)]; simp
            have hh := headB_part l (by omega) (by omega)
            conv => lhs; rw [cut_parts l]
            unfold frameB
            rw [hh, ht, hs]
theorem four_ex (l : List UInt8) (h : l.length = 4) : ∃ a b c d, l = [a, b, c, d] := by
  match l, h with
  | [a, b, c, d], _ => exact ⟨a, b, c, d, rfl⟩
/-- A frame, byte by byte at its head. -/
theorem frameB_cons (k : UInt8) (b : List UInt8) : ∃ x0 x1 x2 x3 y0 y1 y2 y3, fixedB 4 b.length = [x0, x1, x2, x3] ∧ fixedB 4 (sumB (k :: x0 :: x1 :: x2 :: x3 :: b)) = [y0, y1, y2, y3] ∧
    frameB k b = 97 :: 98 :: k :: x0 :: x1 :: x2 :: x3 :: y0 :: y1 :: y2 :: y3 :: b := by
  obtain ⟨x0, x1, x2, x3, hx⟩ := four_ex (fixedB 4 b.length) (fixedB_length _ _)
  obtain ⟨y0, y1, y2, y3, hy⟩ := four_ex (fixedB 4 (sumB (k :: x0 :: x1 :: x2 :: x3 :: b))) (fixedB_length _ _)
  refine ⟨x0, x1, x2, x3, y0, y1, y2, y3, hx, hy, ?_⟩
  have hh : headB k b.length = [k, x0, x1, x2, x3] := by unfold headB; rw [hx]
  unfold frameB
  rw [hh, show [k, x0, x1, x2, x3] ++ b = k :: x0 :: x1 :: x2 :: x3 :: b from rfl, hy]
  rfl
theorem openB_of_frame (k : UInt8) (b : List UInt8) (h : b.length ≤ 16777216) : openB (frameB k b) = (k, b, 0) := by
  obtain ⟨x0, x1, x2, x3, y0, y1, y2, y3, hx, hy, hf⟩ := frameB_cons k b
  have hn : leNat [x0, x1, x2, x3] = b.length := by rw [← hx, leNat_fixedB, Nat.mod_eq_of_lt (by omega)]
  rw [hf]
  unfold openB
  have e1 : ((97 :: 98 :: k :: x0 :: x1 :: x2 :: x3 :: y0 :: y1 :: y2 :: y3 :: b).drop 3).take 4 = [x0, x1, x2, x3] := rfl
  have e2 : ((97 :: 98 :: k :: x0 :: x1 :: x2 :: x3 :: y0 :: y1 :: y2 :: y3 :: b).drop 7).take 4 = [y0, y1, y2, y3] := rfl
  have e3 : ((97 :: 98 :: k :: x0 :: x1 :: x2 :: x3 :: y0 :: y1 :: y2 :: y3 :: b).drop 2).take 5 = [k, x0, x1, x2, x3] := rfl
  have e4 : (97 :: 98 :: k :: x0 :: x1 :: x2 :: x3 :: y0 :: y1 :: y2 :: y3 :: b).drop 11 = b := rfl
  have e5 : (97 :: 98 :: k :: x0 :: x1 :: x2 :: x3 :: y0 :: y1 :: y2 :: y3 :: b).length = b.length + 11 := rfl
  rw [e1, e2, e3, e4, e5, hn]
  rw [if_neg (by simp), if_neg (by omega), if_neg (by omega), if_neg (by omega), if_neg (by rw [show [k, x0, x1, x2, x3] ++ b = k :: x0 :: x1 :: x2 :: x3 :: b from rfl, hy]; simp)]
  rfl
theorem sumB_of_bytes {l m : List UInt8} (h : fixedB 4 (sumB l) = fixedB 4 (sumB m)) : sumB l = sumB m := by
  have h1 := congrArg leNat h
  rw [leNat_fixedB, leNat_fixedB, Nat.mod_eq_of_lt (sumB_lt l), Nat.mod_eq_of_lt (sumB_lt m)] at h1
  exact h1
/-- Two frames of one kind whose bodies differ in a window of at most four bytes bear unlike sums. -/
theorem frame_window (k : UInt8) {a l m z : List UInt8} (hl : l.length = m.length) (h4 : l.length ≤ 4) {g : List UInt8} (hg : (openB g).2.2 = 0) (he : g = (frameB k (a ++ l ++ z)).take 11 ++ (a ++ m ++ z)) : l = m := by
  have hf := openB_frame g hg
  generalize (openB g).1 = k' at hf
  generalize (openB g).2.1 = b' at hf
  obtain ⟨x0, x1, x2, x3, y0, y1, y2, y3, hx, hy, hc⟩ := frameB_cons k (a ++ l ++ z)
  obtain ⟨u0, u1, u2, u3, v0, v1, v2, v3, hu, hv, hd⟩ := frameB_cons k' b'
  rw [hc] at he
  rw [hd] at hf
  rw [hf] at he
  have he' : 97 :: 98 :: k' :: u0 :: u1 :: u2 :: u3 :: v0 :: v1 :: v2 :: v3 :: b' = 97 :: 98 :: k :: x0 :: x1 :: x2 :: x3 :: y0 :: y1 :: y2 :: y3 :: (a ++ m ++ z) := he
  simp only [List.cons.injEq, true_and] at he'
  obtain ⟨rfl, rfl, rfl, rfl, rfl, rfl, rfl, rfl, rfl, rfl⟩ := he'
  rw [← hy] at hv
  have h1 := sumB_of_bytes hv
  have h2 : (k' :: u0 :: u1 :: u2 :: u3 :: a) ++ m ++ z = k' :: u0 :: u1 :: u2 :: u3 :: (a ++ m ++ z) := by simp
  have h3 : (k' :: u0 :: u1 :: u2 :: u3 :: a) ++ l ++ z = k' :: u0 :: u1 :: u2 :: u3 :: (a ++ l ++ z) := by simp
  rw [← h2, ← h3] at h1
  exact (sumB_window (hl.symm) (by omega) h1).symm
/-- One byte of a frame that is another: no frame. -/
theorem frame_one (k : UInt8) (b : List UInt8) (i : Nat) (y : UInt8) (hi : i < (frameB k b).length) (hg : (openB ((frameB k b).set i y)).2.2 = 0) : (frameB k b)[i] = y := by
  by_cases h11 : 11 ≤ i
  · have hb : i - 11 < b.length := by rw [frameB_length] at hi; omega
    obtain ⟨x0, x1, x2, x3, y0, y1, y2, y3, hx, hy, hc⟩ := frameB_cons k b
    have e0 : b = b.take (i - 11) ++ [b[i - 11]] ++ b.drop (i - 11 + 1) := by
      rw [List.append_assoc, List.singleton_append, ← List.drop_eq_getElem_cons hb, List.take_append_drop]
    have e1 : b.set (i - 11) y = b.take (i - 11) ++ [y] ++ b.drop (i - 11 + 1) := by
      rw [List.set_eq_take_append_cons_drop, if_pos hb]; simp
    have he : (frameB k b).set i y = (frameB k b).take 11 ++ b.set (i - 11) y := by
      rw [hc]
      obtain ⟨j, rfl⟩ : ∃ j, i = j + 11 := ⟨i - 11, by omega⟩
      simp
    have h1 := frame_window k (a := b.take (i - 11)) (l := [b[i - 11]]) (m := [y]) (z := b.drop (i - 11 + 1)) rfl (by simp) hg (by rw [← e0, ← e1]; exact he)
    have h2 : (frameB k b)[i] = b[i - 11] := by
      simp only [hc]
      obtain ⟨j, rfl⟩ : ∃ j, i = j + 11 := ⟨i - 11, by omega⟩
      simp
    rw [h2]
    simpa using h1
  · have hf := openB_frame _ hg
    generalize (openB ((frameB k b).set i y)).1 = k' at hf
    generalize (openB ((frameB k b).set i y)).2.1 = b' at hf
    clear hg
    obtain ⟨x0, x1, x2, x3, y0, y1, y2, y3, hx, hy, hc⟩ := frameB_cons k b
    obtain ⟨u0, u1, u2, u3, v0, v1, v2, v3, hu, hv, hd⟩ := frameB_cons k' b'
    rw [hd, hc] at hf
    simp only [hc]
    have hh : i = 0 ∨ i = 1 ∨ i = 2 ∨ i = 3 ∨ i = 4 ∨ i = 5 ∨ i = 6 ∨ i = 7 ∨ i = 8 ∨ i = 9 ∨ i = 10 := by omega
    rcases hh with rfl | rfl | rfl | rfl | rfl | rfl | rfl | rfl | rfl | rfl | rfl
    all_goals
      simp only [List.set_cons_succ, List.set_cons_zero, List.cons.injEq, true_and] at hf
      simp only [List.getElem_cons_succ, List.getElem_cons_zero]
    · exact hf.1.symm
    · exact hf.1.symm
    · obtain ⟨rfl, rfl, rfl, rfl, rfl, rfl, rfl, rfl, rfl, rfl⟩ := hf
      rw [← hy] at hv
      have h1 := sumB_of_bytes hv
      have := sumB_window (a := []) (l := [y]) (m := [k]) (z := x0 :: x1 :: x2 :: x3 :: b) rfl (by simp) h1
      simpa using this.symm
    all_goals
      obtain ⟨rfl, rfl, rfl, rfl, rfl, rfl, rfl, rfl, rfl, rfl⟩ := hf
      first
        | (rw [hx] at hu; simp only [List.cons.injEq, and_true] at hu; simp [hu]; done)
        | (rw [hy] at hv; simp only [List.cons.injEq, and_true] at hv; simp [hv]; done)
end Go.AB

/- Walks of the code layer: a program read, joined. -/
namespace Go.Proofs.Ytbikekgljabalaa
open Go.RowKit Go.AB
set_option linter.unusedSectionVars false

theorem decode_calls (v : Value) (L : List UInt8) (w : World) (hv : Bytes w v L) (hl : L.length ≤ 16777216) :
    Calls Try.prog 18 #[v] w (DecPost w (decB L)) := by
  by_cases hc : (openB L).2.2 = 0
  · by_cases hk : (openB L).1 = 1
    · have h : decB L = decD (dBody (openB L).2.1) := by
        unfold decB
        rw [if_neg (by simpa using hc), if_neg (by simpa using hk)]
        rfl
      rw [h]
      exact decode_body v L w hv hl hc hk
    · have h : decB L = (100, none) := by
        unfold decB
        rw [if_neg (by simpa using hc), if_pos hk]
      rw [h]
      exact decode_kind v L w hv hl hc hk
  · have h : decB L = ((openB L).2.2, none) := by
      unfold decB
      rw [if_pos hc]
    rw [h]
    exact decode_err v L w hv hl hc
/-- What is read is what was laid. -/
theorem decB_frame (p : PrgD) (hb : prgB p = true) (hw : Wf64 p) : decB (frameB 1 (bodyL p)) = (0, some p) := by
  have hl := bodyL_len hb hw
  unfold decB
  rw [openB_of_frame 1 (bodyL p) hl, if_neg (by simp), if_neg (by simp)]
  rw [(dBody_iff (L := bodyL p) (by omega) p).2 ⟨hb, hw, rfl⟩]
/-- What is read lays down as it was. -/
theorem decB_back {L : List UInt8} (hl : L.length ≤ 16777216) {c : Nat} {p : PrgD} (h : decB L = (c, some p)) : prgB p = true ∧ Wf64 p ∧ L = frameB 1 (bodyL p) ∧ c = 0 := by
  unfold decB at h
  split at h
  · cases h
  · rename_i h0
    split at h
    · cases h
    · rename_i h1
      split at h
      · rename_i q hq
        simp only [Prod.mk.injEq, Option.some.injEq] at h
        obtain ⟨rfl, rfl⟩ := h
        have hb := openB_len L
        obtain ⟨a1, a2, a3⟩ := (dBody_iff (L := (openB L).2.1) (by omega) _).1 hq
        refine ⟨a1, a2, ?_, rfl⟩
        have h2 := openB_frame L (by simpa using h0)
        rw [show (openB L).1 = 1 by simpa using h1, a3] at h2
        exact h2
      · cases h
end Go.Proofs.Ytbikekgljabalaa

/- Walks of the code layer's laws: what is known. -/
namespace Go.Proofs.Ytbikekgljabalaa
open Go.RowKit Go.AB
set_option linter.unusedSectionVars false
set_option linter.unusedSimpArgs false
set_option linter.unusedVariables false

theorem kP_frame : ∃ h : List UInt8, h.length = 11 ∧ frameB 1 (bodyL kP) = h ++ [1, 1, 120, 1, 0, 0, 0, 1, 1, 116, 2, 11, 2, 0, 6, 5, 20, 0, 9] := by
  refine ⟨[97, 98] ++ headB 1 (bodyL kP).length ++ fixedB 4 (sumB (headB 1 (bodyL kP).length ++ bodyL kP)), ?_, ?_⟩
  · simp [headB_length, fixedB_length]
  · unfold frameB
    conv => rhs; rw [← kP_body]
set_option maxHeartbeats 4000000 in
set_option maxRecDepth 100000 in
theorem known_calls (w : World) : Calls Try.prog 16 #[] w fun e w' => e = .returned (.bool true) ∧ Chg [] w w' := by
  have hv := kP_view w
  have hc4 := (((((Chg.refl [] w).alloc (.cells #[.string ⟨#[120]⟩, .int .i64 (-1)] 53)).alloc (.cells #[.int .i64 11, .int .i64 2, .int .i64 0, .int .i64 0, .int .i64 0, .int .i64 20, .int .i64 0, .int .i64 0, .int .i64 0, .int .i64 0] 61)).alloc (.cells #[.int .i64 3, .int .i64 5, .int .i64 3, .int .i64 9] 63)).alloc (.cells #[.string ⟨#[116]⟩, .slice (some ⟨w.heap.size + 1, 0, none⟩) 2 2, .slice (some ⟨w.heap.size + 2, 0, none⟩) 2 2] 59))
  have HE := hid (fun u hu => encode_good kP kP_small kP_wf kP_plain u (hv.keep hu))
  have HV := hid (And.intro hv hc4)
  obtain ⟨hd, hdl, hfr⟩ := kP_frame
  have hdec := decB_frame kP kP_plain kP_wf
  rw [hfr] at HE hdec
  have HFR := hid (And.intro hdl hdec)
  clear hv hc4 hfr hdl hdec
  go_enter Try.func16, Try.ntmps16
  go_wp2_with (go_at_call 13; refine (HE.out _ ((Chg.refl [] _).alloc _)).mono ?_; rintro e w5 ⟨l5, ao, cap, r, rfl, hr5, hf5, hc5, HL5⟩; refine halt (fun X hX => ?_))
  rw [hX.out]; clear hX
  have hb4 := heap_alloc_new ((((w.alloc (.cells #[.string ⟨#[120]⟩, .int .i64 (-1)] 53)).alloc (.cells #[.int .i64 11, .int .i64 2, .int .i64 0, .int .i64 0, .int .i64 0, .int .i64 20, .int .i64 0, .int .i64 0, .int .i64 0, .int .i64 0] 61)).alloc (.cells #[.int .i64 3, .int .i64 5, .int .i64 3, .int .i64 9] 63)).alloc (.cells #[.string ⟨#[116]⟩, .slice (some ⟨w.heap.size + 1, 0, none⟩) 2 2, .slice (some ⟨w.heap.size + 1 + 1, 0, none⟩) 2 2] 59)) (.cells #[.slice (some ⟨w.heap.size, 0, none⟩) 1 1, .slice none 0 0, .slice none 0 0, .slice none 0 0, .slice (some ⟨w.heap.size + 1 + 1 + 1, 0, none⟩) 1 1] 28)
  simp only [World.size_alloc] at hb4
  have hb5 := hc5.heap hb4 (by simp)
  have hc54 := (((Chg.refl [] ((((w.alloc (.cells #[.string ⟨#[120]⟩, .int .i64 (-1)] 53)).alloc (.cells #[.int .i64 11, .int .i64 2, .int .i64 0, .int .i64 0, .int .i64 0, .int .i64 20, .int .i64 0, .int .i64 0, .int .i64 0, .int .i64 0] 61)).alloc (.cells #[.int .i64 3, .int .i64 5, .int .i64 3, .int .i64 9] 63)).alloc (.cells #[.string ⟨#[116]⟩, .slice (some ⟨w.heap.size + 1, 0, none⟩) 2 2, .slice (some ⟨w.heap.size + 1 + 1, 0, none⟩) 2 2] 59))).alloc _).trans' hc5)
  have hv5 := HV.out.1.keep hc54
  have hC5 : Chg [] w w5 := HV.out.2.trans' hc54
  have e5 : l5 = hd ++ [1, 1, 120, 1, 0, 0, 0, 1, 1, 116, 2, 11, 2, 0, 6, 5, 20, 0, 9] := HL5.out
  have n5 : l5.length = 30 := by rw [e5, List.length_append, HFR.out.1]; rfl
  obtain ⟨bx, hbx⟩ : ∃ x, w.heap.size + 1 + 1 + 1 + 1 = x := ⟨_, rfl⟩
  rw [hbx] at hb5 ⊢
  have hde := decode_calls (.slice ao l5.length cap) l5 w5 hr5.view (by omega)
  rw [e5, HFR.out.2] at hde
  have HDE := hid hde
  have H5 := hid (And.intro hb5 (And.intro hv5 (And.intro hC5 (And.intro hr5 e5))))
  rw [n5] at hr5
  have hview := hr5.view
  rcases hr5.form with ⟨_, h0, _⟩ | ⟨g, cap', cur, hv6, _, hcc, hcm, _⟩
  · omega
  simp only [Value.slice.injEq, true_and] at hv6
  obtain ⟨rfl, rfl⟩ := hv6
  rw [n5]
  have hpart : View w5 1 (.slice (some ⟨g, 0 + 11, none⟩) 19 (cap - 11)) 19 (([1, 1, 120, 1, 0, 0, 0, 1, 1, 116, 2, 11, 2, 0, 6, 5, 20, 0, 9] : List UInt8).map B) := by
    obtain ⟨q1, q2, q3, q4, q5, q6, q7, q8, q9⟩ := hview
    simp only [Value.slice.injEq, true_and] at q5
    obtain ⟨rfl, rfl⟩ := q5
    obtain ⟨bb, off, hb, hcell⟩ := q9 (by omega)
    simp only [Option.some.injEq, Addr.mk.injEq, and_true] at hb
    obtain ⟨rfl, rfl⟩ := hb
    have h := View.part (w := w5) (l := l5) (bb := g) (off := 0) (cap := cap) (p := 11) (v := 19) ⟨by simp, by rw [n5]; simp [maxLen], fun j hj => hcell j (by omega)⟩ (by omega) (by omega) q7
    have e : (l5.drop 11).take 19 = [1, 1, 120, 1, 0, 0, 0, 1, 1, 116, 2, 11, 2, 0, 6, 5, 20, 0, 9] := by
      rw [e5, show (11 : Nat) = hd.length from HFR.out.1.symm, List.drop_left]
      rfl
    rwa [e] at h
  have hsm := fun u (v : Value) (hu : Chg [] w5 u) (hv : PrgV u v kP) => r_same_calls kP kP kP_small kP_small u (hv5.keep hu) hv
  have HSM := hid hsm
  have HPT := hid hpart
  have hde2 : Calls Try.prog 18 #[.slice (some ⟨g, 0, none⟩) 30 cap] w5 fun e w' => ∃ (a0 a1 a2 a3 a4 : Option Addr) (k0 k1 k2 k3 k4 : Nat), e = .returned (.tuple #[.agg #[.slice a0 1 k0, .slice a1 0 k1, .slice a2 0 k2, .slice a3 0 k3, .slice a4 1 k4], .int .i64 0]) ∧ PrgV w' (.agg #[.slice a0 1 k0, .slice a1 0 k1, .slice a2 0 k2, .slice a3 0 k3, .slice a4 1 k4]) kP ∧ Chg [] w5 w' := by
    have h := HDE.out
    rw [← e5, n5] at h
    refine h.mono fun e w' hd => ?_
    rcases hd with ⟨c, h1, _⟩ | ⟨p, v, h1, h2, h3, h4⟩
    · simp at h1
    · simp only [Prod.mk.injEq, Option.some.injEq, true_and] at h1
      subst h1
      obtain ⟨va, vb, vc, vd, ve, ts, rfl, q1, q2, q3, q4, q5, q6, q7⟩ := h3
      have lts : ts.length = 1 := by have := congrArg List.length q6; rw [List.length_map] at this; exact this
      obtain ⟨a0, k0, rfl, _⟩ := q1.len
      obtain ⟨a1, k1, rfl, _⟩ := q2.len
      obtain ⟨a2, k2, rfl, _⟩ := q3.len
      obtain ⟨a3, k3, rfl, _⟩ := q4.len
      obtain ⟨a4, k4, rfl, _⟩ := q5.len
      refine ⟨a0, a1, a2, a3, a4, k0, k1, k2, k3, k4, ?_, ?_, h4⟩
      · rw [h2, lts]; rfl
      · have h5 := q5
        rw [lts] at h5
        refine ⟨_, _, _, _, _, ts, rfl, q1, q2, q3, q4, ?_, q6, q7⟩
        exact h5
  have HDE2 := hid hde2
  have hz : ((0 : Nat) : Int) = 0 := rfl
  have hcl : (11 : Int) ≤ (cap : Int) := by omega
  clear hde2 hpart hsm hview hb4 hb5 hv5 hC5 hc54 hr5 e5 n5 hf5 hc5 HE HDE HL5 HV hbx
  go_wp2_with (go_at_call 18; refine (HDE2.out).mono ?_; rintro e w6 ⟨a0, a1, a2, a3, a4, k0, k1, k2, k3, k4, rfl, hv6, hc6⟩; refine halt (fun X hX => ?_))
  rw [hX.out]; clear hX
  have hb6 := hc6.heap H5.out.1 (by simp)
  have hca6 := hc6.alloc (.cells #[.slice a0 1 k0, .slice a1 0 k1, .slice a2 0 k2, .slice a3 0 k3, .slice a4 1 k4] 28)
  have y0 := fun o => (blk_cell (blk_alloc_old hb6 o) 0).trans rfl
  have y1 := fun o => (blk_cell (blk_alloc_old hb6 o) 1).trans rfl
  have y2 := fun o => (blk_cell (blk_alloc_old hb6 o) 2).trans rfl
  have y3 := fun o => (blk_cell (blk_alloc_old hb6 o) 3).trans rfl
  have y4 := fun o => (blk_cell (blk_alloc_old hb6 o) 4).trans rfl
  have hcv := run_conv_view (P := Try.prog) Try.underlying29 Try.underlying5 Try.underlying9 (HPT.out.keep hca6 (by simp)) _ rfl
  have HS2 := hid (HSM.out _ _ hca6 (hv6.keep ((Chg.refl [] w6).alloc _)))
  rw [show eqB True = true from eqB_true trivial] at HS2
  have HC6 := hid (H5.out.2.2.1.trans' hca6)
  clear hca6 hb6 hv6 hc6
  go_wp2_with (go_at_call 21; refine (HS2.out).mono ?_; rintro e w7 ⟨rfl, hc7⟩)
  go_ret
  exact ⟨rfl, HC6.out.trans' hc7⟩
end Go.Proofs.Ytbikekgljabalaa

/- The law CodeNamed: its walk. -/
namespace Go.Proofs.Ytbikekgljabalaa
open Go.RowKit Go.AB
set_option linter.unusedSectionVars false
set_option linter.unusedSimpArgs false
set_option linter.unusedVariables false

set_option maxHeartbeats 2000000 in
set_option maxRecDepth 100000 in
theorem named_walk (op : Int) (w : World) : Calls Try.prog 7 #[.int .i64 op] w fun e w' => e = .returned (.bool true) ∧ Chg [] w w' := by
  have h1 := names_calls op
  have h2 := r_names_calls op
  obtain ⟨qa, ha⟩ : ∃ x, nA op = x := ⟨_, rfl⟩
  obtain ⟨qb, hb⟩ : ∃ x, nB op = x := ⟨_, rfl⟩
  obtain ⟨qc, hc⟩ : ∃ x, nC op = x := ⟨_, rfl⟩
  obtain ⟨qn, hn⟩ : ∃ x, nN op = x := ⟨_, rfl⟩
  rw [ha, hb, hc, hn] at h1 h2
  have H1 := hid h1
  have H2 := hid h2
  clear h1 h2 ha hb hc hn
  go_enter Try.func7, Try.ntmps7
  go_wp2_with (first
    | (go_at_call 22; refine (H1.out _).mono ?_; rintro e w1 ⟨rfl, rfl⟩)
    | (go_at_call 23; refine (H2.out _).mono ?_; rintro e w2 ⟨rfl, hc2⟩)
    | (go_at_call 16; refine (known_calls _).mono ?_; rintro e w3 ⟨rfl, hc3⟩))
  go_ret
  exact ⟨rfl, hc2.trans' hc3⟩
end Go.Proofs.Ytbikekgljabalaa

/- Small facts that each law's frame wants. -/
namespace Go.Proofs.Ytbikekgljabalaa
open Go.RowKit Go.AB Go.ChangeShapes Go.WideShapes Go.ChangeAt
set_option linter.unusedSectionVars false

theorem cells_str {v : Value} {c : Value} {s : ByteArray} (hv : v = .string s) (h : v.cells.toList = [c]) : c = v := by
  subst hv
  simpa [Value.cells] using h.symm
theorem cells_num {v : Value} {c : Value} {k : IntKind} {n : Int} (hv : v = .int k n) (h : v.cells.toList = [c]) : c = v := by
  subst hv
  simpa [Value.cells] using h.symm
end Go.Proofs.Ytbikekgljabalaa
