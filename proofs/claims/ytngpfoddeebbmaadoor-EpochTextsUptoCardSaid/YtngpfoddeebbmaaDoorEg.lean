/- Walks of the epochs: from bytes, to bytes. -/
import Derived.Test.YtngpfoddeebbmaaDoorEf
import Derived.Handy
import Derived.Laws.Cover3
namespace Go.Proofs.YtngpfoddeebbmaaDoor
open Go.RowKit Go.AB
set_option linter.unusedSimpArgs false
set_option linter.unusedVariables false

/-- A number out of bytes, the lowest first. -/
def leI : List Int → Int
  | [] => 0
  | b :: r => b + 256 * leI r
def fromE (bs : List Int) : Int × Int := if bs.length ≠ 8 then (0, 22) else if (partsE (leI bs)).2.2 = false then (0, 22) else (leI bs, 0)
theorem or_bytes (n b : Int) (k : Nat) (hn : 0 ≤ n) (hn2 : n < (2 : Int) ^ k) (hb : 0 ≤ b) (hb2 : b ≤ 255) (hk : k ≤ 56) : bits .or .u64 n (b * (2 : Int) ^ k) = n + b * (2 : Int) ^ k := by
  obtain ⟨n, rfl⟩ : ∃ u : Nat, n = (u : Int) := ⟨n.toNat, by omega⟩
  obtain ⟨b, rfl⟩ : ∃ u : Nat, b = (u : Int) := ⟨b.toNat, by omega⟩
  have e2 : (2 : Int) ^ k = ((2 ^ k : Nat) : Int) := by simp
  rw [e2] at hn2 ⊢
  have h56 : 2 ^ k ≤ 2 ^ 56 := Nat.pow_le_pow_right (by decide) hk
  have hb' : b ≤ 255 := by omega
  have hm : b * 2 ^ k ≤ 255 * 2 ^ 56 := Nat.mul_le_mul hb' h56
  have hn' : n < 2 ^ k := by omega
  rw [show (b : Int) * ((2 ^ k : Nat) : Int) = ((b * 2 ^ k : Nat) : Int) from by simp, u64_or_nat _ _ (by omega) (by omega)]
  have h := Nat.shiftLeft_add_eq_or_of_lt (a := b) (b := n) (i := k) hn'
  rw [Nat.shiftLeft_eq] at h
  rw [Nat.or_comm, ← h]
  omega
theorem or_eight {x0 x1 x2 x3 x4 x5 x6 x7 : Int} (p0 : 0 ≤ x0) (q0 : x0 ≤ 255) (p1 : 0 ≤ x1) (q1 : x1 ≤ 255) (p2 : 0 ≤ x2) (q2 : x2 ≤ 255) (p3 : 0 ≤ x3) (q3 : x3 ≤ 255) (p4 : 0 ≤ x4) (q4 : x4 ≤ 255) (p5 : 0 ≤ x5) (q5 : x5 ≤ 255) (p6 : 0 ≤ x6) (q6 : x6 ≤ 255) (p7 : 0 ≤ x7) (q7 : x7 ≤ 255) :
    bits .or .u64 (bits .or .u64 (bits .or .u64 (bits .or .u64 (bits .or .u64 (bits .or .u64 (bits .or .u64 (bits .or .u64 0 x0) (x1 * 256)) (x2 * 65536)) (x3 * 16777216)) (x4 * 4294967296)) (x5 * 1099511627776)) (x6 * 281474976710656)) (x7 * 72057594037927936) = leI [x0, x1, x2, x3, x4, x5, x6, x7] := by
  have e0 : bits .or .u64 0 x0 = x0 := by have := or_bytes 0 x0 0 (by decide) (by decide) p0 q0 (by decide); simpa using this
  have e1 := or_bytes x0 x1 8 p0 (by show x0 < 256; omega) p1 q1 (by decide)
  rw [show (2 : Int) ^ 8 = 256 from rfl] at e1
  have e2 := or_bytes (x0 + x1 * 256) x2 16 (by omega) (by show _ < (65536 : Int); omega) p2 q2 (by decide)
  rw [show (2 : Int) ^ 16 = 65536 from rfl] at e2
  have e3 := or_bytes (x0 + x1 * 256 + x2 * 65536) x3 24 (by omega) (by show _ < (16777216 : Int); omega) p3 q3 (by decide)
  rw [show (2 : Int) ^ 24 = 16777216 from rfl] at e3
  have e4 := or_bytes (x0 + x1 * 256 + x2 * 65536 + x3 * 16777216) x4 32 (by omega) (by show _ < (4294967296 : Int); omega) p4 q4 (by decide)
  rw [show (2 : Int) ^ 32 = 4294967296 from rfl] at e4
  have e5 := or_bytes (x0 + x1 * 256 + x2 * 65536 + x3 * 16777216 + x4 * 4294967296) x5 40 (by omega) (by show _ < (1099511627776 : Int); omega) p5 q5 (by decide)
  rw [show (2 : Int) ^ 40 = 1099511627776 from rfl] at e5
  have e6 := or_bytes (x0 + x1 * 256 + x2 * 65536 + x3 * 16777216 + x4 * 4294967296 + x5 * 1099511627776) x6 48 (by omega) (by show _ < (281474976710656 : Int); omega) p6 q6 (by decide)
  rw [show (2 : Int) ^ 48 = 281474976710656 from rfl] at e6
  have e7 := or_bytes (x0 + x1 * 256 + x2 * 65536 + x3 * 16777216 + x4 * 4294967296 + x5 * 1099511627776 + x6 * 281474976710656) x7 56 (by omega) (by show _ < (72057594037927936 : Int); omega) p7 q7 (by decide)
  rw [show (2 : Int) ^ 56 = 72057594037927936 from rfl] at e7
  rw [e0, e1, e2, e3, e4, e5, e6, e7]
  simp only [leI]
  omega
theorem leI_bd8 {x0 x1 x2 x3 x4 x5 x6 x7 : Int} (p0 : 0 ≤ x0) (q0 : x0 ≤ 255) (p1 : 0 ≤ x1) (q1 : x1 ≤ 255) (p2 : 0 ≤ x2) (q2 : x2 ≤ 255) (p3 : 0 ≤ x3) (q3 : x3 ≤ 255) (p4 : 0 ≤ x4) (q4 : x4 ≤ 255) (p5 : 0 ≤ x5) (q5 : x5 ≤ 255) (p6 : 0 ≤ x6) (q6 : x6 ≤ 255) (p7 : 0 ≤ x7) (q7 : x7 ≤ 255) :
    0 ≤ leI [x0, x1, x2, x3, x4, x5, x6, x7] ∧ leI [x0, x1, x2, x3, x4, x5, x6, x7] < 18446744073709551616 := by
  simp only [leI]
  omega
theorem eight {α : Type} (l : List α) (h : l.length = 8) : ∃ a b c d e f g i, l = [a, b, c, d, e, f, g, i] := by
  match l, h with
  | [a, b, c, d, e, f, g, i], _ => exact ⟨a, b, c, d, e, f, g, i, rfl⟩

set_option maxHeartbeats 4000000 in
set_option maxRecDepth 100000 in
theorem from_calls {ao : Option Addr} {cap : Nat} (bs : List Int) (hb : ∀ x ∈ bs, 0 ≤ x ∧ x ≤ 255) (hn : bs.length ≤ 16777216) (w : World) (hv : View w 1 (.slice ao bs.length cap) bs.length (bs.map (Value.int .u8))) :
    Calls Tryd.prog 32 #[.slice ao bs.length cap] w fun e w' => e = .returned (.tuple #[.int .u64 (fromE bs).1, .int .i64 (fromE bs).2]) ∧ Chg [] w w' := by
  by_cases h8 : bs.length = 8
  · obtain ⟨x0, x1, x2, x3, x4, x5, x6, x7, rfl⟩ := eight bs h8
    obtain ⟨b, off, hao, hcl⟩ := nums_at hv (by simp)
    have c0 := hcl 0 (by simp)
    have c1 := hcl 1 (by simp)
    have c2 := hcl 2 (by simp)
    have c3 := hcl 3 (by simp)
    have c4 := hcl 4 (by simp)
    have c5 := hcl 5 (by simp)
    have c6 := hcl 6 (by simp)
    have c7 := hcl 7 (by simp)
    simp only [List.getD, List.getElem?_cons_zero, List.getElem?_cons_succ, Option.getD_some, Nat.add_zero] at c0 c1 c2 c3 c4 c5 c6 c7
    obtain ⟨p0, q0⟩ := hb x0 (by simp)
    obtain ⟨p1, q1⟩ := hb x1 (by simp)
    obtain ⟨p2, q2⟩ := hb x2 (by simp)
    obtain ⟨p3, q3⟩ := hb x3 (by simp)
    obtain ⟨p4, q4⟩ := hb x4 (by simp)
    obtain ⟨p5, q5⟩ := hb x5 (by simp)
    obtain ⟨p6, q6⟩ := hb x6 (by simp)
    obtain ⟨p7, q7⟩ := hb x7 (by simp)
    have hat : ∀ (u : World) (a : Option Addr) (c : Nat), (Instr.arrayAt 45 (.slice a 8 c)).run Tryd.prog u = .ok (.pointer a) u := fun u a c => run_arrayAt u 45 _ 8 a 8 c Tryd.underlying45 (Nat.le_refl _)
    have HAO := hid hao
    subst hao
    clear hcl hv hb
    have hN := or_eight p0 q0 p1 q1 p2 q2 p3 q3 p4 q4 p5 q5 p6 q6 p7 q7
    have hbd := leI_bd8 p0 q0 p1 q1 p2 q2 p3 q3 p4 q4 p5 q5 p6 q6 p7 q7
    have hf : fromE [x0, x1, x2, x3, x4, x5, x6, x7] = if (partsE (leI [x0, x1, x2, x3, x4, x5, x6, x7])).2.2 = false then (0, 22) else (leI [x0, x1, x2, x3, x4, x5, x6, x7], 0) := by
      unfold fromE; rw [if_neg (by simp)]
    have hvl := valid_calls _ hbd.1 hbd.2
    rw [hf]
    obtain ⟨N, hNN⟩ : ∃ N, leI [x0, x1, x2, x3, x4, x5, x6, x7] = N := ⟨_, rfl⟩
    rw [hNN] at hvl hN ⊢
    obtain ⟨bb, hbb⟩ : ∃ bb, (partsE N).2.2 = bb := ⟨_, rfl⟩
    rw [hbb] at hvl ⊢
    have HN := hid hN
    clear hN hf hbd hNN hbb h8
    show Calls Tryd.prog 32 #[.slice (some ⟨b, off, none⟩) 8 cap] w _
    cases bb
    · have HVL := hid hvl
      clear hvl
      go_enter Tryd.func32, Tryd.ntmps32
      go_wp2
      refine wp_loop_rounds 9 ?_
      rw [rounds_succ]
      go_wp2
      rw [rounds_succ]
      go_wp2
      rw [rounds_succ]
      go_wp2
      rw [rounds_succ]
      go_wp2
      rw [rounds_succ]
      go_wp2
      rw [rounds_succ]
      go_wp2
      rw [rounds_succ]
      go_wp2
      rw [rounds_succ]
      go_wp2
      rw [rounds_succ]
      go_wp2_with (go_at_call 19; refine halt (fun X hX => ?_))
      rw [hX.out]; clear hX
      rw [HN.out]
      refine (HVL.out _).mono ?_
      rintro e w2 ⟨rfl, rfl⟩
      clear p0 q0 p1 q1 p2 q2 p3 q3 p4 q4 p5 q5 p6 q6 p7 q7
      go_wp2
      go_ret2
      exact ⟨rfl, (Chg.refl [] w).alloc _⟩
    · have HVL := hid hvl
      clear hvl
      go_enter Tryd.func32, Tryd.ntmps32
      go_wp2
      refine wp_loop_rounds 9 ?_
      rw [rounds_succ]
      go_wp2
      rw [rounds_succ]
      go_wp2
      rw [rounds_succ]
      go_wp2
      rw [rounds_succ]
      go_wp2
      rw [rounds_succ]
      go_wp2
      rw [rounds_succ]
      go_wp2
      rw [rounds_succ]
      go_wp2
      rw [rounds_succ]
      go_wp2
      rw [rounds_succ]
      go_wp2_with (go_at_call 19; refine halt (fun X hX => ?_))
      rw [hX.out]; clear hX
      rw [HN.out]
      refine (HVL.out _).mono ?_
      rintro e w2 ⟨rfl, rfl⟩
      clear p0 q0 p1 q1 p2 q2 p3 q3 p4 q4 p5 q5 p6 q6 p7 q7
      go_wp2
      go_ret2
      exact ⟨rfl, (Chg.refl [] w).alloc _⟩
  · have g1 : ((bs.length : Int) != 8) = true := by simp; omega
    have g2 : ((bs.length : Int) == 8) = false := by simp; omega
    have g3 : (bs.length != 8) = true := by simpa using h8
    have HF := hid (show fromE bs = (0, 22) by unfold fromE; rw [if_pos h8])
    rw [HF.out]
    clear h8 hv hb
    go_enter Tryd.func32, Tryd.ntmps32
    go_wp2
    go_ret2
    exact ⟨rfl, Chg.refl _ _⟩
end Go.Proofs.YtngpfoddeebbmaaDoor
