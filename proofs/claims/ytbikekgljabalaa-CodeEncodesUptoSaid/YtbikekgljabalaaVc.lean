/- The document's writers of a program's bytes: any instruction; lengths. -/
import Derived.Test.YtbikekgljabalaaVb
import Derived.Test.YtbikekgljabalaaM05
namespace Go.Proofs.Ytbikekgljabalaa
open Go.RowKit Go.AB
set_option linter.unusedSimpArgs false
set_option linter.unusedVariables false

theorem q_layInstr {x : InsD} {line : Int} {p : PlcD} (hib : insB x = true) (hpb : plcB p = true) (h64 : I64 x.n) (m1 : 0 ≤ line) (m2 : line ≤ 2147483647) {w0 w : World} {l : List UInt8} {ao : Option Addr} {n cap : Nat} {K : List (Nat × Obj)} (hO : On w0 w l ao n cap K) (hl : l.length ≤ 137439953472) :
    Calls Try.prog 72 #[.slice ao n cap, .agg #[.int .i64 x.op, .int .i64 x.a, .int .i64 x.b, .int .i64 x.c, .int .i64 x.n], .int .i64 line, .agg #[.int .i64 p.line, .int .i64 p.col]] w (OnPost w0 (l ++ insL line x p) K) := by
  obtain ⟨x0, x1, x2, x3, x4⟩ := x
  obtain ⟨pl, cl⟩ := p
  obtain ⟨o1, o2, ⟨r1, r2⟩, ⟨r3, r4⟩, ⟨r5, r6⟩, _⟩ := insB_out hib
  obtain ⟨u1, u2, u3, u4⟩ := plcB_out hpb
  have hb : nB x0 = false → x2 = 0 := by
    unfold insB at hib
    simp only [Bool.and_eq_true] at hib
    exact (regB_out hib.1.1.2).2
  have hab := nB_nA x0
  simp only at o1 o2 r1 r2 r3 r4 r5 r6 u1 u2 u3 u4 h64 ⊢
  cases hA : nA x0 <;> cases hB : nB x0 <;> cases hC : nC x0 <;> cases hN : nN x0
  all_goals first
    | exact absurd (hab hB) (by rw [hA]; decide)
    | exact q_ins_0000 x0 x1 x2 x3 x4 line pl cl o1 o2 r1 r2 r3 r4 r5 r6 h64 ⟨hA, hB, hC, hN⟩ m1 m2 u1 u2 u3 u4 hO hl
    | exact q_ins_0001 x0 x1 x2 x3 x4 line pl cl o1 o2 r1 r2 r3 r4 r5 r6 h64 ⟨hA, hB, hC, hN⟩ m1 m2 u1 u2 u3 u4 hO hl
    | exact q_ins_0010 x0 x1 x2 x3 x4 line pl cl o1 o2 r1 r2 r3 r4 r5 r6 h64 ⟨hA, hB, hC, hN⟩ m1 m2 u1 u2 u3 u4 hO hl
    | exact q_ins_0011 x0 x1 x2 x3 x4 line pl cl o1 o2 r1 r2 r3 r4 r5 r6 h64 ⟨hA, hB, hC, hN⟩ m1 m2 u1 u2 u3 u4 hO hl
    | exact q_ins_1000 x0 x1 x2 x3 x4 line pl cl o1 o2 r1 r2 r3 r4 r5 r6 h64 ⟨hA, hB, hC, hN⟩ m1 m2 u1 u2 u3 u4 (hb hB) hO hl
    | exact q_ins_1001 x0 x1 x2 x3 x4 line pl cl o1 o2 r1 r2 r3 r4 r5 r6 h64 ⟨hA, hB, hC, hN⟩ m1 m2 u1 u2 u3 u4 (hb hB) hO hl
    | exact q_ins_1010 x0 x1 x2 x3 x4 line pl cl o1 o2 r1 r2 r3 r4 r5 r6 h64 ⟨hA, hB, hC, hN⟩ m1 m2 u1 u2 u3 u4 (hb hB) hO hl
    | exact q_ins_1011 x0 x1 x2 x3 x4 line pl cl o1 o2 r1 r2 r3 r4 r5 r6 h64 ⟨hA, hB, hC, hN⟩ m1 m2 u1 u2 u3 u4 (hb hB) hO hl
    | exact q_ins_1100 x0 x1 x2 x3 x4 line pl cl o1 o2 r1 r2 r3 r4 r5 r6 h64 ⟨hA, hB, hC, hN⟩ m1 m2 u1 u2 u3 u4 hO hl
    | exact q_ins_1101 x0 x1 x2 x3 x4 line pl cl o1 o2 r1 r2 r3 r4 r5 r6 h64 ⟨hA, hB, hC, hN⟩ m1 m2 u1 u2 u3 u4 hO hl
    | exact q_ins_1110 x0 x1 x2 x3 x4 line pl cl o1 o2 r1 r2 r3 r4 r5 r6 h64 ⟨hA, hB, hC, hN⟩ m1 m2 u1 u2 u3 u4 hO hl
    | exact q_ins_1111 x0 x1 x2 x3 x4 line pl cl o1 o2 r1 r2 r3 r4 r5 r6 h64 ⟨hA, hB, hC, hN⟩ m1 m2 u1 u2 u3 u4 hO hl
theorem On.newB {w w' : World} {l : List UInt8} {ao : Option Addr} {n cap : Nat} {K : List (Nat × Obj)} (h : On w w' l ao n cap K) : NewB 5 w l (.returned (.slice ao n cap)) w' := by
  obtain ⟨r, h1, h2, h3, h4, _⟩ := h
  subst h4
  exact ⟨l, ao, cap, r, rfl, h1, h3, h2, rfl⟩
end Go.Proofs.Ytbikekgljabalaa
