/- Joined by join.py out of Lu, Lv, Ls. -/
import Derived.Test.YtaknmhipaifdkaaDoorOi
import Derived.Test.YtaknmhipaifdkaaDoorLaw
import Derived.Test.YtaknmhipaifdkaaDoorMd
import Derived.Test.YtaknmhipaifdkaaDoorRows
import Derived.Stop.LaidErr
import Derived.MakeChecks
import Derived.Lib.LaidTab
set_option linter.unusedSimpArgs false
set_option linter.unusedVariables false
set_option linter.unusedSectionVars false

/- From the form of the rows to plain data: a unit that comes in. (opens_st.. printed by gen_ostruct.py) -/
set_option linter.unusedSimpArgs false
set_option linter.unusedSectionVars false
namespace Go.Proofs.YtaknmhipaifdkaaDoor
open Go.RowKit Go.AB Go.ChangeShapes Go.WideShapes Go.ChangeAt
set_option linter.unusedVariables false

theorem Opens.mapE {α β : Type} {w : World} {t k : Nat} {R : α → List Value → Prop} {R' : β → List Value → Prop} {sz : α → Nat} {sz' : β → Nat} (h : Opens w t k R sz) (hi : ∀ a cs, R a cs → ∃ b, R' b cs ∧ sz' b ≤ sz a) : Opens w t k R' sz' := by
  intro H enc base spare held fuel cs x hx
  obtain ⟨h1, a, h2, h3⟩ := h H enc base spare held fuel cs x hx
  obtain ⟨b, h4, h5⟩ := hi a cs h2
  exact ⟨h1, b, h4, Nat.le_trans h5 h3⟩
/-- A slice that is read, its elements' cells said by a function. -/
theorem VL.lst {α : Type} {w : World} {k : Nat} {R : α → List Value → Prop} {f : α → List Value} {v : Value} {xs : List α} (h : VL w k R v xs) (hR : ∀ x cs, R x cs → cs = f x) : Lst f k w v xs := by
  obtain ⟨css, hv, hl, he⟩ := h
  have hfl : css.flatten = xs.flatMap f := by
    have : css = xs.map f := by
      apply List.ext_getElem
      · simp [hl]
      · intro i h1 h2
        rw [hR _ _ (he i (by omega) h1).2]
        simp
    rw [this]
    rfl
  unfold Lst
  rw [← hfl]
  exact hv
theorem VL.all {α : Type} {w : World} {k : Nat} {R : α → List Value → Prop} {v : Value} {xs : List α} (h : VL w k R v xs) {Q : α → Prop} (hR : ∀ x cs, R x cs → Q x) : ∀ x ∈ xs, Q x := by
  obtain ⟨css, hv, hl, he⟩ := h
  intro x hx
  obtain ⟨i, hi, rfl⟩ := List.mem_iff_getElem.1 hx
  exact hR _ _ (he i hi (by omega)).2
theorem wf_i64' {n : Int} (h : (Lit.int .i64 n).wf = true) : -9223372036854775808 ≤ n ∧ n ≤ 9223372036854775807 := by simpa [Lit.wf, IntKind.min, IntKind.max, IntKind.signed, IntKind.bits] using h
theorem len_le_sum {α : Type} (f : α → Nat) (xs : List α) (h : ∀ x, 1 ≤ f x) : xs.length ≤ (xs.map f).sum := by
  induction xs with
  | nil => simp
  | cons x xs ih => have := h x; simp only [List.length_cons, List.map_cons, List.sum_cons]; omega
theorem mem_le_sum {α : Type} (f : α → Nat) {xs : List α} {x : α} (h : x ∈ xs) : f x ≤ (xs.map f).sum := by
  induction xs with
  | nil => cases h
  | cons y ys ih =>
    simp only [List.map_cons, List.sum_cons]
    cases List.mem_cons.1 h with
    | inl e => subst e; omega
    | inr e => have := ih e; omega
theorem list_2 {α : Type} (l : List α) (h : l.length = 2) : ∃ a0 a1, l = [a0, a1] := by
  match l, h with
  | [a0, a1], _ => exact ⟨a0, a1, rfl⟩
theorem list_3 {α : Type} (l : List α) (h : l.length = 3) : ∃ a0 a1 a2, l = [a0, a1, a2] := by
  match l, h with
  | [a0, a1, a2], _ => exact ⟨a0, a1, a2, rfl⟩
theorem list_4 {α : Type} (l : List α) (h : l.length = 4) : ∃ a0 a1 a2 a3, l = [a0, a1, a2, a3] := by
  match l, h with
  | [a0, a1, a2, a3], _ => exact ⟨a0, a1, a2, a3, rfl⟩
theorem list_5 {α : Type} (l : List α) (h : l.length = 5) : ∃ a0 a1 a2 a3 a4, l = [a0, a1, a2, a3, a4] := by
  match l, h with
  | [a0, a1, a2, a3, a4], _ => exact ⟨a0, a1, a2, a3, a4, rfl⟩
theorem list_8 {α : Type} (l : List α) (h : l.length = 8) : ∃ a0 a1 a2 a3 a4 a5 a6 a7, l = [a0, a1, a2, a3, a4, a5, a6, a7] := by
  match l, h with
  | [a0, a1, a2, a3, a4, a5, a6, a7], _ => exact ⟨a0, a1, a2, a3, a4, a5, a6, a7, rfl⟩
theorem list_10 {α : Type} (l : List α) (h : l.length = 10) : ∃ a0 a1 a2 a3 a4 a5 a6 a7 a8 a9, l = [a0, a1, a2, a3, a4, a5, a6, a7, a8, a9] := by
  match l, h with
  | [a0, a1, a2, a3, a4, a5, a6, a7, a8, a9], _ => exact ⟨a0, a1, a2, a3, a4, a5, a6, a7, a8, a9, rfl⟩
theorem opens_st11 {α0 α1 : Type} {w : World} {t : Nat} {f0 f1 : Field} (ht : Tryd.prog.underlying t = some (.struct #[f0, f1])) (hc : Tryd.prog.cellsOf t = 2)
    (o0 : (f0.offset, Tryd.prog.cellsOf f0.type) = (0, 1)) (o1 : (f1.offset, Tryd.prog.cellsOf f1.type) = (1, 1))
    {R0 : α0 → List Value → Prop} {s0 : α0 → Nat} {R1 : α1 → List Value → Prop} {s1 : α1 → Nat}
    (h0 : Opens w f0.type 1 R0 s0) (h1 : Opens w f1.type 1 R1 s1) :
    Opens w t 2 (fun (p : α0 × α1) cs => ∃ c0 c1, cs = [c0, c1] ∧ R0 p.1 [c0] ∧ R1 p.2 [c1]) (fun p => s0 p.1 + s1 p.2 + 1) := by
  intro H enc base spare held fuel cs x h
  obtain ⟨xs, n, _, rfl, hl, hxl, hx⟩ := DataW.trod_struct ht h
  rw [hc] at hl
  simp only [Prod.mk.injEq] at o0 o1
  obtain ⟨c0, c1, rfl⟩ := list_2 cs hl
  obtain ⟨x0, x1, rfl⟩ := list_2 xs (by simpa using hxl)
  have e0 := hx 0 f0 rfl
  have e1 := hx 1 f1 rfl
  rw [o0.1, o0.2] at e0
  rw [o1.1, o1.2] at e1
  obtain ⟨_, a0, r0, b0⟩ := h0 H enc base spare held n [c0] x0 e0
  obtain ⟨_, a1, r1, b1⟩ := h1 H enc base spare held n [c1] x1 e1
  refine ⟨rfl, (a0, a1), ⟨c0, c1, rfl, r0, r1⟩, ?_⟩
  simp only [List.map_cons, List.map_nil, Rows.uptoBulk, Rows.uptoBulkAll]
  omega
theorem opens_st112 {α0 α1 α2 : Type} {w : World} {t : Nat} {f0 f1 f2 : Field} (ht : Tryd.prog.underlying t = some (.struct #[f0, f1, f2])) (hc : Tryd.prog.cellsOf t = 4)
    (o0 : (f0.offset, Tryd.prog.cellsOf f0.type) = (0, 1)) (o1 : (f1.offset, Tryd.prog.cellsOf f1.type) = (1, 1)) (o2 : (f2.offset, Tryd.prog.cellsOf f2.type) = (2, 2))
    {R0 : α0 → List Value → Prop} {s0 : α0 → Nat} {R1 : α1 → List Value → Prop} {s1 : α1 → Nat} {R2 : α2 → List Value → Prop} {s2 : α2 → Nat}
    (h0 : Opens w f0.type 1 R0 s0) (h1 : Opens w f1.type 1 R1 s1) (h2 : Opens w f2.type 2 R2 s2) :
    Opens w t 4 (fun (p : α0 × α1 × α2) cs => ∃ c0 c1 c2 c3, cs = [c0, c1, c2, c3] ∧ R0 p.1 [c0] ∧ R1 p.2.1 [c1] ∧ R2 p.2.2 [c2, c3]) (fun p => s0 p.1 + s1 p.2.1 + s2 p.2.2 + 1) := by
  intro H enc base spare held fuel cs x h
  obtain ⟨xs, n, _, rfl, hl, hxl, hx⟩ := DataW.trod_struct ht h
  rw [hc] at hl
  simp only [Prod.mk.injEq] at o0 o1 o2
  obtain ⟨c0, c1, c2, c3, rfl⟩ := list_4 cs hl
  obtain ⟨x0, x1, x2, rfl⟩ := list_3 xs (by simpa using hxl)
  have e0 := hx 0 f0 rfl
  have e1 := hx 1 f1 rfl
  have e2 := hx 2 f2 rfl
  rw [o0.1, o0.2] at e0
  rw [o1.1, o1.2] at e1
  rw [o2.1, o2.2] at e2
  obtain ⟨_, a0, r0, b0⟩ := h0 H enc base spare held n [c0] x0 e0
  obtain ⟨_, a1, r1, b1⟩ := h1 H enc base spare held n [c1] x1 e1
  obtain ⟨_, a2, r2, b2⟩ := h2 H enc base spare held n [c2, c3] x2 e2
  refine ⟨rfl, (a0, a1, a2), ⟨c0, c1, c2, c3, rfl, r0, r1, r2⟩, ?_⟩
  simp only [List.map_cons, List.map_nil, Rows.uptoBulk, Rows.uptoBulkAll]
  omega
theorem opens_st1112 {α0 α1 α2 α3 : Type} {w : World} {t : Nat} {f0 f1 f2 f3 : Field} (ht : Tryd.prog.underlying t = some (.struct #[f0, f1, f2, f3])) (hc : Tryd.prog.cellsOf t = 5)
    (o0 : (f0.offset, Tryd.prog.cellsOf f0.type) = (0, 1)) (o1 : (f1.offset, Tryd.prog.cellsOf f1.type) = (1, 1)) (o2 : (f2.offset, Tryd.prog.cellsOf f2.type) = (2, 1)) (o3 : (f3.offset, Tryd.prog.cellsOf f3.type) = (3, 2))
    {R0 : α0 → List Value → Prop} {s0 : α0 → Nat} {R1 : α1 → List Value → Prop} {s1 : α1 → Nat} {R2 : α2 → List Value → Prop} {s2 : α2 → Nat} {R3 : α3 → List Value → Prop} {s3 : α3 → Nat}
    (h0 : Opens w f0.type 1 R0 s0) (h1 : Opens w f1.type 1 R1 s1) (h2 : Opens w f2.type 1 R2 s2) (h3 : Opens w f3.type 2 R3 s3) :
    Opens w t 5 (fun (p : α0 × α1 × α2 × α3) cs => ∃ c0 c1 c2 c3 c4, cs = [c0, c1, c2, c3, c4] ∧ R0 p.1 [c0] ∧ R1 p.2.1 [c1] ∧ R2 p.2.2.1 [c2] ∧ R3 p.2.2.2 [c3, c4]) (fun p => s0 p.1 + s1 p.2.1 + s2 p.2.2.1 + s3 p.2.2.2 + 1) := by
  intro H enc base spare held fuel cs x h
  obtain ⟨xs, n, _, rfl, hl, hxl, hx⟩ := DataW.trod_struct ht h
  rw [hc] at hl
  simp only [Prod.mk.injEq] at o0 o1 o2 o3
  obtain ⟨c0, c1, c2, c3, c4, rfl⟩ := list_5 cs hl
  obtain ⟨x0, x1, x2, x3, rfl⟩ := list_4 xs (by simpa using hxl)
  have e0 := hx 0 f0 rfl
  have e1 := hx 1 f1 rfl
  have e2 := hx 2 f2 rfl
  have e3 := hx 3 f3 rfl
  rw [o0.1, o0.2] at e0
  rw [o1.1, o1.2] at e1
  rw [o2.1, o2.2] at e2
  rw [o3.1, o3.2] at e3
  obtain ⟨_, a0, r0, b0⟩ := h0 H enc base spare held n [c0] x0 e0
  obtain ⟨_, a1, r1, b1⟩ := h1 H enc base spare held n [c1] x1 e1
  obtain ⟨_, a2, r2, b2⟩ := h2 H enc base spare held n [c2] x2 e2
  obtain ⟨_, a3, r3, b3⟩ := h3 H enc base spare held n [c3, c4] x3 e3
  refine ⟨rfl, (a0, a1, a2, a3), ⟨c0, c1, c2, c3, c4, rfl, r0, r1, r2, r3⟩, ?_⟩
  simp only [List.map_cons, List.map_nil, Rows.uptoBulk, Rows.uptoBulkAll]
  omega
theorem opens_st8 {α0 α1 α2 α3 α4 α5 α6 α7 : Type} {w : World} {t : Nat} {f0 f1 f2 f3 f4 f5 f6 f7 : Field} (ht : Tryd.prog.underlying t = some (.struct #[f0, f1, f2, f3, f4, f5, f6, f7])) (hc : Tryd.prog.cellsOf t = 10)
    (o0 : (f0.offset, Tryd.prog.cellsOf f0.type) = (0, 1)) (o1 : (f1.offset, Tryd.prog.cellsOf f1.type) = (1, 1)) (o2 : (f2.offset, Tryd.prog.cellsOf f2.type) = (2, 1)) (o3 : (f3.offset, Tryd.prog.cellsOf f3.type) = (3, 1)) (o4 : (f4.offset, Tryd.prog.cellsOf f4.type) = (4, 1)) (o5 : (f5.offset, Tryd.prog.cellsOf f5.type) = (5, 1)) (o6 : (f6.offset, Tryd.prog.cellsOf f6.type) = (6, 2)) (o7 : (f7.offset, Tryd.prog.cellsOf f7.type) = (8, 2))
    {R0 : α0 → List Value → Prop} {s0 : α0 → Nat} {R1 : α1 → List Value → Prop} {s1 : α1 → Nat} {R2 : α2 → List Value → Prop} {s2 : α2 → Nat} {R3 : α3 → List Value → Prop} {s3 : α3 → Nat} {R4 : α4 → List Value → Prop} {s4 : α4 → Nat} {R5 : α5 → List Value → Prop} {s5 : α5 → Nat} {R6 : α6 → List Value → Prop} {s6 : α6 → Nat} {R7 : α7 → List Value → Prop} {s7 : α7 → Nat}
    (h0 : Opens w f0.type 1 R0 s0) (h1 : Opens w f1.type 1 R1 s1) (h2 : Opens w f2.type 1 R2 s2) (h3 : Opens w f3.type 1 R3 s3) (h4 : Opens w f4.type 1 R4 s4) (h5 : Opens w f5.type 1 R5 s5) (h6 : Opens w f6.type 2 R6 s6) (h7 : Opens w f7.type 2 R7 s7) :
    Opens w t 10 (fun (p : α0 × α1 × α2 × α3 × α4 × α5 × α6 × α7) cs => ∃ c0 c1 c2 c3 c4 c5 c6 c7 c8 c9, cs = [c0, c1, c2, c3, c4, c5, c6, c7, c8, c9] ∧ R0 p.1 [c0] ∧ R1 p.2.1 [c1] ∧ R2 p.2.2.1 [c2] ∧ R3 p.2.2.2.1 [c3] ∧ R4 p.2.2.2.2.1 [c4] ∧ R5 p.2.2.2.2.2.1 [c5] ∧ R6 p.2.2.2.2.2.2.1 [c6, c7] ∧ R7 p.2.2.2.2.2.2.2 [c8, c9]) (fun p => s0 p.1 + s1 p.2.1 + s2 p.2.2.1 + s3 p.2.2.2.1 + s4 p.2.2.2.2.1 + s5 p.2.2.2.2.2.1 + s6 p.2.2.2.2.2.2.1 + s7 p.2.2.2.2.2.2.2 + 1) := by
  intro H enc base spare held fuel cs x h
  obtain ⟨xs, n, _, rfl, hl, hxl, hx⟩ := DataW.trod_struct ht h
  rw [hc] at hl
  simp only [Prod.mk.injEq] at o0 o1 o2 o3 o4 o5 o6 o7
  obtain ⟨c0, c1, c2, c3, c4, c5, c6, c7, c8, c9, rfl⟩ := list_10 cs hl
  obtain ⟨x0, x1, x2, x3, x4, x5, x6, x7, rfl⟩ := list_8 xs (by simpa using hxl)
  have e0 := hx 0 f0 rfl
  have e1 := hx 1 f1 rfl
  have e2 := hx 2 f2 rfl
  have e3 := hx 3 f3 rfl
  have e4 := hx 4 f4 rfl
  have e5 := hx 5 f5 rfl
  have e6 := hx 6 f6 rfl
  have e7 := hx 7 f7 rfl
  rw [o0.1, o0.2] at e0
  rw [o1.1, o1.2] at e1
  rw [o2.1, o2.2] at e2
  rw [o3.1, o3.2] at e3
  rw [o4.1, o4.2] at e4
  rw [o5.1, o5.2] at e5
  rw [o6.1, o6.2] at e6
  rw [o7.1, o7.2] at e7
  obtain ⟨_, a0, r0, b0⟩ := h0 H enc base spare held n [c0] x0 e0
  obtain ⟨_, a1, r1, b1⟩ := h1 H enc base spare held n [c1] x1 e1
  obtain ⟨_, a2, r2, b2⟩ := h2 H enc base spare held n [c2] x2 e2
  obtain ⟨_, a3, r3, b3⟩ := h3 H enc base spare held n [c3] x3 e3
  obtain ⟨_, a4, r4, b4⟩ := h4 H enc base spare held n [c4] x4 e4
  obtain ⟨_, a5, r5, b5⟩ := h5 H enc base spare held n [c5] x5 e5
  obtain ⟨_, a6, r6, b6⟩ := h6 H enc base spare held n [c6, c7] x6 e6
  obtain ⟨_, a7, r7, b7⟩ := h7 H enc base spare held n [c8, c9] x7 e7
  refine ⟨rfl, (a0, a1, a2, a3, a4, a5, a6, a7), ⟨c0, c1, c2, c3, c4, c5, c6, c7, c8, c9, rfl, r0, r1, r2, r3, r4, r5, r6, r7⟩, ?_⟩
  simp only [List.map_cons, List.map_nil, Rows.uptoBulk, Rows.uptoBulkAll]
  omega

/-- A number of 64 bits. -/
def Wf (n : Int) : Prop := -9223372036854775808 ≤ n ∧ n ≤ 9223372036854775807
def ItWf (x : ItD) : Prop := Wf x.op ∧ Wf x.a ∧ Wf x.b ∧ Wf x.c ∧ Wf x.n ∧ Wf x.p1 ∧ Wf x.p2 ∧ Wf x.q1 ∧ Wf x.q2
def DcWf (d : DcD) : Prop := Wf d.kind ∧ Wf d.val ∧ Wf d.l ∧ Wf d.c
def BkWf (k : BkD) : Prop := Wf k.l ∧ Wf k.c ∧ ∀ x ∈ k.items, ItWf x
def szIt (x : ItD) : Nat := x.name.size + 9
def szDc (d : DcD) : Nat := d.name.size + 1
def szBk (k : BkD) : Nat := k.name.size + (k.items.map szIt).sum + 1
section
variable (w : World)
theorem opens_plc : Opens w 35 2 (fun (p : Int × Int) cs => cs = [.int .i64 p.1, .int .i64 p.2] ∧ Wf p.1 ∧ Wf p.2) (fun _ => 1) :=
  (opens_st11 Tryd.underlying35 (by kernel_rfl) (by kernel_rfl) (by kernel_rfl) (opens_int Tryd.underlying3) (opens_int Tryd.underlying3)).mapE (fun p cs h => by
    obtain ⟨c0, c1, rfl, ⟨h0, w0⟩, h1, w1⟩ := h
    simp only [List.cons.injEq, and_true] at h0 h1
    subst h0 h1
    exact ⟨p, ⟨rfl, wf_i64' w0, wf_i64' w1⟩, by omega⟩)
theorem opens_itm : Opens w 82 10 (fun (x : ItD) cs => cs = itC x ∧ ItWf x) szIt :=
  (opens_st8 Tryd.underlying82 (by kernel_rfl) (by kernel_rfl) (by kernel_rfl) (by kernel_rfl) (by kernel_rfl) (by kernel_rfl) (by kernel_rfl) (by kernel_rfl) (by kernel_rfl) (opens_int Tryd.underlying62) (opens_int Tryd.underlying3) (opens_int Tryd.underlying3) (opens_int Tryd.underlying3) (opens_int Tryd.underlying3)
    (opens_string Tryd.underlying9) (opens_plc w) (opens_plc w)).mapE (fun p cs h => by
    obtain ⟨c0, c1, c2, c3, c4, c5, c6, c7, c8, c9, rfl, ⟨h0, w0⟩, ⟨h1, w1⟩, ⟨h2, w2⟩, ⟨h3, w3⟩, ⟨h4, w4⟩, h5, ⟨h6, w6, w7⟩, h8, w8, w9⟩ := h
    simp only [List.cons.injEq, and_true] at h0 h1 h2 h3 h4 h5 h6 h8
    obtain ⟨rfl, rfl⟩ := h6
    obtain ⟨rfl, rfl⟩ := h8
    subst h0 h1 h2 h3 h4 h5
    obtain ⟨p0, p1, p2, p3, p4, p5, ⟨p6, p7⟩, p8, p9⟩ := p
    exact ⟨⟨p0, p1, p2, p3, p4, p5, p6, p7, p8, p9⟩, ⟨rfl, wf_i64' w0, wf_i64' w1, wf_i64' w2, wf_i64' w3, wf_i64' w4, w6, w7, w8, w9⟩, by unfold szIt; simp only; omega⟩)
theorem opens_dcl : Opens w 72 5 (fun (x : DcD) cs => cs = dcC x ∧ DcWf x) szDc :=
  (opens_st1112 Tryd.underlying72 (by kernel_rfl) (by kernel_rfl) (by kernel_rfl) (by kernel_rfl) (by kernel_rfl) (opens_int Tryd.underlying70) (opens_string Tryd.underlying9) (opens_int Tryd.underlying3) (opens_plc w)).mapE (fun p cs h => by
    obtain ⟨c0, c1, c2, c3, c4, rfl, ⟨h0, w0⟩, h1, ⟨h2, w2⟩, h3, w3, w4⟩ := h
    simp only [List.cons.injEq, and_true] at h0 h1 h2 h3
    obtain ⟨rfl, rfl⟩ := h3
    subst h0 h1 h2
    obtain ⟨p0, p1, p2, p3, p4⟩ := p
    exact ⟨⟨p0, p1, p2, p3, p4⟩, ⟨rfl, wf_i64' w0, wf_i64' w2, w3, w4⟩, by unfold szDc; simp only; omega⟩)
theorem opens_blk : Opens w 56 4 (fun (x : BkV) cs => cs = bkC x ∧ Lst itC 10 w x.items x.b.items ∧ BkWf x.b) (fun x => szBk x.b) :=
  (opens_st112 Tryd.underlying56 (by kernel_rfl) (by kernel_rfl) (by kernel_rfl) (by kernel_rfl) (opens_string Tryd.underlying9) (opens_slice Tryd.underlying54 (by kernel_rfl) (opens_itm w)) (opens_plc w)).mapE (fun p cs h => by
    obtain ⟨c0, c1, c2, c3, rfl, h0, ⟨v1, h1, l1⟩, h2, w2, w3⟩ := h
    simp only [List.cons.injEq, and_true] at h0 h1 h2
    obtain ⟨rfl, rfl⟩ := h2
    subst h0 h1
    obtain ⟨p0, p1, p2, p3⟩ := p
    refine ⟨⟨⟨p0, p1, p2, p3⟩, c1⟩, ⟨rfl, l1.lst (fun x cs h => h.1), w2, w3, l1.all (fun x cs h => h.2)⟩, ?_⟩
    unfold szBk
    simp only
    omega)
/-- A unit that comes in: what is read of it. -/
def WfU (u : UnD) : Prop := (∀ d ∈ u.decls, DcWf d) ∧ ∀ k ∈ u.blocks, BkWf k
theorem opens_unit : Opens w 25 2 (fun (u : UnD) cs => UnV w (.agg cs.toArray) u ∧ WfU u) (fun u => (u.decls.map szDc).sum + (u.blocks.map szBk).sum) :=
  (opens_st11 Tryd.underlying25 (by kernel_rfl) (by kernel_rfl) (by kernel_rfl) (opens_slice Tryd.underlying22 (by kernel_rfl) (opens_dcl w)) (opens_slice Tryd.underlying23 (by kernel_rfl) (opens_blk w))).mapE (fun p cs h => by
    obtain ⟨c0, c1, rfl, ⟨v0, h0, l0⟩, v1, h1, l1⟩ := h
    simp only [List.cons.injEq, and_true] at h0 h1
    subst h0 h1
    obtain ⟨ds, bs⟩ := p
    simp only at l0 l1
    refine ⟨⟨ds, bs.map BkV.b⟩, ⟨⟨_, _, bs, rfl, l0.lst (fun x cs h => h.1), l1.lst (fun x cs h => h.1), rfl, l1.all (fun x cs h => h.2.1)⟩, l0.all (fun x cs h => h.2), fun k hk => ?_⟩, ?_⟩
    · obtain ⟨x, hx, rfl⟩ := List.mem_map.1 hk
      exact l1.all (Q := fun x => BkWf x.b) (fun x cs h => h.2.2) x hx
    · simp only [List.map_map]
      show _ ≤ (ds.map szDc).sum + 1 + ((bs.map fun x => szBk x.b).sum + 1) + 1
      have : (bs.map (szBk ∘ BkV.b)).sum = (bs.map fun x => szBk x.b).sum := rfl
      omega)
end
/-- What the sizes say. -/
theorem small_un {u : UnD} (h : (u.decls.map szDc).sum + (u.blocks.map szBk).sum ≤ 1048576) : SmallU u := by
  have a0 := len_le_sum szDc u.decls (fun _ => by unfold szDc; omega)
  have a1 := len_le_sum szBk u.blocks (fun _ => by unfold szBk; omega)
  refine ⟨by omega, by omega, fun d hd => ?_, fun k hk => ?_⟩
  · have h9 : d.name.size + 1 ≤ _ := mem_le_sum szDc hd
    omega
  · have h9 : k.name.size + (k.items.map szIt).sum + 1 ≤ _ := mem_le_sum szBk hk
    have a2 := len_le_sum szIt k.items (fun _ => by unfold szIt; omega)
    refine ⟨by omega, by omega, fun x hx => ?_⟩
    have h8 : x.name.size + 9 ≤ _ := mem_le_sum szIt hx
    omega
theorem len9 (l : List ItD) : l.length * 9 ≤ (l.map szIt).sum := by
  induction l with
  | nil => simp
  | cons x l ih => simp only [List.length_cons, List.map_cons, List.sum_cons, szIt]; omega
theorem small_items {u : UnD} (h : (u.decls.map szDc).sum + (u.blocks.map szBk).sum ≤ 1048576) : ∀ k ∈ u.blocks, k.items.length ≤ 524288 ∧ ∀ x ∈ k.items, x.name.size ≤ 1048576 := by
  intro k hk
  have h9 : k.name.size + (k.items.map szIt).sum + 1 ≤ _ := mem_le_sum szBk hk
  have a2 := len9 k.items
  refine ⟨by omega, fun x hx => ?_⟩
  have h8 : x.name.size + 9 ≤ _ := mem_le_sum szIt hx
  omega
end Go.Proofs.YtaknmhipaifdkaaDoor

/- From the form of the rows to plain data: a program that comes in. -/
set_option linter.unusedSimpArgs false
set_option linter.unusedVariables false
set_option linter.unusedSectionVars false
namespace Go.Proofs.YtaknmhipaifdkaaDoor
open Go.RowKit Go.AB

theorem two {α : Type} (l : List α) (h : l.length = 2) : ∃ a b, l = [a, b] := by
  match l, h with
  | [a, b], _ => exact ⟨a, b, rfl⟩
theorem three {α : Type} (l : List α) (h : l.length = 3) : ∃ a b c, l = [a, b, c] := by
  match l, h with
  | [a, b, c], _ => exact ⟨a, b, c, rfl⟩
theorem five {α : Type} (l : List α) (h : l.length = 5) : ∃ a b c d e, l = [a, b, c, d, e] := by
  match l, h with
  | [a, b, c, d, e], _ => exact ⟨a, b, c, d, e, rfl⟩
theorem opens_struct2 {α β : Type} {w : World} {t : Nat} {f0 f1 : Field} (ht : Tryd.prog.underlying t = some (.struct #[f0, f1])) (hc : Tryd.prog.cellsOf t = 2)
    (o0 : (f0.offset, Tryd.prog.cellsOf f0.type) = (0, 1)) (o1 : (f1.offset, Tryd.prog.cellsOf f1.type) = (1, 1))
    {R0 : α → List Value → Prop} {R1 : β → List Value → Prop} {s0 : α → Nat} {s1 : β → Nat} (h0 : Opens w f0.type 1 R0 s0) (h1 : Opens w f1.type 1 R1 s1) :
    Opens w t 2 (fun (p : α × β) cs => ∃ c0 c1, cs = [c0, c1] ∧ R0 p.1 [c0] ∧ R1 p.2 [c1]) (fun p => s0 p.1 + s1 p.2 + 1) := by
  intro H enc base spare held fuel cs x h
  obtain ⟨xs, n, _, rfl, hl, hxl, hx⟩ := DataW.trod_struct ht h
  rw [hc] at hl
  simp only [Prod.mk.injEq] at o0 o1
  obtain ⟨c0, c1, rfl⟩ := two cs hl
  obtain ⟨x0, x1, rfl⟩ := two xs (by simpa using hxl)
  have e0 := hx 0 f0 rfl
  have e1 := hx 1 f1 rfl
  rw [o0.1, o0.2] at e0
  rw [o1.1, o1.2] at e1
  obtain ⟨_, a0, r0, b0⟩ := h0 H enc base spare held n [c0] x0 e0
  obtain ⟨_, a1, r1, b1⟩ := h1 H enc base spare held n [c1] x1 e1
  refine ⟨rfl, (a0, a1), ⟨c0, c1, rfl, r0, r1⟩, ?_⟩
  simp only [List.map_cons, List.map_nil, Rows.uptoBulk, Rows.uptoBulkAll]
  omega
theorem opens_struct3 {α β γ : Type} {w : World} {t : Nat} {f0 f1 f2 : Field} (ht : Tryd.prog.underlying t = some (.struct #[f0, f1, f2])) (hc : Tryd.prog.cellsOf t = 3)
    (o0 : (f0.offset, Tryd.prog.cellsOf f0.type) = (0, 1)) (o1 : (f1.offset, Tryd.prog.cellsOf f1.type) = (1, 1)) (o2 : (f2.offset, Tryd.prog.cellsOf f2.type) = (2, 1))
    {R0 : α → List Value → Prop} {R1 : β → List Value → Prop} {R2 : γ → List Value → Prop} {s0 : α → Nat} {s1 : β → Nat} {s2 : γ → Nat} (h0 : Opens w f0.type 1 R0 s0) (h1 : Opens w f1.type 1 R1 s1) (h2 : Opens w f2.type 1 R2 s2) :
    Opens w t 3 (fun (p : α × β × γ) cs => ∃ c0 c1 c2, cs = [c0, c1, c2] ∧ R0 p.1 [c0] ∧ R1 p.2.1 [c1] ∧ R2 p.2.2 [c2]) (fun p => s0 p.1 + s1 p.2.1 + s2 p.2.2 + 1) := by
  intro H enc base spare held fuel cs x h
  obtain ⟨xs, n, _, rfl, hl, hxl, hx⟩ := DataW.trod_struct ht h
  rw [hc] at hl
  simp only [Prod.mk.injEq] at o0 o1 o2
  obtain ⟨c0, c1, c2, rfl⟩ := three cs hl
  obtain ⟨x0, x1, x2, rfl⟩ := three xs (by simpa using hxl)
  have e0 := hx 0 f0 rfl
  have e1 := hx 1 f1 rfl
  have e2 := hx 2 f2 rfl
  rw [o0.1, o0.2] at e0
  rw [o1.1, o1.2] at e1
  rw [o2.1, o2.2] at e2
  obtain ⟨_, a0, r0, b0⟩ := h0 H enc base spare held n [c0] x0 e0
  obtain ⟨_, a1, r1, b1⟩ := h1 H enc base spare held n [c1] x1 e1
  obtain ⟨_, a2, r2, b2⟩ := h2 H enc base spare held n [c2] x2 e2
  refine ⟨rfl, (a0, a1, a2), ⟨c0, c1, c2, rfl, r0, r1, r2⟩, ?_⟩
  simp only [List.map_cons, List.map_nil, Rows.uptoBulk, Rows.uptoBulkAll]
  omega
theorem opens_struct5 {α β γ δ ε : Type} {w : World} {t : Nat} {f0 f1 f2 f3 f4 : Field} (ht : Tryd.prog.underlying t = some (.struct #[f0, f1, f2, f3, f4])) (hc : Tryd.prog.cellsOf t = 5)
    (o0 : (f0.offset, Tryd.prog.cellsOf f0.type) = (0, 1)) (o1 : (f1.offset, Tryd.prog.cellsOf f1.type) = (1, 1)) (o2 : (f2.offset, Tryd.prog.cellsOf f2.type) = (2, 1)) (o3 : (f3.offset, Tryd.prog.cellsOf f3.type) = (3, 1)) (o4 : (f4.offset, Tryd.prog.cellsOf f4.type) = (4, 1))
    {R0 : α → List Value → Prop} {R1 : β → List Value → Prop} {R2 : γ → List Value → Prop} {R3 : δ → List Value → Prop} {R4 : ε → List Value → Prop} {s0 : α → Nat} {s1 : β → Nat} {s2 : γ → Nat} {s3 : δ → Nat} {s4 : ε → Nat}
    (h0 : Opens w f0.type 1 R0 s0) (h1 : Opens w f1.type 1 R1 s1) (h2 : Opens w f2.type 1 R2 s2) (h3 : Opens w f3.type 1 R3 s3) (h4 : Opens w f4.type 1 R4 s4) :
    Opens w t 5 (fun (p : α × β × γ × δ × ε) cs => ∃ c0 c1 c2 c3 c4, cs = [c0, c1, c2, c3, c4] ∧ R0 p.1 [c0] ∧ R1 p.2.1 [c1] ∧ R2 p.2.2.1 [c2] ∧ R3 p.2.2.2.1 [c3] ∧ R4 p.2.2.2.2 [c4]) (fun p => s0 p.1 + s1 p.2.1 + s2 p.2.2.1 + s3 p.2.2.2.1 + s4 p.2.2.2.2 + 1) := by
  intro H enc base spare held fuel cs x h
  obtain ⟨xs, n, _, rfl, hl, hxl, hx⟩ := DataW.trod_struct ht h
  rw [hc] at hl
  simp only [Prod.mk.injEq] at o0 o1 o2 o3 o4
  obtain ⟨c0, c1, c2, c3, c4, rfl⟩ := five cs hl
  obtain ⟨x0, x1, x2, x3, x4, rfl⟩ := five xs (by simpa using hxl)
  have e0 := hx 0 f0 rfl
  have e1 := hx 1 f1 rfl
  have e2 := hx 2 f2 rfl
  have e3 := hx 3 f3 rfl
  have e4 := hx 4 f4 rfl
  rw [o0.1, o0.2] at e0
  rw [o1.1, o1.2] at e1
  rw [o2.1, o2.2] at e2
  rw [o3.1, o3.2] at e3
  rw [o4.1, o4.2] at e4
  obtain ⟨_, a0, r0, b0⟩ := h0 H enc base spare held n [c0] x0 e0
  obtain ⟨_, a1, r1, b1⟩ := h1 H enc base spare held n [c1] x1 e1
  obtain ⟨_, a2, r2, b2⟩ := h2 H enc base spare held n [c2] x2 e2
  obtain ⟨_, a3, r3, b3⟩ := h3 H enc base spare held n [c3] x3 e3
  obtain ⟨_, a4, r4, b4⟩ := h4 H enc base spare held n [c4] x4 e4
  refine ⟨rfl, (a0, a1, a2, a3, a4), ⟨c0, c1, c2, c3, c4, rfl, r0, r1, r2, r3, r4⟩, ?_⟩
  simp only [List.map_cons, List.map_nil, Rows.uptoBulk, Rows.uptoBulkAll]
  omega
theorem sum_six (l : List InsD) : 6 * l.length ≤ (l.map fun _ => 6).sum := by
  induction l with
  | nil => simp
  | cons x l ih => simp only [List.length_cons, List.map_cons, List.sum_cons]; omega
/-! the program's parts -/
def szVar (v : VarD) : Nat := v.name.size + 1
def szStr (s : ByteArray) : Nat := s.size + 1
def szThr (x : ThrV) : Nat := x.t.name.size + 6 * x.t.code.length + x.t.places.length + 1
section
variable (w : World)
theorem opens_var : Opens w 61 2 (fun (v : VarD) cs => cs = varC v ∧ Wf v.first) szVar :=
  (opens_struct2 Tryd.underlying61 (by kernel_rfl) (by kernel_rfl) (by kernel_rfl) (opens_string Tryd.underlying9) (opens_int Tryd.underlying3)).mapE (fun p cs h => by
    obtain ⟨c0, c1, rfl, h0, h1, hw⟩ := h
    simp only [List.cons.injEq, and_true] at h0 h1
    subst h0 h1
    exact ⟨⟨p.1, p.2⟩, ⟨rfl, wf_i64' hw⟩, by unfold szVar; simp only; omega⟩)
theorem opens_bar : Opens w 74 2 (fun (v : VarD) cs => cs = varC v ∧ Wf v.first) szVar :=
  (opens_struct2 Tryd.underlying74 (by kernel_rfl) (by kernel_rfl) (by kernel_rfl) (opens_string Tryd.underlying9) (opens_int Tryd.underlying3)).mapE (fun p cs h => by
    obtain ⟨c0, c1, rfl, h0, h1, hw⟩ := h
    simp only [List.cons.injEq, and_true] at h0 h1
    subst h0 h1
    exact ⟨⟨p.1, p.2⟩, ⟨rfl, wf_i64' hw⟩, by unfold szVar; simp only; omega⟩)
theorem opens_ins : Opens w 64 5 (fun (v : InsD) cs => cs = insC v ∧ Wf v.n) (fun _ => 6) :=
  (opens_struct5 Tryd.underlying64 (by kernel_rfl) (by kernel_rfl) (by kernel_rfl) (by kernel_rfl) (by kernel_rfl) (by kernel_rfl) (opens_int Tryd.underlying62) (opens_int Tryd.underlying3) (opens_int Tryd.underlying3) (opens_int Tryd.underlying3) (opens_int Tryd.underlying3)).mapE (fun p cs h => by
    obtain ⟨c0, c1, c2, c3, c4, rfl, ⟨h0, _⟩, ⟨h1, _⟩, ⟨h2, _⟩, ⟨h3, _⟩, h4, hw⟩ := h
    simp only [List.cons.injEq, and_true] at h0 h1 h2 h3 h4
    subst h0 h1 h2 h3 h4
    exact ⟨⟨p.1, p.2.1, p.2.2.1, p.2.2.2.1, p.2.2.2.2⟩, ⟨rfl, wf_i64' hw⟩, by omega⟩)
theorem opens_plq : Opens w 35 2 (fun (v : PlcD) cs => cs = plcC v) (fun _ => 1) :=
  (opens_struct2 Tryd.underlying35 (by kernel_rfl) (by kernel_rfl) (by kernel_rfl) (opens_int Tryd.underlying3) (opens_int Tryd.underlying3)).mapE (fun p cs h => by
    obtain ⟨c0, c1, rfl, ⟨h0, _⟩, h1, _⟩ := h
    simp only [List.cons.injEq, and_true] at h0 h1
    subst h0 h1
    exact ⟨⟨p.1, p.2⟩, rfl, by omega⟩)
theorem opens_thr : Opens w 50 3 (fun (x : ThrV) cs => cs = thrC x ∧ Lst insC 5 w x.code x.t.code ∧ Lst plcC 2 w x.places x.t.places ∧ ∀ y ∈ x.t.code, Wf y.n) szThr :=
  (opens_struct3 Tryd.underlying50 (by kernel_rfl) (by kernel_rfl) (by kernel_rfl) (by kernel_rfl) (opens_string Tryd.underlying9) (opens_slice Tryd.underlying47 (by kernel_rfl) (opens_ins w)) (opens_slice Tryd.underlying48 (by kernel_rfl) (opens_plq w))).mapE (fun p cs h => by
    obtain ⟨c0, c1, c2, rfl, h0, ⟨v1, h1, l1⟩, v2, h2, l2⟩ := h
    simp only [List.cons.injEq, and_true] at h0 h1 h2
    subst h0 h1 h2
    refine ⟨⟨⟨p.1, p.2.1, p.2.2⟩, c1, c2⟩, ⟨rfl, l1.lst (fun x cs h => h.1), l2.lst (fun x cs h => h), l1.all (fun x cs h => h.2)⟩, ?_⟩
    have e1 : 6 * p.2.1.length ≤ (p.2.1.map fun _ => 6).sum := sum_six _
    have e2 := len_le_sum (fun _ : PlcD => 1) p.2.2 (fun _ => Nat.le_refl _)
    unfold szThr
    simp only
    omega)
/-- A program that comes in: what is read of it. -/
def PrgIn (w : World) (p : PrgD) (cs : List Value) : Prop := PrgV w (.agg cs.toArray) p
theorem opens_prog : Opens w 32 5 (fun (p : PrgD) cs => PrgIn w p cs) (fun p => (p.vars.map szVar).sum + (p.vols.map szVar).sum + (p.locks.map szStr).sum + (p.bars.map szVar).sum + (p.thrs.map fun t => t.name.size + 6 * t.code.length + t.places.length + 1).sum) :=
  (opens_struct5 Tryd.underlying32 (by kernel_rfl) (by kernel_rfl) (by kernel_rfl) (by kernel_rfl) (by kernel_rfl) (by kernel_rfl) (opens_slice Tryd.underlying27 (by kernel_rfl) (opens_var w)) (opens_slice Tryd.underlying27 (by kernel_rfl) (opens_var w))
    (opens_slice Tryd.underlying28 (by kernel_rfl) (opens_string Tryd.underlying9)) (opens_slice Tryd.underlying29 (by kernel_rfl) (opens_bar w)) (opens_slice Tryd.underlying30 (by kernel_rfl) (opens_thr w))).mapE (fun p cs h => by
    obtain ⟨c0, c1, c2, c3, c4, rfl, ⟨v0, h0, l0⟩, ⟨v1, h1, l1⟩, ⟨v2, h2, l2⟩, ⟨v3, h3, l3⟩, v4, h4, l4⟩ := h
    simp only [List.cons.injEq, and_true] at h0 h1 h2 h3 h4
    subst h0 h1 h2 h3 h4
    obtain ⟨xs0, xs1, xs2, xs3, ts⟩ := p
    simp only at l0 l1 l2 l3 l4
    refine ⟨⟨xs0, xs1, xs2, xs3, ts.map ThrV.t⟩, ⟨_, _, _, _, _, ts, rfl, l0.lst (fun x cs h => h.1), l1.lst (fun x cs h => h.1), l2.lst (fun x cs h => h), l3.lst (fun x cs h => h.1), l4.lst (fun x cs h => h.1), rfl, l4.all (fun x cs h => ⟨h.2.1, h.2.2.1⟩)⟩, ?_⟩
    · simp only [List.map_map]
      show _ ≤ (xs0.map szVar).sum + 1 + ((xs1.map szVar).sum + 1) + ((xs2.map szStr).sum + 1) + ((xs3.map szVar).sum + 1) + ((ts.map szThr).sum + 1) + 1
      have : (ts.map ((fun t : ThrD => t.name.size + 6 * t.code.length + t.places.length + 1) ∘ ThrV.t)).sum = (ts.map szThr).sum := rfl
      omega)
end
/-- What the sizes say. -/
theorem small_in {p : PrgD} (h : (p.vars.map szVar).sum + (p.vols.map szVar).sum + (p.locks.map szStr).sum + (p.bars.map szVar).sum + (p.thrs.map fun t => t.name.size + 6 * t.code.length + t.places.length + 1).sum ≤ 1048576) : SmallP p := by
  have a0 := len_le_sum szVar p.vars (fun _ => by unfold szVar; omega)
  have a1 := len_le_sum szVar p.vols (fun _ => by unfold szVar; omega)
  have a2 := len_le_sum szStr p.locks (fun _ => by unfold szStr; omega)
  have a3 := len_le_sum szVar p.bars (fun _ => by unfold szVar; omega)
  have a4 := len_le_sum (fun t : ThrD => t.name.size + 6 * t.code.length + t.places.length + 1) p.thrs (fun _ => by omega)
  refine ⟨by omega, by omega, by omega, by omega, by omega, fun x hx => ?_, fun x hx => ?_, fun x hx => ?_, fun x hx => ?_, fun t ht => ?_⟩
  · have h9 : x.name.size + 1 ≤ _ := mem_le_sum szVar hx
    omega
  · have h9 : x.name.size + 1 ≤ _ := mem_le_sum szVar hx
    omega
  · have h9 : x.size + 1 ≤ _ := mem_le_sum szStr hx
    omega
  · have h9 : x.name.size + 1 ≤ _ := mem_le_sum szVar hx
    omega
  · have h9 : t.name.size + 6 * t.code.length + t.places.length + 1 ≤ _ := mem_le_sum (fun t : ThrD => t.name.size + 6 * t.code.length + t.places.length + 1) ht
    omega
/-- What the sizes say, for a unit. -/
theorem unitS_in {p : PrgD} (h : (p.vars.map szVar).sum + (p.vols.map szVar).sum + (p.locks.map szStr).sum + (p.bars.map szVar).sum + (p.thrs.map fun t => t.name.size + 6 * t.code.length + t.places.length + 1).sum ≤ 1048576) : UnitS p := by
  have a0 := len_le_sum szVar p.vars (fun _ => by unfold szVar; omega)
  have a1 := len_le_sum szVar p.vols (fun _ => by unfold szVar; omega)
  have a2 := len_le_sum szStr p.locks (fun _ => by unfold szStr; omega)
  have a3 := len_le_sum szVar p.bars (fun _ => by unfold szVar; omega)
  refine ⟨small_in h, ?_, fun t ht => ?_⟩
  · unfold declsOf
    simp only [List.length_append, List.length_map]
    omega
  · have h9 : t.name.size + 6 * t.code.length + t.places.length + 1 ≤ _ := mem_le_sum (fun t : ThrD => t.name.size + 6 * t.code.length + t.places.length + 1) ht
    omega
theorem pow10_of {a b : String × DataW Unit} {r : List (String × DataW Unit)} {W : World} (h : laidMetH Tryd.prog (a :: b :: ("internal/strconv.uint64pow10", Rows.laid_internal_strconv_uint64pow10) :: r) W)
    (hp : ((a :: b :: ("internal/strconv.uint64pow10", Rows.laid_internal_strconv_uint64pow10) :: r).all fun x => x.2.handleName?.isNone) = true) : Pow10 W := by
  rw [MakeChecks.laidMetH_plain _ _ _ hp] at h
  exact Lib.tabIs_of_head (g := 0) (by kernel_rfl) (t := 121) (by kernel_rfl) Tryd.underlying121 Tryd.underlying113 (by kernel_rfl) (by kernel_rfl) h.tail.tail
end Go.Proofs.YtaknmhipaifdkaaDoor

/- Small facts that each law's frame wants. -/
set_option linter.unusedSimpArgs false
set_option linter.unusedVariables false
set_option linter.unusedSectionVars false
namespace Go.Proofs.YtaknmhipaifdkaaDoor
open Go.RowKit Go.AB Go.ChangeShapes Go.WideShapes Go.ChangeAt

theorem small_bound {H : Type} {l : List (DataW H)} (hk : Rows.uptoSmall H l = true) : Rows.uptoBulkAll l ≤ 1048576 := of_decide_eq_true hk
theorem cells_one {v : Value} {c : Value} {a : Option Addr} {n cap : Nat} (hv : v = .slice a n cap) (h : v.cells.toList = [c]) : c = v := by
  subst hv
  simpa [Value.cells] using h.symm
theorem cells_str {v : Value} {c : Value} {s : ByteArray} (hv : v = .string s) (h : v.cells.toList = [c]) : c = v := by
  subst hv
  simpa [Value.cells] using h.symm
theorem cells_num {v : Value} {c : Value} {k : IntKind} {n : Int} (hv : v = .int k n) (h : v.cells.toList = [c]) : c = v := by
  subst hv
  simpa [Value.cells] using h.symm
end Go.Proofs.YtaknmhipaifdkaaDoor
