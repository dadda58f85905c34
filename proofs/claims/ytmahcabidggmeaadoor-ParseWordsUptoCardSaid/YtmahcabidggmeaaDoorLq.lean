/- From the form of the rows to plain data: a unit that comes in (parse). -/
import Derived.Test.YtmahcabidggmeaaDoorVpv
import Derived.Test.YtmahcabidggmeaaDoorLaw
set_option linter.unusedVariables false
set_option linter.unusedSimpArgs false
set_option linter.unusedSectionVars false
namespace Go.Proofs.YtmahcabidggmeaaDoor
open Go.RowKit Go.AB Go.ChangeShapes Go.WideShapes Go.ChangeAt
set_option linter.unusedVariables false

theorem Opens.mapE {α β : Type} {w : World} {t k : Nat} {R : α → List Value → Prop} {R' : β → List Value → Prop} {sz : α → Nat} {sz' : β → Nat} (h : Opens w t k R sz) (hi : ∀ a cs, R a cs → ∃ b, R' b cs ∧ sz' b ≤ sz a) : Opens w t k R' sz' := by
  intro H enc base spare held fuel cs x hx
  obtain ⟨h1, a, h2, h3⟩ := h H enc base spare held fuel cs x hx
  obtain ⟨b, h4, h5⟩ := hi a cs h2
  exact ⟨h1, b, h4, Nat.le_trans h5 h3⟩
/-- A slice that is read, its elements' cells said by a function. -/
theorem VL.lst {α : Type} {w : World} {k : Nat} {R : α → List Value → Prop} {f : α → List Value} {v : Value} {xs : List α} (h : VL w k R v xs) (hR : ∀ x cs, R x cs → cs = f x) : Lst f k w v xs := by
  obtain ⟨css, hv, hl, he⟩ := h
  have hfl : css.flatten = xs.flatMap f := by
    have : css = xs.map f := by
      apply List.ext_getElem
      · simp [hl]
      · intro i h1 h2
        rw [hR _ _ (he i (by omega) h1).2]
        simp
    rw [this]
    rfl
  unfold Lst
  rw [← hfl]
  exact hv
theorem VL.all {α : Type} {w : World} {k : Nat} {R : α → List Value → Prop} {v : Value} {xs : List α} (h : VL w k R v xs) {Q : α → Prop} (hR : ∀ x cs, R x cs → Q x) : ∀ x ∈ xs, Q x := by
  obtain ⟨css, hv, hl, he⟩ := h
  intro x hx
  obtain ⟨i, hi, rfl⟩ := List.mem_iff_getElem.1 hx
  exact hR _ _ (he i hi (by omega)).2
theorem wf_i64' {n : Int} (h : (Lit.int .i64 n).wf = true) : -9223372036854775808 ≤ n ∧ n ≤ 9223372036854775807 := by simpa [Lit.wf, IntKind.min, IntKind.max, IntKind.signed, IntKind.bits] using h
theorem len_le_sum {α : Type} (f : α → Nat) (xs : List α) (h : ∀ x, 1 ≤ f x) : xs.length ≤ (xs.map f).sum := by
  induction xs with
  | nil => simp
  | cons x xs ih => have := h x; simp only [List.length_cons, List.map_cons, List.sum_cons]; omega
theorem mem_le_sum {α : Type} (f : α → Nat) {xs : List α} {x : α} (h : x ∈ xs) : f x ≤ (xs.map f).sum := by
  induction xs with
  | nil => cases h
  | cons y ys ih =>
    simp only [List.map_cons, List.sum_cons]
    cases List.mem_cons.1 h with
    | inl e => subst e; omega
    | inr e => have := ih e; omega
theorem list_2 {α : Type} (l : List α) (h : l.length = 2) : ∃ a0 a1, l = [a0, a1] := by
  match l, h with
  | [a0, a1], _ => exact ⟨a0, a1, rfl⟩
theorem list_3 {α : Type} (l : List α) (h : l.length = 3) : ∃ a0 a1 a2, l = [a0, a1, a2] := by
  match l, h with
  | [a0, a1, a2], _ => exact ⟨a0, a1, a2, rfl⟩
theorem list_4 {α : Type} (l : List α) (h : l.length = 4) : ∃ a0 a1 a2 a3, l = [a0, a1, a2, a3] := by
  match l, h with
  | [a0, a1, a2, a3], _ => exact ⟨a0, a1, a2, a3, rfl⟩
theorem list_5 {α : Type} (l : List α) (h : l.length = 5) : ∃ a0 a1 a2 a3 a4, l = [a0, a1, a2, a3, a4] := by
  match l, h with
  | [a0, a1, a2, a3, a4], _ => exact ⟨a0, a1, a2, a3, a4, rfl⟩
theorem list_8 {α : Type} (l : List α) (h : l.length = 8) : ∃ a0 a1 a2 a3 a4 a5 a6 a7, l = [a0, a1, a2, a3, a4, a5, a6, a7] := by
  match l, h with
  | [a0, a1, a2, a3, a4, a5, a6, a7], _ => exact ⟨a0, a1, a2, a3, a4, a5, a6, a7, rfl⟩
theorem list_10 {α : Type} (l : List α) (h : l.length = 10) : ∃ a0 a1 a2 a3 a4 a5 a6 a7 a8 a9, l = [a0, a1, a2, a3, a4, a5, a6, a7, a8, a9] := by
  match l, h with
  | [a0, a1, a2, a3, a4, a5, a6, a7, a8, a9], _ => exact ⟨a0, a1, a2, a3, a4, a5, a6, a7, a8, a9, rfl⟩
theorem opens_st11 {α0 α1 : Type} {w : World} {t : Nat} {f0 f1 : Field} (ht : Tryd.prog.underlying t = some (.struct #[f0, f1])) (hc : Tryd.prog.cellsOf t = 2)
    (o0 : (f0.offset, Tryd.prog.cellsOf f0.type) = (0, 1)) (o1 : (f1.offset, Tryd.prog.cellsOf f1.type) = (1, 1))
    {R0 : α0 → List Value → Prop} {s0 : α0 → Nat} {R1 : α1 → List Value → Prop} {s1 : α1 → Nat}
    (h0 : Opens w f0.type 1 R0 s0) (h1 : Opens w f1.type 1 R1 s1) :
    Opens w t 2 (fun (p : α0 × α1) cs => ∃ c0 c1, cs = [c0, c1] ∧ R0 p.1 [c0] ∧ R1 p.2 [c1]) (fun p => s0 p.1 + s1 p.2 + 1) := by
  intro H enc base spare held fuel cs x h
  obtain ⟨xs, n, _, rfl, hl, hxl, hx⟩ := DataW.trod_struct ht h
  rw [hc] at hl
  simp only [Prod.mk.injEq] at o0 o1
  obtain ⟨c0, c1, rfl⟩ := list_2 cs hl
  obtain ⟨x0, x1, rfl⟩ := list_2 xs (by simpa using hxl)
  have e0 := hx 0 f0 rfl
  have e1 := hx 1 f1 rfl
  rw [o0.1, o0.2] at e0
  rw [o1.1, o1.2] at e1
  obtain ⟨_, a0, r0, b0⟩ := h0 H enc base spare held n [c0] x0 e0
  obtain ⟨_, a1, r1, b1⟩ := h1 H enc base spare held n [c1] x1 e1
  refine ⟨rfl, (a0, a1), ⟨c0, c1, rfl, r0, r1⟩, ?_⟩
  simp only [List.map_cons, List.map_nil, Rows.uptoBulk, Rows.uptoBulkAll]
  omega
theorem opens_st112 {α0 α1 α2 : Type} {w : World} {t : Nat} {f0 f1 f2 : Field} (ht : Tryd.prog.underlying t = some (.struct #[f0, f1, f2])) (hc : Tryd.prog.cellsOf t = 4)
    (o0 : (f0.offset, Tryd.prog.cellsOf f0.type) = (0, 1)) (o1 : (f1.offset, Tryd.prog.cellsOf f1.type) = (1, 1)) (o2 : (f2.offset, Tryd.prog.cellsOf f2.type) = (2, 2))
    {R0 : α0 → List Value → Prop} {s0 : α0 → Nat} {R1 : α1 → List Value → Prop} {s1 : α1 → Nat} {R2 : α2 → List Value → Prop} {s2 : α2 → Nat}
    (h0 : Opens w f0.type 1 R0 s0) (h1 : Opens w f1.type 1 R1 s1) (h2 : Opens w f2.type 2 R2 s2) :
    Opens w t 4 (fun (p : α0 × α1 × α2) cs => ∃ c0 c1 c2 c3, cs = [c0, c1, c2, c3] ∧ R0 p.1 [c0] ∧ R1 p.2.1 [c1] ∧ R2 p.2.2 [c2, c3]) (fun p => s0 p.1 + s1 p.2.1 + s2 p.2.2 + 1) := by
  intro H enc base spare held fuel cs x h
  obtain ⟨xs, n, _, rfl, hl, hxl, hx⟩ := DataW.trod_struct ht h
  rw [hc] at hl
  simp only [Prod.mk.injEq] at o0 o1 o2
  obtain ⟨c0, c1, c2, c3, rfl⟩ := list_4 cs hl
  obtain ⟨x0, x1, x2, rfl⟩ := list_3 xs (by simpa using hxl)
  have e0 := hx 0 f0 rfl
  have e1 := hx 1 f1 rfl
  have e2 := hx 2 f2 rfl
  rw [o0.1, o0.2] at e0
  rw [o1.1, o1.2] at e1
  rw [o2.1, o2.2] at e2
  obtain ⟨_, a0, r0, b0⟩ := h0 H enc base spare held n [c0] x0 e0
  obtain ⟨_, a1, r1, b1⟩ := h1 H enc base spare held n [c1] x1 e1
  obtain ⟨_, a2, r2, b2⟩ := h2 H enc base spare held n [c2, c3] x2 e2
  refine ⟨rfl, (a0, a1, a2), ⟨c0, c1, c2, c3, rfl, r0, r1, r2⟩, ?_⟩
  simp only [List.map_cons, List.map_nil, Rows.uptoBulk, Rows.uptoBulkAll]
  omega
theorem opens_st1112 {α0 α1 α2 α3 : Type} {w : World} {t : Nat} {f0 f1 f2 f3 : Field} (ht : Tryd.prog.underlying t = some (.struct #[f0, f1, f2, f3])) (hc : Tryd.prog.cellsOf t = 5)
    (o0 : (f0.offset, Tryd.prog.cellsOf f0.type) = (0, 1)) (o1 : (f1.offset, Tryd.prog.cellsOf f1.type) = (1, 1)) (o2 : (f2.offset, Tryd.prog.cellsOf f2.type) = (2, 1)) (o3 : (f3.offset, Tryd.prog.cellsOf f3.type) = (3, 2))
    {R0 : α0 → List Value → Prop} {s0 : α0 → Nat} {R1 : α1 → List Value → Prop} {s1 : α1 → Nat} {R2 : α2 → List Value → Prop} {s2 : α2 → Nat} {R3 : α3 → List Value → Prop} {s3 : α3 → Nat}
    (h0 : Opens w f0.type 1 R0 s0) (h1 : Opens w f1.type 1 R1 s1) (h2 : Opens w f2.type 1 R2 s2) (h3 : Opens w f3.type 2 R3 s3) :
    Opens w t 5 (fun (p : α0 × α1 × α2 × α3) cs => ∃ c0 c1 c2 c3 c4, cs = [c0, c1, c2, c3, c4] ∧ R0 p.1 [c0] ∧ R1 p.2.1 [c1] ∧ R2 p.2.2.1 [c2] ∧ R3 p.2.2.2 [c3, c4]) (fun p => s0 p.1 + s1 p.2.1 + s2 p.2.2.1 + s3 p.2.2.2 + 1) := by
  intro H enc base spare held fuel cs x h
  obtain ⟨xs, n, _, rfl, hl, hxl, hx⟩ := DataW.trod_struct ht h
  rw [hc] at hl
  simp only [Prod.mk.injEq] at o0 o1 o2 o3
  obtain ⟨c0, c1, c2, c3, c4, rfl⟩ := list_5 cs hl
  obtain ⟨x0, x1, x2, x3, rfl⟩ := list_4 xs (by simpa using hxl)
  have e0 := hx 0 f0 rfl
  have e1 := hx 1 f1 rfl
  have e2 := hx 2 f2 rfl
  have e3 := hx 3 f3 rfl
  rw [o0.1, o0.2] at e0
  rw [o1.1, o1.2] at e1
  rw [o2.1, o2.2] at e2
  rw [o3.1, o3.2] at e3
  obtain ⟨_, a0, r0, b0⟩ := h0 H enc base spare held n [c0] x0 e0
  obtain ⟨_, a1, r1, b1⟩ := h1 H enc base spare held n [c1] x1 e1
  obtain ⟨_, a2, r2, b2⟩ := h2 H enc base spare held n [c2] x2 e2
  obtain ⟨_, a3, r3, b3⟩ := h3 H enc base spare held n [c3, c4] x3 e3
  refine ⟨rfl, (a0, a1, a2, a3), ⟨c0, c1, c2, c3, c4, rfl, r0, r1, r2, r3⟩, ?_⟩
  simp only [List.map_cons, List.map_nil, Rows.uptoBulk, Rows.uptoBulkAll]
  omega
theorem opens_st8 {α0 α1 α2 α3 α4 α5 α6 α7 : Type} {w : World} {t : Nat} {f0 f1 f2 f3 f4 f5 f6 f7 : Field} (ht : Tryd.prog.underlying t = some (.struct #[f0, f1, f2, f3, f4, f5, f6, f7])) (hc : Tryd.prog.cellsOf t = 10)
    (o0 : (f0.offset, Tryd.prog.cellsOf f0.type) = (0, 1)) (o1 : (f1.offset, Tryd.prog.cellsOf f1.type) = (1, 1)) (o2 : (f2.offset, Tryd.prog.cellsOf f2.type) = (2, 1)) (o3 : (f3.offset, Tryd.prog.cellsOf f3.type) = (3, 1)) (o4 : (f4.offset, Tryd.prog.cellsOf f4.type) = (4, 1)) (o5 : (f5.offset, Tryd.prog.cellsOf f5.type) = (5, 1)) (o6 : (f6.offset, Tryd.prog.cellsOf f6.type) = (6, 2)) (o7 : (f7.offset, Tryd.prog.cellsOf f7.type) = (8, 2))
    {R0 : α0 → List Value → Prop} {s0 : α0 → Nat} {R1 : α1 → List Value → Prop} {s1 : α1 → Nat} {R2 : α2 → List Value → Prop} {s2 : α2 → Nat} {R3 : α3 → List Value → Prop} {s3 : α3 → Nat} {R4 : α4 → List Value → Prop} {s4 : α4 → Nat} {R5 : α5 → List Value → Prop} {s5 : α5 → Nat} {R6 : α6 → List Value → Prop} {s6 : α6 → Nat} {R7 : α7 → List Value → Prop} {s7 : α7 → Nat}
    (h0 : Opens w f0.type 1 R0 s0) (h1 : Opens w f1.type 1 R1 s1) (h2 : Opens w f2.type 1 R2 s2) (h3 : Opens w f3.type 1 R3 s3) (h4 : Opens w f4.type 1 R4 s4) (h5 : Opens w f5.type 1 R5 s5) (h6 : Opens w f6.type 2 R6 s6) (h7 : Opens w f7.type 2 R7 s7) :
    Opens w t 10 (fun (p : α0 × α1 × α2 × α3 × α4 × α5 × α6 × α7) cs => ∃ c0 c1 c2 c3 c4 c5 c6 c7 c8 c9, cs = [c0, c1, c2, c3, c4, c5, c6, c7, c8, c9] ∧ R0 p.1 [c0] ∧ R1 p.2.1 [c1] ∧ R2 p.2.2.1 [c2] ∧ R3 p.2.2.2.1 [c3] ∧ R4 p.2.2.2.2.1 [c4] ∧ R5 p.2.2.2.2.2.1 [c5] ∧ R6 p.2.2.2.2.2.2.1 [c6, c7] ∧ R7 p.2.2.2.2.2.2.2 [c8, c9]) (fun p => s0 p.1 + s1 p.2.1 + s2 p.2.2.1 + s3 p.2.2.2.1 + s4 p.2.2.2.2.1 + s5 p.2.2.2.2.2.1 + s6 p.2.2.2.2.2.2.1 + s7 p.2.2.2.2.2.2.2 + 1) := by
  intro H enc base spare held fuel cs x h
  obtain ⟨xs, n, _, rfl, hl, hxl, hx⟩ := DataW.trod_struct ht h
  rw [hc] at hl
  simp only [Prod.mk.injEq] at o0 o1 o2 o3 o4 o5 o6 o7
  obtain ⟨c0, c1, c2, c3, c4, c5, c6, c7, c8, c9, rfl⟩ := list_10 cs hl
  obtain ⟨x0, x1, x2, x3, x4, x5, x6, x7, rfl⟩ := list_8 xs (by simpa using hxl)
  have e0 := hx 0 f0 rfl
  have e1 := hx 1 f1 rfl
  have e2 := hx 2 f2 rfl
  have e3 := hx 3 f3 rfl
  have e4 := hx 4 f4 rfl
  have e5 := hx 5 f5 rfl
  have e6 := hx 6 f6 rfl
  have e7 := hx 7 f7 rfl
  rw [o0.1, o0.2] at e0
  rw [o1.1, o1.2] at e1
  rw [o2.1, o2.2] at e2
  rw [o3.1, o3.2] at e3
  rw [o4.1, o4.2] at e4
  rw [o5.1, o5.2] at e5
  rw [o6.1, o6.2] at e6
  rw [o7.1, o7.2] at e7
  obtain ⟨_, a0, r0, b0⟩ := h0 H enc base spare held n [c0] x0 e0
  obtain ⟨_, a1, r1, b1⟩ := h1 H enc base spare held n [c1] x1 e1
  obtain ⟨_, a2, r2, b2⟩ := h2 H enc base spare held n [c2] x2 e2
  obtain ⟨_, a3, r3, b3⟩ := h3 H enc base spare held n [c3] x3 e3
  obtain ⟨_, a4, r4, b4⟩ := h4 H enc base spare held n [c4] x4 e4
  obtain ⟨_, a5, r5, b5⟩ := h5 H enc base spare held n [c5] x5 e5
  obtain ⟨_, a6, r6, b6⟩ := h6 H enc base spare held n [c6, c7] x6 e6
  obtain ⟨_, a7, r7, b7⟩ := h7 H enc base spare held n [c8, c9] x7 e7
  refine ⟨rfl, (a0, a1, a2, a3, a4, a5, a6, a7), ⟨c0, c1, c2, c3, c4, c5, c6, c7, c8, c9, rfl, r0, r1, r2, r3, r4, r5, r6, r7⟩, ?_⟩
  simp only [List.map_cons, List.map_nil, Rows.uptoBulk, Rows.uptoBulkAll]
  omega

/-- A number of 64 bits. -/
def Wf (n : Int) : Prop := -9223372036854775808 ≤ n ∧ n ≤ 9223372036854775807
def ItWf (x : ItD) : Prop := Wf x.op ∧ Wf x.a ∧ Wf x.b ∧ Wf x.c ∧ Wf x.n ∧ Wf x.p1 ∧ Wf x.p2 ∧ Wf x.q1 ∧ Wf x.q2
def DcWf (d : DcD) : Prop := Wf d.kind ∧ Wf d.val ∧ Wf d.l ∧ Wf d.c
def BkWf (k : BkD) : Prop := Wf k.l ∧ Wf k.c ∧ ∀ x ∈ k.items, ItWf x
def szIt (x : ItD) : Nat := x.name.size + 9
def szDc (d : DcD) : Nat := d.name.size + 1
def szBk (k : BkD) : Nat := k.name.size + (k.items.map szIt).sum + 1
section
variable (w : World)
theorem opens_plc : Opens w 38 2 (fun (p : Int × Int) cs => cs = [.int .i64 p.1, .int .i64 p.2] ∧ Wf p.1 ∧ Wf p.2) (fun _ => 1) :=
  (opens_st11 Tryd.underlying38 (by kernel_rfl) (by kernel_rfl) (by kernel_rfl) (opens_int Tryd.underlying3) (opens_int Tryd.underlying3)).mapE (fun p cs h => by
    obtain ⟨c0, c1, rfl, ⟨h0, w0⟩, h1, w1⟩ := h
    simp only [List.cons.injEq, and_true] at h0 h1
    subst h0 h1
    exact ⟨p, ⟨rfl, wf_i64' w0, wf_i64' w1⟩, by omega⟩)
theorem opens_itm : Opens w 88 10 (fun (x : ItD) cs => cs = itC x ∧ ItWf x) szIt :=
  (opens_st8 Tryd.underlying88 (by kernel_rfl) (by kernel_rfl) (by kernel_rfl) (by kernel_rfl) (by kernel_rfl) (by kernel_rfl) (by kernel_rfl) (by kernel_rfl) (by kernel_rfl) (opens_int Tryd.underlying24) (opens_int Tryd.underlying3) (opens_int Tryd.underlying3) (opens_int Tryd.underlying3) (opens_int Tryd.underlying3)
    (opens_string Tryd.underlying9) (opens_plc w) (opens_plc w)).mapE (fun p cs h => by
    obtain ⟨c0, c1, c2, c3, c4, c5, c6, c7, c8, c9, rfl, ⟨h0, w0⟩, ⟨h1, w1⟩, ⟨h2, w2⟩, ⟨h3, w3⟩, ⟨h4, w4⟩, h5, ⟨h6, w6, w7⟩, h8, w8, w9⟩ := h
    simp only [List.cons.injEq, and_true] at h0 h1 h2 h3 h4 h5 h6 h8
    obtain ⟨rfl, rfl⟩ := h6
    obtain ⟨rfl, rfl⟩ := h8
    subst h0 h1 h2 h3 h4 h5
    obtain ⟨p0, p1, p2, p3, p4, p5, ⟨p6, p7⟩, p8, p9⟩ := p
    exact ⟨⟨p0, p1, p2, p3, p4, p5, p6, p7, p8, p9⟩, ⟨rfl, wf_i64' w0, wf_i64' w1, wf_i64' w2, wf_i64' w3, wf_i64' w4, w6, w7, w8, w9⟩, by unfold szIt; simp only; omega⟩)
theorem opens_dcl : Opens w 83 5 (fun (x : DcD) cs => cs = dcC x ∧ DcWf x) szDc :=
  (opens_st1112 Tryd.underlying83 (by kernel_rfl) (by kernel_rfl) (by kernel_rfl) (by kernel_rfl) (by kernel_rfl) (opens_int Tryd.underlying81) (opens_string Tryd.underlying9) (opens_int Tryd.underlying3) (opens_plc w)).mapE (fun p cs h => by
    obtain ⟨c0, c1, c2, c3, c4, rfl, ⟨h0, w0⟩, h1, ⟨h2, w2⟩, h3, w3, w4⟩ := h
    simp only [List.cons.injEq, and_true] at h0 h1 h2 h3
    obtain ⟨rfl, rfl⟩ := h3
    subst h0 h1 h2
    obtain ⟨p0, p1, p2, p3, p4⟩ := p
    exact ⟨⟨p0, p1, p2, p3, p4⟩, ⟨rfl, wf_i64' w0, wf_i64' w2, w3, w4⟩, by unfold szDc; simp only; omega⟩)
theorem opens_blk : Opens w 86 4 (fun (x : BkV) cs => cs = bkC x ∧ Lst itC 10 w x.items x.b.items ∧ BkWf x.b) (fun x => szBk x.b) :=
  (opens_st112 Tryd.underlying86 (by kernel_rfl) (by kernel_rfl) (by kernel_rfl) (by kernel_rfl) (opens_string Tryd.underlying9) (opens_slice Tryd.underlying84 (by kernel_rfl) (opens_itm w)) (opens_plc w)).mapE (fun p cs h => by
    obtain ⟨c0, c1, c2, c3, rfl, h0, ⟨v1, h1, l1⟩, h2, w2, w3⟩ := h
    simp only [List.cons.injEq, and_true] at h0 h1 h2
    obtain ⟨rfl, rfl⟩ := h2
    subst h0 h1
    obtain ⟨p0, p1, p2, p3⟩ := p
    refine ⟨⟨⟨p0, p1, p2, p3⟩, c1⟩, ⟨rfl, l1.lst (fun x cs h => h.1), w2, w3, l1.all (fun x cs h => h.2)⟩, ?_⟩
    unfold szBk
    simp only
    omega)
/-- A unit that comes in: what is read of it. -/
def WfU (u : UnD) : Prop := (∀ d ∈ u.decls, DcWf d) ∧ ∀ k ∈ u.blocks, BkWf k
theorem opens_unit : Opens w 32 2 (fun (u : UnD) cs => UnV w (.agg cs.toArray) u ∧ WfU u) (fun u => (u.decls.map szDc).sum + (u.blocks.map szBk).sum) :=
  (opens_st11 Tryd.underlying32 (by kernel_rfl) (by kernel_rfl) (by kernel_rfl) (opens_slice Tryd.underlying29 (by kernel_rfl) (opens_dcl w)) (opens_slice Tryd.underlying30 (by kernel_rfl) (opens_blk w))).mapE (fun p cs h => by
    obtain ⟨c0, c1, rfl, ⟨v0, h0, l0⟩, v1, h1, l1⟩ := h
    simp only [List.cons.injEq, and_true] at h0 h1
    subst h0 h1
    obtain ⟨ds, bs⟩ := p
    simp only at l0 l1
    refine ⟨⟨ds, bs.map BkV.b⟩, ⟨⟨_, _, bs, rfl, l0.lst (fun x cs h => h.1), l1.lst (fun x cs h => h.1), rfl, l1.all (fun x cs h => h.2.1)⟩, l0.all (fun x cs h => h.2), fun k hk => ?_⟩, ?_⟩
    · obtain ⟨x, hx, rfl⟩ := List.mem_map.1 hk
      exact l1.all (Q := fun x => BkWf x.b) (fun x cs h => h.2.2) x hx
    · simp only [List.map_map]
      show _ ≤ (ds.map szDc).sum + 1 + ((bs.map fun x => szBk x.b).sum + 1) + 1
      have : (bs.map (szBk ∘ BkV.b)).sum = (bs.map fun x => szBk x.b).sum := rfl
      omega)
end
theorem small_item {x : ItD} (h : x.name.size ≤ 1048576) (h1 : Wf x.a) (h2 : Wf x.b) (h3 : Wf x.c) (h4 : Wf x.n) : SmallI x := by
  refine ⟨h, h4.1, h4.2, fun k hk => ?_⟩
  unfold regOf
  split
  · exact h1
  · split
    · exact h2
    · exact h3
/-- What the sizes say. -/
theorem small_unn {u : UnD} (hw : WfU u) (h : (u.decls.map szDc).sum + (u.blocks.map szBk).sum ≤ 1048576) : SmallN u ∧ UnW u := by
  have a0 := len_le_sum szDc u.decls (fun _ => by unfold szDc; omega)
  have a1 := len_le_sum szBk u.blocks (fun _ => by unfold szBk; omega)
  refine ⟨⟨by omega, by omega, fun k hk => ?_, fun d hd => ?_, fun k hk => ?_, fun k hk x hx => ?_⟩, fun d hd => (hw.1 d hd).2.1, fun k hk x hx => ((hw.2 k hk).2.2 x hx).2.2.2.2.1⟩
  · have h9 : k.name.size + (k.items.map szIt).sum + 1 ≤ _ := mem_le_sum szBk hk
    have a2 := len_le_sum szIt k.items (fun _ => by unfold szIt; omega)
    omega
  · have h9 : d.name.size + 1 ≤ _ := mem_le_sum szDc hd
    exact ⟨by omega, (hw.1 d hd).2.1⟩
  · have h9 : k.name.size + (k.items.map szIt).sum + 1 ≤ _ := mem_le_sum szBk hk
    omega
  · have h9 : k.name.size + (k.items.map szIt).sum + 1 ≤ _ := mem_le_sum szBk hk
    have h8 : x.name.size + 9 ≤ _ := mem_le_sum szIt hx
    obtain ⟨w0, w1, w2, w3, w4, _⟩ := (hw.2 k hk).2.2 x hx
    exact small_item (by omega) w1 w2 w3 w4
end Go.Proofs.YtmahcabidggmeaaDoor
