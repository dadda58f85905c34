/- From the form of the rows to plain data: what the laws of the trace are asked; what their rows' conditions say. -/
import Derived.Test.YtbghkodcfedebaaGreatDoorTrv
import Derived.Test.YtbghkodcfedebaaGreatDoorTj3
set_option linter.unusedVariables false
set_option linter.unusedSectionVars false
set_option linter.unusedSimpArgs false
namespace Go.Proofs.YtbghkodcfedebaaGreatDoor
open Go.RowKit Go.AB Go.ChangeShapes Go.WideShapes Go.ChangeAt
theorem Opens.mapE {α β : Type} {w : World} {t k : Nat} {R : α → List Value → Prop} {R' : β → List Value → Prop} {sz : α → Nat} {sz' : β → Nat} (h : Opens w t k R sz) (hi : ∀ a cs, R a cs → ∃ b, R' b cs ∧ sz' b ≤ sz a) : Opens w t k R' sz' := by
  intro H enc base spare held fuel cs x hx
  obtain ⟨h1, a, h2, h3⟩ := h H enc base spare held fuel cs x hx
  obtain ⟨b, h4, h5⟩ := hi a cs h2
  exact ⟨h1, b, h4, Nat.le_trans h5 h3⟩
/-- A slice that is read, its elements' cells said by a function. -/
theorem VL.lst {α : Type} {w : World} {k : Nat} {R : α → List Value → Prop} {f : α → List Value} {v : Value} {xs : List α} (h : VL w k R v xs) (hR : ∀ x cs, R x cs → cs = f x) : Lst f k w v xs := by
  obtain ⟨css, hv, hl, he⟩ := h
  have hfl : css.flatten = xs.flatMap f := by
    have : css = xs.map f := by
      apply List.ext_getElem
      · simp [hl]
      · intro i h1 h2
        rw [hR _ _ (he i (by omega) h1).2]
        simp
    rw [this]
    rfl
  unfold Lst
  rw [← hfl]
  exact hv
theorem wf_i64' {n : Int} (h : (Lit.int .i64 n).wf = true) : -9223372036854775808 ≤ n ∧ n ≤ 9223372036854775807 := by simpa [Lit.wf, IntKind.min, IntKind.max, IntKind.signed, IntKind.bits] using h
theorem len_le_sum {α : Type} (f : α → Nat) (xs : List α) (h : ∀ x, 1 ≤ f x) : xs.length ≤ (xs.map f).sum := by
  induction xs with
  | nil => simp
  | cons x xs ih => have := h x; simp only [List.length_cons, List.map_cons, List.sum_cons]; omega
theorem mem_le_sum {α : Type} (f : α → Nat) {xs : List α} {x : α} (h : x ∈ xs) : f x ≤ (xs.map f).sum := by
  induction xs with
  | nil => cases h
  | cons y ys ih =>
    simp only [List.map_cons, List.sum_cons]
    cases List.mem_cons.1 h with
    | inl e => subst e; omega
    | inr e => have := ih e; omega
theorem list_3 {α : Type} (l : List α) (h : l.length = 3) : ∃ a0 a1 a2, l = [a0, a1, a2] := by
  match l, h with
  | [a0, a1, a2], _ => exact ⟨a0, a1, a2, rfl⟩
theorem list_7 {α : Type} (l : List α) (h : l.length = 7) : ∃ a0 a1 a2 a3 a4 a5 a6, l = [a0, a1, a2, a3, a4, a5, a6] := by
  match l, h with
  | [a0, a1, a2, a3, a4, a5, a6], _ => exact ⟨a0, a1, a2, a3, a4, a5, a6, rfl⟩
theorem list_9 {α : Type} (l : List α) (h : l.length = 9) : ∃ a0 a1 a2 a3 a4 a5 a6 a7 a8, l = [a0, a1, a2, a3, a4, a5, a6, a7, a8] := by
  match l, h with
  | [a0, a1, a2, a3, a4, a5, a6, a7, a8], _ => exact ⟨a0, a1, a2, a3, a4, a5, a6, a7, a8, rfl⟩
theorem opens_st111 {α0 α1 α2 : Type} {w : World} {t : Nat} {f0 f1 f2 : Field} (ht : Tryz.prog.underlying t = some (.struct #[f0, f1, f2])) (hc : Tryz.prog.cellsOf t = 3)
    (o0 : (f0.offset, Tryz.prog.cellsOf f0.type) = (0, 1)) (o1 : (f1.offset, Tryz.prog.cellsOf f1.type) = (1, 1)) (o2 : (f2.offset, Tryz.prog.cellsOf f2.type) = (2, 1))
    {R0 : α0 → List Value → Prop} {s0 : α0 → Nat} {R1 : α1 → List Value → Prop} {s1 : α1 → Nat} {R2 : α2 → List Value → Prop} {s2 : α2 → Nat}
    (h0 : Opens w f0.type 1 R0 s0) (h1 : Opens w f1.type 1 R1 s1) (h2 : Opens w f2.type 1 R2 s2) :
    Opens w t 3 (fun (p : α0 × α1 × α2) cs => ∃ c0 c1 c2, cs = [c0, c1, c2] ∧ R0 p.1 [c0] ∧ R1 p.2.1 [c1] ∧ R2 p.2.2 [c2]) (fun p => s0 p.1 + s1 p.2.1 + s2 p.2.2 + 1) := by
  intro H enc base spare held fuel cs x h
  obtain ⟨xs, n, _, rfl, hl, hxl, hx⟩ := DataW.trod_struct ht h
  rw [hc] at hl
  simp only [Prod.mk.injEq] at o0 o1 o2
  obtain ⟨c0, c1, c2, rfl⟩ := list_3 cs hl
  obtain ⟨x0, x1, x2, rfl⟩ := list_3 xs (by simpa using hxl)
  have e0 := hx 0 f0 rfl
  have e1 := hx 1 f1 rfl
  have e2 := hx 2 f2 rfl
  rw [o0.1, o0.2] at e0
  rw [o1.1, o1.2] at e1
  rw [o2.1, o2.2] at e2
  obtain ⟨_, a0, r0, b0⟩ := h0 H enc base spare held n [c0] x0 e0
  obtain ⟨_, a1, r1, b1⟩ := h1 H enc base spare held n [c1] x1 e1
  obtain ⟨_, a2, r2, b2⟩ := h2 H enc base spare held n [c2] x2 e2
  refine ⟨rfl, (a0, a1, a2), ⟨c0, c1, c2, rfl, r0, r1, r2⟩, ?_⟩
  simp only [List.map_cons, List.map_nil, Rows.uptoBulk, Rows.uptoBulkAll]
  omega
theorem opens_st13 {α0 α1 α2 α3 α4 α5 α6 : Type} {w : World} {t : Nat} {f0 f1 f2 f3 f4 f5 f6 : Field} (ht : Tryz.prog.underlying t = some (.struct #[f0, f1, f2, f3, f4, f5, f6])) (hc : Tryz.prog.cellsOf t = 9)
    (o0 : (f0.offset, Tryz.prog.cellsOf f0.type) = (0, 1)) (o1 : (f1.offset, Tryz.prog.cellsOf f1.type) = (1, 3)) (o2 : (f2.offset, Tryz.prog.cellsOf f2.type) = (4, 1)) (o3 : (f3.offset, Tryz.prog.cellsOf f3.type) = (5, 1)) (o4 : (f4.offset, Tryz.prog.cellsOf f4.type) = (6, 1)) (o5 : (f5.offset, Tryz.prog.cellsOf f5.type) = (7, 1)) (o6 : (f6.offset, Tryz.prog.cellsOf f6.type) = (8, 1))
    {R0 : α0 → List Value → Prop} {s0 : α0 → Nat} {R1 : α1 → List Value → Prop} {s1 : α1 → Nat} {R2 : α2 → List Value → Prop} {s2 : α2 → Nat} {R3 : α3 → List Value → Prop} {s3 : α3 → Nat} {R4 : α4 → List Value → Prop} {s4 : α4 → Nat} {R5 : α5 → List Value → Prop} {s5 : α5 → Nat} {R6 : α6 → List Value → Prop} {s6 : α6 → Nat}
    (h0 : Opens w f0.type 1 R0 s0) (h1 : Opens w f1.type 3 R1 s1) (h2 : Opens w f2.type 1 R2 s2) (h3 : Opens w f3.type 1 R3 s3) (h4 : Opens w f4.type 1 R4 s4) (h5 : Opens w f5.type 1 R5 s5) (h6 : Opens w f6.type 1 R6 s6) :
    Opens w t 9 (fun (p : α0 × α1 × α2 × α3 × α4 × α5 × α6) cs => ∃ c0 c1 c2 c3 c4 c5 c6 c7 c8, cs = [c0, c1, c2, c3, c4, c5, c6, c7, c8] ∧ R0 p.1 [c0] ∧ R1 p.2.1 [c1, c2, c3] ∧ R2 p.2.2.1 [c4] ∧ R3 p.2.2.2.1 [c5] ∧ R4 p.2.2.2.2.1 [c6] ∧ R5 p.2.2.2.2.2.1 [c7] ∧ R6 p.2.2.2.2.2.2 [c8]) (fun p => s0 p.1 + s1 p.2.1 + s2 p.2.2.1 + s3 p.2.2.2.1 + s4 p.2.2.2.2.1 + s5 p.2.2.2.2.2.1 + s6 p.2.2.2.2.2.2 + 1) := by
  intro H enc base spare held fuel cs x h
  obtain ⟨xs, n, _, rfl, hl, hxl, hx⟩ := DataW.trod_struct ht h
  rw [hc] at hl
  simp only [Prod.mk.injEq] at o0 o1 o2 o3 o4 o5 o6
  obtain ⟨c0, c1, c2, c3, c4, c5, c6, c7, c8, rfl⟩ := list_9 cs hl
  obtain ⟨x0, x1, x2, x3, x4, x5, x6, rfl⟩ := list_7 xs (by simpa using hxl)
  have e0 := hx 0 f0 rfl
  have e1 := hx 1 f1 rfl
  have e2 := hx 2 f2 rfl
  have e3 := hx 3 f3 rfl
  have e4 := hx 4 f4 rfl
  have e5 := hx 5 f5 rfl
  have e6 := hx 6 f6 rfl
  rw [o0.1, o0.2] at e0
  rw [o1.1, o1.2] at e1
  rw [o2.1, o2.2] at e2
  rw [o3.1, o3.2] at e3
  rw [o4.1, o4.2] at e4
  rw [o5.1, o5.2] at e5
  rw [o6.1, o6.2] at e6
  obtain ⟨_, a0, r0, b0⟩ := h0 H enc base spare held n [c0] x0 e0
  obtain ⟨_, a1, r1, b1⟩ := h1 H enc base spare held n [c1, c2, c3] x1 e1
  obtain ⟨_, a2, r2, b2⟩ := h2 H enc base spare held n [c4] x2 e2
  obtain ⟨_, a3, r3, b3⟩ := h3 H enc base spare held n [c5] x3 e3
  obtain ⟨_, a4, r4, b4⟩ := h4 H enc base spare held n [c6] x4 e4
  obtain ⟨_, a5, r5, b5⟩ := h5 H enc base spare held n [c7] x5 e5
  obtain ⟨_, a6, r6, b6⟩ := h6 H enc base spare held n [c8] x6 e6
  refine ⟨rfl, (a0, a1, a2, a3, a4, a5, a6), ⟨c0, c1, c2, c3, c4, c5, c6, c7, c8, rfl, r0, r1, r2, r3, r4, r5, r6⟩, ?_⟩
  simp only [List.map_cons, List.map_nil, Rows.uptoBulk, Rows.uptoBulkAll]
  omega
structure AskD where
  list : List Ev
  e : Ev
  threads : List Int
  turns : List Int
  text : ByteArray
  bytes : List UInt8
  leave : Int
def intC (n : Int) : List Value := [.int .i64 n]
/-- What is asked, as it lies in memory. -/
def AskV (w : World) (v : Value) (a : AskD) : Prop := ∃ va vt vu vb, v = .agg #[va, .int .i64 a.e.k, .int .i64 a.e.t, .int .i64 a.e.o, vt, vu, .string a.text, vb, .int .i64 a.leave] ∧
  Lst evC 3 w va a.list ∧ Lst intC 1 w vt a.threads ∧ Lst intC 1 w vu a.turns ∧ Bytes w vb a.bytes
section
variable (w : World)
theorem opens_event : Opens w 28 3 (fun (x : Ev) cs => cs = evC x) (fun _ => 1) :=
  (opens_st111 Tryz.underlying28 (by kernel_rfl) (by kernel_rfl) (by kernel_rfl) (by kernel_rfl) (opens_int Tryz.underlying26) (opens_int Tryz.underlying3) (opens_int Tryz.underlying3)).mapE (fun p cs h => by
    obtain ⟨c0, c1, c2, rfl, ⟨h0, w0⟩, ⟨h1, w1⟩, ⟨h2, w2⟩⟩ := h
    simp only [List.cons.injEq, and_true] at h0 h1 h2
    subst h0 h1 h2
    exact ⟨⟨p.1, p.2.1, p.2.2⟩, rfl, by omega⟩)
theorem opens_ask : Opens w 56 9 (fun (a : AskD) cs => AskV w (.agg cs.toArray) a) (fun a => a.list.length + a.threads.length + a.turns.length + a.text.size + a.bytes.length) :=
  (opens_st13 Tryz.underlying56 (by kernel_rfl) (by kernel_rfl) (by kernel_rfl) (by kernel_rfl) (by kernel_rfl) (by kernel_rfl) (by kernel_rfl) (by kernel_rfl)
    (opens_slice Tryz.underlying22 (by kernel_rfl) (opens_event w)) (opens_event w) (opens_slice Tryz.underlying54 (by kernel_rfl) (opens_int Tryz.underlying3)) (opens_slice Tryz.underlying54 (by kernel_rfl) (opens_int Tryz.underlying3))
    (opens_string Tryz.underlying9) (opens_bytes w) (opens_int Tryz.underlying3)).mapE (fun p cs h => by
    obtain ⟨c0, c1, c2, c3, c4, c5, c6, c7, c8, rfl, ⟨v0, h0, l0⟩, h1, ⟨v2, h2, l2⟩, ⟨v3, h3, l3⟩, h4, ⟨v5, h5, l5⟩, h6, w6⟩ := h
    unfold evC at h1
    simp only [List.cons.injEq, and_true] at h0 h1 h2 h3 h4 h5 h6
    obtain ⟨rfl, rfl, rfl⟩ := h1
    subst h0 h2 h3 h4 h5 h6
    refine ⟨⟨p.1, p.2.1, p.2.2.1, p.2.2.2.1, p.2.2.2.2.1, p.2.2.2.2.2.1, p.2.2.2.2.2.2⟩, ⟨_, _, _, _, rfl, l0.lst (fun x cs h => h), l2.lst (fun x cs h => h.1), l3.lst (fun x cs h => h.1), l5⟩, ?_⟩
    have e1 := len_le_sum (fun _ : Ev => 1) p.1 (fun _ => Nat.le_refl _)
    have e2 := len_le_sum (fun _ : Int => 1) p.2.2.1 (fun _ => Nat.le_refl _)
    have e3 := len_le_sum (fun _ : Int => 1) p.2.2.2.1 (fun _ => Nat.le_refl _)
    simp only
    omega)
end
set_option maxRecDepth 100000 in
theorem vars_ofBack {W : World} (h : laidMetH Tryz.prog Rows.traceBackUptoRow.laid W) (hS : W.ShapedOpen Tryz.prog) : VarsT W := by
  rw [MakeChecks.laidMetH_plain _ _ _ (by kernel_rfl)] at h
  refine ⟨?_, ?_, ?_, ?_, Tryz.laysM145.s1_3 W hS⟩
  · exact Lib.tabIs_of_head (g := 3) (by kernel_rfl) (t := 234) (by kernel_rfl) Tryz.underlying234 Tryz.underlying86 (by kernel_rfl) (by kernel_rfl) h.tail.tail
  · exact Lib.tabIs_of_head (g := 0) (by kernel_rfl) (t := 185) (by kernel_rfl) Tryz.underlying185 Tryz.underlying5 (by kernel_rfl) (by kernel_rfl) h.tail.tail.tail.tail.tail.tail.tail
  · exact err_of h.tail.tail.tail.tail.tail (by kernel_rfl) (by kernel_rfl)
  · exact err_of h.tail.tail.tail.tail (by kernel_rfl) (by kernel_rfl)
set_option maxRecDepth 100000 in
theorem vars_ofWoven {W : World} (h : laidMetH Tryz.prog Rows.traceWovenUptoRow.laid W) (hS : W.ShapedOpen Tryz.prog) : VarsT W := by
  rw [MakeChecks.laidMetH_plain _ _ _ (by kernel_rfl)] at h
  refine ⟨?_, ?_, ?_, ?_, Tryz.laysM145.s1_3 W hS⟩
  · exact Lib.tabIs_of_head (g := 3) (by kernel_rfl) (t := 234) (by kernel_rfl) Tryz.underlying234 Tryz.underlying86 (by kernel_rfl) (by kernel_rfl) h.tail.tail
  · exact Lib.tabIs_of_head (g := 0) (by kernel_rfl) (t := 185) (by kernel_rfl) Tryz.underlying185 Tryz.underlying5 (by kernel_rfl) (by kernel_rfl) h.tail.tail.tail.tail.tail.tail.tail
  · exact err_of h.tail.tail.tail.tail.tail (by kernel_rfl) (by kernel_rfl)
  · exact err_of h.tail.tail.tail.tail (by kernel_rfl) (by kernel_rfl)
set_option maxRecDepth 100000 in
theorem vars_ofSorts {W : World} (h : laidMetH Tryz.prog Rows.traceSortsUptoRow.laid W) (hS : W.ShapedOpen Tryz.prog) : VarsT W := by
  rw [MakeChecks.laidMetH_plain _ _ _ (by kernel_rfl)] at h
  refine ⟨?_, ?_, ?_, ?_, Tryz.laysM145.s1_3 W hS⟩
  · exact Lib.tabIs_of_head (g := 3) (by kernel_rfl) (t := 234) (by kernel_rfl) Tryz.underlying234 Tryz.underlying86 (by kernel_rfl) (by kernel_rfl) h.tail.tail
  · exact Lib.tabIs_of_head (g := 0) (by kernel_rfl) (t := 185) (by kernel_rfl) Tryz.underlying185 Tryz.underlying5 (by kernel_rfl) (by kernel_rfl) h.tail.tail.tail.tail.tail.tail.tail
  · exact err_of h.tail.tail.tail.tail.tail (by kernel_rfl) (by kernel_rfl)
  · exact err_of h.tail.tail.tail.tail (by kernel_rfl) (by kernel_rfl)
set_option maxRecDepth 100000 in
theorem vars_ofTells {W : World} (h : laidMetH Tryz.prog Rows.traceTellsUptoRow.laid W) (hS : W.ShapedOpen Tryz.prog) : VarsT W := by
  rw [MakeChecks.laidMetH_plain _ _ _ (by kernel_rfl)] at h
  refine ⟨?_, ?_, ?_, ?_, Tryz.laysM145.s1_3 W hS⟩
  · exact Lib.tabIs_of_head (g := 3) (by kernel_rfl) (t := 234) (by kernel_rfl) Tryz.underlying234 Tryz.underlying86 (by kernel_rfl) (by kernel_rfl) h.tail.tail
  · exact Lib.tabIs_of_head (g := 0) (by kernel_rfl) (t := 185) (by kernel_rfl) Tryz.underlying185 Tryz.underlying5 (by kernel_rfl) (by kernel_rfl) h.tail.tail.tail.tail.tail.tail.tail
  · exact err_of h.tail.tail.tail.tail.tail (by kernel_rfl) (by kernel_rfl)
  · exact err_of h.tail.tail.tail.tail (by kernel_rfl) (by kernel_rfl)
set_option maxRecDepth 100000 in
theorem vars_ofReads {W : World} (h : laidMetH Tryz.prog Rows.traceReadsUptoRow.laid W) (hS : W.ShapedOpen Tryz.prog) : VarsT W := by
  rw [MakeChecks.laidMetH_plain _ _ _ (by kernel_rfl)] at h
  refine ⟨?_, ?_, ?_, ?_, Tryz.laysM145.s1_3 W hS⟩
  · exact Lib.tabIs_of_head (g := 3) (by kernel_rfl) (t := 234) (by kernel_rfl) Tryz.underlying234 Tryz.underlying86 (by kernel_rfl) (by kernel_rfl) h.tail.tail
  · exact Lib.tabIs_of_head (g := 0) (by kernel_rfl) (t := 185) (by kernel_rfl) Tryz.underlying185 Tryz.underlying5 (by kernel_rfl) (by kernel_rfl) h.tail.tail.tail.tail.tail.tail.tail
  · exact err_of h.tail.tail.tail.tail.tail (by kernel_rfl) (by kernel_rfl)
  · exact err_of h.tail.tail.tail.tail (by kernel_rfl) (by kernel_rfl)
end Go.Proofs.YtbghkodcfedebaaGreatDoor
