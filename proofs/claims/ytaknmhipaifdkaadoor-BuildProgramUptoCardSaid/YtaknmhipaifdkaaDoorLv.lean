/- From the form of the rows to plain data: a program that comes in. -/
import Derived.Test.YtaknmhipaifdkaaDoorLu
import Derived.Test.YtaknmhipaifdkaaDoorMd
import Derived.Test.YtaknmhipaifdkaaDoorRows
import Derived.Stop.LaidErr
import Derived.MakeChecks
import Derived.Lib.LaidTab
set_option linter.unusedSimpArgs false
set_option linter.unusedVariables false
set_option linter.unusedSectionVars false
namespace Go.Proofs.YtaknmhipaifdkaaDoor
open Go.RowKit Go.AB

theorem two {α : Type} (l : List α) (h : l.length = 2) : ∃ a b, l = [a, b] := by
  match l, h with
  | [a, b], _ => exact ⟨a, b, rfl⟩
theorem three {α : Type} (l : List α) (h : l.length = 3) : ∃ a b c, l = [a, b, c] := by
  match l, h with
  | [a, b, c], _ => exact ⟨a, b, c, rfl⟩
theorem five {α : Type} (l : List α) (h : l.length = 5) : ∃ a b c d e, l = [a, b, c, d, e] := by
  match l, h with
  | [a, b, c, d, e], _ => exact ⟨a, b, c, d, e, rfl⟩
theorem opens_struct2 {α β : Type} {w : World} {t : Nat} {f0 f1 : Field} (ht : Tryd.prog.underlying t = some (.struct #[f0, f1])) (hc : Tryd.prog.cellsOf t = 2)
    (o0 : (f0.offset, Tryd.prog.cellsOf f0.type) = (0, 1)) (o1 : (f1.offset, Tryd.prog.cellsOf f1.type) = (1, 1))
    {R0 : α → List Value → Prop} {R1 : β → List Value → Prop} {s0 : α → Nat} {s1 : β → Nat} (h0 : Opens w f0.type 1 R0 s0) (h1 : Opens w f1.type 1 R1 s1) :
    Opens w t 2 (fun (p : α × β) cs => ∃ c0 c1, cs = [c0, c1] ∧ R0 p.1 [c0] ∧ R1 p.2 [c1]) (fun p => s0 p.1 + s1 p.2 + 1) := by
  intro H enc base spare held fuel cs x h
  obtain ⟨xs, n, _, rfl, hl, hxl, hx⟩ := DataW.trod_struct ht h
  rw [hc] at hl
  simp only [Prod.mk.injEq] at o0 o1
  obtain ⟨c0, c1, rfl⟩ := two cs hl
  obtain ⟨x0, x1, rfl⟩ := two xs (by simpa using hxl)
  have e0 := hx 0 f0 rfl
  have e1 := hx 1 f1 rfl
  rw [o0.1, o0.2] at e0
  rw [o1.1, o1.2] at e1
  obtain ⟨_, a0, r0, b0⟩ := h0 H enc base spare held n [c0] x0 e0
  obtain ⟨_, a1, r1, b1⟩ := h1 H enc base spare held n [c1] x1 e1
  refine ⟨rfl, (a0, a1), ⟨c0, c1, rfl, r0, r1⟩, ?_⟩
  simp only [List.map_cons, List.map_nil, Rows.uptoBulk, Rows.uptoBulkAll]
  omega
theorem opens_struct3 {α β γ : Type} {w : World} {t : Nat} {f0 f1 f2 : Field} (ht : Tryd.prog.underlying t = some (.struct #[f0, f1, f2])) (hc : Tryd.prog.cellsOf t = 3)
    (o0 : (f0.offset, Tryd.prog.cellsOf f0.type) = (0, 1)) (o1 : (f1.offset, Tryd.prog.cellsOf f1.type) = (1, 1)) (o2 : (f2.offset, Tryd.prog.cellsOf f2.type) = (2, 1))
    {R0 : α → List Value → Prop} {R1 : β → List Value → Prop} {R2 : γ → List Value → Prop} {s0 : α → Nat} {s1 : β → Nat} {s2 : γ → Nat} (h0 : Opens w f0.type 1 R0 s0) (h1 : Opens w f1.type 1 R1 s1) (h2 : Opens w f2.type 1 R2 s2) :
    Opens w t 3 (fun (p : α × β × γ) cs => ∃ c0 c1 c2, cs = [c0, c1, c2] ∧ R0 p.1 [c0] ∧ R1 p.2.1 [c1] ∧ R2 p.2.2 [c2]) (fun p => s0 p.1 + s1 p.2.1 + s2 p.2.2 + 1) := by
  intro H enc base spare held fuel cs x h
  obtain ⟨xs, n, _, rfl, hl, hxl, hx⟩ := DataW.trod_struct ht h
  rw [hc] at hl
  simp only [Prod.mk.injEq] at o0 o1 o2
  obtain ⟨c0, c1, c2, rfl⟩ := three cs hl
  obtain ⟨x0, x1, x2, rfl⟩ := three xs (by simpa using hxl)
  have e0 := hx 0 f0 rfl
  have e1 := hx 1 f1 rfl
  have e2 := hx 2 f2 rfl
  rw [o0.1, o0.2] at e0
  rw [o1.1, o1.2] at e1
  rw [o2.1, o2.2] at e2
  obtain ⟨_, a0, r0, b0⟩ := h0 H enc base spare held n [c0] x0 e0
  obtain ⟨_, a1, r1, b1⟩ := h1 H enc base spare held n [c1] x1 e1
  obtain ⟨_, a2, r2, b2⟩ := h2 H enc base spare held n [c2] x2 e2
  refine ⟨rfl, (a0, a1, a2), ⟨c0, c1, c2, rfl, r0, r1, r2⟩, ?_⟩
  simp only [List.map_cons, List.map_nil, Rows.uptoBulk, Rows.uptoBulkAll]
  omega
theorem opens_struct5 {α β γ δ ε : Type} {w : World} {t : Nat} {f0 f1 f2 f3 f4 : Field} (ht : Tryd.prog.underlying t = some (.struct #[f0, f1, f2, f3, f4])) (hc : Tryd.prog.cellsOf t = 5)
    (o0 : (f0.offset, Tryd.prog.cellsOf f0.type) = (0, 1)) (o1 : (f1.offset, Tryd.prog.cellsOf f1.type) = (1, 1)) (o2 : (f2.offset, Tryd.prog.cellsOf f2.type) = (2, 1)) (o3 : (f3.offset, Tryd.prog.cellsOf f3.type) = (3, 1)) (o4 : (f4.offset, Tryd.prog.cellsOf f4.type) = (4, 1))
    {R0 : α → List Value → Prop} {R1 : β → List Value → Prop} {R2 : γ → List Value → Prop} {R3 : δ → List Value → Prop} {R4 : ε → List Value → Prop} {s0 : α → Nat} {s1 : β → Nat} {s2 : γ → Nat} {s3 : δ → Nat} {s4 : ε → Nat}
    (h0 : Opens w f0.type 1 R0 s0) (h1 : Opens w f1.type 1 R1 s1) (h2 : Opens w f2.type 1 R2 s2) (h3 : Opens w f3.type 1 R3 s3) (h4 : Opens w f4.type 1 R4 s4) :
    Opens w t 5 (fun (p : α × β × γ × δ × ε) cs => ∃ c0 c1 c2 c3 c4, cs = [c0, c1, c2, c3, c4] ∧ R0 p.1 [c0] ∧ R1 p.2.1 [c1] ∧ R2 p.2.2.1 [c2] ∧ R3 p.2.2.2.1 [c3] ∧ R4 p.2.2.2.2 [c4]) (fun p => s0 p.1 + s1 p.2.1 + s2 p.2.2.1 + s3 p.2.2.2.1 + s4 p.2.2.2.2 + 1) := by
  intro H enc base spare held fuel cs x h
  obtain ⟨xs, n, _, rfl, hl, hxl, hx⟩ := DataW.trod_struct ht h
  rw [hc] at hl
  simp only [Prod.mk.injEq] at o0 o1 o2 o3 o4
  obtain ⟨c0, c1, c2, c3, c4, rfl⟩ := five cs hl
  obtain ⟨x0, x1, x2, x3, x4, rfl⟩ := five xs (by simpa using hxl)
  have e0 := hx 0 f0 rfl
  have e1 := hx 1 f1 rfl
  have e2 := hx 2 f2 rfl
  have e3 := hx 3 f3 rfl
  have e4 := hx 4 f4 rfl
  rw [o0.1, o0.2] at e0
  rw [o1.1, o1.2] at e1
  rw [o2.1, o2.2] at e2
  rw [o3.1, o3.2] at e3
  rw [o4.1, o4.2] at e4
  obtain ⟨_, a0, r0, b0⟩ := h0 H enc base spare held n [c0] x0 e0
  obtain ⟨_, a1, r1, b1⟩ := h1 H enc base spare held n [c1] x1 e1
  obtain ⟨_, a2, r2, b2⟩ := h2 H enc base spare held n [c2] x2 e2
  obtain ⟨_, a3, r3, b3⟩ := h3 H enc base spare held n [c3] x3 e3
  obtain ⟨_, a4, r4, b4⟩ := h4 H enc base spare held n [c4] x4 e4
  refine ⟨rfl, (a0, a1, a2, a3, a4), ⟨c0, c1, c2, c3, c4, rfl, r0, r1, r2, r3, r4⟩, ?_⟩
  simp only [List.map_cons, List.map_nil, Rows.uptoBulk, Rows.uptoBulkAll]
  omega
theorem sum_six (l : List InsD) : 6 * l.length ≤ (l.map fun _ => 6).sum := by
  induction l with
  | nil => simp
  | cons x l ih => simp only [List.length_cons, List.map_cons, List.sum_cons]; omega
/-! the program's parts -/
def szVar (v : VarD) : Nat := v.name.size + 1
def szStr (s : ByteArray) : Nat := s.size + 1
def szThr (x : ThrV) : Nat := x.t.name.size + 6 * x.t.code.length + x.t.places.length + 1
section
variable (w : World)
theorem opens_var : Opens w 61 2 (fun (v : VarD) cs => cs = varC v ∧ Wf v.first) szVar :=
  (opens_struct2 Tryd.underlying61 (by kernel_rfl) (by kernel_rfl) (by kernel_rfl) (opens_string Tryd.underlying9) (opens_int Tryd.underlying3)).mapE (fun p cs h => by
    obtain ⟨c0, c1, rfl, h0, h1, hw⟩ := h
    simp only [List.cons.injEq, and_true] at h0 h1
    subst h0 h1
    exact ⟨⟨p.1, p.2⟩, ⟨rfl, wf_i64' hw⟩, by unfold szVar; simp only; omega⟩)
theorem opens_bar : Opens w 74 2 (fun (v : VarD) cs => cs = varC v ∧ Wf v.first) szVar :=
  (opens_struct2 Tryd.underlying74 (by kernel_rfl) (by kernel_rfl) (by kernel_rfl) (opens_string Tryd.underlying9) (opens_int Tryd.underlying3)).mapE (fun p cs h => by
    obtain ⟨c0, c1, rfl, h0, h1, hw⟩ := h
    simp only [List.cons.injEq, and_true] at h0 h1
    subst h0 h1
    exact ⟨⟨p.1, p.2⟩, ⟨rfl, wf_i64' hw⟩, by unfold szVar; simp only; omega⟩)
theorem opens_ins : Opens w 64 5 (fun (v : InsD) cs => cs = insC v ∧ Wf v.n) (fun _ => 6) :=
  (opens_struct5 Tryd.underlying64 (by kernel_rfl) (by kernel_rfl) (by kernel_rfl) (by kernel_rfl) (by kernel_rfl) (by kernel_rfl) (opens_int Tryd.underlying62) (opens_int Tryd.underlying3) (opens_int Tryd.underlying3) (opens_int Tryd.underlying3) (opens_int Tryd.underlying3)).mapE (fun p cs h => by
    obtain ⟨c0, c1, c2, c3, c4, rfl, ⟨h0, _⟩, ⟨h1, _⟩, ⟨h2, _⟩, ⟨h3, _⟩, h4, hw⟩ := h
    simp only [List.cons.injEq, and_true] at h0 h1 h2 h3 h4
    subst h0 h1 h2 h3 h4
    exact ⟨⟨p.1, p.2.1, p.2.2.1, p.2.2.2.1, p.2.2.2.2⟩, ⟨rfl, wf_i64' hw⟩, by omega⟩)
theorem opens_plq : Opens w 35 2 (fun (v : PlcD) cs => cs = plcC v) (fun _ => 1) :=
  (opens_struct2 Tryd.underlying35 (by kernel_rfl) (by kernel_rfl) (by kernel_rfl) (opens_int Tryd.underlying3) (opens_int Tryd.underlying3)).mapE (fun p cs h => by
    obtain ⟨c0, c1, rfl, ⟨h0, _⟩, h1, _⟩ := h
    simp only [List.cons.injEq, and_true] at h0 h1
    subst h0 h1
    exact ⟨⟨p.1, p.2⟩, rfl, by omega⟩)
theorem opens_thr : Opens w 50 3 (fun (x : ThrV) cs => cs = thrC x ∧ Lst insC 5 w x.code x.t.code ∧ Lst plcC 2 w x.places x.t.places ∧ ∀ y ∈ x.t.code, Wf y.n) szThr :=
  (opens_struct3 Tryd.underlying50 (by kernel_rfl) (by kernel_rfl) (by kernel_rfl) (by kernel_rfl) (opens_string Tryd.underlying9) (opens_slice Tryd.underlying47 (by kernel_rfl) (opens_ins w)) (opens_slice Tryd.underlying48 (by kernel_rfl) (opens_plq w))).mapE (fun p cs h => by
    obtain ⟨c0, c1, c2, rfl, h0, ⟨v1, h1, l1⟩, v2, h2, l2⟩ := h
    simp only [List.cons.injEq, and_true] at h0 h1 h2
    subst h0 h1 h2
    refine ⟨⟨⟨p.1, p.2.1, p.2.2⟩, c1, c2⟩, ⟨rfl, l1.lst (fun x cs h => h.1), l2.lst (fun x cs h => h), l1.all (fun x cs h => h.2)⟩, ?_⟩
    have e1 : 6 * p.2.1.length ≤ (p.2.1.map fun _ => 6).sum := sum_six _
    have e2 := len_le_sum (fun _ : PlcD => 1) p.2.2 (fun _ => Nat.le_refl _)
    unfold szThr
    simp only
    omega)
/-- A program that comes in: what is read of it. -/
def PrgIn (w : World) (p : PrgD) (cs : List Value) : Prop := PrgV w (.agg cs.toArray) p
theorem opens_prog : Opens w 32 5 (fun (p : PrgD) cs => PrgIn w p cs) (fun p => (p.vars.map szVar).sum + (p.vols.map szVar).sum + (p.locks.map szStr).sum + (p.bars.map szVar).sum + (p.thrs.map fun t => t.name.size + 6 * t.code.length + t.places.length + 1).sum) :=
  (opens_struct5 Tryd.underlying32 (by kernel_rfl) (by kernel_rfl) (by kernel_rfl) (by kernel_rfl) (by kernel_rfl) (by kernel_rfl) (opens_slice Tryd.underlying27 (by kernel_rfl) (opens_var w)) (opens_slice Tryd.underlying27 (by kernel_rfl) (opens_var w))
    (opens_slice Tryd.underlying28 (by kernel_rfl) (opens_string Tryd.underlying9)) (opens_slice Tryd.underlying29 (by kernel_rfl) (opens_bar w)) (opens_slice Tryd.underlying30 (by kernel_rfl) (opens_thr w))).mapE (fun p cs h => by
    obtain ⟨c0, c1, c2, c3, c4, rfl, ⟨v0, h0, l0⟩, ⟨v1, h1, l1⟩, ⟨v2, h2, l2⟩, ⟨v3, h3, l3⟩, v4, h4, l4⟩ := h
    simp only [List.cons.injEq, and_true] at h0 h1 h2 h3 h4
    subst h0 h1 h2 h3 h4
    obtain ⟨xs0, xs1, xs2, xs3, ts⟩ := p
    simp only at l0 l1 l2 l3 l4
    refine ⟨⟨xs0, xs1, xs2, xs3, ts.map ThrV.t⟩, ⟨_, _, _, _, _, ts, rfl, l0.lst (fun x cs h => h.1), l1.lst (fun x cs h => h.1), l2.lst (fun x cs h => h), l3.lst (fun x cs h => h.1), l4.lst (fun x cs h => h.1), rfl, l4.all (fun x cs h => ⟨h.2.1, h.2.2.1⟩)⟩, ?_⟩
    · simp only [List.map_map]
      show _ ≤ (xs0.map szVar).sum + 1 + ((xs1.map szVar).sum + 1) + ((xs2.map szStr).sum + 1) + ((xs3.map szVar).sum + 1) + ((ts.map szThr).sum + 1) + 1
      have : (ts.map ((fun t : ThrD => t.name.size + 6 * t.code.length + t.places.length + 1) ∘ ThrV.t)).sum = (ts.map szThr).sum := rfl
      omega)
end
/-- What the sizes say. -/
theorem small_in {p : PrgD} (h : (p.vars.map szVar).sum + (p.vols.map szVar).sum + (p.locks.map szStr).sum + (p.bars.map szVar).sum + (p.thrs.map fun t => t.name.size + 6 * t.code.length + t.places.length + 1).sum ≤ 1048576) : SmallP p := by
  have a0 := len_le_sum szVar p.vars (fun _ => by unfold szVar; omega)
  have a1 := len_le_sum szVar p.vols (fun _ => by unfold szVar; omega)
  have a2 := len_le_sum szStr p.locks (fun _ => by unfold szStr; omega)
  have a3 := len_le_sum szVar p.bars (fun _ => by unfold szVar; omega)
  have a4 := len_le_sum (fun t : ThrD => t.name.size + 6 * t.code.length + t.places.length + 1) p.thrs (fun _ => by omega)
  refine ⟨by omega, by omega, by omega, by omega, by omega, fun x hx => ?_, fun x hx => ?_, fun x hx => ?_, fun x hx => ?_, fun t ht => ?_⟩
  · have h9 : x.name.size + 1 ≤ _ := mem_le_sum szVar hx
    omega
  · have h9 : x.name.size + 1 ≤ _ := mem_le_sum szVar hx
    omega
  · have h9 : x.size + 1 ≤ _ := mem_le_sum szStr hx
    omega
  · have h9 : x.name.size + 1 ≤ _ := mem_le_sum szVar hx
    omega
  · have h9 : t.name.size + 6 * t.code.length + t.places.length + 1 ≤ _ := mem_le_sum (fun t : ThrD => t.name.size + 6 * t.code.length + t.places.length + 1) ht
    omega
/-- What the sizes say, for a unit. -/
theorem unitS_in {p : PrgD} (h : (p.vars.map szVar).sum + (p.vols.map szVar).sum + (p.locks.map szStr).sum + (p.bars.map szVar).sum + (p.thrs.map fun t => t.name.size + 6 * t.code.length + t.places.length + 1).sum ≤ 1048576) : UnitS p := by
  have a0 := len_le_sum szVar p.vars (fun _ => by unfold szVar; omega)
  have a1 := len_le_sum szVar p.vols (fun _ => by unfold szVar; omega)
  have a2 := len_le_sum szStr p.locks (fun _ => by unfold szStr; omega)
  have a3 := len_le_sum szVar p.bars (fun _ => by unfold szVar; omega)
  refine ⟨small_in h, ?_, fun t ht => ?_⟩
  · unfold declsOf
    simp only [List.length_append, List.length_map]
    omega
  · have h9 : t.name.size + 6 * t.code.length + t.places.length + 1 ≤ _ := mem_le_sum (fun t : ThrD => t.name.size + 6 * t.code.length + t.places.length + 1) ht
    omega
theorem pow10_of {a b : String × DataW Unit} {r : List (String × DataW Unit)} {W : World} (h : laidMetH Tryd.prog (a :: b :: ("internal/strconv.uint64pow10", Rows.laid_internal_strconv_uint64pow10) :: r) W)
    (hp : ((a :: b :: ("internal/strconv.uint64pow10", Rows.laid_internal_strconv_uint64pow10) :: r).all fun x => x.2.handleName?.isNone) = true) : Pow10 W := by
  rw [MakeChecks.laidMetH_plain _ _ _ hp] at h
  exact Lib.tabIs_of_head (g := 0) (by kernel_rfl) (t := 121) (by kernel_rfl) Tryd.underlying121 Tryd.underlying113 (by kernel_rfl) (by kernel_rfl) h.tail.tail
end Go.Proofs.YtaknmhipaifdkaaDoor
