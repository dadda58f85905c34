/- Joined by join.py out of Law, Ls. -/
import Derived.Test.YtmahcabidggmeaaGreatDoorPk1
import Derived.Test.YtmahcabidggmeaaGreatDoorRows
import Derived.JoinedCond
set_option linter.unusedSimpArgs false
set_option linter.unusedVariables false
set_option linter.unusedSectionVars false

/- From the form of the rows to plain data: what the arguments are, what a law's end must show. -/
set_option linter.unusedSimpArgs false
set_option linter.unusedVariables false
set_option linter.unusedSectionVars false
namespace Go.Proofs.YtmahcabidggmeaaGreatDoor
open Go.RowKit Go.AB Go.ChangeShapes Go.WideShapes Go.ChangeAt

theorem own : ownKnob Tryz.prog.godebug = none := by kernel_rfl
theorem laidOut : laidOutB Tryz.prog = true := by kernel_rfl

theorem one_le {H : Type} (d : DataW H) : 1 ≤ Rows.uptoBulk d := by
  cases d with
  | lit l => cases l <;> simp [Rows.uptoBulk]
  | nil => simp [Rows.uptoBulk]
  | ptr d => simp [Rows.uptoBulk]
  | slice elems spare => simp [Rows.uptoBulk]
  | agg parts => simp [Rows.uptoBulk]
  | iface t d => simp [Rows.uptoBulk]
  | map entries => simp [Rows.uptoBulk]
  | held h => simp [Rows.uptoBulk]
theorem bulk_append {H : Type} (l r : List (DataW H)) : Rows.uptoBulkAll (l ++ r) = Rows.uptoBulkAll l + Rows.uptoBulkAll r := by
  induction l with
  | nil => simp [Rows.uptoBulkAll]
  | cons x l ih => simp only [List.cons_append, Rows.uptoBulkAll, ih]; omega

/-- ARGS at the end: each argument reads as it did. -/
theorem trodAll_below {H : Type} {enc : TypeId × Value → H} {P : Program} (hl : laidOutB P = true) {W W' : World} (hb : Below W.heap.size W W') :
    ∀ (ts : List TypeId) (vs : List Value) (ds : List (DataW H)) (ps : List MemPlace), (∀ t ∈ ts, P.readableRec t = true ∧ t < P.types.size) → DataW.TrodAll enc P W 0 (fun _ => true) true ts vs ds ps → (∀ x ∈ ps, x.block < W.heap.size) →
      DataW.TrodAll enc P W' 0 (fun b => decide (b < W.heap.size)) true ts vs ds ps
  | [], [], [], _, _, h, _ => h
  | t :: ts, v :: vs, d :: ds, ps, hr, h, hlt => by
    obtain ⟨p, q, h1, h2, rfl⟩ := h
    have ht := hr t (by simp)
    exact ⟨p, q, Below.trod hl ht.1 ht.2 h1 hb (fun x hx => hlt x (by simp [hx])), trodAll_below hl hb ts vs ds q (fun t' h' => hr t' (by simp [h'])) h2 (fun x hx => hlt x (by simp [hx])), rfl⟩
  | [], [], _ :: _, _, _, h, _ => h.elim
  | [], _ :: _, _, _, _, h, _ => h.elim
  | _ :: _, [], _, _, _, h, _ => h.elim
  | _ :: _, _ :: _, [], _, _, h, _ => h.elim

/-- A law's end: it answered true, and what was there when the call began is as it was. -/
theorem law_post {H : Type} {enc : TypeId × Value → H} {P : Program} (hl : laidOutB P = true) {f : Func} {s : ChangeSpec} (hv : s.vars = []) {tb : TypeId} (hrt : f.resultTypes = #[tb]) (htb : P.underlying tb = some .bool)
    (hr : ∀ t ∈ f.params.toList, P.readableRec t = true ∧ t < P.types.size) {W W' : World} {args : Array Value} {ds gs : List (DataW H)} {before : List MemPlace}
    (hW : DataW.Whole enc P f.params.toList s.vars false W args.toList ds gs before) (hfn : s.fn H (ds ++ gs) = { results := [.lit (.bool true)], args := ds }) (hb : Below W.heap.size W W') :
    s.post enc P f false true false false W args (.bool true) W' := by
  have hW' := hW
  obtain ⟨p, q, hA, hV, rfl, hfz, hnd⟩ := hW
  have hV' := hV
  rw [hv] at hV'
  obtain ⟨rfl, rfl⟩ := trodVars_none hV'
  refine ⟨ds, [], p ++ [], [], p, [], hW', ?_, ?_, ?_, hb.frame _, fun h => by cases h⟩
  · rw [hfn, hrt]
    exact trodAll_mk1 (shut_bool htb _)
  · rw [hfn]
    exact trodAll_below hl hb _ _ _ _ hr hA (fun x hx => by simpa using hW'.lt x (by simp [hx]))
  · rw [hfn, hv]
    exact rfl

/-- How a type's cells read as data of Lean's own: R, and what the reading weighs at least. -/
def Opens {α : Type} (w : World) (t k : Nat) (R : α → List Value → Prop) (sz : α → Nat) : Prop :=
  ∀ (H : Type) (enc : TypeId × Value → H) (base : Nat) (spare : Nat → Bool) (held : Bool) (fuel : Nat) (cs : List Value) (x : DataW H × List MemPlace),
    DataW.trod enc Tryz.prog w base spare held fuel t cs = some x → cs.length = k ∧ ∃ a, R a cs ∧ sz a ≤ Rows.uptoBulk x.1

theorem opens_int {w : World} {t : Nat} {k : IntKind} (ht : Tryz.prog.underlying t = some (.int k)) : Opens w t 1 (fun (n : Int) cs => cs = [.int k n] ∧ (Lit.int k n).wf = true) (fun _ => 1) := by
  intro H enc base spare held fuel cs x h
  obtain ⟨n, rfl, rfl, hw⟩ := DataW.trod_int ht h
  exact ⟨rfl, n, ⟨rfl, hw⟩, one_le _⟩
theorem opens_string {w : World} {t : Nat} (ht : Tryz.prog.underlying t = some .string) : Opens w t 1 (fun (s : ByteArray) cs => cs = [.string s]) (fun s => s.size + 1) := by
  intro H enc base spare held fuel cs x h
  obtain ⟨s, rfl, rfl, hw⟩ := DataW.trod_string ht h
  refine ⟨rfl, s, rfl, ?_⟩
  simp [Rows.uptoBulk]
theorem Opens.imp {α : Type} {w : World} {t k : Nat} {R R' : α → List Value → Prop} {sz : α → Nat} (h : Opens w t k R sz) (hi : ∀ a cs, R a cs → R' a cs) : Opens w t k R' sz := by
  intro H enc base spare held fuel cs x hx
  obtain ⟨h1, a, h2, h3⟩ := h H enc base spare held fuel cs x hx
  exact ⟨h1, a, hi _ _ h2, h3⟩

/-- A slice that is read, element by element. -/
structure VL {α : Type} (w : World) (k : Nat) (R : α → List Value → Prop) (v : Value) (xs : List α) : Prop where
  ex : ∃ css : List (List Value), View w k v xs.length css.flatten ∧ css.length = xs.length ∧ ∀ i (hi : i < xs.length) (hi' : i < css.length), css[i].length = k ∧ R xs[i] css[i]

theorem exists_list {α : Type} {n : Nat} {Q : Nat → α → Prop} (h : ∀ i, i < n → ∃ a, Q i a) : ∃ xs : List α, xs.length = n ∧ ∀ i (hi : i < xs.length), Q i xs[i] := by
  refine ⟨List.ofFn fun i : Fin n => Classical.choose (h i i.2), by simp, fun i hi => ?_⟩
  rw [List.getElem_ofFn]
  exact Classical.choose_spec (h i (by simpa using hi))
theorem bulk_sum {H : Type} (l : List (DataW H)) : Rows.uptoBulkAll l = (l.map Rows.uptoBulk).sum := by
  induction l with
  | nil => simp [Rows.uptoBulkAll]
  | cons x l ih => simp [Rows.uptoBulkAll, ih]
theorem sum_le_sum {α β : Type} (f : α → Nat) (g : β → Nat) : ∀ (xs : List α) (ys : List β), xs.length = ys.length → (∀ i (h1 : i < xs.length) (h2 : i < ys.length), f xs[i] ≤ g ys[i]) → (xs.map f).sum ≤ (ys.map g).sum
  | [], _, _, _ => by simp
  | x :: xs, [], h, _ => by simp at h
  | x :: xs, y :: ys, h, hi => by
    have h0 := hi 0 (by simp) (by simp)
    have h1 := sum_le_sum f g xs ys (by simpa using h) (fun i h1 h2 => hi (i + 1) (by simpa using h1) (by simpa using h2))
    simp only [List.map_cons, List.sum_cons]
    simp only [List.getElem_cons_zero] at h0
    omega
theorem flat_get {k : Nat} : ∀ (css : List (List Value)), (∀ i (h : i < css.length), css[i].length = k) → css.flatten.length = css.length * k ∧ ∀ i j (hi : i < css.length), j < k → css.flatten.getD (i * k + j) undef = css[i].getD j undef
  | [], _ => ⟨by simp, fun i j hi => by simp at hi⟩
  | c :: css, h => by
    have hc : c.length = k := h 0 (by simp)
    obtain ⟨h1, h2⟩ := flat_get css (fun i hi => h (i + 1) (by simpa using hi))
    refine ⟨by simp [h1, hc, Nat.succ_mul]; omega, fun i j hi hj => ?_⟩
    cases i with
    | zero => simp [List.getD, List.getElem?_append_left (show j < c.length by omega)]
    | succ i =>
      have := h2 i j (by simpa using hi) hj
      simp only [List.flatten_cons, List.getElem_cons_succ]
      rw [← this, Nat.succ_mul]
      simp only [List.getD]
      rw [List.getElem?_append_right (by omega)]
      congr 2
      omega

theorem opens_slice {α : Type} {w : World} {t e k : Nat} {R : α → List Value → Prop} {sz : α → Nat} (ht : Tryz.prog.underlying t = some (.slice e)) (hk : Tryz.prog.cellsOf e = k) (he : Opens w e k R sz) :
    Opens w t 1 (fun (xs : List α) cs => ∃ v, cs = [v] ∧ VL w k R v xs) (fun xs => (xs.map sz).sum + 1) := by
  intro H enc base spare held fuel cs x h
  rcases DataW.trod_slice ht h with ⟨rfl, rfl⟩ | ⟨a, len, cap, elems, rest, n, _, rfl, rfl, hb, hl, hm, hlen, hel, _, _⟩
  · refine ⟨rfl, [], ⟨_, rfl, ⟨[], ⟨by simp, by simp, none, 0, rfl, Nat.le_refl _, by simp, (fun _ => ⟨rfl, rfl⟩), fun h => by simp at h⟩, rfl, fun i hi => by simp at hi⟩⟩, by simp [Rows.uptoBulk]⟩
  · rw [hk] at hel
    have each : ∀ i, i < len → ∃ p : List Value × α, w.cells? base (a.add (i * k)) k = some p.1 ∧ p.1.length = k ∧ R p.2 p.1 ∧ sz p.2 ≤ Rows.uptoBulk ((elems.map (·.1)).getD i .nil) := by
      intro i hi
      have h1 := hel i hi
      rw [List.getElem?_eq_getElem (by omega), Option.bind_eq_some_iff] at h1
      obtain ⟨c, hc, hx⟩ := h1
      obtain ⟨h2, y, h3, h4⟩ := he H enc base spare held n c _ hx
      exact ⟨(c, y), hc, h2, h3, by simpa [List.getD, hlen, hi] using h4⟩
    obtain ⟨ps, hpl, hps⟩ := exists_list each
    refine ⟨rfl, ps.map (·.2), ⟨_, rfl, ⟨ps.map (·.1), ?_, by simp, ?_⟩⟩, ?_⟩
    · have hfl := flat_get (k := k) (ps.map (·.1)) (fun i hi => by simpa using (hps i (by simpa using hi)).2.1)
      refine ⟨by rw [hfl.1]; simp, by simp; omega, some a, cap, by simp [hpl], by simp [hpl]; exact hl, hm, (fun h => by cases h), fun h0 => ?_⟩
      have hk0 : 0 < k := by rcases Nat.eq_zero_or_pos k with h | h; subst h; simp at h0; exact h
      have hp0 : 0 < ps.length := by rcases Nat.eq_zero_or_pos ps.length with h | h; simp [h] at h0; exact h
      have hspot : a.spot = none := by
        have h1 := (World.cells?_some (hps 0 hp0).1).2.2 0 hk0
        have h2 := (hps 0 hp0).2.1
        rw [List.getElem?_eq_getElem (by omega)] at h1
        simp only [Nat.zero_mul, Addr.add, if_true] at h1
        unfold World.cell? at h1
        cases hs : a.spot with
        | none => rfl
        | some _ => split at h1 <;> simp [hs] at h1
      obtain ⟨b, off, spot⟩ := a
      simp only at hspot
      subst hspot
      refine ⟨b, off, rfl, fun j hj => ?_⟩
      have hj' : j < ps.length * k := by simpa using hj
      have hq : j / k < ps.length := Nat.div_lt_of_lt_mul (by rwa [Nat.mul_comm])
      have hr : j % k < k := Nat.mod_lt _ hk0
      have hdm : j / k * k + j % k = j := by rw [Nat.mul_comm]; exact Nat.div_add_mod j k
      have h1 := (World.cells?_some (hps (j / k) hq).1).2.2 (j % k) hr
      rw [Addr.add_lit, Addr.add_lit, Nat.add_assoc, hdm] at h1
      rw [h1]
      have h2 := hfl.2 (j / k) (j % k) (by simpa using hq) hr
      rw [hdm] at h2
      rw [h2]
      simp only [List.getElem_map, List.getD]
      rw [List.getElem?_eq_getElem (by have := (hps (j / k) hq).2.1; omega)]
      rfl
    · intro i hi hi'
      have := hps i (by simpa using hi')
      simpa using ⟨this.2.1, this.2.2.1⟩
    · simp only [Rows.uptoBulk]
      have : (List.map sz (ps.map (·.2))).sum ≤ Rows.uptoBulkAll (elems.map (·.1)) := by
        rw [bulk_sum]
        refine sum_le_sum sz Rows.uptoBulk _ _ (by simp; omega) (fun i h1 h2 => ?_)
        have h3 := (hps i (by simpa using h1)).2.2.2
        simp only [List.getElem_map] at h3 ⊢
        simpa [List.getD, show i < elems.length by simpa using h2] using h3
      omega
theorem four {α : Type} (l : List α) (h : l.length = 4) : ∃ a b c d, l = [a, b, c, d] := by
  match l, h with
  | [a, b, c, d], _ => exact ⟨a, b, c, d, rfl⟩
/-- A struct of four fields of one cell each. -/
theorem opens_struct4 {α β γ δ : Type} {w : World} {t : Nat} {f0 f1 f2 f3 : Field} (ht : Tryz.prog.underlying t = some (.struct #[f0, f1, f2, f3])) (hc : Tryz.prog.cellsOf t = 4)
    (o0 : (f0.offset, Tryz.prog.cellsOf f0.type) = (0, 1)) (o1 : (f1.offset, Tryz.prog.cellsOf f1.type) = (1, 1)) (o2 : (f2.offset, Tryz.prog.cellsOf f2.type) = (2, 1)) (o3 : (f3.offset, Tryz.prog.cellsOf f3.type) = (3, 1))
    {R0 : α → List Value → Prop} {R1 : β → List Value → Prop} {R2 : γ → List Value → Prop} {R3 : δ → List Value → Prop} {s0 : α → Nat} {s1 : β → Nat} {s2 : γ → Nat} {s3 : δ → Nat}
    (h0 : Opens w f0.type 1 R0 s0) (h1 : Opens w f1.type 1 R1 s1) (h2 : Opens w f2.type 1 R2 s2) (h3 : Opens w f3.type 1 R3 s3) :
    Opens w t 4 (fun (p : α × β × γ × δ) cs => ∃ c0 c1 c2 c3, cs = [c0, c1, c2, c3] ∧ R0 p.1 [c0] ∧ R1 p.2.1 [c1] ∧ R2 p.2.2.1 [c2] ∧ R3 p.2.2.2 [c3]) (fun p => s0 p.1 + s1 p.2.1 + s2 p.2.2.1 + s3 p.2.2.2 + 1) := by
  intro H enc base spare held fuel cs x h
  obtain ⟨xs, n, _, rfl, hl, hxl, hx⟩ := DataW.trod_struct ht h
  rw [hc] at hl
  simp only [Prod.mk.injEq] at o0 o1 o2 o3
  obtain ⟨c0, c1, c2, c3, rfl⟩ := four cs hl
  obtain ⟨x0, x1, x2, x3, rfl⟩ := four xs (by simpa using hxl)
  have e0 := hx 0 f0 rfl
  have e1 := hx 1 f1 rfl
  have e2 := hx 2 f2 rfl
  have e3 := hx 3 f3 rfl
  rw [o0.1, o0.2] at e0
  rw [o1.1, o1.2] at e1
  rw [o2.1, o2.2] at e2
  rw [o3.1, o3.2] at e3
  obtain ⟨_, a0, r0, b0⟩ := h0 H enc base spare held n [c0] x0 e0
  obtain ⟨_, a1, r1, b1⟩ := h1 H enc base spare held n [c1] x1 e1
  obtain ⟨_, a2, r2, b2⟩ := h2 H enc base spare held n [c2] x2 e2
  obtain ⟨_, a3, r3, b3⟩ := h3 H enc base spare held n [c3] x3 e3
  refine ⟨rfl, (a0, a1, a2, a3), ⟨c0, c1, c2, c3, rfl, r0, r1, r2, r3⟩, ?_⟩
  simp only [List.map_cons, List.map_nil, Rows.uptoBulk, Rows.uptoBulkAll]
  omega
/-- One argument, out of the reading of all. -/
theorem opens_arg {α : Type} {w : World} {t k : Nat} {R : α → List Value → Prop} {sz : α → Nat} (ho : Opens w t k R sz) {H : Type} {enc : TypeId × Value → H} {v : Value} {d : DataW H} {p : List MemPlace} (h : DataW.Trod enc Tryz.prog w 0 (fun _ => true) true t v d p) :
    ∃ a, R a v.cells.toList ∧ sz a ≤ Rows.uptoBulk d := by
  obtain ⟨fuel, hf⟩ := h
  obtain ⟨_, a, h1, h2⟩ := ho H enc _ _ _ fuel _ (d, p) hf
  exact ⟨a, h1, h2⟩
end Go.Proofs.YtmahcabidggmeaaGreatDoor

/- Small facts that each law's frame wants. -/
set_option linter.unusedSimpArgs false
set_option linter.unusedVariables false
set_option linter.unusedSectionVars false
namespace Go.Proofs.YtmahcabidggmeaaGreatDoor
open Go.RowKit Go.AB Go.ChangeShapes Go.WideShapes Go.ChangeAt

theorem small_bound {H : Type} {l : List (DataW H)} (hk : Rows.uptoSmall H l = true) : Rows.uptoBulkAll l ≤ 1048576 := of_decide_eq_true hk
theorem cells_one {v : Value} {c : Value} {a : Option Addr} {n cap : Nat} (hv : v = .slice a n cap) (h : v.cells.toList = [c]) : c = v := by
  subst hv
  simpa [Value.cells] using h.symm
theorem cells_str {v : Value} {c : Value} {s : ByteArray} (hv : v = .string s) (h : v.cells.toList = [c]) : c = v := by
  subst hv
  simpa [Value.cells] using h.symm
theorem cells_num {v : Value} {c : Value} {k : IntKind} {n : Int} (hv : v = .int k n) (h : v.cells.toList = [c]) : c = v := by
  subst hv
  simpa [Value.cells] using h.symm
end Go.Proofs.YtmahcabidggmeaaGreatDoor
