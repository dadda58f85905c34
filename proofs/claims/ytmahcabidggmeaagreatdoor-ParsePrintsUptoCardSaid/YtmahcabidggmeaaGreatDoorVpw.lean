/- Walks of the reference: units compared (Same). In work. -/
import Derived.Test.YtmahcabidggmeaaGreatDoorVpv
import Derived.Test.YtmahcabidggmeaaGreatDoorPx
set_option linter.unusedVariables false
set_option linter.unusedSectionVars false
set_option linter.unusedSimpArgs false
namespace Go.AB
open Go.RowKit
/-- Like declarations; places too, if asked. -/
def DcS (p : Bool) (x y : DcD) : Prop := x.kind = y.kind ∧ x.name = y.name ∧ x.val = y.val ∧ (p = true → x.l = y.l ∧ x.c = y.c)
def ItS (p : Bool) (x y : ItD) : Prop := x.op = y.op ∧ x.a = y.a ∧ x.b = y.b ∧ x.c = y.c ∧ x.n = y.n ∧ x.name = y.name ∧ (p = true → x.p1 = y.p1 ∧ x.p2 = y.p2 ∧ x.q1 = y.q1 ∧ x.q2 = y.q2)
def BkS (p : Bool) (x y : BkD) : Prop := x.name = y.name ∧ All2 (ItS p) x.items y.items ∧ (p = true → x.l = y.l ∧ x.c = y.c)
def UnS (p : Bool) (u v : UnD) : Prop := All2 (DcS p) u.decls v.decls ∧ All2 (BkS p) u.blocks v.blocks
theorem All2.at {α β : Type} {R : α → β → Prop} {l : List α} {m : List β} (h : All2 R l m) : ∀ i (h1 : i < l.length) (h2 : i < m.length), R l[i] m[i] := by
  induction h with
  | nil => intro i h1; simp at h1
  | cons h _ ih =>
    intro i h1 h2
    cases i with
    | zero => exact h
    | succ i => exact ih i (by simpa using h1) (by simpa using h2)
theorem All2.imp {α β : Type} {R S : α → β → Prop} (hi : ∀ a b, R a b → S a b) {l : List α} {m : List β} (h : All2 R l m) : All2 S l m := by
  induction h with
  | nil => exact .nil
  | cons h _ ih => exact .cons (hi _ _ h) ih
/-- Units that are alike under any relation of places are alike but for the places. -/
theorem UnR.same {R : Int → Int → Int → Int → Prop} {u v : UnD} (h : UnR R u v) : UnS false u v :=
  ⟨h.1.imp fun _ _ h => ⟨h.1, h.2.1, h.2.2.1, fun e => by cases e⟩, h.2.imp fun _ _ h => ⟨h.1, h.2.1.imp fun _ _ h => ⟨h.1, h.2.1, h.2.2.1, h.2.2.2.1, h.2.2.2.2.1, h.2.2.2.2.2.1, fun e => by cases e⟩, fun e => by cases e⟩⟩
theorem All2.map_r {α β γ : Type} {R : α → β → Prop} {S : α → γ → Prop} {f : γ → β} {l : List α} : ∀ {m : List γ}, All2 R l (m.map f) → (∀ a, ∀ c ∈ m, R a (f c) → S a c) → All2 S l m := by
  intro m
  induction m generalizing l with
  | nil => intro h _; cases h; exact .nil
  | cons c m ih =>
    intro h hi
    rw [List.map_cons] at h
    cases h with
    | cons h1 h2 => exact .cons (hi _ c (List.mem_cons_self ..) h1) (ih h2 fun a x hx => hi a x (List.mem_cons_of_mem _ hx))
theorem bareI_eq {x : ItD} (h : itemOk x = true) : (bareI x).op = x.op ∧ (bareI x).a = x.a ∧ (bareI x).b = x.b ∧ (bareI x).c = x.c ∧ (bareI x).n = x.n ∧ (bareI x).name = x.name := by
  unfold bareI
  split
  · rename_i h0
    unfold itemOk at h
    simp only [Bool.and_eq_true] at h
    obtain ⟨⟨⟨⟨⟨_, h1⟩, h2⟩, h3⟩, h4⟩, _⟩ := h
    rw [if_pos h0] at h1 h2 h3 h4
    rw [if_neg (by decide)] at h1 h2 h3
    have e1 := of_decide_eq_true h1
    have e2 := of_decide_eq_true h2
    have e3 := of_decide_eq_true h3
    have e4 : x.n = 0 := by simpa using h4
    exact ⟨h0.symm, e1.symm, e2.symm, e3.symm, e4.symm, rfl⟩
  · exact ⟨rfl, rfl, rfl, rfl, rfl, rfl⟩
/-- A unit that is like another's bare one is like it, but for the places. -/
theorem bare_same {R : Int → Int → Int → Int → Prop} {u v : UnD} (hu : unitOk u = true) (h : UnR R v (bareU u)) : UnS false v u := by
  unfold unitOk at hu
  simp only [Bool.and_eq_true, List.all_eq_true] at hu
  refine ⟨h.1.map_r fun _ _ _ h => ⟨h.1, h.2.1, h.2.2.1, fun e => by cases e⟩, h.2.map_r fun a b hb h => ⟨h.1, h.2.1.map_r fun x y hy h => ?_, fun e => by cases e⟩⟩
  have hk := hu.2 b hb
  unfold blockOk at hk
  simp only [Bool.and_eq_true, List.all_eq_true] at hk
  obtain ⟨e0, e1, e2, e3, e4, e5⟩ := bareI_eq (hk.2 y hy)
  exact ⟨h.1.trans e0, h.2.1.trans e1, h.2.2.1.trans e2, h.2.2.2.1.trans e3, h.2.2.2.2.1.trans e4, h.2.2.2.2.2.1.trans e5, fun e => by cases e⟩
theorem UnS.any {u v : UnD} (h : UnS false u v) : UnR anyR u v :=
  ⟨h.1.imp fun _ _ h => ⟨h.1, h.2.1, h.2.2.1, trivial⟩, h.2.imp fun _ _ h => ⟨h.1, h.2.1.imp fun _ _ h => ⟨h.1, h.2.1, h.2.2.1, h.2.2.2.1, h.2.2.2.2.1, h.2.2.2.2.2.1, trivial, .inl trivial⟩, trivial⟩⟩
theorem All2.flip {α β : Type} {R : α → β → Prop} {S : β → α → Prop} (hi : ∀ a b, R a b → S b a) {l : List α} {m : List β} (h : All2 R l m) : All2 S m l := by
  induction h with
  | nil => exact .nil
  | cons h _ ih => exact .cons (hi _ _ h) ih
theorem UnS.symm {p : Bool} {u v : UnD} (h : UnS p u v) : UnS p v u :=
  ⟨h.1.flip fun _ _ h => ⟨h.1.symm, h.2.1.symm, h.2.2.1.symm, fun e => ⟨(h.2.2.2 e).1.symm, (h.2.2.2 e).2.symm⟩⟩,
   h.2.flip fun _ _ h => ⟨h.1.symm, h.2.1.flip fun _ _ h => ⟨h.1.symm, h.2.1.symm, h.2.2.1.symm, h.2.2.2.1.symm, h.2.2.2.2.1.symm, h.2.2.2.2.2.1.symm, fun e => ⟨(h.2.2.2.2.2.2 e).1.symm, (h.2.2.2.2.2.2 e).2.1.symm, (h.2.2.2.2.2.2 e).2.2.1.symm, (h.2.2.2.2.2.2 e).2.2.2.symm⟩⟩, fun e => ⟨(h.2.2 e).1.symm, (h.2.2 e).2.symm⟩⟩⟩
/-- What is printed is read as that unit, but for the places (ParseBack, ParseAgain). -/
theorem printed_back {u : UnD} (h : unitOk u = true) (hw : UnW u) : ∃ v, sourceD (textS u) = .ok v ∧ UnS false u v ∧ printD v = printD u := by
  obtain ⟨ts, v, h1, h2, h3⟩ := text_unit h hw
  have h4 := bare_same h h3
  refine ⟨v, ?_, h4.symm, printD_rel h4.any⟩
  unfold sourceD
  rw [h1]
  exact h2
/-- A text that has a unit (ParseAgain). -/
theorem read_again {L : List UInt8} {u : UnD} (hL : L.length ≤ 1048576) (h : sourceD L = .ok u) : (1048576 < (textS u).length ∧ printD u = .error 3) ∨ ((textS u).length ≤ 1048576 ∧ printD u = .ok (textS u) ∧ ∃ v, sourceD (textS u) = .ok v ∧ UnS false u v) := by
  obtain ⟨h1, h2, _⟩ := source_unit hL h
  obtain ⟨v, h3, h4, _⟩ := printed_back h1 h2
  by_cases hb : 1048576 < (textS u).length
  · exact .inl ⟨hb, by unfold printD; rw [if_neg (by rw [h1]; decide), if_pos hb]⟩
  · exact .inr ⟨by omega, by unfold printD; rw [if_neg (by rw [h1]; decide), if_neg hb], v, h3, h4⟩
end Go.AB
