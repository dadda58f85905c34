/- Like units: what Same compares. -/
import Derived.Test.YtmahcabidggmeaaGreatDoorVpv
set_option linter.unusedVariables false
set_option linter.unusedSectionVars false
set_option linter.unusedSimpArgs false
namespace Go.AB
open Go.RowKit
/-- Like declarations; places too, if asked. -/
def DcS (p : Bool) (x y : DcD) : Prop := x.kind = y.kind ∧ x.name = y.name ∧ x.val = y.val ∧ (p = true → x.l = y.l ∧ x.c = y.c)
def ItS (p : Bool) (x y : ItD) : Prop := x.op = y.op ∧ x.a = y.a ∧ x.b = y.b ∧ x.c = y.c ∧ x.n = y.n ∧ x.name = y.name ∧ (p = true → x.p1 = y.p1 ∧ x.p2 = y.p2 ∧ x.q1 = y.q1 ∧ x.q2 = y.q2)
def BkS (p : Bool) (x y : BkD) : Prop := x.name = y.name ∧ All2 (ItS p) x.items y.items ∧ (p = true → x.l = y.l ∧ x.c = y.c)
def UnS (p : Bool) (u v : UnD) : Prop := All2 (DcS p) u.decls v.decls ∧ All2 (BkS p) u.blocks v.blocks
theorem All2.len {α β : Type} {R : α → β → Prop} {l : List α} {l' : List β} (h : All2 R l l') : l.length = l'.length := by
  induction h with
  | nil => rfl
  | cons _ _ ih => simp [ih]
theorem All2.at {α β : Type} {R : α → β → Prop} {l : List α} {m : List β} (h : All2 R l m) : ∀ i (h1 : i < l.length) (h2 : i < m.length), R l[i] m[i] := by
  induction h with
  | nil => intro i h1; simp at h1
  | cons h _ ih =>
    intro i h1 h2
    cases i with
    | zero => exact h
    | succ i => exact ih i (by simpa using h1) (by simpa using h2)
end Go.AB
