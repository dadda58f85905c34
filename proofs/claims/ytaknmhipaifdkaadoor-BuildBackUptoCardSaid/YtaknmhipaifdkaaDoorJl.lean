/- Walks of the builder's laws: renamed, a unit with other names. -/
import Derived.Test.YtaknmhipaifdkaaDoorJk
set_option linter.unusedSimpArgs false
set_option linter.unusedSectionVars false
namespace Go.AB
open Go.RowKit
set_option linter.unusedVariables false
def zN (s : ByteArray) : ByteArray := ⟨#[122]⟩ ++ s
def yN (s : ByteArray) : ByteArray := ⟨#[121]⟩ ++ s
def rnD (d : DcD) : DcD := ⟨d.kind, zN d.name, d.val, d.l, d.c⟩
theorem Row.slice {w : World} {e k n : Nat} {a : Option Addr} {c : Nat} {r : Option Nat} {xs : List Value} (h : Row w e k (.slice a n c) r n xs) (hn : 0 < n) : ∃ g, r = Option.some g ∧ a = Option.some ⟨g, 0, none⟩ ∧ n ≤ c := by
  obtain ⟨g, c', h1, h2, h3⟩ := Row.some h hn
  simp only [Value.slice.injEq, true_and] at h2
  obtain ⟨rfl, rfl⟩ := h2
  exact ⟨g, h1, rfl, h3⟩
end Go.AB
namespace Go.Proofs.YtaknmhipaifdkaaDoor
open Go.RowKit Go.AB
set_option linter.unusedSimpArgs false
set_option linter.unusedVariables false
set_option linter.unusedSectionVars false

def rnI (x : ItD) : ItD := ⟨x.op, x.a, x.b, x.c, x.n, if ledB x.op then yN x.name else if x.name.size = 0 then x.name else zN x.name, x.p1, x.p2, x.q1, x.q2⟩
def rnB (k : BkD) : BkD := ⟨zN k.name, k.items.map rnI, k.l, k.c⟩
theorem map_set_same {α β : Type} (f : α → β) (l : List α) {n : Nat} (hn : n < l.length) {z : α} (h : f z = f l[n]) : (l.set n z).map f = l.map f := by
  rw [List.map_set, h]
  apply List.ext_getElem?
  intro i
  by_cases hi : n = i
  · subst hi
    simp [hn]
  · rw [List.getElem?_set_ne hi]
def rnO (y : BkO) : BkO := (⟨rnB y.1.b, y.1.items⟩, y.2)
def partO (y : BkO) (k : Nat) : BkO := (⟨⟨zN y.1.b.name, mapTo rnI y.1.b.items k, y.1.b.l, y.1.b.c⟩, y.1.items⟩, y.2)

end Go.Proofs.YtaknmhipaifdkaaDoor
