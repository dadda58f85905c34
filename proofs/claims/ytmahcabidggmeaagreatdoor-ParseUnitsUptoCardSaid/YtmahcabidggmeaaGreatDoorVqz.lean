/- A few laws on lists and units. -/
import Derived.Test.YtmahcabidggmeaaGreatDoorVyz
set_option linter.unusedVariables false
set_option linter.unusedSectionVars false
set_option linter.unusedSimpArgs false
namespace Go.AB
open Go.RowKit
theorem Row.slice {w : World} {e k n : Nat} {a : Option Addr} {c : Nat} {r : Option Nat} {xs : List Value} (h : Row w e k (.slice a n c) r n xs) (hn : 0 < n) : ∃ g, r = Option.some g ∧ a = Option.some ⟨g, 0, none⟩ ∧ n ≤ c := by
  cases r with
  | none =>
    rcases h.form with ⟨h1, h2, _⟩ | ⟨g', cap', cur, _, h2, _⟩
    · omega
    · cases h2
  | some g =>
    obtain ⟨_, _, c', h2, h3, _⟩ := Row.cellk h
    simp only [Value.slice.injEq, true_and] at h2
    obtain ⟨rfl, rfl⟩ := h2
    exact ⟨g, rfl, rfl, h3⟩
theorem All2.same {α : Type} {R : α → α → Prop} (hr : ∀ a, R a a) : ∀ l : List α, All2 R l l
  | [] => .nil
  | a :: l => .cons (hr a) (All2.same hr l)
theorem dcS_refl (p : Bool) (x : DcD) : DcS p x x := ⟨rfl, rfl, rfl, fun _ => ⟨rfl, rfl⟩⟩
theorem itS_refl (p : Bool) (x : ItD) : ItS p x x := ⟨rfl, rfl, rfl, rfl, rfl, rfl, fun _ => ⟨rfl, rfl, rfl, rfl⟩⟩
theorem bkS_refl (p : Bool) (x : BkD) : BkS p x x := ⟨rfl, All2.same (itS_refl p) _, fun _ => ⟨rfl, rfl⟩⟩
theorem unS_refl (p : Bool) (u : UnD) : UnS p u u := ⟨All2.same (dcS_refl p) _, All2.same (bkS_refl p) _⟩
end Go.AB
namespace Go.Proofs.YtmahcabidggmeaaGreatDoor
open Go.RowKit Go.AB
theorem un_unV {W : World} {u : UnD} {q : RQ} (hq : q.bks = u.blocks) (hp : ∀ x ∈ unI u.decls q, x.ok W) : UnV W (.agg #[.slice q.a0 u.decls.length q.c0, .slice q.a1 q.bs.length q.c1]) u := by
  have h0 : (rsDecls u.decls q).ok W := hp _ (List.mem_cons_self ..)
  have h1 : (rsBlocks q).ok W := hp _ (List.mem_cons_of_mem _ (List.mem_cons_self ..))
  refine ⟨_, _, q.bs.map fun x => ⟨x.b, x.v⟩, rfl, Row.view h0, ?_, by rw [← hq, List.map_map]; rfl, fun x hx => ?_⟩
  · have h1 := Row.view h1
    have h2 : q.bs.flatMap blC = (q.bs.map fun x => (⟨x.b, x.v⟩ : BkV)).flatMap bkC := by rw [List.flatMap_map]; rfl
    rw [h2] at h1
    simpa [Lst] using h1
  · obtain ⟨y, hy, rfl⟩ := List.mem_map.1 hx
    have hm : itRow y ∈ unI u.decls q := by unfold unI; simp only [List.mem_cons, List.mem_map]; exact .inr (.inr ⟨y, hy, rfl⟩)
    exact Row.view (hp _ hm)
end Go.Proofs.YtmahcabidggmeaaGreatDoor
