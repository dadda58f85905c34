/- Lists that are grown, one by one: what holds between. -/
import Derived.Test.YtdakcphkaljghaaKa
import Derived.Test.YtdakcphkaljghaaKp
namespace Go.Proofs.Ytdakcphkaljghaa
open Go.RowKit Go.AB
set_option linter.unusedSimpArgs false
set_option linter.unusedVariables false

/-- The lists where those ahead of i, and of the i-th the first k bytes, are marked. -/
def stOs (es : List Ent) (i k : Nat) : List Own := es.mapIdx fun j e => ⟨e.v, e.r, e.l.length, (if j < i then markN e.l j e.l.length else if j = i then markN e.l j k else e.l).map B⟩
theorem stOs_length (es : List Ent) (i k : Nat) : (stOs es i k).length = es.length := by simp [stOs]
theorem stOs_get (es : List Ent) (i k j : Nat) (hj : j < es.length) : (stOs es i k)[j]'(by rw [stOs_length]; exact hj) = ⟨es[j].v, es[j].r, es[j].l.length, (if j < i then markN es[j].l j es[j].l.length else if j = i then markN es[j].l j k else es[j].l).map B⟩ := by simp [stOs]
/-- The blocks of the lists. -/
def LB (es : List Ent) : List Nat := es.flatMap fun e => e.r.toList
theorem mem_LB {es : List Ent} {g : Nat} : g ∈ LB es ↔ ∃ e, e ∈ es ∧ e.r = some g := by simp [LB]

/-- A list grows by one: what was told of it before is still to be read where it was. -/
theorem grow_step {w w' : World} {U B0 : Nat} {E : Ent} {r r' : Option Nat} {n' : Nat} {xs0 xs' : List Value} {v' : Value} {w0 : World} {zs : List Value} (he : Row w0 U 1 E.v E.r E.l.length zs) (hB : ∀ g, E.r = some g → g < B0) (hBw : B0 ≤ w.heap.size)
    (hview : View w 1 E.v E.l.length xs0) (hrow : Row w' U 1 v' r' n' xs') (hg : Grew w w' r r') (hrel : r = E.r ∨ ∀ g, r = some g → B0 ≤ g) (hn : E.l.length ≤ n') (hpre : xs'.take E.l.length = xs0) :
    View w' 1 E.v E.l.length xs0 ∧ (r' = E.r ∨ ∀ g, r' = some g → B0 ≤ g) := by
  rcases hg with ⟨rfl, hc⟩ | ⟨hc, hnew⟩
  · refine ⟨?_, hrel⟩
    rcases hrel with rfl | hrel
    · rcases he.form with ⟨hv, h0, _, hr⟩ | ⟨g, cap, cur, hv, hr, hnc, hcm, _⟩
      · refine hview.keep hc (fun q hq => ?_)
        rw [hv] at hq; cases hq
      · rw [hr] at hrow
        have h1 := hrow.viewPre (m := E.l.length) (cap := cap) hn hnc hcm
        rw [Nat.mul_one, hpre] at h1
        rw [hv]
        exact h1
    · refine hview.keep hc (fun q hq hm => ?_)
      have h1 : E.r = some q := by rw [← he.blk]; exact hq
      have h2 := hB q h1
      have h3 := hrel q (by simpa using hm)
      omega
  · exact ⟨hview.keep hc (by simp), .inr fun g hg => Nat.le_trans hBw (hnew g hg)⟩

structure Mo (w : World) (b : Nat) (es : List Ent) (rl : Option Nat) (al aw : Option Addr) (cl cw : Nat) (wr : World) (gs : List Own) (am : Option Addr) (cm : Nat) (rm : Option Nat) : Prop where
  blk : wr.heap[b]? = some (.cells #[.slice al es.length cl, .slice aw es.length cw, .slice am gs.length cm] 31 (0, 0))
  rowL : Row wr 25 1 (.slice al es.length cl) rl es.length (es.map Ent.v)
  rowM : Row wr 25 1 (.slice am gs.length cm) rm gs.length (gs.map Own.v)
  le : gs.length ≤ es.length
  own : Owns wr 5 1 (gs ++ (stOs es es.length 0).drop gs.length)
  old : ∀ j (hj : j < es.length), View wr 1 es[j].v es[j].l.length ((markN es[j].l j es[j].l.length).map B)
  gn : ∀ j (hj : j < gs.length) (hj2 : j < es.length), gs[j].n = es[j].l.length + 64 ∧ gs[j].xs = (markN es[j].l j es[j].l.length ++ tailB j 64).map B
  gr : ∀ j (hj : j < gs.length) (hj2 : j < es.length) g, gs[j].r = some g → es[j].r = some g ∨ w.heap.size ≤ g
  rmf : ∀ g, rm = some g → w.heap.size ≤ g ∧ ∀ j (hj : j < gs.length), gs[j].r ≠ some g
  chg : Chg (b :: LB es) w wr

section
variable {w wr w1 w1' w2 : World} {b : Nat} {es : List Ent} {rl rw : Option Nat} {al aw : Option Addr} {cl cw : Nat} {gs : List Own} {am : Option Addr} {cm : Nat} {rm : Option Nat}
theorem Mo.step (hB : Bk w b es rl rw al aw cl cw) (h : Mo w b es rl al aw cl cw wr gs am cm rm) (hi : gs.length < es.length) {v' : Value} {r' : Option Nat}
    (hrow : Row w1 5 1 v' r' (es[gs.length].l.length + 64) ((markN es[gs.length].l gs.length es[gs.length].l.length ++ tailB gs.length 64).map B))
    (hrr : r' = es[gs.length].r ∨ ∀ g, r' = some g → wr.heap.size ≤ g) (hview : View w1 1 es[gs.length].v es[gs.length].l.length ((markN es[gs.length].l gs.length es[gs.length].l.length).map B))
    (hcI : Chg es[gs.length].r.toList wr w1) (hcA : Chg [] w1 w1') {am' : Option Addr} {cm' : Nat} {rm' : Option Nat} (hrM : Row w2 25 1 (.slice am' (gs.length + 1) cm') rm' (gs.length + 1) (gs.map Own.v ++ [v'])) (hG : Grew w1' w2 rm rm') :
    Mo w b es rl al aw cl cw (w2.setCell ⟨b, 2, none⟩ (.slice am' (gs.length + 1) cm')) (gs ++ [⟨v', r', es[gs.length].l.length + 64, (markN es[gs.length].l gs.length es[gs.length].l.length ++ tailB gs.length 64).map B⟩]) am' cm' rm' := by
  have hE := List.getElem_mem hi
  have hcS : Chg [b] w2 (w2.setCell ⟨b, 2, none⟩ (.slice am' (gs.length + 1) cm')) := (Chg.refl [b] w2).setCell (p := ⟨b, 2, none⟩) (.inl (by simp)) _
  have hcM := hG.chg
  have hbw : b < w.heap.size := blk_lt hB.blk
  have hws : w.heap.size ≤ wr.heap.size := h.chg.size
  have hs1 := hcI.size
  have hs1' := hcA.size
  have esr : ∀ j (hj : j < es.length) g, es[j].r = some g → g < w.heap.size ∧ g ≠ b ∧ rl ≠ some g := fun j hj g hg => by
    have hm := List.getElem_mem hj
    have hd := hB.dl _ hm g hg
    exact ⟨hB.lt g (bk_mem.2 (.inr (.inr (.inr ⟨_, hm, .inl hg⟩)))), hd.1, hd.2.1⟩
  have rllt : ∀ g, rl = some g → g < w.heap.size := fun g hg => hB.lt g (bk_mem.2 (.inr (.inl hg)))
  have rmlt : ∀ g, rm = some g → g < wr.heap.size := h.rowM.lt
  have rm'b : ∀ g, rm' = some g → w.heap.size ≤ g ∧ (rm = some g ∨ w1'.heap.size ≤ g) := fun g hg => by
    rcases hG.fresh g hg with h1 | h1
    · exact ⟨(h.rmf g h1).1, .inl h1⟩
    · exact ⟨by omega, .inr h1⟩
  have hEb : ∀ g, g ∈ es[gs.length].r.toList → g < w.heap.size ∧ g ≠ b ∧ rl ≠ some g := fun g hg => esr _ hi g (by simpa using hg)
  have hMb : ∀ g, g ∈ rm.toList → w.heap.size ≤ g := fun g hg => (h.rmf g (by simpa using hg)).1
  have esblk : ∀ j (hj : j < es.length) g, es[j].v.ownBlock = some g → es[j].r = some g := fun j hj g hg => by
    have := (hB.lists.row j (by simpa using hj)).blk
    simp only [List.getElem_map, Ent.own] at this
    rw [← this]; exact hg
  have r'lt : ∀ g, r' = some g → g < w1.heap.size := hrow.lt
  have r'no : ∀ g, r' = some g → rm ≠ some g ∧ g ≠ b := fun g hg => by
    rcases hrr with h1 | h1
    · rw [h1] at hg
      have h2 := esr _ hi g hg
      exact ⟨fun h3 => by have := (h.rmf g h3).1; omega, h2.2.1⟩
    · have h2 := h1 g hg
      exact ⟨fun h3 => by have := rmlt g h3; omega, by omega⟩
  have osl : (gs ++ (stOs es es.length 0).drop gs.length).length = es.length := by rw [List.length_append, List.length_drop, stOs_length]; omega
  have osi : (gs ++ (stOs es es.length 0).drop gs.length)[gs.length]'(by rw [osl]; exact hi) = ⟨es[gs.length].v, es[gs.length].r, es[gs.length].l.length, (markN es[gs.length].l gs.length es[gs.length].l.length).map B⟩ := by
    rw [List.getElem_append_right (Nat.le_refl _), List.getElem_drop]
    simp only [Nat.sub_self, Nat.add_zero]
    rw [stOs_get es _ _ _ hi, if_pos hi]
  have own1 := h.own.set (i := gs.length) (by rw [osl]; exact hi) (o := ⟨v', r', es[gs.length].l.length + 64, (markN es[gs.length].l gs.length es[gs.length].l.length ++ tailB gs.length 64).map B⟩) hcI
    (fun j hj g hji hg hm => h.own.apart j gs.length hj (by rw [osl]; exact hi) hji g hg (by rw [osi]; simpa using hm)) hrow
    (fun j hj g hji hg hr2 => by
      rcases hrr with h1 | h1
      · exact h.own.apart j gs.length hj (by rw [osl]; exact hi) hji g hg (by rw [osi]; show es[gs.length].r = some g; rw [← h1]; exact hr2)
      · have h2 := (h.own.row j hj).lt g hg
        have h3 := h1 g hr2
        omega)
  have hset : (gs ++ (stOs es es.length 0).drop gs.length).set gs.length ⟨v', r', es[gs.length].l.length + 64, (markN es[gs.length].l gs.length es[gs.length].l.length ++ tailB gs.length 64).map B⟩ =
      gs ++ [⟨v', r', es[gs.length].l.length + 64, (markN es[gs.length].l gs.length es[gs.length].l.length ++ tailB gs.length 64).map B⟩] ++ (stOs es es.length 0).drop (gs.length + 1) := by
    rw [List.set_append_right _ _ (Nat.le_refl _), Nat.sub_self, List.drop_eq_getElem_cons (by rw [stOs_length]; exact hi), List.set_cons_zero]
    simp
  rw [hset] at own1
  have hlen : (gs ++ [(⟨v', r', es[gs.length].l.length + 64, (markN es[gs.length].l gs.length es[gs.length].l.length ++ tailB gs.length 64).map B⟩ : Own)]).length = gs.length + 1 := by simp
  have getg : ∀ j (hj : j < (gs ++ [(⟨v', r', es[gs.length].l.length + 64, (markN es[gs.length].l gs.length es[gs.length].l.length ++ tailB gs.length 64).map B⟩ : Own)]).length), (∃ hj2 : j < gs.length, (gs ++ [(⟨v', r', es[gs.length].l.length + 64, (markN es[gs.length].l gs.length es[gs.length].l.length ++ tailB gs.length 64).map B⟩ : Own)])[j] = gs[j]) ∨ (j = gs.length ∧ (gs ++ [(⟨v', r', es[gs.length].l.length + 64, (markN es[gs.length].l gs.length es[gs.length].l.length ++ tailB gs.length 64).map B⟩ : Own)])[j] = ⟨v', r', es[gs.length].l.length + 64, (markN es[gs.length].l gs.length es[gs.length].l.length ++ tailB gs.length 64).map B⟩) := fun j hj => by
    by_cases h1 : j < gs.length
    · exact .inl ⟨h1, List.getElem_append_left h1⟩
    · have h2 : j = gs.length := by rw [hlen] at hj; omega
      subst h2
      exact .inr ⟨rfl, by simp⟩
  have gsno : ∀ j (hj : j < gs.length) g, gs[j].r = some g → g ≠ b := fun j hj g hg => by
    rcases h.gr j hj (by omega) g hg with h1 | h1
    · exact (esr j (by omega) g h1).2.1
    · omega
  have allno : ∀ i (hi2 : i < (gs ++ [(⟨v', r', es[gs.length].l.length + 64, (markN es[gs.length].l gs.length es[gs.length].l.length ++ tailB gs.length 64).map B⟩ : Own)] ++ (stOs es es.length 0).drop (gs.length + 1)).length) g, (gs ++ [(⟨v', r', es[gs.length].l.length + 64, (markN es[gs.length].l gs.length es[gs.length].l.length ++ tailB gs.length 64).map B⟩ : Own)] ++ (stOs es es.length 0).drop (gs.length + 1))[i].r = some g → rm ≠ some g ∧ g ≠ b := fun i hi2 g hg => by
    by_cases h1 : i < gs.length + 1
    · rw [List.getElem_append_left (by rw [hlen]; exact h1)] at hg
      rcases getg i (by rw [hlen]; exact h1) with ⟨h2, h3⟩ | ⟨h2, h3⟩
      · rw [h3] at hg
        exact ⟨fun h4 => (h.rmf g h4).2 i h2 hg, gsno i h2 g hg⟩
      · rw [h3] at hg
        exact r'no g hg
    · rw [List.getElem_append_right (by rw [hlen]; omega), List.getElem_drop] at hg
      have h5 : gs.length + 1 + (i - (gs ++ [(⟨v', r', es[gs.length].l.length + 64, (markN es[gs.length].l gs.length es[gs.length].l.length ++ tailB gs.length 64).map B⟩ : Own)]).length) < es.length := by
        rw [List.length_append, List.length_drop, stOs_length] at hi2
        omega
      rw [stOs_get es _ _ _ h5] at hg
      have h6 := esr _ h5 g hg
      exact ⟨fun h7 => by have := (h.rmf g h7).1; omega, h6.2.1⟩
  refine ⟨?_, ?_, ?_, by rw [hlen]; omega, ?_, ?_, ?_, ?_, ?_, ?_⟩
  · have h1 := hcM.heap (hcA.heap (hcI.heap h.blk (fun hm => (hEb b hm).2.1 rfl)) (by simp)) (fun hm => by have := hMb b hm; omega)
    rw [hlen, blk_set h1]; rfl
  · exact (((h.rowL.keep hcI (fun g hg hm => (hEb g hm).2.2 hg)).keep hcA (by simp)).keep hcM (fun g hg hm => by have := hMb g hm; have := rllt g hg; omega)).keep hcS (fun g hg hm => hB.m1 (by rw [hg]; simpa using hm))
  · rw [hlen, List.map_append]
    exact hrM.keep hcS (fun g hg hm => by have := (rm'b g hg).1; have hm2 : g = b := (by simpa using hm); omega)
  · rw [hlen]
    exact ((own1.keep hcA (by simp)).keep hcM (fun i hi2 g hg hm => (allno i hi2 g hg).1 (by simpa using hm))).keep hcS (fun i hi2 g hg hm => (allno i hi2 g hg).2 (by simpa using hm))
  · intro j hj
    have h1 : View w1 1 es[j].v es[j].l.length ((markN es[j].l j es[j].l.length).map B) := by
      by_cases hji : j = gs.length
      · subst hji; exact hview
      · refine (h.old j hj).keep hcI (fun g hg hm => ?_)
        have h2 := hB.lists.apart j gs.length (by simpa using hj) (by simpa using hi) hji g
        simp only [List.getElem_map, Ent.own] at h2
        exact h2 (esblk j hj g hg) (by simpa using hm)
    exact ((h1.keep hcA (by simp)).keep hcM (fun g hg hm => by have := hMb g hm; have := (esr j hj g (esblk j hj g hg)).1; omega)).keep hcS (fun g hg hm => (esr j hj g (esblk j hj g hg)).2.1 (by simpa using hm))
  · intro j hj hj2
    rcases getg j hj with ⟨h1, h2⟩ | ⟨h1, h2⟩
    · rw [h2]; exact h.gn j h1 hj2
    · rw [h2]; subst h1; exact ⟨rfl, rfl⟩
  · intro j hj hj2 g hg
    rcases getg j hj with ⟨h1, h2⟩ | ⟨h1, h2⟩
    · rw [h2] at hg; exact h.gr j h1 hj2 g hg
    · rw [h2] at hg
      subst h1
      rcases hrr with h3 | h3
      · exact .inl (by rw [← h3]; exact hg)
      · exact .inr (by have := h3 g hg; omega)
  · intro g hg
    have h1 := rm'b g hg
    refine ⟨h1.1, fun j hj hg2 => ?_⟩
    rcases getg j hj with ⟨h2, h3⟩ | ⟨h2, h3⟩
    · rw [h3] at hg2
      rcases h1.2 with h4 | h4
      · exact (h.rmf g h4).2 j h2 hg2
      · have hj3 : j < (gs ++ (stOs es es.length 0).drop gs.length).length := by rw [osl]; omega
        have h5 := (h.own.row j hj3).lt g
        rw [List.getElem_append_left h2] at h5
        have := h5 hg2
        omega
    · rw [h3] at hg2
      rcases h1.2 with h4 | h4
      · exact (r'no g hg2).1 h4
      · have := r'lt g hg2
        omega
  · refine (((h.chg.trans hcI (fun x hx => .inl ?_)).trans hcA (fun x hx => by simp at hx)).trans hcM (fun x hx => .inr (hMb x hx))).trans hcS (fun x hx => .inl ?_)
    · exact List.mem_cons_of_mem _ (mem_LB.2 ⟨_, hE, by simpa using hx⟩)
    · have : x = b := by simpa using hx
      simp [this]
end
end Go.Proofs.Ytdakcphkaljghaa
