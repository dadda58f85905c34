/- Lists of owned rows that are written full of marks, grown by marks, and what holds between. No program in sight. -/
import Derived.Test.YtppijmpdoejdmaaOwn
set_option linter.unusedVariables false
namespace Go.AB
open Go.RowKit

/-- One cell of an owned row: what stands there, and the row behind a store. -/
theorem Row.atk {w : World} {e k : Nat} {ao : Option Addr} {cap n : Nat} {r : Option Nat} {xs : List Value} (h : Row w e k (.slice ao n cap) r n xs) (hn : 0 < n * k) :
    ∃ g, ao = some ⟨g, 0, none⟩ ∧ r = some g ∧ (∀ p, p < n * k → w.cell? ⟨g, p, none⟩ = some (xs.getD p undef)) ∧ (∀ p, w.frozen? ⟨g, p, none⟩ = false) := by
  rcases h.form with ⟨_, h0, _⟩ | ⟨g, cap', cur, hv, rfl, hnc, hcm, hg, hcs, ht⟩
  · subst h0; simp at hn
  · simp only [Value.slice.injEq, true_and] at hv
    obtain ⟨rfl, rfl⟩ := hv
    refine ⟨g, rfl, rfl, fun p hp => ?_, fun p => blk_free hg p⟩
    have hpc : p < cur.size := by rw [hcs]; exact Nat.lt_of_lt_of_le hp (Nat.mul_le_mul_right k hnc)
    rw [blk_cell hg, ← ht]
    simp [List.getD, List.getElem?_take, hp, hpc]
theorem Row.setk {w : World} {e k : Nat} {v : Value} {n : Nat} {g : Nat} {xs : List Value} (h : Row w e k v (some g) n xs) (p : Nat) (x : Value) :
    Row (w.setCell ⟨g, p, none⟩ x) e k v (some g) n (xs.set p x) := by
  rcases h.form with ⟨_, _, _, h4⟩ | ⟨g', cap', cur, rfl, h2, hnc, hcm, hg, hcs, ht⟩
  · cases h4
  · simp only [Option.some.injEq] at h2
    subst h2
    refine ⟨⟨by rw [List.length_set]; exact h.len, .inr ⟨g, cap', _, rfl, Nat.zero_le _, blk_set hg p _, hnc, hcm, by simp [hcs], ?_⟩⟩, rfl⟩
    rw [Array.toList_setIfInBounds, ← ht, List.take_set]
theorem Chg.set1 (g : Nat) (w : World) (p : Nat) (x : Value) : Chg [g] w (w.setCell ⟨g, p, none⟩ x) := (Chg.refl [g] w).setCell (p := ⟨g, p, none⟩) (.inl (by simp)) _

section
variable (MK : Nat → Int → List Value) (k : Nat)
/-- The marks of list i at its first n places, and those behind them. -/
def fullM (i n : Nat) : List Value := (List.range n).flatMap fun q : Nat => MK i (q : Int)
def tailM (i n : Nat) : List Value := (List.range n).flatMap fun q : Nat => MK i (-1 - (q : Int))
theorem range_flat_length {f : Nat → List Value} {k : Nat} (hf : ∀ q, (f q).length = k) (n : Nat) : ((List.range n).flatMap f).length = n * k := by
  induction n with
  | zero => simp
  | succ n ih => rw [List.range_succ, List.flatMap_append, List.length_append, ih]; simp [hf, Nat.succ_mul]
theorem range_flat_succ {f : Nat → List Value} (n : Nat) : (List.range (n + 1)).flatMap f = (List.range n).flatMap f ++ f n := by
  rw [List.range_succ, List.flatMap_append]; simp
theorem range_flat_get {f : Nat → List Value} {k : Nat} (hf : ∀ q, (f q).length = k) (n q j : Nat) (hq : q < n) (hj : j < k) : ((List.range n).flatMap f).getD (q * k + j) undef = (f q).getD j undef := by
  induction n with
  | zero => omega
  | succ n ih =>
    rw [range_flat_succ]
    have hl := range_flat_length hf n
    by_cases h : q < n
    · have h2 : q * k + j < n * k := by
        have : (q + 1) * k ≤ n * k := Nat.mul_le_mul_right k h
        rw [Nat.succ_mul] at this
        omega
      rw [← ih h]
      simp only [List.getD]
      rw [List.getElem?_append_left (by rw [hl]; exact h2)]
    · have h3 : q = n := by omega
      subst h3
      simp only [List.getD]
      rw [List.getElem?_append_right (by rw [hl]; omega), hl, Nat.add_sub_cancel_left]
variable {MK k}
theorem fullM_length (hM : ∀ i p, (MK i p).length = k) (i n : Nat) : (fullM MK i n).length = n * k := range_flat_length (fun q => hM i q) n
theorem tailM_length (hM : ∀ i p, (MK i p).length = k) (i n : Nat) : (tailM MK i n).length = n * k := range_flat_length (fun q => hM i _) n
theorem fullM_succ (i n : Nat) : fullM MK i (n + 1) = fullM MK i n ++ MK i n := range_flat_succ n
theorem tailM_succ (i n : Nat) : tailM MK i (n + 1) = tailM MK i n ++ MK i (-1 - (n : Int)) := range_flat_succ n
theorem fullM_get (hM : ∀ i p, (MK i p).length = k) (i n q j : Nat) (hq : q < n) (hj : j < k) : (fullM MK i n).getD (q * k + j) undef = (MK i q).getD j undef := range_flat_get (fun q => hM i q) n q j hq hj
theorem tailM_get (hM : ∀ i p, (MK i p).length = k) (i n q j : Nat) (hq : q < n) (hj : j < k) : (tailM MK i n).getD (q * k + j) undef = (MK i (-1 - (q : Int))).getD j undef := range_flat_get (f := fun q : Nat => MK i (-1 - (q : Int))) (fun q => hM i _) n q j hq hj
theorem fullM_zero (i : Nat) : fullM MK i 0 = [] := rfl
theorem tailM_zero (i : Nat) : tailM MK i 0 = [] := rfl
end

/-- The rows where those ahead of i, and of the i-th the first q elements, are marked. -/
def stO (MK : Nat → Int → List Value) (k : Nat) (os : List Own) (i q : Nat) : List Own :=
  os.mapIdx fun j o => ⟨o.v, o.r, o.n, if j < i then fullM MK j o.n else if j = i then fullM MK j q ++ o.xs.drop (q * k) else o.xs⟩
section
variable {MK : Nat → Int → List Value} {k : Nat} {os : List Own}
theorem stO_length (i q : Nat) : (stO MK k os i q).length = os.length := by simp [stO]
theorem stO_get (i q j : Nat) (hj : j < os.length) : (stO MK k os i q)[j]'(by rw [stO_length]; exact hj) = ⟨os[j].v, os[j].r, os[j].n, if j < i then fullM MK j os[j].n else if j = i then fullM MK j q ++ os[j].xs.drop (q * k) else os[j].xs⟩ := by simp [stO]
theorem stO_zero : stO MK k os 0 0 = os := by
  apply List.ext_getElem (by simp [stO])
  intro j h1 h2
  rw [stO_get 0 0 j h2]
  simp only [Nat.not_lt_zero, if_false]
  by_cases h : j = 0
  · rw [if_pos h, fullM_zero]; simp
  · rw [if_neg h]
theorem stO_next (i : Nat) (hi : i < os.length) (hx : os[i].xs.length = os[i].n * k) : stO MK k os i os[i].n = stO MK k os (i + 1) 0 := by
  apply List.ext_getElem (by simp [stO])
  intro j h1 h2
  have hj : j < os.length := by rw [stO_length] at h1; exact h1
  rw [stO_get _ _ j hj, stO_get _ _ j hj]
  congr 1
  by_cases h : j < i
  · rw [if_pos h, if_pos (by omega)]
  · rw [if_neg h]
    by_cases h3 : j = i
    · subst h3; rw [if_pos rfl, if_pos (by omega), ← hx, List.drop_length, List.append_nil]
    · rw [if_neg h3, if_neg (by omega)]
      by_cases h4 : j = i + 1
      · rw [if_pos h4, fullM_zero]; simp
      · rw [if_neg h4]
theorem stO_set (i q : Nat) (hi : i < os.length) : (stO MK k os i q).set i ⟨os[i].v, os[i].r, os[i].n, fullM MK i (q + 1) ++ os[i].xs.drop ((q + 1) * k)⟩ = stO MK k os i (q + 1) := by
  apply List.ext_getElem (by simp [stO])
  intro j h1 h2
  have hj : j < os.length := by rw [stO_length] at h2; exact h2
  rw [stO_get _ _ j hj]
  by_cases h : i = j
  · subst h
    rw [List.getElem_set_self, if_neg (by omega), if_pos rfl]
  · rw [List.getElem_set_ne h, stO_get _ _ j hj]
    congr 1
    by_cases h3 : j < i
    · rw [if_pos h3, if_pos h3]
    · rw [if_neg h3, if_neg h3, if_neg (by omega), if_neg (by omega)]
end
/-- The blocks of the rows. -/
def OB (os : List Own) : List Nat := os.flatMap fun o => o.r.toList
theorem mem_OB {os : List Own} {g : Nat} : g ∈ OB os ↔ ∃ o, o ∈ os ∧ o.r = some g := by simp [OB]
theorem Owns.ltw {w : World} {e k : Nat} {os : List Own} (h : Owns w e k os) {g : Nat} (hg : g ∈ OB os) : g < w.heap.size := by
  obtain ⟨o, ho, hr⟩ := mem_OB.1 hg
  obtain ⟨i, hi, rfl⟩ := List.mem_iff_getElem.1 ho
  exact (h.row i hi).lt g hr

/-- A list grows: what was told of it before is still to be read where it was. -/
theorem grow_stepk {w w' : World} {e k : Nat} {B0 : Nat} {o : Own} {r r' : Option Nat} {n' : Nat} {xs0 xs' : List Value} {v' : Value} {w0 : World} {zs : List Value} (he : Row w0 e k o.v o.r o.n zs) (hB : ∀ g, o.r = some g → g < B0) (hBw : B0 ≤ w.heap.size)
    (hview : View w k o.v o.n xs0) (hrow : Row w' e k v' r' n' xs') (hg : Grew w w' r r') (hrel : r = o.r ∨ ∀ g, r = some g → B0 ≤ g) (hn : o.n ≤ n') (hpre : xs'.take (o.n * k) = xs0) :
    View w' k o.v o.n xs0 ∧ (r' = o.r ∨ ∀ g, r' = some g → B0 ≤ g) := by
  rcases hg with ⟨rfl, hc⟩ | ⟨hc, hnew⟩
  · refine ⟨?_, hrel⟩
    rcases hrel with rfl | hrel
    · rcases he.form with ⟨hv, h0, _, hr⟩ | ⟨g, cap, cur, hv, hr, hnc, hcm, _⟩
      · refine hview.keep hc (fun q hq => ?_)
        rw [hv] at hq; cases hq
      · rw [hr] at hrow
        have h1 := hrow.viewPre (m := o.n) (cap := cap) hn hnc hcm
        rw [hpre] at h1
        rw [hv]
        exact h1
    · refine hview.keep hc (fun q hq hm => ?_)
      have h1 : o.r = some q := by rw [← he.blk]; exact hq
      have h2 := hB q h1
      have h3 := hrel q (by simpa using hm)
      omega
  · exact ⟨hview.keep hc (by simp), .inr fun g hg => Nat.le_trans hBw (hnew g hg)⟩

/-- Of the marked rows the first ones are grown (gs); their values stand in a row of their own. -/
structure Gro (MK : Nat → Int → List Value) (e k T lots : Nat) (w : World) (os : List Own) (wr : World) (gs : List Own) (am : Option Addr) (cm : Nat) (rm : Option Nat) : Prop where
  rowM : Row wr T 1 (.slice am gs.length cm) rm gs.length (gs.map Own.v)
  le : gs.length ≤ os.length
  own : Owns wr e k (gs ++ (stO MK k os os.length 0).drop gs.length)
  old : ∀ j (hj : j < os.length), View wr k os[j].v os[j].n (fullM MK j os[j].n)
  gn : ∀ j (hj : j < gs.length) (hj2 : j < os.length), gs[j].n = os[j].n + lots ∧ gs[j].xs = fullM MK j os[j].n ++ tailM MK j lots
  gr : ∀ j (hj : j < gs.length) (hj2 : j < os.length) g, gs[j].r = some g → os[j].r = some g ∨ w.heap.size ≤ g
  rmf : ∀ g, rm = some g → w.heap.size ≤ g ∧ ∀ j (hj : j < gs.length), gs[j].r ≠ some g
  chg : Chg (OB os) w wr

section
variable {MK : Nat → Int → List Value} {e k T lots : Nat} {w wr w1 w1' w2 : World} {os gs : List Own} {am : Option Addr} {cm : Nat} {rm : Option Nat}
theorem Gro.start (hB : Owns w e k os) (hown : Owns wr e k (stO MK k os os.length 0)) (hch : Chg (OB os) w wr) : Gro MK e k T lots w os wr [] none 0 none := by
  refine ⟨Row.nil _ _ _, Nat.zero_le _, hown, fun j hj => ?_, fun j hj => by simp at hj, fun j hj => by simp at hj, fun g hg => by simp at hg, hch⟩
  have h1 := hown.row j (by rw [stO_length]; exact hj)
  rw [stO_get _ _ j hj] at h1
  simp only [if_pos hj] at h1
  exact h1.view
theorem Gro.step (hB : Owns w e k os) (h : Gro MK e k T lots w os wr gs am cm rm) (hi : gs.length < os.length) {v' : Value} {r' : Option Nat}
    (hrow : Row w1 e k v' r' (os[gs.length].n + lots) (fullM MK gs.length os[gs.length].n ++ tailM MK gs.length lots))
    (hrr : r' = os[gs.length].r ∨ ∀ g, r' = some g → wr.heap.size ≤ g) (hview : View w1 k os[gs.length].v os[gs.length].n (fullM MK gs.length os[gs.length].n))
    (hcI : Chg os[gs.length].r.toList wr w1) (hcA : Chg [] w1 w1') {am' : Option Addr} {cm' : Nat} {rm' : Option Nat} (hrM : Row w2 T 1 (.slice am' (gs.length + 1) cm') rm' (gs.length + 1) (gs.map Own.v ++ [v'])) (hG : Grew w1' w2 rm rm') :
    Gro MK e k T lots w os w2 (gs ++ [⟨v', r', os[gs.length].n + lots, fullM MK gs.length os[gs.length].n ++ tailM MK gs.length lots⟩]) am' cm' rm' := by
  have hE := List.getElem_mem hi
  have hcM := hG.chg
  have hws : w.heap.size ≤ wr.heap.size := h.chg.size
  have hs1 := hcI.size
  have hs1' := hcA.size
  have esr : ∀ j (hj : j < os.length) g, os[j].r = some g → g < w.heap.size := fun j hj g hg => (hB.row j hj).lt g hg
  have rmlt : ∀ g, rm = some g → g < wr.heap.size := h.rowM.lt
  have rm'b : ∀ g, rm' = some g → w.heap.size ≤ g ∧ (rm = some g ∨ w1'.heap.size ≤ g) := fun g hg => by
    rcases hG.fresh g hg with h1 | h1
    · exact ⟨(h.rmf g h1).1, .inl h1⟩
    · exact ⟨by omega, .inr h1⟩
  have hMb : ∀ g, g ∈ rm.toList → w.heap.size ≤ g := fun g hg => (h.rmf g (by simpa using hg)).1
  have esblk : ∀ j (hj : j < os.length) g, os[j].v.ownBlock = some g → os[j].r = some g := fun j hj g hg => by
    rw [← (hB.row j hj).blk]; exact hg
  have r'lt : ∀ g, r' = some g → g < w1.heap.size := hrow.lt
  have r'no : ∀ g, r' = some g → rm ≠ some g := fun g hg => by
    rcases hrr with h1 | h1
    · rw [h1] at hg
      have h2 := esr _ hi g hg
      exact fun h3 => by have := (h.rmf g h3).1; omega
    · have h2 := h1 g hg
      exact fun h3 => by have := rmlt g h3; omega
  obtain ⟨nw, hnw⟩ : ∃ nw : Own, (⟨v', r', os[gs.length].n + lots, fullM MK gs.length os[gs.length].n ++ tailM MK gs.length lots⟩ : Own) = nw := ⟨_, rfl⟩
  have nwr : nw.r = r' := by rw [← hnw]
  have osl : (gs ++ (stO MK k os os.length 0).drop gs.length).length = os.length := by rw [List.length_append, List.length_drop, stO_length]; have := h.le; omega
  have osi : (gs ++ (stO MK k os os.length 0).drop gs.length)[gs.length]'(by rw [osl]; exact hi) = ⟨os[gs.length].v, os[gs.length].r, os[gs.length].n, fullM MK gs.length os[gs.length].n⟩ := by
    rw [List.getElem_append_right (Nat.le_refl _), List.getElem_drop]
    simp only [Nat.sub_self, Nat.add_zero]
    rw [stO_get _ _ _ hi, if_pos hi]
  have own1 := h.own.set (i := gs.length) (by rw [osl]; exact hi) (o := nw) hcI
    (fun j hj g hji hg hm => h.own.apart j gs.length hj (by rw [osl]; exact hi) hji g hg (by rw [osi]; simpa using hm)) (by rw [← hnw]; exact hrow)
    (fun j hj g hji hg hr2 => by
      rw [nwr] at hr2
      rcases hrr with h1 | h1
      · exact h.own.apart j gs.length hj (by rw [osl]; exact hi) hji g hg (by rw [osi]; show os[gs.length].r = some g; rw [← h1]; exact hr2)
      · have h2 := (h.own.row j hj).lt g hg
        have h3 := h1 g hr2
        omega)
  have hset : (gs ++ (stO MK k os os.length 0).drop gs.length).set gs.length nw = gs ++ [nw] ++ (stO MK k os os.length 0).drop (gs.length + 1) := by
    rw [List.set_append_right _ _ (Nat.le_refl _), Nat.sub_self, List.drop_eq_getElem_cons (by rw [stO_length]; exact hi), List.set_cons_zero]
    simp
  rw [hset] at own1
  have hlen : (gs ++ [nw]).length = gs.length + 1 := by simp
  have getg : ∀ j (hj : j < (gs ++ [nw]).length), (∃ hj2 : j < gs.length, (gs ++ [nw])[j] = gs[j]) ∨ (j = gs.length ∧ (gs ++ [nw])[j] = nw) := fun j hj => by
    by_cases h1 : j < gs.length
    · exact .inl ⟨h1, List.getElem_append_left h1⟩
    · have h2 : j = gs.length := by rw [hlen] at hj; omega
      subst h2
      exact .inr ⟨rfl, by simp⟩
  have allno : ∀ i (hi2 : i < (gs ++ [nw] ++ (stO MK k os os.length 0).drop (gs.length + 1)).length) g, (gs ++ [nw] ++ (stO MK k os os.length 0).drop (gs.length + 1))[i].r = some g → rm ≠ some g := fun i hi2 g hg => by
    by_cases h1 : i < gs.length + 1
    · rw [List.getElem_append_left (by rw [hlen]; exact h1)] at hg
      rcases getg i (by rw [hlen]; exact h1) with ⟨h2, h3⟩ | ⟨h2, h3⟩
      · rw [h3] at hg
        exact fun h4 => (h.rmf g h4).2 i h2 hg
      · rw [h3, nwr] at hg
        exact r'no g hg
    · rw [List.getElem_append_right (by rw [hlen]; omega), List.getElem_drop] at hg
      have h5 : gs.length + 1 + (i - (gs ++ [nw]).length) < os.length := by
        rw [List.length_append, List.length_drop, stO_length] at hi2
        omega
      rw [stO_get _ _ _ h5] at hg
      have h6 := esr _ h5 g hg
      exact fun h7 => by have := (h.rmf g h7).1; omega
  rw [hnw]
  refine ⟨?_, by rw [hlen]; omega, ?_, ?_, ?_, ?_, ?_, ?_⟩
  · rw [hlen, List.map_append]
    have : List.map Own.v [nw] = [v'] := by rw [← hnw]; rfl
    rw [this]
    exact hrM
  · rw [hlen]
    exact (own1.keep hcA (by simp)).keep hcM (fun i hi2 g hg hm => (allno i hi2 g hg) (by simpa using hm))
  · intro j hj
    have h1 : View w1 k os[j].v os[j].n (fullM MK j os[j].n) := by
      by_cases hji : j = gs.length
      · subst hji; exact hview
      · refine (h.old j hj).keep hcI (fun g hg hm => ?_)
        exact hB.apart j gs.length hj hi hji g (esblk j hj g hg) (by simpa using hm)
    exact (h1.keep hcA (by simp)).keep hcM (fun g hg hm => by have := hMb g hm; have := esr j hj g (esblk j hj g hg); omega)
  · intro j hj hj2
    rcases getg j hj with ⟨h1, h2⟩ | ⟨h1, h2⟩
    · rw [h2]; exact h.gn j h1 hj2
    · rw [h2, ← hnw]; subst h1; exact ⟨rfl, rfl⟩
  · intro j hj hj2 g hg
    rcases getg j hj with ⟨h1, h2⟩ | ⟨h1, h2⟩
    · rw [h2] at hg; exact h.gr j h1 hj2 g hg
    · rw [h2, nwr] at hg
      subst h1
      rcases hrr with h3 | h3
      · exact .inl (by rw [← h3]; exact hg)
      · exact .inr (by have := h3 g hg; omega)
  · intro g hg
    have h1 := rm'b g hg
    refine ⟨h1.1, fun j hj hg2 => ?_⟩
    rcases getg j hj with ⟨h2, h3⟩ | ⟨h2, h3⟩
    · rw [h3] at hg2
      rcases h1.2 with h4 | h4
      · exact (h.rmf g h4).2 j h2 hg2
      · have hj3 : j < (gs ++ (stO MK k os os.length 0).drop gs.length).length := by rw [osl]; omega
        have h5 := (h.own.row j hj3).lt g
        rw [List.getElem_append_left h2] at h5
        have := h5 hg2
        omega
    · rw [h3, nwr] at hg2
      rcases h1.2 with h4 | h4
      · exact r'no g hg2 h4
      · have := r'lt g hg2
        omega
  · exact ((h.chg.trans hcI (fun x hx => .inl (mem_OB.2 ⟨_, hE, by simpa using hx⟩))).trans hcA (fun x hx => by simp at hx)).trans hcM (fun x hx => .inr (hMb x hx))
end
end Go.AB
