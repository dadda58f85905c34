/- Lists in memory of their own, kept together. No program in sight. -/
import Derived.Test.YtbikekgljabalaaM03
import Derived.Test.YtbikekgljabalaaM01
namespace Go.AB
open Go.RowKit
set_option linter.unusedVariables false

theorem Row.cellk {w : World} {e k : Nat} {v : Value} {g n : Nat} {xs : List Value} (h : Row w e k v (some g) n xs) :
    (∀ p, p < n * k → w.cell? ⟨g, p, none⟩ = some (xs.getD p undef)) ∧ (∀ p, w.frozen? ⟨g, p, none⟩ = false) ∧ ∃ cap, v = .slice (some ⟨g, 0, none⟩) n cap ∧ n ≤ cap ∧ cap ≤ maxLen := by
  rcases h.form with ⟨_, _, _, h4⟩ | ⟨g', cap', cur, rfl, h2, hnc, hcm, hg, hcs, ht⟩
  · cases h4
  · simp only [Option.some.injEq] at h2
    subst h2
    refine ⟨fun p hp => ?_, fun p => blk_free hg p, cap', rfl, hnc, hcm⟩
    have hpc : p < cur.size := by rw [hcs]; exact Nat.lt_of_lt_of_le hp (Nat.mul_le_mul_right k hnc)
    rw [blk_cell hg, ← ht]
    simp [List.getD, hp, hpc]
theorem Row.putk {w : World} {e k : Nat} {v : Value} {n : Nat} {g : Nat} {xs : List Value} (h : Row w e k v (some g) n xs) (p : Nat) (x : Value) :
    Row (w.setCell ⟨g, p, none⟩ x) e k v (some g) n (xs.set p x) := by
  rcases h.form with ⟨_, _, _, h4⟩ | ⟨g', cap', cur, rfl, h2, hnc, hcm, hg, hcs, ht⟩
  · cases h4
  · simp only [Option.some.injEq] at h2
    subst h2
    refine ⟨⟨by rw [List.length_set]; exact h.len, .inr ⟨g, cap', _, rfl, Nat.zero_le _, blk_set hg p _, hnc, hcm, by simp [hcs], ?_⟩⟩, rfl⟩
    rw [Array.toList_setIfInBounds, ← ht, List.take_set]
theorem Row.cap {w : World} {e k : Nat} {ao : Option Addr} {n cap : Nat} {r : Option Nat} {xs : List Value} (h : Row w e k (.slice ao n cap) r n xs) : n ≤ cap := by
  obtain ⟨_, _, ao', cap', hv, h1, _⟩ := h.view
  simp only [Value.slice.injEq, true_and] at hv
  obtain ⟨rfl, rfl⟩ := hv
  exact h1
/-- The first elements of a list that is read. -/
theorem View.prek {w : World} {k : Nat} {ao : Option Addr} {cap n m : Nat} {xs ys : List Value} (h : View w k (.slice ao n cap) n (xs ++ ys)) (hm : m ≤ n) (hx : xs.length = m * k) (hao : ao ≠ none) : View w k (.slice ao m cap) m xs := by
  obtain ⟨h1, h2, ao', cap', hv, h3, h4, h5, h6⟩ := h
  simp only [Value.slice.injEq, true_and] at hv
  obtain ⟨rfl, rfl⟩ := hv
  refine ⟨hx, by omega, _, _, rfl, by omega, h4, fun e => absurd e hao, fun h0 => ?_⟩
  have hmk : m * k ≤ n * k := Nat.mul_le_mul_right k hm
  obtain ⟨b, off, hb, hc⟩ := h6 (by omega)
  refine ⟨b, off, hb, fun j hj => ?_⟩
  rw [hc j (by omega)]
  simp only [List.getD]
  rw [List.getElem?_append_left (by omega)]

/-- A list in memory of its own: the element's type, its cells, the slice, the block, how many, the cells. -/
structure Ent where
  e : Nat
  k : Nat
  v : Value
  g : Nat
  n : Nat
  xs : List Value
/-- All of them lie in memory of their own, no two in the same. -/
def Ents (w0 w : World) (es : List Ent) : Prop := (∀ x ∈ es, w0.heap.size ≤ x.g ∧ Row w x.e x.k x.v (some x.g) x.n x.xs) ∧ (es.map Ent.g).Nodup
section
variable {w0 w w' : World} {es : List Ent}
theorem Ents.nil (w0 w : World) : Ents w0 w [] := ⟨by simp, by simp⟩
theorem Ents.lt (h : Ents w0 w es) {x : Ent} (hx : x ∈ es) : x.g < w.heap.size := (h.1 x hx).2.lt _ rfl
theorem Ents.row (h : Ents w0 w es) {x : Ent} (hx : x ∈ es) : Row w x.e x.k x.v (some x.g) x.n x.xs := (h.1 x hx).2
theorem Ents.keep {S : List Nat} (h : Ents w0 w es) (hc : Chg S w w') (hS : ∀ x ∈ es, x.g ∉ S) : Ents w0 w' es :=
  ⟨fun x hx => ⟨(h.1 x hx).1, (h.1 x hx).2.keep hc (fun g hg => by simp only [Option.some.injEq] at hg; subst hg; exact hS x hx)⟩, h.2⟩
theorem Ents.keep0 (h : Ents w0 w es) (hc : Chg [] w w') : Ents w0 w' es := h.keep hc (by simp)
theorem Ents.snoc (h : Ents w0 w es) (x : Ent) (h1 : w0.heap.size ≤ x.g) (h2 : Row w x.e x.k x.v (some x.g) x.n x.xs) (h3 : ∀ y ∈ es, y.g ≠ x.g) : Ents w0 w (es ++ [x]) := by
  refine ⟨fun y hy => ?_, ?_⟩
  · rcases List.mem_append.1 hy with hy | hy
    · exact h.1 y hy
    · simp only [List.mem_singleton] at hy
      subst hy
      exact ⟨h1, h2⟩
  · rw [List.map_append, List.map_cons, List.map_nil, List.nodup_append]
    refine ⟨h.2, by simp, fun a ha b hb => ?_⟩
    obtain ⟨y, hy, rfl⟩ := List.mem_map.1 ha
    simp only [List.mem_singleton] at hb
    subst hb
    exact h3 y hy
theorem Ents.set (h : Ents w0 w es) {i : Nat} (hi : i < es.length) (p : Nat) (u : Value) : Ents w0 (w.setCell ⟨es[i].g, p, none⟩ u) (es.set i ⟨es[i].e, es[i].k, es[i].v, es[i].g, es[i].n, es[i].xs.set p u⟩) := by
  have hmap : (es.set i ⟨es[i].e, es[i].k, es[i].v, es[i].g, es[i].n, es[i].xs.set p u⟩).map Ent.g = es.map Ent.g := by
    apply List.ext_getElem (by simp)
    intro j h1 h2
    simp only [List.getElem_map, List.getElem_set]
    split
    · rename_i hij; subst hij; rfl
    · rfl
  refine ⟨fun x hx => ?_, by rw [hmap]; exact h.2⟩
  obtain ⟨j, hj, rfl⟩ := List.mem_iff_getElem.1 hx
  have hjl : j < es.length := by simpa using hj
  rw [List.getElem_set]
  split
  · exact ⟨(h.1 _ (List.getElem_mem hi)).1, (h.1 _ (List.getElem_mem hi)).2.putk p u⟩
  · rename_i hij
    refine ⟨(h.1 _ (List.getElem_mem hjl)).1, (h.1 _ (List.getElem_mem hjl)).2.keep (S := [es[i].g]) ((Chg.refl _ w).setCell (p := ⟨es[i].g, p, none⟩) (.inl (by simp)) u) (fun g hg => ?_)⟩
    simp only [Option.some.injEq] at hg
    subst hg
    simp only [List.mem_singleton]
    intro hgg
    have hpw := List.pairwise_iff_getElem.1 h.2
    rcases Nat.lt_or_gt_of_ne hij with hlt | hlt
    · exact hpw i j (by simpa using hi) (by simpa using hjl) hlt (by simp [hgg])
    · exact hpw j i (by simpa using hjl) (by simpa using hi) hlt (by simp [hgg])
theorem Ents.perm {es' : List Ent} (h : Ents w0 w es) (hp : es.Perm es') : Ents w0 w es' :=
  ⟨fun x hx => h.1 x (hp.mem_iff.2 hx), (hp.map Ent.g).nodup_iff.1 h.2⟩
end
/-- A thread in memory of its own. -/
structure ThrG where
  t : ThrD
  cc : Nat
  gc : Nat
  cp : Nat
  gp : Nat
def ThrG.code (x : ThrG) : Value := .slice (some ⟨x.gc, 0, none⟩) x.t.code.length x.cc
def ThrG.plcs (x : ThrG) : Value := .slice (some ⟨x.gp, 0, none⟩) x.t.places.length x.cp
def ThrG.v (x : ThrG) : ThrV := ⟨x.t, x.code, x.plcs⟩
/-- The marks. -/
def markS : ByteArray := ⟨#[109, 97, 114, 107]⟩
def mVar : List Value := [.string markS, .int .i64 0]
def mLock : List Value := [.string markS]
def mIns : List Value := [.int .i64 (-7), .int .i64 0, .int .i64 0, .int .i64 0, .int .i64 0]
def mPlc : List Value := [.int .i64 (-7), .int .i64 0]
def mThr : List Value := [.string markS, .slice none 0 0, .slice none 0 0]
/-- A program in memory of its own, a mark behind each list. -/
structure TwD where
  vars : List VarD
  vols : List VarD
  locks : List ByteArray
  bars : List VarD
  ts : List ThrG
  g0 : Nat
  g1 : Nat
  g2 : Nat
  g3 : Nat
  g4 : Nat
  c0 : Nat
  c1 : Nat
  c2 : Nat
  c3 : Nat
  c4 : Nat
def TwD.prg (q : TwD) : PrgD := ⟨q.vars, q.vols, q.locks, q.bars, q.ts.map ThrG.t⟩
def TwD.val (q : TwD) : Value := .agg #[.slice (some ⟨q.g0, 0, none⟩) q.vars.length q.c0, .slice (some ⟨q.g1, 0, none⟩) q.vols.length q.c1, .slice (some ⟨q.g2, 0, none⟩) q.locks.length q.c2, .slice (some ⟨q.g3, 0, none⟩) q.bars.length q.c3, .slice (some ⟨q.g4, 0, none⟩) q.ts.length q.c4]
end Go.AB
