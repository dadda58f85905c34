/- Lists of rows, each owned; an append that tells where the new row lies. -/
import Derived.Test.YtmahcabidggmeaaGreatDoorBase2
set_option linter.unusedSimpArgs false
set_option linter.unusedSectionVars false
set_option linter.unusedVariables false
namespace Go.AB
open Go.RowKit

/-- What an append does to memory: in place, or in a new block and nothing else. -/
def Grew (w w' : World) (r r' : Option Nat) : Prop := (r' = r ∧ Chg r.toList w w') ∨ (Chg [] w w' ∧ ∀ g, r' = some g → w.heap.size ≤ g)
theorem Grew.chg {w w' : World} {r r' : Option Nat} (h : Grew w w' r r') : Chg r.toList w w' := by
  rcases h with ⟨_, h⟩ | ⟨h, _⟩
  · exact h
  · exact h.nil
theorem Grew.fresh {w w' : World} {r r' : Option Nat} (h : Grew w w' r r') : Fresh w r r' := by
  rcases h with ⟨rfl, _⟩ | ⟨_, h⟩
  · exact Fresh.refl _ _
  · exact fun g hg => .inr (h g hg)

section append
variable {P : Program}
theorem run_append_grew (w : World) (t tx ty e : TypeId) (U : TypeDesc) (i : TypeInfo) (z : Value) (k bytes : Nat) (ht : P.underlying t = some (.slice e)) (hu : P.underlying tx = some U) (hU : (∃ e', U = .slice e') ∨ U = .string)
    (hi : P.info? e = some i) (hz : i.zero = some z) (hsize : i.size = k) (hby : i.bytes = bytes) (hzs : z.cells.size = k) (hk : 0 < k)
    (v : Value) (r : Option Nat) (n : Nat) (xs : List Value) (hrow : Row w e k v r n xs)
    (x : Value) (m : Nat) (ys : List Value) (hl : ys.length = m * k) (hlen : (Builtin.lenOf x).run P w = .ok m w) (hx : ∀ u : World, u.heap = w.heap → (Builtin.firstCells k m x).run P u = .ok ys.toArray u)
    (h1 : ∀ u ∈ ys, u.oneCell' = true) (h63 : n + m ≤ maxLen) (hbytes : (n + m) * bytes ≤ 140737488355328) :
    ∃ v' w' r', (Builtin.append_ #[t, tx] ty #[v, x]).run P w = .ok v' w' ∧ Row w' e k v' r' (n + m) (xs ++ ys) ∧ Grew w w' r r' ∧ (v' = .slice none 0 0 ↔ v = .slice none 0 0 ∧ m = 0) := by
  subst hsize
  subst hby
  have hsmall : n + m ≤ 9223372036854775807 := by simp only [maxLen] at h63; omega
  have hlen' : (xs ++ ys).length = (n + m) * i.size := by rw [List.length_append, hrow.len, hl, Nat.add_mul]
  have grown : ∀ (old : Nat), Row (w.drew.alloc (.cells (xs.toArray ++ ys.toArray ++ Builtin.zeroCells z.cells (grownCap w (n + m) old e - (n + m))) e)) e i.size
        (.slice (some ⟨w.heap.size, 0, none⟩) (n + m) (grownCap w (n + m) old e)) (some w.heap.size) (n + m) (xs ++ ys) := by
    intro old
    have hge := grownCap_ge w (n + m) old e
    have hcm : grownCap w (n + m) old e ≤ maxLen := grownCap_le_maxLen w (n + m) old e h63
    refine ⟨⟨hlen', .inr ⟨w.heap.size, _, _, rfl, Nat.zero_le _, heap_alloc_new w.drew _, hge, hcm, ?_, ?_⟩⟩, rfl⟩
    · simp only [Array.size_append, List.size_toArray, size_zeroCells, hzs, hrow.len, hl, ← Nat.add_mul]
      congr 1
      omega
    · simp only [Array.toList_append, List.append_assoc]
      rw [← List.append_assoc, ← hlen']
      exact List.take_left
  have hgchg : ∀ o, Chg [] w (w.drew.alloc o) := fun o => ((Chg.refl _ _).drew).alloc o
  have hgr0 : ∀ o, Grew w (w.drew.alloc o) r (some w.heap.size) := fun o => .inr ⟨hgchg o, fun g hg => by simp at hg; omega⟩
  rcases hrow.form with ⟨rfl, rfl, rfl, rfl⟩ | ⟨g, cap, cur, rfl, rfl, hnc, hcm, hg, hcs, htake⟩
  · by_cases hm : m = 0
    · subst hm
      have hn : ys = [] := List.eq_nil_of_length_eq_zero (by simpa using hl)
      subst hn
      refine ⟨.slice none 0 0, w, none, ?_, Row.nil w e i.size, .inl ⟨rfl, Chg.refl _ _⟩, by simp⟩
      have hx0 := hx w rfl
      rcases hU with ⟨e', rfl⟩ | rfl <;> simp [Builtin.append_, run_underlying ht, run_underlying hu, sizeOf, typeInfo, hi, hlen, hx0]
    · have h63' : ¬ (9223372036854775807 < (m : Int)) := by omega
      have h48' : ¬ (281474976710656 < Builtin.nextslicecap m 0 * i.bytes) := by rw [nextslicecap_zero (by omega)]; simp only [Nat.zero_add] at hbytes; omega
      have hx0 := hx w.drew rfl
      have hgr := grown 0
      simp only [Nat.zero_add, List.nil_append] at hgr ⊢
      refine ⟨_, _, _, ?_, hgr, hgr0 _, by simp [hm]⟩
      rcases hU with ⟨e', rfl⟩ | rfl <;> simp [Builtin.append_, run_underlying ht, run_underlying hu, sizeOf, typeInfo, zeroValue, hi, hz, hlen, hm, h63', h48', hx0, Question.forced, run_firstCells_none, newRow, grownCap]
  · by_cases hroom : n + m ≤ cap
    · have hfit : n * i.size + ys.length ≤ cur.size := by rw [hl, hcs, ← Nat.add_mul]; exact Nat.mul_le_mul_right _ hroom
      have hst := run_storeCells_at P g (n * i.size) e ys 0 cur w hg (by simpa using hfit) h1
      simp only [Nat.add_zero] at hst
      have hx0 := hx w rfl
      refine ⟨.slice (some ⟨g, 0, none⟩) (n + m) cap, w.setRow g (cur.toList.take (n * i.size) ++ ys ++ cur.toList.drop (n * i.size + ys.length)).toArray, some g, ?_, ⟨⟨hlen', .inr ⟨g, cap, _, rfl, Nat.zero_le _, setRow_heap w g cur _ e _ hg, hroom, hcm, ?_, ?_⟩⟩, rfl⟩, .inl ⟨rfl, ?_⟩, by simp⟩
      · rcases hU with ⟨e', rfl⟩ | rfl <;> simp [Builtin.append_, run_underlying ht, run_underlying hu, sizeOf, typeInfo, hi, hlen, hx0, hroom, hst, Addr.add_lit]
      · simp only [List.size_toArray, List.length_append, List.length_take, List.length_drop, Array.length_toList]
        omega
      · rw [htake, ← hlen']
        exact List.take_left
      · exact ⟨rfl, rfl, rfl, by simp, fun k' _ hk' => setRow_other w g k' _ (fun e => hk' (by simp [e]))⟩
    · have h63' : ¬ (9223372036854775807 < ((n : Int) + (m : Int))) := by omega
      have h48' : ¬ (281474976710656 < Builtin.nextslicecap (n + m) cap * i.bytes) := by have := growslice_fits (need := n + m) (old := cap) (bytes := i.bytes) (by omega) hbytes; omega
      have hx0 := hx w.drew rfl
      have hfo : (Builtin.firstCells i.size n (.slice (some ⟨g, 0, none⟩) n cap)).run P w.drew = .ok xs.toArray w.drew := firstCells_view hrow.view w.drew rfl
      have hgr := grown cap
      refine ⟨_, _, _, ?_, hgr, hgr0 _, by simp⟩
      rcases hU with ⟨e', rfl⟩ | rfl <;> simp [Builtin.append_, run_underlying ht, run_underlying hu, sizeOf, typeInfo, zeroValue, hi, hz, hlen, hroom, h63', h48', hx0, hfo, Question.forced, newRow, grownCap] <;> (congr 2; apply Array.ext'; simp)

theorem wpList_grew {w : World} {ops : Array Oper} {rest : List Oper} {o : Oper} {a : Act} {Q : Exit → Act → World → Prop} (hgd : o.guard = none) (s x : Operand) (t : TypeId)
    (ho : o.op = .call { callee := .builtin .append, args := #[s, x], argTypes := #[t, t] }) {e k bytes : Nat} (E : ElemOk P t e k bytes)
    {v : Value} {r : Option Nat} {n : Nat} {xs : List Value} (hs : a.eval s = v) (hrow : Row w e k v r n xs)
    {y : Value} {m : Nat} {ys : List Value} (hx : a.eval x = y) (hy : View w k y m ys) (h1 : ∀ u ∈ ys, u.oneCell' = true) (h63 : n + m ≤ maxLen) (hbytes : (n + m) * bytes ≤ 140737488355328)
    (h : ∀ ao' cap' r' w', Row w' e k (.slice ao' (n + m) cap') r' (n + m) (xs ++ ys) → Grew w w' r r' → wpList P ops Q rest (a.put o.dst (.slice ao' (n + m) cap')) w') : wpList P ops Q (o :: rest) a w := by
  obtain ⟨i, z, hi, hz, hs', hb, hzs⟩ := E.info
  have hlen : (Builtin.lenOf y).run P w = .ok m w := by obtain ⟨_, _, ao, cap, rfl, _⟩ := hy; rfl
  obtain ⟨v', w', r', hr, h2, h3, h4⟩ := run_append_grew (P := P) w t t o.type e _ i z k bytes E.und E.und (.inl ⟨_, rfl⟩) hi hz hs' hb hzs E.pos v r n xs hrow y m ys hy.1 hlen (firstCells_view hy) h1 h63 hbytes
  refine wpList_plain hgd fun _ hK => ?_
  unfold Oper.wp execOp
  simp only [ho, resolve, invoke, builtin, Sem.run_bind, Sem.run_pure, Result.andThen_ok, List.map_toArray, List.map_cons, List.map_nil, hs, hx, hr]
  obtain ⟨ao', cap', rfl⟩ := h2.shape
  exact hK _ _ (h ao' cap' r' w' h2 h3)

/-- append as a step of a region that draws its order. -/
theorem step_grew {w : World} {ops : Array Oper} {o : Oper} {a : Act} {K : Act → World → Prop} {Q : Exit → Act → World → Prop} {E0 : Prop} (hgd : o.guard = none) (s x : Operand) (t : TypeId)
    (ho : o.op = .call { callee := .builtin .append, args := #[s, x], argTypes := #[t, t] }) {e k bytes : Nat} (E : ElemOk P t e k bytes)
    {v : Value} {r : Option Nat} {n : Nat} {xs : List Value} (hs : a.eval s = v) (hrow : Row w e k v r n xs)
    {y : Value} {m : Nat} {ys : List Value} (hx : a.eval x = y) (hy : View w k y m ys) (h1 : ∀ u ∈ ys, u.oneCell' = true) (h63 : n + m ≤ maxLen) (hbytes : (n + m) * bytes ≤ 140737488355328)
    (h : ∀ ao' cap' r' w', Row w' e k (.slice ao' (n + m) cap') r' (n + m) (xs ++ ys) → Grew w w' r r' → K (a.put o.dst (.slice ao' (n + m) cap')) w') :
    if Region.wanted o (yielded ops a.tmps) = true then Oper.wp P o a w K Q else E0 := by
  have hw : Region.wanted o (yielded ops a.tmps) = true := by simp [Region.wanted, hgd]
  rw [if_pos hw]
  obtain ⟨i, z, hi, hz, hs', hb, hzs⟩ := E.info
  have hlen : (Builtin.lenOf y).run P w = .ok m w := by obtain ⟨_, _, ao, cap, rfl, _⟩ := hy; rfl
  obtain ⟨v', w', r', hr, h2, h3, h4⟩ := run_append_grew (P := P) w t t o.type e _ i z k bytes E.und E.und (.inl ⟨_, rfl⟩) hi hz hs' hb hzs E.pos v r n xs hrow y m ys hy.1 hlen (firstCells_view hy) h1 h63 hbytes
  unfold Oper.wp execOp
  simp only [ho, resolve, invoke, builtin, Sem.run_bind, Sem.run_pure, Result.andThen_ok, List.map_toArray, List.map_cons, List.map_nil, hs, hx, hr]
  obtain ⟨ao', cap', rfl⟩ := h2.shape
  exact h ao' cap' r' w' h2 h3
end append

/-- The first elements of an owned row, by whatever capacity. -/
theorem Row.viewPre {w : World} {e k : Nat} {v : Value} {g : Nat} {n : Nat} {xs : List Value} (h : Row w e k v (some g) n xs) {m cap : Nat} (hm : m ≤ n) (hc : m ≤ cap) (hcm : cap ≤ maxLen) :
    View w k (.slice (some ⟨g, 0, none⟩) m cap) m (xs.take (m * k)) := by
  rcases h.form with ⟨_, _, _, h4⟩ | ⟨g', cap', cur, rfl, h2, hn, hm', hg, hs, ht⟩
  · cases h4
  · simp only [Option.some.injEq] at h2
    subst h2
    have hle : m * k ≤ n * k := Nat.mul_le_mul_right k hm
    refine ⟨by rw [List.length_take, h.len]; omega, by omega, _, _, rfl, hc, hcm, (fun h => by cases h), fun h0 => ⟨g, 0, rfl, fun j hj => ?_⟩⟩
    have hlt : j < cur.size := by rw [hs]; exact Nat.lt_of_lt_of_le (Nat.lt_of_lt_of_le hj hle) (Nat.mul_le_mul_right k hn)
    subst ht
    simp only [World.cell?, hg, Nat.zero_add]
    simp [hlt, List.getD, hj, show j < n * k by omega]

/-- A list of rows: each one's value, block, how many elements, cells. -/
structure Own where
  v : Value
  r : Option Nat
  n : Nat
  xs : List Value
structure Owns (w : World) (e k : Nat) (os : List Own) : Prop where
  row : ∀ i (hi : i < os.length), Row w e k os[i].v os[i].r os[i].n os[i].xs
  apart : ∀ i j (hi : i < os.length) (hj : j < os.length), i ≠ j → ∀ g, os[i].r = some g → os[j].r ≠ some g

theorem Owns.nil (w : World) (e k : Nat) : Owns w e k [] := ⟨fun i hi => by simp at hi, fun i j hi => by simp at hi⟩
theorem Owns.snoc {w : World} {e k : Nat} {os : List Own} (h : Owns w e k os) {o : Own} (hr : Row w e k o.v o.r o.n o.xs) (hne : ∀ i (hi : i < os.length) g, os[i].r = some g → o.r ≠ some g) : Owns w e k (os ++ [o]) := by
  have get : ∀ i (hi : i < (os ++ [o]).length), (∃ h : i < os.length, (os ++ [o])[i] = os[i]) ∨ (i = os.length ∧ (os ++ [o])[i] = o) := fun i hi => by
    by_cases h : i < os.length
    · exact .inl ⟨h, List.getElem_append_left h⟩
    · have : i = os.length := by simp at hi; omega
      subst this
      exact .inr ⟨rfl, by simp⟩
  refine ⟨fun i hi => ?_, fun i j hi hj hij g hg => ?_⟩
  · rcases get i hi with ⟨h1, h2⟩ | ⟨h1, h2⟩ <;> rw [h2]
    · exact h.row i h1
    · exact hr
  · rcases get i hi with ⟨h1, h2⟩ | ⟨h1, h2⟩ <;> rcases get j hj with ⟨h3, h4⟩ | ⟨h3, h4⟩ <;> rw [h2] at hg <;> rw [h4]
    · exact h.apart i j h1 h3 hij g hg
    · exact hne i h1 g hg
    · intro e; exact hne j h3 g e hg
    · omega
theorem Owns.keep {w w' : World} {e k : Nat} {os : List Own} (h : Owns w e k os) {S : List Nat} (hc : Chg S w w') (hS : ∀ i (hi : i < os.length) g, os[i].r = some g → g ∉ S) : Owns w' e k os :=
  ⟨fun i hi => (h.row i hi).keep hc (hS i hi), h.apart⟩
/-- One of the rows is another (its block too), the others stand. -/
theorem Owns.set {w w' : World} {e k : Nat} {os : List Own} (h : Owns w e k os) {i : Nat} (hi : i < os.length) {o : Own} {S : List Nat} (hc : Chg S w w') (hS : ∀ j (hj : j < os.length) g, j ≠ i → os[j].r = some g → g ∉ S)
    (hr : Row w' e k o.v o.r o.n o.xs) (hne : ∀ j (hj : j < os.length) g, j ≠ i → os[j].r = some g → o.r ≠ some g) : Owns w' e k (os.set i o) := by
  refine ⟨fun j hj => ?_, fun a b ha hb hab g hg => ?_⟩
  · rw [List.length_set] at hj
    by_cases h2 : i = j
    · subst h2; simp only [List.getElem_set_self]; exact hr
    · rw [List.getElem_set_ne h2]
      exact (h.row j hj).keep hc (fun g hg => hS j hj g (fun e => h2 e.symm) hg)
  · rw [List.length_set] at ha hb
    by_cases h2 : i = a
    · subst h2
      rw [List.getElem_set_self] at hg
      rw [List.getElem_set_ne hab]
      intro hx
      exact hne b hb g (fun e => hab e.symm) hx hg
    · rw [List.getElem_set_ne h2] at hg
      by_cases h3 : i = b
      · subst h3
        rw [List.getElem_set_self]
        exact hne a ha g (fun e => h2 e.symm) hg
      · rw [List.getElem_set_ne h3]
        exact h.apart a b ha hb hab g hg
end Go.AB
