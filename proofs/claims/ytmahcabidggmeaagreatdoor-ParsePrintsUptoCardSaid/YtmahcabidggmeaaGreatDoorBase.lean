import Derived.WalkKit
import Derived.WalkSpells
import Derived.WalkLawsBesides
import Derived.ProofKit
set_option linter.unusedSimpArgs false
set_option linter.unusedVariables false
set_option linter.unusedSectionVars false
/- General lemmas on worlds: what a call may change, rows that are owned, slices that are read. -/
namespace Go.AB
open Go.RowKit

/-- A fact kept from the walk. -/
theorem hid {p : Prop} (h : p) : Hid p := h

/-- The walk stands still here: behind it 'rw [hX.out]' goes on. -/
theorem halt {p : Prop} (h : ∀ X : Prop, Hid (X = p) → X) : p := h p rfl

/-- Below 2 to the 64 (behind a name: the walk bears no such numeral). -/
def U64 (n : Nat) : Prop := n < 18446744073709551616
theorem U64.out {n : Nat} (h : U64 n) : n < 18446744073709551616 := h
theorem U64.div {n : Nat} (h : U64 n) (k : Nat) : U64 (n / k) := Nat.lt_of_le_of_lt (Nat.div_le_self _ _) h

/-- Of the old blocks only those of S may have changed. -/
structure Chg (S : List Nat) (w w' : World) : Prop where
  os : w'.os = w.os
  tape : w'.tape = w.tape
  output : w'.output = w.output
  size : w.heap.size ≤ w'.heap.size
  block : ∀ k, k < w.heap.size → k ∉ S → w'.heap[k]? = w.heap[k]?

theorem Chg.refl (S : List Nat) (w : World) : Chg S w w := ⟨rfl, rfl, rfl, Nat.le_refl _, fun _ _ _ => rfl⟩
theorem Chg.trans {S T : List Nat} {a b c : World} (h : Chg S a b) (k : Chg T b c) (hT : ∀ x, x ∈ T → x ∈ S ∨ a.heap.size ≤ x) : Chg S a c :=
  ⟨k.os.trans h.os, k.tape.trans h.tape, k.output.trans h.output, Nat.le_trans h.size k.size,
    fun i hi hs => (k.block i (Nat.lt_of_lt_of_le hi h.size) (fun hm => by rcases hT i hm with h1 | h1; exact hs h1; omega)).trans (h.block i hi hs)⟩
theorem Chg.trans' {S : List Nat} {a b c : World} (h : Chg S a b) (k : Chg S b c) : Chg S a c := h.trans k fun _ hx => .inl hx
theorem Chg.mono {S T : List Nat} {a b : World} (h : Chg S a b) (hT : ∀ x, x ∈ S → x ∈ T ∨ a.heap.size ≤ x) : Chg T a b :=
  ⟨h.os, h.tape, h.output, h.size, fun i hi hs => h.block i hi fun hm => by rcases hT i hm with h1 | h1; exact hs h1; omega⟩
theorem Chg.nil {T : List Nat} {a b : World} (h : Chg [] a b) : Chg T a b := h.mono fun x hx => by cases hx
theorem Chg.drew {S : List Nat} {a b : World} (h : Chg S a b) : Chg S a b.drew := ⟨h.os, h.tape, h.output, h.size, h.block⟩
theorem Chg.drewN {S : List Nat} {a b : World} (h : Chg S a b) (n : Nat) : Chg S a (b.drewN n) := ⟨h.os, h.tape, h.output, h.size, h.block⟩
theorem Chg.of_drewN (S : List Nat) (a : World) (n : Nat) : Chg S a (a.drewN n) := (Chg.refl S a).drewN n
theorem Chg.alloc {S : List Nat} {a b : World} (h : Chg S a b) (o : Obj) : Chg S a (b.alloc o) :=
  h.trans (T := S) ⟨rfl, rfl, rfl, by simp, fun k hk _ => Below.heap_alloc _ _ _ hk⟩ fun _ hx => .inl hx
theorem Chg.setCell {S : List Nat} {a b : World} (h : Chg S a b) {p : Addr} (hp : p.block ∈ S ∨ a.heap.size ≤ p.block) (u : Value) : Chg S a (b.setCell p u) :=
  h.trans (T := [p.block]) ⟨rfl, rfl, rfl, by simp [World.setCell], fun k _ hk => Below.heap_setCell _ _ _ _ (by simpa using hk)⟩
    fun x hx => by simp at hx; subst hx; exact hp
theorem Chg.grown {S : List Nat} {a b c : World} {row : Option Nat} (h : Chg S a b) (hg : b.grownBy c row) (hr : ∀ k, row = some k → k ∈ S ∨ a.heap.size ≤ k) : Chg S a c :=
  h.trans (T := row.toList) ⟨hg.os, hg.tape, hg.output, hg.size, fun k hk hn => hg.block k hk (fun e => hn (by simp [← e]))⟩
    fun x hx => hr x (by simpa using hx)
theorem Chg.below {S : List Nat} {a b : World} {B : Nat} (h : Chg S a b) (hS : ∀ x, x ∈ S → B ≤ x) (hB : B ≤ a.heap.size) : Below B a b :=
  ⟨h.os, h.tape, h.output, h.size, fun k hk => h.block k (by omega) fun hm => by have := hS k hm; omega⟩
theorem Chg.of_below {a b : World} (h : Below a.heap.size a b) (S : List Nat) : Chg S a b :=
  ⟨h.os, h.tape, h.output, h.size, fun k hk _ => h.block k hk⟩
theorem Chg.to_below {a b : World} (h : Chg [] a b) : Below a.heap.size a b := h.below (fun x hx => by cases hx) (Nat.le_refl _)
theorem Chg.cell {S : List Nat} {a b : World} (h : Chg S a b) {p : Addr} {v : Value} (hc : a.cell? p = some v) (hp : p.block ∉ S) : b.cell? p = some v :=
  (World.cell?_of_block (h.block p.block (World.block_lt_of_cell? a p hc) hp)).trans hc
theorem Chg.heap {S : List Nat} {a b : World} (h : Chg S a b) {k : Nat} {o : Obj} (hc : a.heap[k]? = some o) (hp : k ∉ S) : b.heap[k]? = some o :=
  (h.block k (Array.getElem?_eq_some_iff.1 hc).1 hp).trans hc

/-- A block that may be new: r' is r, or a block that a does not have. -/
def Fresh (a : World) (r r' : Option Nat) : Prop := ∀ g, r' = some g → r = some g ∨ a.heap.size ≤ g

theorem Fresh.refl (a : World) (r : Option Nat) : Fresh a r r := fun _ h => .inl h
theorem Fresh.trans {a b : World} {r s t : Option Nat} (h : Fresh a r s) (hs : a.heap.size ≤ b.heap.size) (k : Fresh b s t) : Fresh a r t := fun g hg => by
  rcases k g hg with h1 | h1
  · exact h g h1
  · exact .inr (by omega)
theorem Fresh.mono {a b : World} {r s : Option Nat} (k : Fresh b r s) (hs : a.heap.size ≤ b.heap.size) : Fresh a r s := fun g hg => (k g hg).imp id fun h => by omega

/-- An owned row: a slice value over the head of a block that nobody else writes. -/
structure Row (w : World) (e k : Nat) (v : Value) (r : Option Nat) (n : Nat) (xs : List Value) : Prop where
  own : w.ownsRow 0 e k v n xs
  blk : v.ownBlock = r

theorem Row.nil (w : World) (e k : Nat) : Row w e k (.slice none 0 0) none 0 [] := ⟨World.ownsRow_nil _ _ _ _, rfl⟩
theorem Row.lt {w : World} {e k : Nat} {v : Value} {r : Option Nat} {n : Nat} {xs : List Value} (h : Row w e k v r n xs) : ∀ g, r = some g → g < w.heap.size :=
  fun g hg => (h.own.lt g (h.blk.trans hg)).2
theorem Row.keep {w w' : World} {e k : Nat} {v : Value} {r : Option Nat} {n : Nat} {xs : List Value} {S : List Nat} (h : Row w e k v r n xs) (hc : Chg S w w') (hS : ∀ g, r = some g → g ∉ S) :
    Row w' e k v r n xs := by
  refine ⟨⟨h.own.1, ?_⟩, h.blk⟩
  rcases h.own.2 with hn | ⟨g, cap, cur, hv, hb, hg, rest⟩
  · exact .inl hn
  · refine .inr ⟨g, cap, cur, hv, hb, hc.heap hg (hS g ?_), rest⟩
    rw [← h.blk, hv]; rfl
theorem Row.len {w : World} {e k : Nat} {v : Value} {r : Option Nat} {n : Nat} {xs : List Value} (h : Row w e k v r n xs) : xs.length = n * k := h.own.1

/-- What is known of an owned row's value. -/
theorem Row.form {w : World} {e k : Nat} {v : Value} {r : Option Nat} {n : Nat} {xs : List Value} (h : Row w e k v r n xs) :
    (v = .slice none 0 0 ∧ n = 0 ∧ xs = [] ∧ r = none) ∨
    ∃ g cap cur, v = .slice (some ⟨g, 0, none⟩) n cap ∧ r = some g ∧ n ≤ cap ∧ cap ≤ maxLen ∧ w.heap[g]? = some (.cells cur e (0, 0)) ∧ cur.size = cap * k ∧ cur.toList.take (n * k) = xs := by
  obtain ⟨⟨hl, h1⟩, h2⟩ := h
  rcases h1 with ⟨rfl, rfl⟩ | ⟨g, cap, cur, rfl, _, hg, hn, hm, hs, ht⟩
  · refine .inl ⟨rfl, rfl, List.eq_nil_of_length_eq_zero (by simpa using hl), ?_⟩
    rw [← h2]; rfl
  · exact .inr ⟨g, cap, cur, rfl, by rw [← h2]; rfl, hn, hm, hg, hs, ht⟩

theorem Row.shape {w : World} {e k : Nat} {v : Value} {r : Option Nat} {n : Nat} {xs : List Value} (h : Row w e k v r n xs) : ∃ ao cap, v = .slice ao n cap := by
  rcases h.form with ⟨rfl, rfl, _⟩ | ⟨g, cap, _, rfl, _⟩
  · exact ⟨_, _, rfl⟩
  · exact ⟨_, _, rfl⟩

/-- A slice that is read: n elements of k cells each. -/
def View (w : World) (k : Nat) (v : Value) (n : Nat) (xs : List Value) : Prop :=
  xs.length = n * k ∧ n ≤ maxLen ∧ ∃ ao cap, v = .slice ao n cap ∧ n ≤ cap ∧ cap ≤ maxLen ∧ (ao = none → n = 0 ∧ cap = 0) ∧
    (0 < n * k → ∃ b off, ao = some ⟨b, off, none⟩ ∧ ∀ j, j < n * k → w.cell? ⟨b, off + j, none⟩ = some (xs.getD j undef))

theorem View.keep {w w' : World} {k : Nat} {v : Value} {n : Nat} {xs : List Value} {S : List Nat} (h : View w k v n xs) (hc : Chg S w w') (hS : ∀ g, v.ownBlock = some g → g ∉ S) : View w' k v n xs := by
  obtain ⟨h1, h2, ao, cap, hv, h3, h4, h5, h6⟩ := h
  refine ⟨h1, h2, ao, cap, hv, h3, h4, h5, fun hn => ?_⟩
  obtain ⟨b, off, hb, hcell⟩ := h6 hn
  refine ⟨b, off, hb, fun j hj => hc.cell (hcell j hj) (hS b ?_)⟩
  rw [hv, hb]; rfl

theorem Row.view {w : World} {e k : Nat} {v : Value} {r : Option Nat} {n : Nat} {xs : List Value} (h : Row w e k v r n xs) : View w k v n xs := by
  rcases h.form with ⟨rfl, rfl, rfl, _⟩ | ⟨g, cap, cur, rfl, _, hn, hm, hg, hs, ht⟩
  · exact ⟨by simp, by simp [maxLen], none, 0, rfl, Nat.le_refl _, by simp [maxLen], fun _ => ⟨rfl, rfl⟩, fun h => by simp at h⟩
  · refine ⟨h.len, Nat.le_trans hn hm, some ⟨g, 0, none⟩, cap, rfl, hn, hm, (fun h => by cases h), fun h0 => ⟨g, 0, rfl, fun j hj => ?_⟩⟩
    have hlt : j < cur.size := by rw [hs]; exact Nat.lt_of_lt_of_le hj (Nat.mul_le_mul_right k hn)
    subst ht
    simp only [World.cell?, hg, Nat.zero_add]
    simp [hlt, List.getD, hj]

/-- One new cell, as a slice of one element. -/
theorem View.one (w : World) (x : Value) (t : TypeId) : View (w.alloc (.cells #[x] t)) 1 (.slice (some ⟨w.heap.size, 0, none⟩) 1 1) 1 [x] := by
  refine ⟨rfl, by simp [maxLen], _, _, rfl, Nat.le_refl _, by simp [maxLen], (fun h => by cases h), fun _ => ⟨_, _, rfl, fun j hj => ?_⟩⟩
  obtain rfl : j = 0 := by omega
  simp

section append
variable {P : Program}

theorem loadCells_zero (a : Addr) (w : World) : (loadCells a 0).run P w = .ok #[] w := rfl

theorem firstCells_view {w : World} {k m : Nat} {v : Value} {ys : List Value} (h : View w k v m ys) : ∀ u : World, u.heap = w.heap → (Builtin.firstCells k m v).run P u = .ok ys.toArray u := by
  intro u hu
  obtain ⟨hl, _, ao, cap, rfl, _, _, _, hc⟩ := h
  rcases Nat.eq_zero_or_pos (m * k) with h0 | h0
  · have hy : ys = [] := List.eq_nil_of_length_eq_zero (by omega)
    subst hy
    cases ao with
    | none => simp [Builtin.firstCells]
    | some a => simp only [Builtin.firstCells, h0]; exact loadCells_zero _ _
  · obtain ⟨b, off, rfl, hcell⟩ := hc h0
    simp only [Builtin.firstCells]
    rw [← hl]
    refine run_loadCells_list u ⟨b, off, none⟩ ys fun j y hy => ?_
    have hj : j < ys.length := (List.getElem?_eq_some_iff.1 hy).1
    have := hcell j (by omega)
    rw [Addr.add_lit, show u.cell? ⟨b, off + j, none⟩ = w.cell? ⟨b, off + j, none⟩ from by simp only [World.cell?, hu], this, List.getD, hy]; rfl

theorem firstCells_string (w : World) (s : ByteArray) : (Builtin.firstCells 1 s.size (.string s)).run P w = .ok (s.data.map fun b => Value.int .u8 b.toNat) w := by
  have hx : (Array.map (fun b : UInt8 => Value.int IntKind.u8 (b.toNat : Int)) s.data).extract 0 s.size = Array.map (fun b : UInt8 => Value.int IntKind.u8 (b.toNat : Int)) s.data := by
    have hs : s.size = (Array.map (fun b : UInt8 => Value.int IntKind.u8 (b.toNat : Int)) s.data).size := by rw [Array.size_map]; rfl
    rw [hs, Array.extract_size]
  simp [Builtin.firstCells]

/-- append(row, x), x whatever is read as the cells ys: the row that is owned behind it. -/
theorem run_append_gen (w : World) (t tx ty e : TypeId) (U : TypeDesc) (i : TypeInfo) (z : Value) (k bytes : Nat) (ht : P.underlying t = some (.slice e)) (hu : P.underlying tx = some U) (hU : (∃ e', U = .slice e') ∨ U = .string)
    (hi : P.info? e = some i) (hz : i.zero = some z) (hsize : i.size = k) (hby : i.bytes = bytes) (hzs : z.cells.size = k) (hk : 0 < k)
    (v : Value) (r : Option Nat) (n : Nat) (xs : List Value) (hrow : Row w e k v r n xs)
    (x : Value) (m : Nat) (ys : List Value) (hl : ys.length = m * k) (hlen : (Builtin.lenOf x).run P w = .ok m w) (hx : ∀ u : World, u.heap = w.heap → (Builtin.firstCells k m x).run P u = .ok ys.toArray u)
    (h1 : ∀ u ∈ ys, u.oneCell' = true) (h63 : n + m ≤ maxLen) (hbytes : (n + m) * bytes ≤ 140737488355328) :
    ∃ v' w' r', (Builtin.append_ #[t, tx] ty #[v, x]).run P w = .ok v' w' ∧ Row w' e k v' r' (n + m) (xs ++ ys) ∧ Chg r.toList w w' ∧ Fresh w r r' ∧ (v' = .slice none 0 0 ↔ v = .slice none 0 0 ∧ m = 0) := by
  subst hsize
  subst hby
  have hsmall : n + m ≤ 9223372036854775807 := by simp only [maxLen] at h63; omega
  have hlen' : (xs ++ ys).length = (n + m) * i.size := by rw [List.length_append, hrow.len, hl, Nat.add_mul]
  have grown : ∀ (old : Nat), Row (w.drew.alloc (.cells (xs.toArray ++ ys.toArray ++ Builtin.zeroCells z.cells (grownCap w (n + m) old e - (n + m))) e)) e i.size
        (.slice (some ⟨w.heap.size, 0, none⟩) (n + m) (grownCap w (n + m) old e)) (some w.heap.size) (n + m) (xs ++ ys) := by
    intro old
    have hge := grownCap_ge w (n + m) old e
    have hcm : grownCap w (n + m) old e ≤ maxLen := grownCap_le_maxLen w (n + m) old e h63
    refine ⟨⟨hlen', .inr ⟨w.heap.size, _, _, rfl, Nat.zero_le _, heap_alloc_new w.drew _, hge, hcm, ?_, ?_⟩⟩, rfl⟩
    · simp only [Array.size_append, List.size_toArray, size_zeroCells, hzs, hrow.len, hl, ← Nat.add_mul]
      congr 1
      omega
    · simp only [Array.toList_append, List.append_assoc]
      rw [← List.append_assoc, ← hlen']
      exact List.take_left
  have hgchg : ∀ o, Chg r.toList w (w.drew.alloc o) := fun o => ((Chg.refl _ _).drew).alloc o
  have hfr : Fresh w r (some w.heap.size) := fun g hg => by simp at hg; subst hg; exact .inr (Nat.le_refl _)
  rcases hrow.form with ⟨rfl, rfl, rfl, rfl⟩ | ⟨g, cap, cur, rfl, rfl, hnc, hcm, hg, hcs, htake⟩
  · by_cases hm : m = 0
    · subst hm
      have hn : ys = [] := List.eq_nil_of_length_eq_zero (by simpa using hl)
      subst hn
      refine ⟨.slice none 0 0, w, none, ?_, Row.nil w e i.size, Chg.refl _ _, Fresh.refl _ _, by simp⟩
      have hx0 := hx w rfl
      rcases hU with ⟨e', rfl⟩ | rfl <;> simp [Builtin.append_, run_underlying ht, run_underlying hu, sizeOf, typeInfo, hi, hlen, hx0]
    · have h63' : ¬ (9223372036854775807 < (m : Int)) := by omega
      have h48' : ¬ (281474976710656 < Builtin.nextslicecap m 0 * i.bytes) := by rw [nextslicecap_zero (by omega)]; simp only [Nat.zero_add] at hbytes; omega
      have hx0 := hx w.drew rfl
      have hgr := grown 0
      simp only [Nat.zero_add, List.nil_append] at hgr ⊢
      refine ⟨_, _, _, ?_, hgr, hgchg _, hfr, by simp [hm]⟩
      rcases hU with ⟨e', rfl⟩ | rfl <;> simp [Builtin.append_, run_underlying ht, run_underlying hu, sizeOf, typeInfo, zeroValue, hi, hz, hlen, hm, h63', h48', hx0, Question.forced, run_firstCells_none, newRow, grownCap]
  · by_cases hroom : n + m ≤ cap
    · have hfit : n * i.size + ys.length ≤ cur.size := by rw [hl, hcs, ← Nat.add_mul]; exact Nat.mul_le_mul_right _ hroom
      have hst := run_storeCells_at P g (n * i.size) e ys 0 cur w hg (by simpa using hfit) h1
      simp only [Nat.add_zero] at hst
      have hx0 := hx w rfl
      refine ⟨.slice (some ⟨g, 0, none⟩) (n + m) cap, w.setRow g (cur.toList.take (n * i.size) ++ ys ++ cur.toList.drop (n * i.size + ys.length)).toArray, some g, ?_, ⟨⟨hlen', .inr ⟨g, cap, _, rfl, Nat.zero_le _, setRow_heap w g cur _ e _ hg, hroom, hcm, ?_, ?_⟩⟩, rfl⟩, ?_, Fresh.refl _ _, by simp⟩
      · rcases hU with ⟨e', rfl⟩ | rfl <;> simp [Builtin.append_, run_underlying ht, run_underlying hu, sizeOf, typeInfo, hi, hlen, hx0, hroom, hst, Addr.add_lit]
      · simp only [List.size_toArray, List.length_append, List.length_take, List.length_drop, Array.length_toList]
        omega
      · rw [htake, ← hlen']
        exact List.take_left
      · exact ⟨rfl, rfl, rfl, by simp, fun k' _ hk' => setRow_other w g k' _ (fun e => hk' (by simp [e]))⟩
    · have h63' : ¬ (9223372036854775807 < ((n : Int) + (m : Int))) := by omega
      have h48' : ¬ (281474976710656 < Builtin.nextslicecap (n + m) cap * i.bytes) := by have := growslice_fits (need := n + m) (old := cap) (bytes := i.bytes) (by omega) hbytes; omega
      have hx0 := hx w.drew rfl
      have hfo : (Builtin.firstCells i.size n (.slice (some ⟨g, 0, none⟩) n cap)).run P w.drew = .ok xs.toArray w.drew := firstCells_view hrow.view w.drew rfl
      have hgr := grown cap
      refine ⟨_, _, _, ?_, hgr, hgchg _, hfr, by simp⟩
      rcases hU with ⟨e', rfl⟩ | rfl <;> simp [Builtin.append_, run_underlying ht, run_underlying hu, sizeOf, typeInfo, zeroValue, hi, hz, hlen, hroom, h63', h48', hx0, hfo, Question.forced, newRow, grownCap] <;> (congr 2; apply Array.ext'; simp)

/-- The facts on a slice type and its elements' type, out of the program's tables. -/
structure ElemOk (P : Program) (t e k bytes : Nat) : Prop where
  und : P.underlying t = some (.slice e)
  info : ∃ i z, P.info? e = some i ∧ i.zero = some z ∧ i.size = k ∧ i.bytes = bytes ∧ z.cells.size = k
  pos : 0 < k

theorem ElemOk.of {t e k bytes : Nat} {z : Value} (h1 : P.underlying t = some (.slice e)) (h2 : (P.info? e).map (fun i => (i.zero, i.size, i.bytes)) = some (some z, k, bytes)) (h3 : z.cells.size = k) (h4 : 0 < k) : ElemOk P t e k bytes := by
  obtain ⟨i, hi, hz, hs, hb⟩ := info_parts h2
  exact ⟨h1, ⟨i, z, hi, hz, hs, hb, h3⟩, h4⟩

theorem wpList_app {w : World} {ops : Array Oper} {rest : List Oper} {o : Oper} {a : Act} {Q : Exit → Act → World → Prop} (hgd : o.guard = none) (s x : Operand) (t : TypeId)
    (ho : o.op = .call { callee := .builtin .append, args := #[s, x], argTypes := #[t, t] }) {e k bytes : Nat} (E : ElemOk P t e k bytes)
    {v : Value} {r : Option Nat} {n : Nat} {xs : List Value} (hs : a.eval s = v) (hrow : Row w e k v r n xs)
    {y : Value} {m : Nat} {ys : List Value} (hx : a.eval x = y) (hy : View w k y m ys) (h1 : ∀ u ∈ ys, u.oneCell' = true) (h63 : n + m ≤ maxLen) (hbytes : (n + m) * bytes ≤ 140737488355328)
    (h : ∀ ao' cap' r' w', Row w' e k (.slice ao' (n + m) cap') r' (n + m) (xs ++ ys) → Chg r.toList w w' → Fresh w r r' → (Value.slice ao' (n + m) cap' = .slice none 0 0 ↔ v = .slice none 0 0 ∧ m = 0) → wpList P ops Q rest (a.put o.dst (.slice ao' (n + m) cap')) w') : wpList P ops Q (o :: rest) a w := by
  obtain ⟨i, z, hi, hz, hs', hb, hzs⟩ := E.info
  have hlen : (Builtin.lenOf y).run P w = .ok m w := by obtain ⟨_, _, ao, cap, rfl, _⟩ := hy; rfl
  obtain ⟨v', w', r', hr, h2, h3, h4, h5⟩ := run_append_gen (P := P) w t t o.type e _ i z k bytes E.und E.und (.inl ⟨_, rfl⟩) hi hz hs' hb hzs E.pos v r n xs hrow y m ys hy.1 hlen (firstCells_view hy) h1 h63 hbytes
  refine wpList_plain hgd fun _ hK => ?_
  unfold Oper.wp execOp
  simp only [ho, resolve, invoke, builtin, Sem.run_bind, Sem.run_pure, Result.andThen_ok, List.map_toArray, List.map_cons, List.map_nil, hs, hx, hr]
  obtain ⟨ao', cap', rfl⟩ := h2.shape
  exact hK _ _ (h ao' cap' r' w' h2 h3 h4 h5)

theorem wpList_app_string {w : World} {ops : Array Oper} {rest : List Oper} {o : Oper} {a : Act} {Q : Exit → Act → World → Prop} (hgd : o.guard = none) (s x : Operand) (t tx : TypeId)
    (ho : o.op = .call { callee := .builtin .append, args := #[s, x], argTypes := #[t, tx] }) {e bytes : Nat} (E : ElemOk P t e 1 bytes) (hstr : P.underlying tx = some .string)
    {v : Value} {r : Option Nat} {n : Nat} {xs : List Value} (hs : a.eval s = v) (hrow : Row w e 1 v r n xs)
    {y : ByteArray} (hx : a.eval x = .string y) (h63 : n + y.size ≤ maxLen) (hbytes : (n + y.size) * bytes ≤ 140737488355328)
    (h : ∀ ao' cap' r' w', Row w' e 1 (.slice ao' (n + y.size) cap') r' (n + y.size) (xs ++ y.data.toList.map fun b => Value.int .u8 b.toNat) → Chg r.toList w w' → Fresh w r r' → (Value.slice ao' (n + y.size) cap' = .slice none 0 0 ↔ v = .slice none 0 0 ∧ y.size = 0) → wpList P ops Q rest (a.put o.dst (.slice ao' (n + y.size) cap')) w') : wpList P ops Q (o :: rest) a w := by
  obtain ⟨i, z, hi, hz, hs', hb, hzs⟩ := E.info
  have hyl : (y.data.toList.map fun b => Value.int .u8 (b.toNat : Int)).length = y.size * 1 := by simp
  have hfc : ∀ u : World, u.heap = w.heap → (Builtin.firstCells 1 y.size (.string y)).run P u = .ok (y.data.toList.map fun b => Value.int .u8 (b.toNat : Int)).toArray u := fun u _ => by
    rw [firstCells_string]
    congr 1
    apply Array.ext'
    simp
  obtain ⟨v', w', r', hr, h2, h3, h4, h5⟩ := run_append_gen (P := P) w t tx o.type e _ i z 1 bytes E.und hstr (.inr rfl) hi hz hs' hb hzs E.pos v r n xs hrow (.string y) y.size _ hyl rfl hfc (by intro u hu; obtain ⟨_, _, rfl⟩ := List.mem_map.1 hu; rfl) h63 hbytes
  refine wpList_plain hgd fun _ hK => ?_
  unfold Oper.wp execOp
  simp only [ho, resolve, invoke, builtin, Sem.run_bind, Sem.run_pure, Result.andThen_ok, List.map_toArray, List.map_cons, List.map_nil, hs, hx, hr]
  obtain ⟨ao', cap', rfl⟩ := h2.shape
  exact hK _ _ (h ao' cap' r' w' h2 h3 h4 h5)
end append

end Go.AB
