/- Joined by join.py out of Base, Obj, Base2, Own, Jv, Js. -/
import Derived.WalkKit
import Derived.WalkSpells
import Derived.WalkLawsBesides
import Derived.ProofKit
set_option linter.unusedSimpArgs false
set_option linter.unusedVariables false
set_option linter.unusedSectionVars false

set_option linter.unusedSimpArgs false
set_option linter.unusedVariables false
set_option linter.unusedSectionVars false
/- General lemmas on worlds: what a call may change, rows that are owned, slices that are read. -/
namespace Go.AB
open Go.RowKit

/-- A fact kept from the walk. -/
theorem hid {p : Prop} (h : p) : Hid p := h

/-- The walk stands still here: behind it 'rw [hX.out]' goes on. -/
theorem halt {p : Prop} (h : ∀ X : Prop, Hid (X = p) → X) : p := h p rfl

/-- Below 2 to the 64 (behind a name: the walk bears no such numeral). -/
def U64 (n : Nat) : Prop := n < 18446744073709551616
theorem U64.out {n : Nat} (h : U64 n) : n < 18446744073709551616 := h
theorem U64.div {n : Nat} (h : U64 n) (k : Nat) : U64 (n / k) := Nat.lt_of_le_of_lt (Nat.div_le_self _ _) h

/-- Of the old blocks only those of S may have changed. -/
structure Chg (S : List Nat) (w w' : World) : Prop where
  os : w'.os = w.os
  tape : w'.tape = w.tape
  output : w'.output = w.output
  size : w.heap.size ≤ w'.heap.size
  block : ∀ k, k < w.heap.size → k ∉ S → w'.heap[k]? = w.heap[k]?

theorem Chg.refl (S : List Nat) (w : World) : Chg S w w := ⟨rfl, rfl, rfl, Nat.le_refl _, fun _ _ _ => rfl⟩
theorem Chg.trans {S T : List Nat} {a b c : World} (h : Chg S a b) (k : Chg T b c) (hT : ∀ x, x ∈ T → x ∈ S ∨ a.heap.size ≤ x) : Chg S a c :=
  ⟨k.os.trans h.os, k.tape.trans h.tape, k.output.trans h.output, Nat.le_trans h.size k.size,
    fun i hi hs => (k.block i (Nat.lt_of_lt_of_le hi h.size) (fun hm => by rcases hT i hm with h1 | h1; exact hs h1; omega)).trans (h.block i hi hs)⟩
theorem Chg.trans' {S : List Nat} {a b c : World} (h : Chg S a b) (k : Chg S b c) : Chg S a c := h.trans k fun _ hx => .inl hx
theorem Chg.mono {S T : List Nat} {a b : World} (h : Chg S a b) (hT : ∀ x, x ∈ S → x ∈ T ∨ a.heap.size ≤ x) : Chg T a b :=
  ⟨h.os, h.tape, h.output, h.size, fun i hi hs => h.block i hi fun hm => by rcases hT i hm with h1 | h1; exact hs h1; omega⟩
theorem Chg.nil {T : List Nat} {a b : World} (h : Chg [] a b) : Chg T a b := h.mono fun x hx => by cases hx
theorem Chg.drew {S : List Nat} {a b : World} (h : Chg S a b) : Chg S a b.drew := ⟨h.os, h.tape, h.output, h.size, h.block⟩
theorem Chg.drewN {S : List Nat} {a b : World} (h : Chg S a b) (n : Nat) : Chg S a (b.drewN n) := ⟨h.os, h.tape, h.output, h.size, h.block⟩
theorem Chg.of_drewN (S : List Nat) (a : World) (n : Nat) : Chg S a (a.drewN n) := (Chg.refl S a).drewN n
theorem Chg.alloc {S : List Nat} {a b : World} (h : Chg S a b) (o : Obj) : Chg S a (b.alloc o) :=
  h.trans (T := S) ⟨rfl, rfl, rfl, by simp, fun k hk _ => Below.heap_alloc _ _ _ hk⟩ fun _ hx => .inl hx
theorem Chg.setCell {S : List Nat} {a b : World} (h : Chg S a b) {p : Addr} (hp : p.block ∈ S ∨ a.heap.size ≤ p.block) (u : Value) : Chg S a (b.setCell p u) :=
  h.trans (T := [p.block]) ⟨rfl, rfl, rfl, by simp [World.setCell], fun k _ hk => Below.heap_setCell _ _ _ _ (by simpa using hk)⟩
    fun x hx => by simp at hx; subst hx; exact hp
theorem Chg.grown {S : List Nat} {a b c : World} {row : Option Nat} (h : Chg S a b) (hg : b.grownBy c row) (hr : ∀ k, row = some k → k ∈ S ∨ a.heap.size ≤ k) : Chg S a c :=
  h.trans (T := row.toList) ⟨hg.os, hg.tape, hg.output, hg.size, fun k hk hn => hg.block k hk (fun e => hn (by simp [← e]))⟩
    fun x hx => hr x (by simpa using hx)
theorem Chg.below {S : List Nat} {a b : World} {B : Nat} (h : Chg S a b) (hS : ∀ x, x ∈ S → B ≤ x) (hB : B ≤ a.heap.size) : Below B a b :=
  ⟨h.os, h.tape, h.output, h.size, fun k hk => h.block k (by omega) fun hm => by have := hS k hm; omega⟩
theorem Chg.of_below {a b : World} (h : Below a.heap.size a b) (S : List Nat) : Chg S a b :=
  ⟨h.os, h.tape, h.output, h.size, fun k hk _ => h.block k hk⟩
theorem Chg.to_below {a b : World} (h : Chg [] a b) : Below a.heap.size a b := h.below (fun x hx => by cases hx) (Nat.le_refl _)
theorem Chg.cell {S : List Nat} {a b : World} (h : Chg S a b) {p : Addr} {v : Value} (hc : a.cell? p = some v) (hp : p.block ∉ S) : b.cell? p = some v :=
  (World.cell?_of_block (h.block p.block (World.block_lt_of_cell? a p hc) hp)).trans hc
theorem Chg.heap {S : List Nat} {a b : World} (h : Chg S a b) {k : Nat} {o : Obj} (hc : a.heap[k]? = some o) (hp : k ∉ S) : b.heap[k]? = some o :=
  (h.block k (Array.getElem?_eq_some_iff.1 hc).1 hp).trans hc

/-- A block that may be new: r' is r, or a block that a does not have. -/
def Fresh (a : World) (r r' : Option Nat) : Prop := ∀ g, r' = some g → r = some g ∨ a.heap.size ≤ g

theorem Fresh.refl (a : World) (r : Option Nat) : Fresh a r r := fun _ h => .inl h
theorem Fresh.trans {a b : World} {r s t : Option Nat} (h : Fresh a r s) (hs : a.heap.size ≤ b.heap.size) (k : Fresh b s t) : Fresh a r t := fun g hg => by
  rcases k g hg with h1 | h1
  · exact h g h1
  · exact .inr (by omega)
theorem Fresh.mono {a b : World} {r s : Option Nat} (k : Fresh b r s) (hs : a.heap.size ≤ b.heap.size) : Fresh a r s := fun g hg => (k g hg).imp id fun h => by omega

/-- An owned row: a slice value over the head of a block that nobody else writes. -/
structure Row (w : World) (e k : Nat) (v : Value) (r : Option Nat) (n : Nat) (xs : List Value) : Prop where
  own : w.ownsRow 0 e k v n xs
  blk : v.ownBlock = r

theorem Row.nil (w : World) (e k : Nat) : Row w e k (.slice none 0 0) none 0 [] := ⟨World.ownsRow_nil _ _ _ _, rfl⟩
theorem Row.lt {w : World} {e k : Nat} {v : Value} {r : Option Nat} {n : Nat} {xs : List Value} (h : Row w e k v r n xs) : ∀ g, r = some g → g < w.heap.size :=
  fun g hg => (h.own.lt g (h.blk.trans hg)).2
theorem Row.keep {w w' : World} {e k : Nat} {v : Value} {r : Option Nat} {n : Nat} {xs : List Value} {S : List Nat} (h : Row w e k v r n xs) (hc : Chg S w w') (hS : ∀ g, r = some g → g ∉ S) :
    Row w' e k v r n xs := by
  refine ⟨⟨h.own.1, ?_⟩, h.blk⟩
  rcases h.own.2 with hn | ⟨g, cap, cur, hv, hb, hg, rest⟩
  · exact .inl hn
  · refine .inr ⟨g, cap, cur, hv, hb, hc.heap hg (hS g ?_), rest⟩
    rw [← h.blk, hv]; rfl
theorem Row.len {w : World} {e k : Nat} {v : Value} {r : Option Nat} {n : Nat} {xs : List Value} (h : Row w e k v r n xs) : xs.length = n * k := h.own.1

/-- What is known of an owned row's value. -/
theorem Row.form {w : World} {e k : Nat} {v : Value} {r : Option Nat} {n : Nat} {xs : List Value} (h : Row w e k v r n xs) :
    (v = .slice none 0 0 ∧ n = 0 ∧ xs = [] ∧ r = none) ∨
    ∃ g cap cur, v = .slice (some ⟨g, 0, none⟩) n cap ∧ r = some g ∧ n ≤ cap ∧ cap ≤ maxLen ∧ w.heap[g]? = some (.cells cur e (0, 0)) ∧ cur.size = cap * k ∧ cur.toList.take (n * k) = xs := by
  obtain ⟨⟨hl, h1⟩, h2⟩ := h
  rcases h1 with ⟨rfl, rfl⟩ | ⟨g, cap, cur, rfl, _, hg, hn, hm, hs, ht⟩
  · refine .inl ⟨rfl, rfl, List.eq_nil_of_length_eq_zero (by simpa using hl), ?_⟩
    rw [← h2]; rfl
  · exact .inr ⟨g, cap, cur, rfl, by rw [← h2]; rfl, hn, hm, hg, hs, ht⟩

theorem Row.shape {w : World} {e k : Nat} {v : Value} {r : Option Nat} {n : Nat} {xs : List Value} (h : Row w e k v r n xs) : ∃ ao cap, v = .slice ao n cap := by
  rcases h.form with ⟨rfl, rfl, _⟩ | ⟨g, cap, _, rfl, _⟩
  · exact ⟨_, _, rfl⟩
  · exact ⟨_, _, rfl⟩

/-- A slice that is read: n elements of k cells each. -/
def View (w : World) (k : Nat) (v : Value) (n : Nat) (xs : List Value) : Prop :=
  xs.length = n * k ∧ n ≤ maxLen ∧ ∃ ao cap, v = .slice ao n cap ∧ n ≤ cap ∧ cap ≤ maxLen ∧ (ao = none → n = 0 ∧ cap = 0) ∧
    (0 < n * k → ∃ b off, ao = some ⟨b, off, none⟩ ∧ ∀ j, j < n * k → w.cell? ⟨b, off + j, none⟩ = some (xs.getD j undef))

theorem View.keep {w w' : World} {k : Nat} {v : Value} {n : Nat} {xs : List Value} {S : List Nat} (h : View w k v n xs) (hc : Chg S w w') (hS : ∀ g, v.ownBlock = some g → g ∉ S) : View w' k v n xs := by
  obtain ⟨h1, h2, ao, cap, hv, h3, h4, h5, h6⟩ := h
  refine ⟨h1, h2, ao, cap, hv, h3, h4, h5, fun hn => ?_⟩
  obtain ⟨b, off, hb, hcell⟩ := h6 hn
  refine ⟨b, off, hb, fun j hj => hc.cell (hcell j hj) (hS b ?_)⟩
  rw [hv, hb]; rfl

theorem Row.view {w : World} {e k : Nat} {v : Value} {r : Option Nat} {n : Nat} {xs : List Value} (h : Row w e k v r n xs) : View w k v n xs := by
  rcases h.form with ⟨rfl, rfl, rfl, _⟩ | ⟨g, cap, cur, rfl, _, hn, hm, hg, hs, ht⟩
  · exact ⟨by simp, by simp [maxLen], none, 0, rfl, Nat.le_refl _, by simp [maxLen], fun _ => ⟨rfl, rfl⟩, fun h => by simp at h⟩
  · refine ⟨h.len, Nat.le_trans hn hm, some ⟨g, 0, none⟩, cap, rfl, hn, hm, (fun h => by cases h), fun h0 => ⟨g, 0, rfl, fun j hj => ?_⟩⟩
    have hlt : j < cur.size := by rw [hs]; exact Nat.lt_of_lt_of_le hj (Nat.mul_le_mul_right k hn)
    subst ht
    simp only [World.cell?, hg, Nat.zero_add]
    simp [hlt, List.getD, hj]

/-- One new cell, as a slice of one element. -/
theorem View.one (w : World) (x : Value) (t : TypeId) : View (w.alloc (.cells #[x] t)) 1 (.slice (some ⟨w.heap.size, 0, none⟩) 1 1) 1 [x] := by
  refine ⟨rfl, by simp [maxLen], _, _, rfl, Nat.le_refl _, by simp [maxLen], (fun h => by cases h), fun _ => ⟨_, _, rfl, fun j hj => ?_⟩⟩
  obtain rfl : j = 0 := by omega
  simp

section append
variable {P : Program}

theorem loadCells_zero (a : Addr) (w : World) : (loadCells a 0).run P w = .ok #[] w := rfl

theorem firstCells_view {w : World} {k m : Nat} {v : Value} {ys : List Value} (h : View w k v m ys) : ∀ u : World, u.heap = w.heap → (Builtin.firstCells k m v).run P u = .ok ys.toArray u := by
  intro u hu
  obtain ⟨hl, _, ao, cap, rfl, _, _, _, hc⟩ := h
  rcases Nat.eq_zero_or_pos (m * k) with h0 | h0
  · have hy : ys = [] := List.eq_nil_of_length_eq_zero (by omega)
    subst hy
    cases ao with
    | none => simp [Builtin.firstCells]
    | some a => simp only [Builtin.firstCells, h0]; exact loadCells_zero _ _
  · obtain ⟨b, off, rfl, hcell⟩ := hc h0
    simp only [Builtin.firstCells]
    rw [← hl]
    refine run_loadCells_list u ⟨b, off, none⟩ ys fun j y hy => ?_
    have hj : j < ys.length := (List.getElem?_eq_some_iff.1 hy).1
    have := hcell j (by omega)
    rw [Addr.add_lit, show u.cell? ⟨b, off + j, none⟩ = w.cell? ⟨b, off + j, none⟩ from by simp only [World.cell?, hu], this, List.getD, hy]; rfl

theorem firstCells_string (w : World) (s : ByteArray) : (Builtin.firstCells 1 s.size (.string s)).run P w = .ok (s.data.map fun b => Value.int .u8 b.toNat) w := by
  have hx : (Array.map (fun b : UInt8 => Value.int IntKind.u8 (b.toNat : Int)) s.data).extract 0 s.size = Array.map (fun b : UInt8 => Value.int IntKind.u8 (b.toNat : Int)) s.data := by
    have hs : s.size = (Array.map (fun b : UInt8 => Value.int IntKind.u8 (b.toNat : Int)) s.data).size := by rw [Array.size_map]; rfl
    rw [hs, Array.extract_size]
  simp [Builtin.firstCells]

/-- append(row, x), x whatever is read as the cells ys: the row that is owned behind it. -/
theorem run_append_gen (w : World) (t tx ty e : TypeId) (U : TypeDesc) (i : TypeInfo) (z : Value) (k bytes : Nat) (ht : P.underlying t = some (.slice e)) (hu : P.underlying tx = some U) (hU : (∃ e', U = .slice e') ∨ U = .string)
    (hi : P.info? e = some i) (hz : i.zero = some z) (hsize : i.size = k) (hby : i.bytes = bytes) (hzs : z.cells.size = k) (hk : 0 < k)
    (v : Value) (r : Option Nat) (n : Nat) (xs : List Value) (hrow : Row w e k v r n xs)
    (x : Value) (m : Nat) (ys : List Value) (hl : ys.length = m * k) (hlen : (Builtin.lenOf x).run P w = .ok m w) (hx : ∀ u : World, u.heap = w.heap → (Builtin.firstCells k m x).run P u = .ok ys.toArray u)
    (h1 : ∀ u ∈ ys, u.oneCell' = true) (h63 : n + m ≤ maxLen) (hbytes : (n + m) * bytes ≤ 140737488355328) :
    ∃ v' w' r', (Builtin.append_ #[t, tx] ty #[v, x]).run P w = .ok v' w' ∧ Row w' e k v' r' (n + m) (xs ++ ys) ∧ Chg r.toList w w' ∧ Fresh w r r' ∧ (v' = .slice none 0 0 ↔ v = .slice none 0 0 ∧ m = 0) := by
  subst hsize
  subst hby
  have hsmall : n + m ≤ 9223372036854775807 := by simp only [maxLen] at h63; omega
  have hlen' : (xs ++ ys).length = (n + m) * i.size := by rw [List.length_append, hrow.len, hl, Nat.add_mul]
  have grown : ∀ (old : Nat), Row (w.drew.alloc (.cells (xs.toArray ++ ys.toArray ++ Builtin.zeroCells z.cells (grownCap w (n + m) old e - (n + m))) e)) e i.size
        (.slice (some ⟨w.heap.size, 0, none⟩) (n + m) (grownCap w (n + m) old e)) (some w.heap.size) (n + m) (xs ++ ys) := by
    intro old
    have hge := grownCap_ge w (n + m) old e
    have hcm : grownCap w (n + m) old e ≤ maxLen := grownCap_le_maxLen w (n + m) old e h63
    refine ⟨⟨hlen', .inr ⟨w.heap.size, _, _, rfl, Nat.zero_le _, heap_alloc_new w.drew _, hge, hcm, ?_, ?_⟩⟩, rfl⟩
    · simp only [Array.size_append, List.size_toArray, size_zeroCells, hzs, hrow.len, hl, ← Nat.add_mul]
      congr 1
      omega
    · simp only [Array.toList_append, List.append_assoc]
      rw [← List.append_assoc, ← hlen']
      exact List.take_left
  have hgchg : ∀ o, Chg r.toList w (w.drew.alloc o) := fun o => ((Chg.refl _ _).drew).alloc o
  have hfr : Fresh w r (some w.heap.size) := fun g hg => by simp at hg; subst hg; exact .inr (Nat.le_refl _)
  rcases hrow.form with ⟨rfl, rfl, rfl, rfl⟩ | ⟨g, cap, cur, rfl, rfl, hnc, hcm, hg, hcs, htake⟩
  · by_cases hm : m = 0
    · subst hm
      have hn : ys = [] := List.eq_nil_of_length_eq_zero (by simpa using hl)
      subst hn
      refine ⟨.slice none 0 0, w, none, ?_, Row.nil w e i.size, Chg.refl _ _, Fresh.refl _ _, by simp⟩
      have hx0 := hx w rfl
      rcases hU with ⟨e', rfl⟩ | rfl <;> simp [Builtin.append_, run_underlying ht, run_underlying hu, sizeOf, typeInfo, hi, hlen, hx0]
    · have h63' : ¬ (9223372036854775807 < (m : Int)) := by omega
      have h48' : ¬ (281474976710656 < Builtin.nextslicecap m 0 * i.bytes) := by rw [nextslicecap_zero (by omega)]; simp only [Nat.zero_add] at hbytes; omega
      have hx0 := hx w.drew rfl
      have hgr := grown 0
      simp only [Nat.zero_add, List.nil_append] at hgr ⊢
      refine ⟨_, _, _, ?_, hgr, hgchg _, hfr, by simp [hm]⟩
      rcases hU with ⟨e', rfl⟩ | rfl <;> simp [Builtin.append_, run_underlying ht, run_underlying hu, sizeOf, typeInfo, zeroValue, hi, hz, hlen, hm, h63', h48', hx0, Question.forced, run_firstCells_none, newRow, grownCap]
  · by_cases hroom : n + m ≤ cap
    · have hfit : n * i.size + ys.length ≤ cur.size := by rw [hl, hcs, ← Nat.add_mul]; exact Nat.mul_le_mul_right _ hroom
      have hst := run_storeCells_at P g (n * i.size) e ys 0 cur w hg (by simpa using hfit) h1
      simp only [Nat.add_zero] at hst
      have hx0 := hx w rfl
      refine ⟨.slice (some ⟨g, 0, none⟩) (n + m) cap, w.setRow g (cur.toList.take (n * i.size) ++ ys ++ cur.toList.drop (n * i.size + ys.length)).toArray, some g, ?_, ⟨⟨hlen', .inr ⟨g, cap, _, rfl, Nat.zero_le _, setRow_heap w g cur _ e _ hg, hroom, hcm, ?_, ?_⟩⟩, rfl⟩, ?_, Fresh.refl _ _, by simp⟩
      · rcases hU with ⟨e', rfl⟩ | rfl <;> simp [Builtin.append_, run_underlying ht, run_underlying hu, sizeOf, typeInfo, hi, hlen, hx0, hroom, hst, Addr.add_lit]
      · simp only [List.size_toArray, List.length_append, List.length_take, List.length_drop, Array.length_toList]
        omega
      · rw [htake, ← hlen']
        exact List.take_left
      · exact ⟨rfl, rfl, rfl, by simp, fun k' _ hk' => setRow_other w g k' _ (fun e => hk' (by simp [e]))⟩
    · have h63' : ¬ (9223372036854775807 < ((n : Int) + (m : Int))) := by omega
      have h48' : ¬ (281474976710656 < Builtin.nextslicecap (n + m) cap * i.bytes) := by have := growslice_fits (need := n + m) (old := cap) (bytes := i.bytes) (by omega) hbytes; omega
      have hx0 := hx w.drew rfl
      have hfo : (Builtin.firstCells i.size n (.slice (some ⟨g, 0, none⟩) n cap)).run P w.drew = .ok xs.toArray w.drew := firstCells_view hrow.view w.drew rfl
      have hgr := grown cap
      refine ⟨_, _, _, ?_, hgr, hgchg _, hfr, by simp⟩
      rcases hU with ⟨e', rfl⟩ | rfl <;> simp [Builtin.append_, run_underlying ht, run_underlying hu, sizeOf, typeInfo, zeroValue, hi, hz, hlen, hroom, h63', h48', hx0, hfo, Question.forced, newRow, grownCap] <;> (congr 2; apply Array.ext'; simp)

/-- The facts on a slice type and its elements' type, out of the program's tables. -/
structure ElemOk (P : Program) (t e k bytes : Nat) : Prop where
  und : P.underlying t = some (.slice e)
  info : ∃ i z, P.info? e = some i ∧ i.zero = some z ∧ i.size = k ∧ i.bytes = bytes ∧ z.cells.size = k
  pos : 0 < k

theorem ElemOk.of {t e k bytes : Nat} {z : Value} (h1 : P.underlying t = some (.slice e)) (h2 : (P.info? e).map (fun i => (i.zero, i.size, i.bytes)) = some (some z, k, bytes)) (h3 : z.cells.size = k) (h4 : 0 < k) : ElemOk P t e k bytes := by
  obtain ⟨i, hi, hz, hs, hb⟩ := info_parts h2
  exact ⟨h1, ⟨i, z, hi, hz, hs, hb, h3⟩, h4⟩

theorem wpList_app {w : World} {ops : Array Oper} {rest : List Oper} {o : Oper} {a : Act} {Q : Exit → Act → World → Prop} (hgd : o.guard = none) (s x : Operand) (t : TypeId)
    (ho : o.op = .call { callee := .builtin .append, args := #[s, x], argTypes := #[t, t] }) {e k bytes : Nat} (E : ElemOk P t e k bytes)
    {v : Value} {r : Option Nat} {n : Nat} {xs : List Value} (hs : a.eval s = v) (hrow : Row w e k v r n xs)
    {y : Value} {m : Nat} {ys : List Value} (hx : a.eval x = y) (hy : View w k y m ys) (h1 : ∀ u ∈ ys, u.oneCell' = true) (h63 : n + m ≤ maxLen) (hbytes : (n + m) * bytes ≤ 140737488355328)
    (h : ∀ ao' cap' r' w', Row w' e k (.slice ao' (n + m) cap') r' (n + m) (xs ++ ys) → Chg r.toList w w' → Fresh w r r' → (Value.slice ao' (n + m) cap' = .slice none 0 0 ↔ v = .slice none 0 0 ∧ m = 0) → wpList P ops Q rest (a.put o.dst (.slice ao' (n + m) cap')) w') : wpList P ops Q (o :: rest) a w := by
  obtain ⟨i, z, hi, hz, hs', hb, hzs⟩ := E.info
  have hlen : (Builtin.lenOf y).run P w = .ok m w := by obtain ⟨_, _, ao, cap, rfl, _⟩ := hy; rfl
  obtain ⟨v', w', r', hr, h2, h3, h4, h5⟩ := run_append_gen (P := P) w t t o.type e _ i z k bytes E.und E.und (.inl ⟨_, rfl⟩) hi hz hs' hb hzs E.pos v r n xs hrow y m ys hy.1 hlen (firstCells_view hy) h1 h63 hbytes
  refine wpList_plain hgd fun _ hK => ?_
  unfold Oper.wp execOp
  simp only [ho, resolve, invoke, builtin, Sem.run_bind, Sem.run_pure, Result.andThen_ok, List.map_toArray, List.map_cons, List.map_nil, hs, hx, hr]
  obtain ⟨ao', cap', rfl⟩ := h2.shape
  exact hK _ _ (h ao' cap' r' w' h2 h3 h4 h5)

theorem wpList_app_string {w : World} {ops : Array Oper} {rest : List Oper} {o : Oper} {a : Act} {Q : Exit → Act → World → Prop} (hgd : o.guard = none) (s x : Operand) (t tx : TypeId)
    (ho : o.op = .call { callee := .builtin .append, args := #[s, x], argTypes := #[t, tx] }) {e bytes : Nat} (E : ElemOk P t e 1 bytes) (hstr : P.underlying tx = some .string)
    {v : Value} {r : Option Nat} {n : Nat} {xs : List Value} (hs : a.eval s = v) (hrow : Row w e 1 v r n xs)
    {y : ByteArray} (hx : a.eval x = .string y) (h63 : n + y.size ≤ maxLen) (hbytes : (n + y.size) * bytes ≤ 140737488355328)
    (h : ∀ ao' cap' r' w', Row w' e 1 (.slice ao' (n + y.size) cap') r' (n + y.size) (xs ++ y.data.toList.map fun b => Value.int .u8 b.toNat) → Chg r.toList w w' → Fresh w r r' → (Value.slice ao' (n + y.size) cap' = .slice none 0 0 ↔ v = .slice none 0 0 ∧ y.size = 0) → wpList P ops Q rest (a.put o.dst (.slice ao' (n + y.size) cap')) w') : wpList P ops Q (o :: rest) a w := by
  obtain ⟨i, z, hi, hz, hs', hb, hzs⟩ := E.info
  have hyl : (y.data.toList.map fun b => Value.int .u8 (b.toNat : Int)).length = y.size * 1 := by simp
  have hfc : ∀ u : World, u.heap = w.heap → (Builtin.firstCells 1 y.size (.string y)).run P u = .ok (y.data.toList.map fun b => Value.int .u8 (b.toNat : Int)).toArray u := fun u _ => by
    rw [firstCells_string]
    congr 1
    apply Array.ext'
    simp
  obtain ⟨v', w', r', hr, h2, h3, h4, h5⟩ := run_append_gen (P := P) w t tx o.type e _ i z 1 bytes E.und hstr (.inr rfl) hi hz hs' hb hzs E.pos v r n xs hrow (.string y) y.size _ hyl rfl hfc (by intro u hu; obtain ⟨_, _, rfl⟩ := List.mem_map.1 hu; rfl) h63 hbytes
  refine wpList_plain hgd fun _ hK => ?_
  unfold Oper.wp execOp
  simp only [ho, resolve, invoke, builtin, Sem.run_bind, Sem.run_pure, Result.andThen_ok, List.map_toArray, List.map_cons, List.map_nil, hs, hx, hr]
  obtain ⟨ao', cap', rfl⟩ := h2.shape
  exact hK _ _ (h ao' cap' r' w' h2 h3 h4 h5)
end append

end Go.AB

set_option linter.unusedSimpArgs false
set_option linter.unusedVariables false
set_option linter.unusedSectionVars false
/- Blocks of cells, bytes, a writer. -/
namespace Go.AB
open Go.RowKit

/-! blocks of cells -/
theorem blk_lt {w : World} {b : Nat} {o : Obj} (h : w.heap[b]? = some o) : b < w.heap.size := (Array.getElem?_eq_some_iff.1 h).1
theorem blk_cell {w : World} {b : Nat} {cs : Array Value} {t : TypeId} {fr : Nat × Nat} (h : w.heap[b]? = some (.cells cs t fr)) (i : Nat) : w.cell? ⟨b, i, none⟩ = cs[i]? := by
  simp [World.cell?, h]
theorem blk_free {w : World} {b : Nat} {cs : Array Value} {t : TypeId} (h : w.heap[b]? = some (.cells cs t (0, 0))) (i : Nat) : w.frozen? ⟨b, i, none⟩ = false := by
  simp [World.frozen?, h]
theorem blk_set {w : World} {b : Nat} {cs : Array Value} {t : TypeId} {fr : Nat × Nat} (h : w.heap[b]? = some (.cells cs t fr)) (i : Nat) (u : Value) :
    (w.setCell ⟨b, i, none⟩ u).heap[b]? = some (.cells (cs.setIfInBounds i u) t fr) := by
  simp [World.setCell, Array.getElem?_modify, h]
theorem blk_set_other {w : World} {b c : Nat} (h : c ≠ b) (i : Nat) (u : Value) : (w.setCell ⟨b, i, none⟩ u).heap[c]? = w.heap[c]? := Below.heap_setCell _ _ _ _ h
theorem blk_alloc_new (w : World) (o : Obj) : (w.alloc o).heap[w.heap.size]? = some o := heap_alloc_new w o
theorem blk_alloc_old {w : World} {b : Nat} {o' : Obj} (h : w.heap[b]? = some o') (o : Obj) : (w.alloc o).heap[b]? = some o' := (Below.heap_alloc _ _ _ (blk_lt h)).trans h

/-- A byte's cell. -/
def B (x : UInt8) : Value := .int .u8 (x.toNat : Int)
theorem B_one (l : List UInt8) : ∀ u ∈ l.map B, u.oneCell' = true := by
  intro u hu; obtain ⟨_, _, rfl⟩ := List.mem_map.1 hu; rfl
theorem B_ofNat (n : Nat) : Value.int .u8 ((n : Int) % 256) = B (UInt8.ofNat n) := by
  unfold B; congr 1

/-- A slice of bytes that is read. -/
def Bytes (w : World) (v : Value) (l : List UInt8) : Prop := View w 1 v l.length (l.map B)
theorem Bytes.keep {w w' : World} {v : Value} {l : List UInt8} {S : List Nat} (h : Bytes w v l) (hc : Chg S w w') (hS : ∀ g, v.ownBlock = some g → g ∉ S) : Bytes w' v l := View.keep h hc hS
/-- What a walk asks of it: the value written out, each cell. -/
theorem Bytes.out {w : World} {v : Value} {l : List UInt8} (h : Bytes w v l) : ∃ ao cap, v = .slice ao l.length cap ∧ l.length ≤ cap ∧ cap ≤ maxLen ∧ (ao = none → l.length = 0 ∧ cap = 0) ∧
    (0 < l.length → ∃ b off, ao = some ⟨b, off, none⟩ ∧ ∀ j (hj : j < l.length), w.cell? ⟨b, off + j, none⟩ = some (.int .u8 (l[j].toNat : Int))) := by
  obtain ⟨_, _, ao, cap, hv, h1, h2, h3, h4⟩ := h
  refine ⟨ao, cap, hv, h1, h2, h3, fun h0 => ?_⟩
  obtain ⟨b, off, hb, hc⟩ := h4 (by omega)
  refine ⟨b, off, hb, fun j hj => ?_⟩
  rw [hc j (by omega)]
  simp [List.getD, hj, B]

/-- A struct of one field that is a slice of bytes of its own (a Writer): block b, the row r, the bytes l. T: the struct's type, U: the byte's. -/
structure Wr (T U : Nat) (w : World) (b : Nat) (r : Option Nat) (l : List UInt8) (ao : Option Addr) (cap : Nat) : Prop where
  blk : w.heap[b]? = some (.cells #[.slice ao l.length cap] T (0, 0))
  row : Row w U 1 (.slice ao l.length cap) r l.length (l.map B)
  ne : r ≠ some b
theorem Wr.keep {T U : Nat} {w w' : World} {b : Nat} {r : Option Nat} {l : List UInt8} {ao : Option Addr} {cap : Nat} {S : List Nat} (h : Wr T U w b r l ao cap) (hc : Chg S w w') (hb : b ∉ S) (hr : ∀ g, r = some g → g ∉ S) : Wr T U w' b r l ao cap :=
  ⟨hc.heap h.blk hb, h.row.keep hc hr, h.ne⟩
theorem Wr.cell {T U : Nat} {w : World} {b : Nat} {r : Option Nat} {l : List UInt8} {ao : Option Addr} {cap : Nat} (h : Wr T U w b r l ao cap) : w.cell? ⟨b, 0, none⟩ = some (.slice ao l.length cap) := by rw [blk_cell h.blk]; rfl
theorem Wr.free {T U : Nat} {w : World} {b : Nat} {r : Option Nat} {l : List UInt8} {ao : Option Addr} {cap : Nat} (h : Wr T U w b r l ao cap) : w.frozen? ⟨b, 0, none⟩ = false := blk_free h.blk 0
/-- Behind an append and the store of what it gave. -/
theorem Wr.put {T U : Nat} {w w1 w2 : World} {b : Nat} {r r' : Option Nat} {l l' : List UInt8} {ao ao' : Option Addr} {cap cap' : Nat} {n' : Nat} (h : Wr T U w b r l ao cap) (h1 : Chg [] w w1) (hrow : Row w2 U 1 (.slice ao' n' cap') r' n' (l'.map B)) (hc : Chg r.toList w1 w2) (hf : Fresh w1 r r') :
    Wr T U (w2.setCell ⟨b, 0, none⟩ (.slice ao' n' cap')) b r' l' ao' cap' ∧ Chg (b :: r.toList) w (w2.setCell ⟨b, 0, none⟩ (.slice ao' n' cap')) ∧ Fresh w r r' := by
  have hbr : b ∉ r.toList := fun hm => h.ne (by simpa using hm)
  have hb2 : w2.heap[b]? = some (.cells #[.slice ao l.length cap] T (0, 0)) := hc.heap (h1.heap h.blk (by simp)) hbr
  have hne : r' ≠ some b := fun e => by
    rcases hf b e with h3 | h3
    · exact h.ne h3
    · have := blk_lt h.blk; have := h1.size; omega
  obtain rfl : n' = l'.length := by have := hrow.len; simp at this; omega
  refine ⟨⟨by rw [blk_set hb2]; rfl, hrow.keep (S := [b]) ((Chg.refl _ _).setCell (p := ⟨b, 0, none⟩) (.inl (by simp)) _) (fun g hg hm => hne (by simp at hm; rw [hg, hm])), hne⟩, ?_, hf.mono h1.size⟩
  exact ((h1.nil.trans hc (fun x hx => .inl (List.mem_cons_of_mem _ hx))).setCell (p := ⟨b, 0, none⟩) (.inl (by simp)) _)
theorem Wr.put_cell {T U : Nat} {w w1 w2 : World} {b : Nat} {r : Option Nat} {l : List UInt8} {ao : Option Addr} {cap : Nat} (h : Wr T U w b r l ao cap) (h1 : Chg [] w w1) (hc : Chg r.toList w1 w2) :
    w2.cell? ⟨b, 0, none⟩ = some (.slice ao l.length cap) ∧ w2.frozen? ⟨b, 0, none⟩ = false := by
  have hbr : b ∉ r.toList := fun hm => h.ne (by simpa using hm)
  have hb2 : w2.heap[b]? = some (.cells #[.slice ao l.length cap] T (0, 0)) := hc.heap (h1.heap h.blk (by simp)) hbr
  exact ⟨by rw [blk_cell hb2]; rfl, blk_free hb2 0⟩

/-- A call's own accumulator goes on: what was there when the call began is as it was. -/
theorem own_step {a w w1 w2 : World} {r : Option Nat} (h : Chg [] a w) (hf : Fresh a none r) (h1 : Chg [] w w1) (k : Chg r.toList w1 w2) : Chg [] a w2 :=
  (h.trans' h1).trans k (fun x hx => .inr ((hf x (by simpa using hx)).resolve_left (by simp)))
theorem fresh_step {a w w1 : World} {r r' : Option Nat} (h : Chg [] a w) (hf : Fresh a none r) (h1 : Chg [] w w1) (k : Fresh w1 r r') : Fresh a none r' :=
  hf.trans (Nat.le_trans h.size h1.size) k

/-- A slice of bytes in new memory. -/
def NewB (U : Nat) (w : World) (l : List UInt8) (e : Ending) (w' : World) : Prop :=
  ∃ l' ao cap r, e = .returned (.slice ao l'.length cap) ∧ Row w' U 1 (.slice ao l'.length cap) r l'.length (l'.map B) ∧ Fresh w none r ∧ Chg [] w w' ∧ Hid (l' = l)
theorem NewB.mk' {U : Nat} {w w' : World} {l : List UInt8} {ao : Option Addr} {n cap : Nat} {r : Option Nat} {xs : List Value} (hr : Row w' U 1 (.slice ao n cap) r n xs) (hx : xs = l.map B) (hf : Fresh w none r) (hc : Chg [] w w') : NewB U w l (.returned (.slice ao n cap)) w' := by
  subst hx
  obtain rfl : n = l.length := by have := hr.len; simp at this; omega
  exact ⟨l, ao, cap, r, rfl, hr, hf, hc, rfl⟩

/-- A reader: block b holds a slice of the bytes l, the place, the fault's place and number. -/
structure Rd (T : Nat) (w : World) (b : Nat) (l : List UInt8) (ao : Option Addr) (cap pos wh bad : Nat) : Prop where
  blk : w.heap[b]? = some (.cells #[.slice ao l.length cap, .int .i64 pos, .int .i64 wh, .int .i64 bad] T (0, 0))
  view : View w 1 (.slice ao l.length cap) l.length (l.map B)
  ne : ∀ g, (Value.slice ao l.length cap).ownBlock = some g → g ≠ b
  ok : pos ≤ l.length
theorem Rd.keep {T : Nat} {w w' : World} {b : Nat} {l : List UInt8} {ao : Option Addr} {cap pos wh bad : Nat} {S : List Nat} (h : Rd T w b l ao cap pos wh bad) (hc : Chg S w w') (hb : b ∉ S) (hv : ∀ g, (Value.slice ao l.length cap).ownBlock = some g → g ∉ S) : Rd T w' b l ao cap pos wh bad :=
  ⟨hc.heap h.blk hb, h.view.keep hc hv, h.ne, h.ok⟩
theorem Rd.c0 {T : Nat} {w : World} {b : Nat} {l : List UInt8} {ao : Option Addr} {cap pos wh bad : Nat} (h : Rd T w b l ao cap pos wh bad) : w.cell? ⟨b, 0, none⟩ = some (.slice ao l.length cap) := by rw [blk_cell h.blk]; rfl
theorem Rd.c1 {T : Nat} {w : World} {b : Nat} {l : List UInt8} {ao : Option Addr} {cap pos wh bad : Nat} (h : Rd T w b l ao cap pos wh bad) : w.cell? ⟨b, 1, none⟩ = some (.int .i64 pos) := by rw [blk_cell h.blk]; rfl
theorem Rd.c2 {T : Nat} {w : World} {b : Nat} {l : List UInt8} {ao : Option Addr} {cap pos wh bad : Nat} (h : Rd T w b l ao cap pos wh bad) : w.cell? ⟨b, 2, none⟩ = some (.int .i64 wh) := by rw [blk_cell h.blk]; rfl
theorem Rd.c3 {T : Nat} {w : World} {b : Nat} {l : List UInt8} {ao : Option Addr} {cap pos wh bad : Nat} (h : Rd T w b l ao cap pos wh bad) : w.cell? ⟨b, 3, none⟩ = some (.int .i64 bad) := by rw [blk_cell h.blk]; rfl
theorem Rd.fr {T : Nat} {w : World} {b : Nat} {l : List UInt8} {ao : Option Addr} {cap pos wh bad : Nat} (h : Rd T w b l ao cap pos wh bad) (i : Nat) : w.frozen? ⟨b, i, none⟩ = false := blk_free h.blk i
theorem Rd.set1 {T : Nat} {w : World} {b : Nat} {l : List UInt8} {ao : Option Addr} {cap pos wh bad : Nat} (h : Rd T w b l ao cap pos wh bad) (p : Nat) (hp : p ≤ l.length) : Rd T (w.setCell ⟨b, 1, none⟩ (.int .i64 p)) b l ao cap p wh bad ∧ Chg [b] w (w.setCell ⟨b, 1, none⟩ (.int .i64 p)) := by
  have hc : Chg [b] w (w.setCell ⟨b, 1, none⟩ (.int .i64 p)) := (Chg.refl [b] w).setCell (p := ⟨b, 1, none⟩) (.inl (by simp)) _
  exact ⟨⟨by rw [blk_set h.blk]; rfl, h.view.keep hc (fun g hg => by simpa using h.ne g hg), h.ne, hp⟩, hc⟩
theorem Rd.set23 {T : Nat} {w : World} {b : Nat} {l : List UInt8} {ao : Option Addr} {cap pos wh bad : Nat} (h : Rd T w b l ao cap pos wh bad) (e : Nat) : Rd T ((w.setCell ⟨b, 2, none⟩ (.int .i64 pos)).setCell ⟨b, 3, none⟩ (.int .i64 e)) b l ao cap pos pos e ∧ Chg [b] w ((w.setCell ⟨b, 2, none⟩ (.int .i64 pos)).setCell ⟨b, 3, none⟩ (.int .i64 e)) := by
  have hc : Chg [b] w ((w.setCell ⟨b, 2, none⟩ (.int .i64 pos)).setCell ⟨b, 3, none⟩ (.int .i64 e)) := ((Chg.refl [b] w).setCell (p := ⟨b, 2, none⟩) (.inl (by simp)) _).setCell (p := ⟨b, 3, none⟩) (.inl (by simp)) _
  exact ⟨⟨by rw [blk_set (blk_set h.blk _ _)]; rfl, h.view.keep hc (fun g hg => by simpa using h.ne g hg), h.ne, h.ok⟩, hc⟩

/-- Nothing but draws. -/
def Drew (w w' : World) : Prop := ∃ n, w' = w.drewN n
theorem Drew.refl {w : World} {n : Nat} : Drew w (w.drewN n) := ⟨n, rfl⟩
theorem Drew.refl0 {w : World} : Drew w w := ⟨0, rfl⟩
theorem Drew.refl1 {w : World} : Drew w w.drew := ⟨1, rfl⟩
theorem Drew.trans {a b c : World} (h : Drew a b) (k : Drew b c) : Drew a c := by
  obtain ⟨n, rfl⟩ := h
  obtain ⟨m, rfl⟩ := k
  exact ⟨n + m, by simp [World.drewN, Nat.add_assoc]⟩
theorem Drew.chg {w w' : World} {S : List Nat} (h : Drew w w') : Chg S w w' := by obtain ⟨n, rfl⟩ := h; exact Chg.of_drewN _ _ _

/-- string(b), b a slice of bytes that is read. -/
theorem run_conv_view {P : Program} {src dst e : TypeId} (hs : P.underlying src = some (.slice e)) (he : P.underlying e = some (.int .u8)) (hd : P.underlying dst = some .string)
    {w : World} {v : Value} {n : Nat} {l : List UInt8} (h : View w 1 v n (l.map B)) (u : World) (hu : u.heap = w.heap) : (convert src dst v).run P u = .ok (.string ⟨l.toArray⟩) u := by
  obtain ⟨hl, _, ao, cap, rfl, _, _, _, hc⟩ := h
  have hn : l.length = n := by simpa using hl
  cases ao with
  | none =>
    rcases Nat.eq_zero_or_pos n with h0 | h0
    · have : l = [] := List.eq_nil_of_length_eq_zero (by omega)
      subst this
      rw [run_convert_bytes_string u src dst e none n cap hs he hd]
      simp only [Conv.bytesToString]
      rfl
    · obtain ⟨b, off, hb, _⟩ := hc (by omega)
      cases hb
  | some a =>
    have hload : (loadCells a n).run P u = .ok ((l.map fun x => (x.toNat : Int)).map (Value.int .u8)).toArray u := by
      have hf := firstCells_view (P := P) (w := w) (k := 1) (m := n) (v := .slice (some a) n cap) (ys := l.map B) ⟨hl, by assumption, some a, cap, rfl, by assumption, by assumption, by assumption, hc⟩ u hu
      simp only [Builtin.firstCells, Nat.mul_one] at hf
      rw [hf, List.map_map]
      rfl
    rw [run_convert_bytes_string u src dst e (some a) n cap hs he hd, run_bytesToString u a n cap _ hload, foldl_push_bytes]
    congr 2
    rw [List.map_map]
    have : (l.map ((fun n : Int => UInt8.ofNat n.toNat) ∘ fun x : UInt8 => (x.toNat : Int))) = l := by
      conv => rhs; rw [← List.map_id l]
      apply List.map_congr_left
      intro x _
      simp
    rw [this]
    show ByteArray.mk (#[] ++ l.toArray) = _
    simp

theorem run_conv_empty {P : Program} {src dst e : TypeId} (hs : P.underlying src = some (.slice e)) (he : P.underlying e = some (.int .u8)) (hd : P.underlying dst = some .string)
    (ad : Option Addr) (c : Nat) (u : World) : (convert src dst (.slice ad 0 c)).run P u = .ok (.string ⟨([] : List UInt8).toArray⟩) u := by
  cases ad with
  | none =>
    rw [run_convert_bytes_string u src dst e none 0 c hs he hd]
    simp only [Conv.bytesToString]
    rfl
  | some a => rw [run_convert_bytes_string u src dst e (some a) 0 c hs he hd, run_bytesToString u a 0 c [] rfl]; rfl
/-- A part of a slice of bytes that is read. -/
theorem View.part {w : World} {l : List UInt8} {bb off cap p v : Nat} (h : (l.map B).length = l.length * 1 ∧ l.length ≤ maxLen ∧ ∀ j, j < l.length * 1 → w.cell? ⟨bb, off + j, none⟩ = some ((l.map B).getD j undef)) (hp : p + v ≤ l.length) (hc : l.length ≤ cap) (hm : cap ≤ maxLen) :
    View w 1 (.slice (some ⟨bb, off + p, none⟩) v (cap - p)) v (((l.drop p).take v).map B) := by
  refine ⟨by simp; omega, by omega, _, _, rfl, by omega, by omega, (fun h => by cases h), fun _ => ⟨_, _, rfl, fun j hj => ?_⟩⟩
  rw [Nat.add_assoc, h.2.2 (p + j) (by omega)]
  have h1 : j < v := by omega
  have h2 : p + j < l.length := by omega
  simp [List.getD, h1, List.getElem?_drop]

theorem Rd.same {T : Nat} {w w' : World} {b : Nat} {l : List UInt8} {ao : Option Addr} {cap pos wh bad : Nat} (h : Rd T w b l ao cap pos wh bad) (hh : w'.heap = w.heap) : Rd T w' b l ao cap pos wh bad := by
  refine ⟨by rw [hh]; exact h.blk, ?_, h.ne, h.ok⟩
  obtain ⟨h1, h2, ao', cap', h3, h4, h5, h6, h7⟩ := h.view
  refine ⟨h1, h2, ao', cap', h3, h4, h5, h6, fun h0 => ?_⟩
  obtain ⟨bb, off, h8, h9⟩ := h7 h0
  exact ⟨bb, off, h8, fun j hj => by rw [show w'.cell? ⟨bb, off + j, none⟩ = w.cell? ⟨bb, off + j, none⟩ from by simp only [World.cell?, hh]]; exact h9 j hj⟩
theorem Chg.same {S : List Nat} {a w w' : World} (h : Chg S a w) (hh : w'.heap = w.heap) (h1 : w'.os = w.os) (h2 : w'.tape = w.tape) (h3 : w'.output = w.output) : Chg S a w' :=
  ⟨h1.trans h.os, h2.trans h.tape, h3.trans h.output, by rw [hh]; exact h.size, fun k hk hs => by rw [hh]; exact h.block k hk hs⟩

/-- What an argument's slice reads stays read while only new blocks are written. -/
theorem View.below {w w' : World} {k : Nat} {v : Value} {n : Nat} {xs : List Value} (h : View w k v n xs) (hb : Below w.heap.size w w') : View w' k v n xs := by
  obtain ⟨h1, h2, ao, cap, hv, h3, h4, h5, h6⟩ := h
  refine ⟨h1, h2, ao, cap, hv, h3, h4, h5, fun hn => ?_⟩
  obtain ⟨b, off, hb', hcell⟩ := h6 hn
  exact ⟨b, off, hb', fun j hj => (hb.cell (World.block_lt_of_cell? w _ (hcell j hj))).trans (hcell j hj)⟩

end Go.AB

set_option linter.unusedSimpArgs false
set_option linter.unusedVariables false
set_option linter.unusedSectionVars false
/- More on rows and slices: parts, single cells written. -/
namespace Go.AB
open Go.RowKit

/-- New cells, as a slice. -/
theorem View.news (w : World) (xs : List Value) (t : TypeId) (h : xs.length ≤ maxLen) : View (w.alloc (.cells xs.toArray t)) 1 (.slice (some ⟨w.heap.size, 0, none⟩) xs.length xs.length) xs.length xs := by
  refine ⟨by simp, h, _, _, rfl, Nat.le_refl _, h, (fun h => by cases h), fun h0 => ⟨_, _, rfl, fun j hj => ?_⟩⟩
  have hj' : j < xs.length := by omega
  rw [blk_cell (blk_alloc_new w _)]
  simp [List.getD, hj']
/-- The first elements of a slice. -/
theorem View.pre {w : World} {ao : Option Addr} {cap n : Nat} {xs : List Value} (h : View w 1 (.slice ao n cap) n xs) {m : Nat} (hm : m ≤ n) : View w 1 (.slice ao m cap) m (xs.take m) := by
  obtain ⟨h1, h2, ao', cap', hv, h3, h4, h5, h6⟩ := h
  simp only [Value.slice.injEq, true_and] at hv
  obtain ⟨rfl, rfl⟩ := hv
  refine ⟨by simp; omega, by omega, _, _, rfl, by omega, h4, fun e => ⟨by have := (h5 e).1; omega, (h5 e).2⟩, fun h0 => ?_⟩
  obtain ⟨b, off, hb, hc⟩ := h6 (by omega)
  refine ⟨b, off, hb, fun j hj => ?_⟩
  rw [hc j (by omega)]
  have : j < m := by omega
  simp [List.getD, this]
/-- A row of bytes, one of them: what stands there, and the row behind a store. -/
theorem Row.at {w : World} {U : Nat} {ao : Option Addr} {cap : Nat} {r : Option Nat} {l : List UInt8} (h : Row w U 1 (.slice ao l.length cap) r l.length (l.map B)) {k : Nat} (hk : k < l.length) :
    ∃ g, ao = some ⟨g, 0, none⟩ ∧ r = some g ∧ w.cell? ⟨g, k, none⟩ = some (.int .u8 (l[k].toNat : Nat)) ∧ w.frozen? ⟨g, k, none⟩ = false ∧
      ∀ x : UInt8, Row (w.setCell ⟨g, k, none⟩ (B x)) U 1 (.slice ao l.length cap) r l.length ((l.set k x).map B) ∧ Chg [g] w (w.setCell ⟨g, k, none⟩ (B x)) := by
  rcases h.form with ⟨_, h0, _⟩ | ⟨g, cap', cur, hv, rfl, hnc, hcm, hg, hcs, ht⟩
  · omega
  · simp only [Value.slice.injEq, true_and] at hv
    obtain ⟨rfl, rfl⟩ := hv
    have hkc : k < cur.size := by omega
    have hcell : cur[k]? = some (.int .u8 (l[k].toNat : Nat)) := by
      have h1 : (cur.toList.take (l.length * 1))[k]? = (l.map B)[k]? := by rw [ht]
      rw [List.getElem?_take] at h1
      rw [if_pos (by omega)] at h1
      simp only [Array.getElem?_toList] at h1
      rw [h1]
      simp [hk, B]
    refine ⟨g, rfl, rfl, ?_, blk_free hg k, fun x => ⟨⟨⟨by simp, .inr ⟨g, cap, _, rfl, Nat.zero_le _, blk_set hg k _, hnc, hcm, ?_, ?_⟩⟩, rfl⟩, (Chg.refl [g] w).setCell (p := ⟨g, k, none⟩) (.inl (by simp)) _⟩⟩
    · rw [blk_cell hg, hcell]
    · simp [hcs]
    · rw [Array.toList_setIfInBounds, List.map_set, ← ht, List.take_set]
theorem xor255 : ∀ x : Nat, x < 256 → bits .xor .u8 (x : Int) 255 = ((255 - x : Nat) : Int) := by decide +kernel
end Go.AB

/- Lists of rows, each owned; an append that tells where the new row lies. -/
set_option linter.unusedSimpArgs false
set_option linter.unusedSectionVars false
set_option linter.unusedVariables false
namespace Go.AB
open Go.RowKit

/-- What an append does to memory: in place, or in a new block and nothing else. -/
def Grew (w w' : World) (r r' : Option Nat) : Prop := (r' = r ∧ Chg r.toList w w') ∨ (Chg [] w w' ∧ ∀ g, r' = some g → w.heap.size ≤ g)
theorem Grew.chg {w w' : World} {r r' : Option Nat} (h : Grew w w' r r') : Chg r.toList w w' := by
  rcases h with ⟨_, h⟩ | ⟨h, _⟩
  · exact h
  · exact h.nil
theorem Grew.fresh {w w' : World} {r r' : Option Nat} (h : Grew w w' r r') : Fresh w r r' := by
  rcases h with ⟨rfl, _⟩ | ⟨_, h⟩
  · exact Fresh.refl _ _
  · exact fun g hg => .inr (h g hg)

section append
variable {P : Program}
theorem run_append_grew (w : World) (t tx ty e : TypeId) (U : TypeDesc) (i : TypeInfo) (z : Value) (k bytes : Nat) (ht : P.underlying t = some (.slice e)) (hu : P.underlying tx = some U) (hU : (∃ e', U = .slice e') ∨ U = .string)
    (hi : P.info? e = some i) (hz : i.zero = some z) (hsize : i.size = k) (hby : i.bytes = bytes) (hzs : z.cells.size = k) (hk : 0 < k)
    (v : Value) (r : Option Nat) (n : Nat) (xs : List Value) (hrow : Row w e k v r n xs)
    (x : Value) (m : Nat) (ys : List Value) (hl : ys.length = m * k) (hlen : (Builtin.lenOf x).run P w = .ok m w) (hx : ∀ u : World, u.heap = w.heap → (Builtin.firstCells k m x).run P u = .ok ys.toArray u)
    (h1 : ∀ u ∈ ys, u.oneCell' = true) (h63 : n + m ≤ maxLen) (hbytes : (n + m) * bytes ≤ 140737488355328) :
    ∃ v' w' r', (Builtin.append_ #[t, tx] ty #[v, x]).run P w = .ok v' w' ∧ Row w' e k v' r' (n + m) (xs ++ ys) ∧ Grew w w' r r' ∧ (v' = .slice none 0 0 ↔ v = .slice none 0 0 ∧ m = 0) := by
  subst hsize
  subst hby
  have hsmall : n + m ≤ 9223372036854775807 := by simp only [maxLen] at h63; omega
  have hlen' : (xs ++ ys).length = (n + m) * i.size := by rw [List.length_append, hrow.len, hl, Nat.add_mul]
  have grown : ∀ (old : Nat), Row (w.drew.alloc (.cells (xs.toArray ++ ys.toArray ++ Builtin.zeroCells z.cells (grownCap w (n + m) old e - (n + m))) e)) e i.size
        (.slice (some ⟨w.heap.size, 0, none⟩) (n + m) (grownCap w (n + m) old e)) (some w.heap.size) (n + m) (xs ++ ys) := by
    intro old
    have hge := grownCap_ge w (n + m) old e
    have hcm : grownCap w (n + m) old e ≤ maxLen := grownCap_le_maxLen w (n + m) old e h63
    refine ⟨⟨hlen', .inr ⟨w.heap.size, _, _, rfl, Nat.zero_le _, heap_alloc_new w.drew _, hge, hcm, ?_, ?_⟩⟩, rfl⟩
    · simp only [Array.size_append, List.size_toArray, size_zeroCells, hzs, hrow.len, hl, ← Nat.add_mul]
      congr 1
      omega
    · simp only [Array.toList_append, List.append_assoc]
      rw [← List.append_assoc, ← hlen']
      exact List.take_left
  have hgchg : ∀ o, Chg [] w (w.drew.alloc o) := fun o => ((Chg.refl _ _).drew).alloc o
  have hgr0 : ∀ o, Grew w (w.drew.alloc o) r (some w.heap.size) := fun o => .inr ⟨hgchg o, fun g hg => by simp at hg; omega⟩
  rcases hrow.form with ⟨rfl, rfl, rfl, rfl⟩ | ⟨g, cap, cur, rfl, rfl, hnc, hcm, hg, hcs, htake⟩
  · by_cases hm : m = 0
    · subst hm
      have hn : ys = [] := List.eq_nil_of_length_eq_zero (by simpa using hl)
      subst hn
      refine ⟨.slice none 0 0, w, none, ?_, Row.nil w e i.size, .inl ⟨rfl, Chg.refl _ _⟩, by simp⟩
      have hx0 := hx w rfl
      rcases hU with ⟨e', rfl⟩ | rfl <;> simp [Builtin.append_, run_underlying ht, run_underlying hu, sizeOf, typeInfo, hi, hlen, hx0]
    · have h63' : ¬ (9223372036854775807 < (m : Int)) := by omega
      have h48' : ¬ (281474976710656 < Builtin.nextslicecap m 0 * i.bytes) := by rw [nextslicecap_zero (by omega)]; simp only [Nat.zero_add] at hbytes; omega
      have hx0 := hx w.drew rfl
      have hgr := grown 0
      simp only [Nat.zero_add, List.nil_append] at hgr ⊢
      refine ⟨_, _, _, ?_, hgr, hgr0 _, by simp [hm]⟩
      rcases hU with ⟨e', rfl⟩ | rfl <;> simp [Builtin.append_, run_underlying ht, run_underlying hu, sizeOf, typeInfo, zeroValue, hi, hz, hlen, hm, h63', h48', hx0, Question.forced, run_firstCells_none, newRow, grownCap]
  · by_cases hroom : n + m ≤ cap
    · have hfit : n * i.size + ys.length ≤ cur.size := by rw [hl, hcs, ← Nat.add_mul]; exact Nat.mul_le_mul_right _ hroom
      have hst := run_storeCells_at P g (n * i.size) e ys 0 cur w hg (by simpa using hfit) h1
      simp only [Nat.add_zero] at hst
      have hx0 := hx w rfl
      refine ⟨.slice (some ⟨g, 0, none⟩) (n + m) cap, w.setRow g (cur.toList.take (n * i.size) ++ ys ++ cur.toList.drop (n * i.size + ys.length)).toArray, some g, ?_, ⟨⟨hlen', .inr ⟨g, cap, _, rfl, Nat.zero_le _, setRow_heap w g cur _ e _ hg, hroom, hcm, ?_, ?_⟩⟩, rfl⟩, .inl ⟨rfl, ?_⟩, by simp⟩
      · rcases hU with ⟨e', rfl⟩ | rfl <;> simp [Builtin.append_, run_underlying ht, run_underlying hu, sizeOf, typeInfo, hi, hlen, hx0, hroom, hst, Addr.add_lit]
      · simp only [List.size_toArray, List.length_append, List.length_take, List.length_drop, Array.length_toList]
        omega
      · rw [htake, ← hlen']
        exact List.take_left
      · exact ⟨rfl, rfl, rfl, by simp, fun k' _ hk' => setRow_other w g k' _ (fun e => hk' (by simp [e]))⟩
    · have h63' : ¬ (9223372036854775807 < ((n : Int) + (m : Int))) := by omega
      have h48' : ¬ (281474976710656 < Builtin.nextslicecap (n + m) cap * i.bytes) := by have := growslice_fits (need := n + m) (old := cap) (bytes := i.bytes) (by omega) hbytes; omega
      have hx0 := hx w.drew rfl
      have hfo : (Builtin.firstCells i.size n (.slice (some ⟨g, 0, none⟩) n cap)).run P w.drew = .ok xs.toArray w.drew := firstCells_view hrow.view w.drew rfl
      have hgr := grown cap
      refine ⟨_, _, _, ?_, hgr, hgr0 _, by simp⟩
      rcases hU with ⟨e', rfl⟩ | rfl <;> simp [Builtin.append_, run_underlying ht, run_underlying hu, sizeOf, typeInfo, zeroValue, hi, hz, hlen, hroom, h63', h48', hx0, hfo, Question.forced, newRow, grownCap] <;> (congr 2; apply Array.ext'; simp)

theorem wpList_grew {w : World} {ops : Array Oper} {rest : List Oper} {o : Oper} {a : Act} {Q : Exit → Act → World → Prop} (hgd : o.guard = none) (s x : Operand) (t : TypeId)
    (ho : o.op = .call { callee := .builtin .append, args := #[s, x], argTypes := #[t, t] }) {e k bytes : Nat} (E : ElemOk P t e k bytes)
    {v : Value} {r : Option Nat} {n : Nat} {xs : List Value} (hs : a.eval s = v) (hrow : Row w e k v r n xs)
    {y : Value} {m : Nat} {ys : List Value} (hx : a.eval x = y) (hy : View w k y m ys) (h1 : ∀ u ∈ ys, u.oneCell' = true) (h63 : n + m ≤ maxLen) (hbytes : (n + m) * bytes ≤ 140737488355328)
    (h : ∀ ao' cap' r' w', Row w' e k (.slice ao' (n + m) cap') r' (n + m) (xs ++ ys) → Grew w w' r r' → wpList P ops Q rest (a.put o.dst (.slice ao' (n + m) cap')) w') : wpList P ops Q (o :: rest) a w := by
  obtain ⟨i, z, hi, hz, hs', hb, hzs⟩ := E.info
  have hlen : (Builtin.lenOf y).run P w = .ok m w := by obtain ⟨_, _, ao, cap, rfl, _⟩ := hy; rfl
  obtain ⟨v', w', r', hr, h2, h3, h4⟩ := run_append_grew (P := P) w t t o.type e _ i z k bytes E.und E.und (.inl ⟨_, rfl⟩) hi hz hs' hb hzs E.pos v r n xs hrow y m ys hy.1 hlen (firstCells_view hy) h1 h63 hbytes
  refine wpList_plain hgd fun _ hK => ?_
  unfold Oper.wp execOp
  simp only [ho, resolve, invoke, builtin, Sem.run_bind, Sem.run_pure, Result.andThen_ok, List.map_toArray, List.map_cons, List.map_nil, hs, hx, hr]
  obtain ⟨ao', cap', rfl⟩ := h2.shape
  exact hK _ _ (h ao' cap' r' w' h2 h3)

/-- append as a step of a region that draws its order. -/
theorem step_grew {w : World} {ops : Array Oper} {o : Oper} {a : Act} {K : Act → World → Prop} {Q : Exit → Act → World → Prop} {E0 : Prop} (hgd : o.guard = none) (s x : Operand) (t : TypeId)
    (ho : o.op = .call { callee := .builtin .append, args := #[s, x], argTypes := #[t, t] }) {e k bytes : Nat} (E : ElemOk P t e k bytes)
    {v : Value} {r : Option Nat} {n : Nat} {xs : List Value} (hs : a.eval s = v) (hrow : Row w e k v r n xs)
    {y : Value} {m : Nat} {ys : List Value} (hx : a.eval x = y) (hy : View w k y m ys) (h1 : ∀ u ∈ ys, u.oneCell' = true) (h63 : n + m ≤ maxLen) (hbytes : (n + m) * bytes ≤ 140737488355328)
    (h : ∀ ao' cap' r' w', Row w' e k (.slice ao' (n + m) cap') r' (n + m) (xs ++ ys) → Grew w w' r r' → K (a.put o.dst (.slice ao' (n + m) cap')) w') :
    if Region.wanted o (yielded ops a.tmps) = true then Oper.wp P o a w K Q else E0 := by
  have hw : Region.wanted o (yielded ops a.tmps) = true := by simp [Region.wanted, hgd]
  rw [if_pos hw]
  obtain ⟨i, z, hi, hz, hs', hb, hzs⟩ := E.info
  have hlen : (Builtin.lenOf y).run P w = .ok m w := by obtain ⟨_, _, ao, cap, rfl, _⟩ := hy; rfl
  obtain ⟨v', w', r', hr, h2, h3, h4⟩ := run_append_grew (P := P) w t t o.type e _ i z k bytes E.und E.und (.inl ⟨_, rfl⟩) hi hz hs' hb hzs E.pos v r n xs hrow y m ys hy.1 hlen (firstCells_view hy) h1 h63 hbytes
  unfold Oper.wp execOp
  simp only [ho, resolve, invoke, builtin, Sem.run_bind, Sem.run_pure, Result.andThen_ok, List.map_toArray, List.map_cons, List.map_nil, hs, hx, hr]
  obtain ⟨ao', cap', rfl⟩ := h2.shape
  exact h ao' cap' r' w' h2 h3
end append

/-- The first elements of an owned row, by whatever capacity. -/
theorem Row.viewPre {w : World} {e k : Nat} {v : Value} {g : Nat} {n : Nat} {xs : List Value} (h : Row w e k v (some g) n xs) {m cap : Nat} (hm : m ≤ n) (hc : m ≤ cap) (hcm : cap ≤ maxLen) :
    View w k (.slice (some ⟨g, 0, none⟩) m cap) m (xs.take (m * k)) := by
  rcases h.form with ⟨_, _, _, h4⟩ | ⟨g', cap', cur, rfl, h2, hn, hm', hg, hs, ht⟩
  · cases h4
  · simp only [Option.some.injEq] at h2
    subst h2
    have hle : m * k ≤ n * k := Nat.mul_le_mul_right k hm
    refine ⟨by rw [List.length_take, h.len]; omega, by omega, _, _, rfl, hc, hcm, (fun h => by cases h), fun h0 => ⟨g, 0, rfl, fun j hj => ?_⟩⟩
    have hlt : j < cur.size := by rw [hs]; exact Nat.lt_of_lt_of_le (Nat.lt_of_lt_of_le hj hle) (Nat.mul_le_mul_right k hn)
    subst ht
    simp only [World.cell?, hg, Nat.zero_add]
    simp [hlt, List.getD, hj, show j < n * k by omega]

/-- A list of rows: each one's value, block, how many elements, cells. -/
structure Own where
  v : Value
  r : Option Nat
  n : Nat
  xs : List Value
structure Owns (w : World) (e k : Nat) (os : List Own) : Prop where
  row : ∀ i (hi : i < os.length), Row w e k os[i].v os[i].r os[i].n os[i].xs
  apart : ∀ i j (hi : i < os.length) (hj : j < os.length), i ≠ j → ∀ g, os[i].r = some g → os[j].r ≠ some g

theorem Owns.nil (w : World) (e k : Nat) : Owns w e k [] := ⟨fun i hi => by simp at hi, fun i j hi => by simp at hi⟩
theorem Owns.snoc {w : World} {e k : Nat} {os : List Own} (h : Owns w e k os) {o : Own} (hr : Row w e k o.v o.r o.n o.xs) (hne : ∀ i (hi : i < os.length) g, os[i].r = some g → o.r ≠ some g) : Owns w e k (os ++ [o]) := by
  have get : ∀ i (hi : i < (os ++ [o]).length), (∃ h : i < os.length, (os ++ [o])[i] = os[i]) ∨ (i = os.length ∧ (os ++ [o])[i] = o) := fun i hi => by
    by_cases h : i < os.length
    · exact .inl ⟨h, List.getElem_append_left h⟩
    · have : i = os.length := by simp at hi; omega
      subst this
      exact .inr ⟨rfl, by simp⟩
  refine ⟨fun i hi => ?_, fun i j hi hj hij g hg => ?_⟩
  · rcases get i hi with ⟨h1, h2⟩ | ⟨h1, h2⟩ <;> rw [h2]
    · exact h.row i h1
    · exact hr
  · rcases get i hi with ⟨h1, h2⟩ | ⟨h1, h2⟩ <;> rcases get j hj with ⟨h3, h4⟩ | ⟨h3, h4⟩ <;> rw [h2] at hg <;> rw [h4]
    · exact h.apart i j h1 h3 hij g hg
    · exact hne i h1 g hg
    · intro e; exact hne j h3 g e hg
    · omega
theorem Owns.keep {w w' : World} {e k : Nat} {os : List Own} (h : Owns w e k os) {S : List Nat} (hc : Chg S w w') (hS : ∀ i (hi : i < os.length) g, os[i].r = some g → g ∉ S) : Owns w' e k os :=
  ⟨fun i hi => (h.row i hi).keep hc (hS i hi), h.apart⟩
/-- One of the rows is another (its block too), the others stand. -/
theorem Owns.set {w w' : World} {e k : Nat} {os : List Own} (h : Owns w e k os) {i : Nat} (hi : i < os.length) {o : Own} {S : List Nat} (hc : Chg S w w') (hS : ∀ j (hj : j < os.length) g, j ≠ i → os[j].r = some g → g ∉ S)
    (hr : Row w' e k o.v o.r o.n o.xs) (hne : ∀ j (hj : j < os.length) g, j ≠ i → os[j].r = some g → o.r ≠ some g) : Owns w' e k (os.set i o) := by
  refine ⟨fun j hj => ?_, fun a b ha hb hab g hg => ?_⟩
  · rw [List.length_set] at hj
    by_cases h2 : i = j
    · subst h2; simp only [List.getElem_set_self]; exact hr
    · rw [List.getElem_set_ne h2]
      exact (h.row j hj).keep hc (fun g hg => hS j hj g (fun e => h2 e.symm) hg)
  · rw [List.length_set] at ha hb
    by_cases h2 : i = a
    · subst h2
      rw [List.getElem_set_self] at hg
      rw [List.getElem_set_ne hab]
      intro hx
      exact hne b hb g (fun e => hab e.symm) hx hg
    · rw [List.getElem_set_ne h2] at hg
      by_cases h3 : i = b
      · subst h3
        rw [List.getElem_set_self]
        exact hne a ha g (fun e => h2 e.symm) hg
      · rw [List.getElem_set_ne h3]
        exact h.apart a b ha hb hab g hg
end Go.AB

/- Slices of structs that are read; programs in memory. (Out of wip/tpl XGplain, XGv.) -/
set_option linter.unusedSimpArgs false
set_option linter.unusedSectionVars false
namespace Go.AB
open Go.RowKit
set_option linter.unusedVariables false

/-- A variable, a volatile, or a barrier. -/
structure VarD where
  name : ByteArray
  first : Int
structure InsD where
  op : Int
  a : Int
  b : Int
  c : Int
  n : Int
structure PlcD where
  line : Int
  col : Int
structure ThrD where
  name : ByteArray
  code : List InsD
  places : List PlcD
structure PrgD where
  vars : List VarD
  vols : List VarD
  locks : List ByteArray
  bars : List VarD
  thrs : List ThrD

def varC (v : VarD) : List Value := [.string v.name, .int .i64 v.first]
def insC (x : InsD) : List Value := [.int .i64 x.op, .int .i64 x.a, .int .i64 x.b, .int .i64 x.c, .int .i64 x.n]
def plcC (p : PlcD) : List Value := [.int .i64 p.line, .int .i64 p.col]

theorem flat_len {α : Type} {f : α → List Value} {k : Nat} (hf : ∀ x, (f x).length = k) (xs : List α) : (xs.flatMap f).length = xs.length * k := by
  induction xs with
  | nil => simp
  | cons x xs ih => rw [List.flatMap_cons, List.length_append, hf, ih, List.length_cons, Nat.add_mul]; omega
theorem flat_get {α : Type} {f : α → List Value} {k : Nat} (hf : ∀ x, (f x).length = k) : ∀ (xs : List α) (i j : Nat) (hi : i < xs.length) (hj : j < k), (xs.flatMap f).getD (i * k + j) undef = (f xs[i]).getD j undef
  | [], i, _, hi, _ => by simp at hi
  | x :: xs, 0, j, _, hj => by
    rw [List.flatMap_cons, Nat.zero_mul, Nat.zero_add]
    simp only [List.getD]
    rw [List.getElem?_append_left (by rw [hf]; exact hj)]
    rfl
  | x :: xs, i + 1, j, hi, hj => by
    have h := flat_get hf xs i j (by simpa using hi) hj
    rw [List.flatMap_cons]
    simp only [List.getD] at h ⊢
    rw [List.getElem?_append_right (by rw [hf, Nat.add_mul]; omega), hf, show (i + 1) * k + j - k = i * k + j from by rw [Nat.add_mul]; omega, h]
    rfl
/-- A slice whose elements' cells are those of a list. -/
def Lst {α : Type} (f : α → List Value) (k : Nat) (w : World) (v : Value) (xs : List α) : Prop := View w k v xs.length (xs.flatMap f)
theorem Lst.at {α : Type} {f : α → List Value} {k : Nat} (hf : ∀ x, (f x).length = k) {w : World} {ao : Option Addr} {n cap : Nat} {xs : List α} (h : Lst f k w (.slice ao n cap) xs) {i : Nat} (hi : i < xs.length) (hk : 0 < k) :
    ∃ b off, ao = some ⟨b, off, none⟩ ∧ ∀ j, j < k → w.cell? ⟨b, off + i * k + j, none⟩ = some ((f xs[i]).getD j undef) := by
  obtain ⟨_, _, ao', cap', hv, _, _, _, hc⟩ := h
  simp only [Value.slice.injEq] at hv
  obtain ⟨rfl, rfl, rfl⟩ := hv
  have h1 : (i + 1) * k ≤ xs.length * k := Nat.mul_le_mul_right k (by omega)
  rw [Nat.add_mul] at h1
  obtain ⟨b, off, rfl, hcell⟩ := hc (by omega)
  refine ⟨b, off, rfl, fun j hj => ?_⟩
  rw [Nat.add_assoc, hcell (i * k + j) (by omega), flat_get hf xs i j hi hj]
theorem Lst.len {α : Type} {f : α → List Value} {k : Nat} {w : World} {v : Value} {xs : List α} (h : Lst f k w v xs) : ∃ ao cap, v = .slice ao xs.length cap ∧ xs.length ≤ cap ∧ cap ≤ maxLen ∧ xs.length ≤ maxLen := by
  obtain ⟨_, h1, ao, cap, rfl, h2, h3, _⟩ := h
  exact ⟨ao, cap, rfl, h2, h3, h1⟩
theorem Lst.keep {α : Type} {f : α → List Value} {k : Nat} {w w' : World} {v : Value} {xs : List α} (h : Lst f k w v xs) (hc : Chg [] w w') : Lst f k w' v xs := View.keep h hc (by simp)
theorem varC_len (v : VarD) : (varC v).length = 2 := rfl
theorem insC_len (v : InsD) : (insC v).length = 5 := rfl
theorem plcC_len (v : PlcD) : (plcC v).length = 2 := rfl
def strC (s : ByteArray) : List Value := [.string s]
theorem strC_len (s : ByteArray) : (strC s).length = 1 := rfl
/-- A thread's value: its name, and two slices. -/
structure ThrV where
  t : ThrD
  code : Value
  places : Value
def thrC (x : ThrV) : List Value := [.string x.t.name, x.code, x.places]
theorem thrC_len (x : ThrV) : (thrC x).length = 3 := rfl
/-- A program in memory. -/
structure PrgV (w : World) (v : Value) (p : PrgD) : Prop where
  mk' : ∃ a b c d e : Value, ∃ ts : List ThrV, v = .agg #[a, b, c, d, e] ∧ Lst varC 2 w a p.vars ∧ Lst varC 2 w b p.vols ∧ Lst strC 1 w c p.locks ∧ Lst varC 2 w d p.bars ∧ Lst thrC 3 w e ts ∧ ts.map ThrV.t = p.thrs ∧
    ∀ x ∈ ts, Lst insC 5 w x.code x.t.code ∧ Lst plcC 2 w x.places x.t.places
theorem PrgV.keep {w w' : World} {v : Value} {p : PrgD} (h : PrgV w v p) (hc : Chg [] w w') : PrgV w' v p := by
  obtain ⟨a, b, c, d, e, ts, h0, h1, h2, h3, h4, h5, h6, h7⟩ := h
  exact ⟨a, b, c, d, e, ts, h0, h1.keep hc, h2.keep hc, h3.keep hc, h4.keep hc, h5.keep hc, h6, fun x hx => ⟨(h7 x hx).1.keep hc, (h7 x hx).2.keep hc⟩⟩
end Go.AB

/- Boxes and lists in memory of their own, kept apart. (Out of wip/tpl XXa, XYs.) -/
set_option linter.unusedSimpArgs false
set_option linter.unusedSectionVars false
namespace Go.AB
open Go.RowKit
set_option linter.unusedVariables false
set_option linter.unusedSimpArgs false

theorem Row.cellk {w : World} {e k : Nat} {v : Value} {g n : Nat} {xs : List Value} (h : Row w e k v (some g) n xs) :
    (∀ p, p < n * k → w.cell? ⟨g, p, none⟩ = some (xs.getD p undef)) ∧ (∀ p, w.frozen? ⟨g, p, none⟩ = false) ∧ ∃ cap, v = .slice (some ⟨g, 0, none⟩) n cap ∧ n ≤ cap ∧ cap ≤ maxLen := by
  rcases h.form with ⟨_, _, _, h4⟩ | ⟨g', cap', cur, rfl, h2, hnc, hcm, hg, hcs, ht⟩
  · cases h4
  · simp only [Option.some.injEq] at h2
    subst h2
    refine ⟨fun p hp => ?_, fun p => blk_free hg p, cap', rfl, hnc, hcm⟩
    have hpc : p < cur.size := by rw [hcs]; exact Nat.lt_of_lt_of_le hp (Nat.mul_le_mul_right k hnc)
    rw [blk_cell hg, ← ht]
    simp [List.getD, hp, hpc]
theorem Row.putk {w : World} {e k : Nat} {v : Value} {n : Nat} {g : Nat} {xs : List Value} (h : Row w e k v (some g) n xs) (p : Nat) (x : Value) :
    Row (w.setCell ⟨g, p, none⟩ x) e k v (some g) n (xs.set p x) := by
  rcases h.form with ⟨_, _, _, h4⟩ | ⟨g', cap', cur, rfl, h2, hnc, hcm, hg, hcs, ht⟩
  · cases h4
  · simp only [Option.some.injEq] at h2
    subst h2
    refine ⟨⟨by rw [List.length_set]; exact h.len, .inr ⟨g, cap', _, rfl, Nat.zero_le _, blk_set hg p _, hnc, hcm, by simp [hcs], ?_⟩⟩, rfl⟩
    rw [Array.toList_setIfInBounds, ← ht, List.take_set]
theorem Row.cap {w : World} {e k : Nat} {ao : Option Addr} {n cap : Nat} {r : Option Nat} {xs : List Value} (h : Row w e k (.slice ao n cap) r n xs) : n ≤ cap := by
  obtain ⟨_, _, ao', cap', hv, h1, _⟩ := h.view
  simp only [Value.slice.injEq, true_and] at hv
  obtain ⟨rfl, rfl⟩ := hv
  exact h1
/-- The first elements of a list that is read. -/
theorem View.prek {w : World} {k : Nat} {ao : Option Addr} {cap n m : Nat} {xs ys : List Value} (h : View w k (.slice ao n cap) n (xs ++ ys)) (hm : m ≤ n) (hx : xs.length = m * k) (hao : ao ≠ none) : View w k (.slice ao m cap) m xs := by
  obtain ⟨h1, h2, ao', cap', hv, h3, h4, h5, h6⟩ := h
  simp only [Value.slice.injEq, true_and] at hv
  obtain ⟨rfl, rfl⟩ := hv
  refine ⟨hx, by omega, _, _, rfl, by omega, h4, fun e => absurd e hao, fun h0 => ?_⟩
  have hmk : m * k ≤ n * k := Nat.mul_le_mul_right k hm
  obtain ⟨b, off, hb, hc⟩ := h6 (by omega)
  refine ⟨b, off, hb, fun j hj => ?_⟩
  rw [hc j (by omega)]
  simp only [List.getD]
  rw [List.getElem?_append_left (by omega)]

/-- What is kept: a box, or a list in memory of its own. -/
inductive It where
  | box (a : Nat) (o : Obj)
  | row (e k : Nat) (v : Value) (r : Option Nat) (n : Nat) (xs : List Value)
def It.blk : It → Option Nat
  | .box a _ => some a
  | .row _ _ _ r _ _ => r
def It.ok (w : World) : It → Prop
  | .box a o => w.heap[a]? = some o
  | .row e k v r n xs => Row w e k v r n xs
/-- All that is kept holds, no two in the same memory, all of it newer than w0; only blocks of S0 of the old ones have changed. -/
structure Hp (S0 : List Nat) (w0 w : World) (I : List It) : Prop where
  ok : ∀ x ∈ I, x.ok w
  lo : ∀ x ∈ I, ∀ g, x.blk = some g → w0.heap.size ≤ g
  nd : (I.filterMap It.blk).Nodup
  chg : Chg S0 w0 w
  s0 : ∀ x ∈ S0, x < w0.heap.size
section
variable {S0 : List Nat} {w0 w w' : World} {I : List It}
theorem It.lt {x : It} (h : x.ok w) {g : Nat} (hg : x.blk = some g) : g < w.heap.size := by
  cases x with
  | box a o => simp only [It.blk, Option.some.injEq] at hg; subst hg; exact blk_lt h
  | row e k v r n xs => exact Row.lt h g hg
theorem It.keep {x : It} (h : x.ok w) {S : List Nat} (hc : Chg S w w') (hS : ∀ g, x.blk = some g → g ∉ S) : x.ok w' := by
  cases x with
  | box a o => exact hc.heap h (hS a rfl)
  | row e k v r n xs => exact Row.keep h hc (fun g hg => hS g hg)
theorem Hp.start (w : World) (h : ∀ x ∈ S0, x < w.heap.size) : Hp S0 w w [] := ⟨by simp, by simp, by simp, Chg.refl _ _, h⟩
theorem Hp.lt (h : Hp S0 w0 w I) {x : It} (hx : x ∈ I) {g : Nat} (hg : x.blk = some g) : g < w.heap.size := It.lt (h.ok x hx) hg
theorem Hp.out (h : Hp S0 w0 w I) {x : It} (hx : x ∈ I) {g : Nat} (hg : x.blk = some g) : g ∉ S0 := fun hm => by
  have := h.lo x hx g hg
  have := h.s0 g hm
  omega
/-- Only old blocks change. -/
theorem Hp.step (h : Hp S0 w0 w I) (hc : Chg S0 w w') : Hp S0 w0 w' I :=
  ⟨fun x hx => It.keep (h.ok x hx) hc (fun g hg => h.out hx hg), h.lo, h.nd, h.chg.trans' hc, h.s0⟩
theorem Hp.same (h : Hp S0 w0 w I) (hc : Chg [] w w') : Hp S0 w0 w' I := h.step hc.nil
theorem Hp.cons (h : Hp S0 w0 w I) (x : It) (h1 : x.ok w) (h2 : ∀ g, x.blk = some g → w0.heap.size ≤ g ∧ ∀ y ∈ I, y.blk ≠ some g) : Hp S0 w0 w (x :: I) := by
  refine ⟨fun y hy => ?_, fun y hy => ?_, ?_, h.chg, h.s0⟩
  · rcases List.mem_cons.1 hy with rfl | hy
    · exact h1
    · exact h.ok y hy
  · rcases List.mem_cons.1 hy with rfl | hy
    · exact fun g hg => (h2 g hg).1
    · exact h.lo y hy
  · cases hb : x.blk with
    | none => rw [List.filterMap_cons_none hb]; exact h.nd
    | some g =>
      rw [List.filterMap_cons_some hb, List.nodup_cons]
      refine ⟨fun hm => ?_, h.nd⟩
      obtain ⟨y, hy, hg⟩ := List.mem_filterMap.1 hm
      exact (h2 g hb).2 y hy hg
theorem Hp.newer (h : Hp S0 w0 w I) {g : Nat} (hg : w.heap.size ≤ g) : w0.heap.size ≤ g ∧ ∀ y ∈ I, y.blk ≠ some g :=
  ⟨Nat.le_trans h.chg.size hg, fun y hy e => by have := h.lt hy e; omega⟩
theorem Hp.box (h : Hp S0 w0 w I) (o : Obj) : Hp S0 w0 (w.alloc o) (.box w.heap.size o :: I) := by
  refine (h.same ((Chg.refl [] w).alloc o)).cons _ (heap_alloc_new w o) (fun g hg => ?_)
  simp only [It.blk, Option.some.injEq] at hg
  subst hg
  exact h.newer (Nat.le_refl _)
theorem Hp.nil (h : Hp S0 w0 w I) (e k : Nat) : Hp S0 w0 w (.row e k (.slice none 0 0) none 0 [] :: I) :=
  h.cons _ (Row.nil w e k) (fun g hg => by cases hg)
/-- A new list is answered. -/
theorem Hp.fresh (h : Hp S0 w0 w I) (hc : Chg S0 w w') {e k n : Nat} {v : Value} {r : Option Nat} {xs : List Value} (hr : Row w' e k v r n xs) (hf : Fresh w none r) : Hp S0 w0 w' (.row e k v r n xs :: I) := by
  refine (h.step hc).cons _ hr (fun g hg => ?_)
  exact h.newer ((hf g hg).resolve_left (by simp))
theorem Hp.get (h : Hp S0 w0 w I) {i : Nat} {x : It} (hi : I[i]? = some x) : x.ok w := h.ok x (List.mem_of_getElem? hi)
theorem Hp.cell (h : Hp S0 w0 w I) {i a : Nat} {cs : Array Value} {t : TypeId} {fr : Nat × Nat} (hi : I[i]? = some (.box a (.cells cs t fr))) (j : Nat) : w.cell? ⟨a, j, none⟩ = cs[j]? := blk_cell (h.get hi) j
theorem Hp.free (h : Hp S0 w0 w I) {i a : Nat} {cs : Array Value} {t : TypeId} (hi : I[i]? = some (.box a (.cells cs t (0, 0)))) (j : Nat) : w.frozen? ⟨a, j, none⟩ = false := blk_free (h.get hi) j
theorem Hp.rowAt (h : Hp S0 w0 w I) {i e k n : Nat} {v : Value} {r : Option Nat} {xs : List Value} (hi : I[i]? = some (.row e k v r n xs)) : Row w e k v r n xs := h.get hi
theorem apart_at : ∀ {I : List It} {i j : Nat} {x y : It} {g : Nat}, (I.filterMap It.blk).Nodup → I[i]? = some x → I[j]? = some y → x.blk = some g → y.blk = some g → i = j
  | [], i, j, x, y, g, _, hi, _, _, _ => by simp at hi
  | z :: I, i, j, x, y, g, hn, hi, hj, hx, hy => by
    have hmem : ∀ {k : Nat} {u : It}, I[k]? = some u → u.blk = some g → g ∈ I.filterMap It.blk := fun hk hu => List.mem_filterMap.2 ⟨_, List.mem_of_getElem? hk, hu⟩
    have hn' : (I.filterMap It.blk).Nodup := by
      cases hz : z.blk with
      | none => rwa [List.filterMap_cons_none hz] at hn
      | some g' => rw [List.filterMap_cons_some hz, List.nodup_cons] at hn; exact hn.2
    cases i with
    | zero =>
      cases j with
      | zero => rfl
      | succ j =>
        simp only [List.getElem?_cons_zero, Option.some.injEq, List.getElem?_cons_succ] at hi hj
        subst hi
        rw [List.filterMap_cons_some hx, List.nodup_cons] at hn
        exact absurd (hmem hj hy) hn.1
    | succ i =>
      cases j with
      | zero =>
        simp only [List.getElem?_cons_zero, Option.some.injEq, List.getElem?_cons_succ] at hi hj
        subst hj
        rw [List.filterMap_cons_some hy, List.nodup_cons] at hn
        exact absurd (hmem hi hx) hn.1
      | succ j =>
        simp only [List.getElem?_cons_succ] at hi hj
        rw [apart_at hn' hi hj hx hy]
theorem set_blk : ∀ {I : List It} {i : Nat} {x y : It}, I[i]? = some x → x.blk = y.blk → (I.set i y).filterMap It.blk = I.filterMap It.blk
  | [], i, x, y, hi, _ => by simp at hi
  | z :: I, 0, x, y, hi, h => by
    simp only [List.getElem?_cons_zero, Option.some.injEq] at hi
    subst hi
    simp only [List.set_cons_zero, List.filterMap_cons, h]
  | z :: I, i + 1, x, y, hi, h => by
    simp only [List.getElem?_cons_succ] at hi
    simp only [List.set_cons_succ, List.filterMap_cons, set_blk hi h]
theorem set_nodup : ∀ {I : List It} {i : Nat} {x y : It}, (I.filterMap It.blk).Nodup → I[i]? = some x → (∀ g, y.blk = some g → x.blk = some g ∨ ∀ z ∈ I, z.blk ≠ some g) → ((I.set i y).filterMap It.blk).Nodup
  | [], i, x, y, _, hi, _ => by simp at hi
  | z :: I, 0, x, y, hn, hi, h => by
    simp only [List.getElem?_cons_zero, Option.some.injEq] at hi
    subst hi
    simp only [List.set_cons_zero]
    have hn' : (I.filterMap It.blk).Nodup := by
      cases hz : z.blk with
      | none => rwa [List.filterMap_cons_none hz] at hn
      | some g' => rw [List.filterMap_cons_some hz, List.nodup_cons] at hn; exact hn.2
    cases hy : y.blk with
    | none => rw [List.filterMap_cons_none hy]; exact hn'
    | some g =>
      rw [List.filterMap_cons_some hy, List.nodup_cons]
      refine ⟨fun hm => ?_, hn'⟩
      rcases h g hy with h | h
      · rw [List.filterMap_cons_some h, List.nodup_cons] at hn
        exact hn.1 hm
      · obtain ⟨u, hu, hg⟩ := List.mem_filterMap.1 hm
        exact h u (List.mem_cons_of_mem _ hu) hg
  | z :: I, i + 1, x, y, hn, hi, h => by
    simp only [List.getElem?_cons_succ] at hi
    simp only [List.set_cons_succ]
    have hn' : (I.filterMap It.blk).Nodup := by
      cases hz : z.blk with
      | none => rwa [List.filterMap_cons_none hz] at hn
      | some g' => rw [List.filterMap_cons_some hz, List.nodup_cons] at hn; exact hn.2
    have ih := set_nodup hn' hi (fun g hg => (h g hg).imp id fun h u hu => h u (List.mem_cons_of_mem _ hu))
    cases hz : z.blk with
    | none => rw [List.filterMap_cons_none hz]; exact ih
    | some g =>
      rw [List.filterMap_cons_some hz, List.nodup_cons] at hn ⊢
      refine ⟨fun hm => ?_, ih⟩
      obtain ⟨u, hu, hg⟩ := List.mem_filterMap.1 hm
      rcases List.mem_or_eq_of_mem_set hu with hu | rfl
      · exact hn.1 (List.mem_filterMap.2 ⟨u, hu, hg⟩)
      · rcases h g hg with h | h
        · exact hn.1 (List.mem_filterMap.2 ⟨x, List.mem_of_getElem? hi, h⟩)
        · exact h z (List.mem_cons_self ..) hz
/-- One of them is another now; the others are as they were. -/
theorem Hp.set (h : Hp S0 w0 w I) {i : Nat} {x : It} (hi : I[i]? = some x) (y : It) {S : List Nat} (hc : Chg S w w') (hS : ∀ g ∈ S, x.blk = some g) (hy : y.ok w') (hyb : ∀ g, y.blk = some g → x.blk = some g ∨ w.heap.size ≤ g) {I' : List It} (hI : I.set i y = I') : Hp S0 w0 w' I' := by
  subst hI
  refine ⟨fun z hz => ?_, fun z hz g hg => ?_, set_nodup h.nd hi (fun g hg => (hyb g hg).imp id fun k => (h.newer k).2), h.chg.trans hc (fun g hg => .inr (h.lo x (List.mem_of_getElem? hi) g (hS g hg))), h.s0⟩
  · obtain ⟨j, hj, rfl⟩ := List.mem_iff_getElem.1 hz
    rw [List.getElem_set]
    split
    · exact hy
    · rename_i hij
      have hjl : j < I.length := by simpa using hj
      refine It.keep (h.ok _ (List.getElem_mem hjl)) hc (fun g hg hm => hij ?_)
      exact apart_at h.nd hi (List.getElem?_eq_getElem hjl) (hS g hm) hg
  · rcases List.mem_or_eq_of_mem_set hz with hz | rfl
    · exact h.lo z hz g hg
    · rcases hyb g hg with k | k
      · exact h.lo x (List.mem_of_getElem? hi) g k
      · exact (h.newer k).1
/-- A box is written. -/
theorem Hp.put (h : Hp S0 w0 w I) (i : Nat) {a : Nat} {vs : Array Value} {t : TypeId} (hi : I[i]? = some (.box a (.cells vs t (0, 0)))) (f : Nat) (u : Value) {I' : List It} (hI : I.set i (.box a (.cells (vs.setIfInBounds f u) t (0, 0))) = I') : Hp S0 w0 (w.setCell ⟨a, f, none⟩ u) I' :=
  h.set hi (.box a (.cells (vs.setIfInBounds f u) t (0, 0))) (S := [a]) ((Chg.refl [a] w).setCell (p := ⟨a, f, none⟩) (.inl (by simp)) u) (fun g hg => by simp only [List.mem_singleton] at hg; subst hg; rfl) (blk_set (h.get hi) f u) (fun g hg => .inl hg) hI
/-- An element of a list is written. -/
theorem Hp.puti (h : Hp S0 w0 w I) (i : Nat) {e k n g : Nat} {v : Value} {xs : List Value} (hi : I[i]? = some (.row e k v (some g) n xs)) (p : Nat) (u : Value) {I' : List It} (hI : I.set i (.row e k v (some g) n (xs.set p u)) = I') : Hp S0 w0 (w.setCell ⟨g, p, none⟩ u) I' :=
  h.set hi (.row e k v (some g) n (xs.set p u)) (S := [g]) ((Chg.refl [g] w).setCell (p := ⟨g, p, none⟩) (.inl (by simp)) u) (fun g' hg => by simp only [List.mem_singleton] at hg; subst hg; rfl) (by
    exact Row.putk (h.get hi) p u) (fun g hg => .inl hg) hI
/-- A list is grown. -/
theorem Hp.grow (h : Hp S0 w0 w I) (i : Nat) {e k n : Nat} {v : Value} {r : Option Nat} {xs : List Value} (hi : I[i]? = some (.row e k v r n xs)) {w1 w2 : World} (hc1 : Chg [] w w1) {e' k' n' : Nat} {v' : Value} {r' : Option Nat} {xs' : List Value} (hr : Row w2 e' k' v' r' n' xs') (hc2 : Chg r.toList w1 w2) (hf : Fresh w1 r r') {I' : List It} (hI : I.set i (.row e' k' v' r' n' xs') = I') : Hp S0 w0 w2 I' :=
  h.set hi (.row e' k' v' r' n' xs') (S := r.toList) (hc1.nil.trans' hc2) (fun g hg => (by simpa using hg : r = some g)) hr (fun g hg => (hf g hg).imp id fun k => Nat.le_trans hc1.size k) hI
theorem Hp.sub (h : Hp S0 w0 w I) {I' : List It} (hs : List.Sublist I' I) : Hp S0 w0 w I' :=
  ⟨fun x hx => h.ok x (hs.subset hx), fun x hx => h.lo x (hs.subset hx), h.nd.sublist (hs.filterMap _), h.chg, h.s0⟩
theorem Hp.perm (h : Hp S0 w0 w I) {I' : List It} (hp : I.Perm I') : Hp S0 w0 w I' :=
  ⟨fun x hx => h.ok x (hp.mem_iff.2 hx), fun x hx => h.lo x (hp.mem_iff.2 hx), (hp.filterMap It.blk).nodup_iff.1 h.nd, h.chg, h.s0⟩
/-- The rest of what was kept, under a change of one list alone. -/
theorem Hp.ne (h : Hp S0 w0 w I) {x y : It} {i j : Nat} (hi : I[i]? = some x) (hj : I[j]? = some y) (hij : i ≠ j) {g : Nat} (hx : x.blk = some g) : y.blk ≠ some g := fun hy => hij (apart_at h.nd hi hj hx hy)
/-- What a call made, beside what was there. -/
theorem Hp.join (h : Hp S0 w0 w I) {J : List It} {w1 : World} (k : Hp S0 w w1 J) : Hp S0 w0 w1 (J ++ I) := by
  have hI := h.step k.chg
  refine ⟨fun x hx => ?_, fun x hx g hg => ?_, ?_, hI.chg, h.s0⟩
  · rcases List.mem_append.1 hx with hx | hx
    · exact k.ok x hx
    · exact hI.ok x hx
  · rcases List.mem_append.1 hx with hx | hx
    · exact Nat.le_trans h.chg.size (k.lo x hx g hg)
    · exact h.lo x hx g hg
  · rw [List.filterMap_append, List.nodup_append]
    refine ⟨k.nd, h.nd, fun a ha c hc e => ?_⟩
    obtain ⟨x, hx, h1⟩ := List.mem_filterMap.1 ha
    obtain ⟨y, hy, h2⟩ := List.mem_filterMap.1 hc
    have h3 := k.lo x hx a h1
    have h4 := h.lt hy h2
    omega
/-- Seen from an older world. -/
theorem Hp.from {w1 : World} (hc : Chg S0 w0 w) (hs : ∀ x ∈ S0, x < w0.heap.size) (h : Hp S0 w w1 I) : Hp S0 w0 w1 I :=
  ⟨h.ok, fun x hx g hg => Nat.le_trans hc.size (h.lo x hx g hg), h.nd, hc.trans' h.chg, hs⟩
end
end Go.AB
