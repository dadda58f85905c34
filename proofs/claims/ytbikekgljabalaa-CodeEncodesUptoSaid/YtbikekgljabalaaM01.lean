/- Several texts of this seat, one behind the other: Base, Obj, Wplain, Rplain, Rlaw, Rback, Gplain, Fplain, Ww, Wa, Wb, Wc, Wd, We, Base2, Fa, Wf, Wg, Wh, Ra. -/
import Derived.WalkKit
import Derived.WalkSpells
import Derived.WalkLawsBesides
import Derived.ProofKit
import Derived.Test.YtbikekgljabalaaRows
import Derived.Deep.QuietTactic
import Derived.BigQuiet
/- General lemmas on worlds: what a call may change, rows that are owned, slices that are read. -/
namespace Go.AB
open Go.RowKit

/-- A fact kept from the walk. -/
theorem hid {p : Prop} (h : p) : Hid p := h

/-- The walk stands still here: behind it 'rw [hX.out]' goes on. -/
theorem halt {p : Prop} (h : ∀ X : Prop, Hid (X = p) → X) : p := h p rfl

/-- Below 2 to the 64 (behind a name: the walk bears no such numeral). -/
def U64 (n : Nat) : Prop := n < 18446744073709551616
theorem U64.out {n : Nat} (h : U64 n) : n < 18446744073709551616 := h
theorem U64.div {n : Nat} (h : U64 n) (k : Nat) : U64 (n / k) := Nat.lt_of_le_of_lt (Nat.div_le_self _ _) h

/-- Of the old blocks only those of S may have changed. -/
structure Chg (S : List Nat) (w w' : World) : Prop where
  os : w'.os = w.os
  tape : w'.tape = w.tape
  output : w'.output = w.output
  size : w.heap.size ≤ w'.heap.size
  block : ∀ k, k < w.heap.size → k ∉ S → w'.heap[k]? = w.heap[k]?

theorem Chg.refl (S : List Nat) (w : World) : Chg S w w := ⟨rfl, rfl, rfl, Nat.le_refl _, fun _ _ _ => rfl⟩
theorem Chg.trans {S T : List Nat} {a b c : World} (h : Chg S a b) (k : Chg T b c) (hT : ∀ x, x ∈ T → x ∈ S ∨ a.heap.size ≤ x) : Chg S a c :=
  ⟨k.os.trans h.os, k.tape.trans h.tape, k.output.trans h.output, Nat.le_trans h.size k.size,
    fun i hi hs => (k.block i (Nat.lt_of_lt_of_le hi h.size) (fun hm => by rcases hT i hm with h1 | h1; exact hs h1; omega)).trans (h.block i hi hs)⟩
theorem Chg.trans' {S : List Nat} {a b c : World} (h : Chg S a b) (k : Chg S b c) : Chg S a c := h.trans k fun _ hx => .inl hx
theorem Chg.mono {S T : List Nat} {a b : World} (h : Chg S a b) (hT : ∀ x, x ∈ S → x ∈ T ∨ a.heap.size ≤ x) : Chg T a b :=
  ⟨h.os, h.tape, h.output, h.size, fun i hi hs => h.block i hi fun hm => by rcases hT i hm with h1 | h1; exact hs h1; omega⟩
theorem Chg.nil {T : List Nat} {a b : World} (h : Chg [] a b) : Chg T a b := h.mono fun x hx => by cases hx
theorem Chg.drew {S : List Nat} {a b : World} (h : Chg S a b) : Chg S a b.drew := ⟨h.os, h.tape, h.output, h.size, h.block⟩
theorem Chg.drewN {S : List Nat} {a b : World} (h : Chg S a b) (n : Nat) : Chg S a (b.drewN n) := ⟨h.os, h.tape, h.output, h.size, h.block⟩
theorem Chg.of_drewN (S : List Nat) (a : World) (n : Nat) : Chg S a (a.drewN n) := (Chg.refl S a).drewN n
theorem Chg.alloc {S : List Nat} {a b : World} (h : Chg S a b) (o : Obj) : Chg S a (b.alloc o) :=
  h.trans (T := S) ⟨rfl, rfl, rfl, by simp, fun k hk _ => Below.heap_alloc _ _ _ hk⟩ fun _ hx => .inl hx
theorem Chg.setCell {S : List Nat} {a b : World} (h : Chg S a b) {p : Addr} (hp : p.block ∈ S ∨ a.heap.size ≤ p.block) (u : Value) : Chg S a (b.setCell p u) :=
  h.trans (T := [p.block]) ⟨rfl, rfl, rfl, by simp [World.setCell], fun k _ hk => Below.heap_setCell _ _ _ _ (by simpa using hk)⟩
    fun x hx => by simp at hx; subst hx; exact hp
theorem Chg.grown {S : List Nat} {a b c : World} {row : Option Nat} (h : Chg S a b) (hg : b.grownBy c row) (hr : ∀ k, row = some k → k ∈ S ∨ a.heap.size ≤ k) : Chg S a c :=
  h.trans (T := row.toList) ⟨hg.os, hg.tape, hg.output, hg.size, fun k hk hn => hg.block k hk (fun e => hn (by simp [← e]))⟩
    fun x hx => hr x (by simpa using hx)
theorem Chg.below {S : List Nat} {a b : World} {B : Nat} (h : Chg S a b) (hS : ∀ x, x ∈ S → B ≤ x) (hB : B ≤ a.heap.size) : Below B a b :=
  ⟨h.os, h.tape, h.output, h.size, fun k hk => h.block k (by omega) fun hm => by have := hS k hm; omega⟩
theorem Chg.of_below {a b : World} (h : Below a.heap.size a b) (S : List Nat) : Chg S a b :=
  ⟨h.os, h.tape, h.output, h.size, fun k hk _ => h.block k hk⟩
theorem Chg.to_below {a b : World} (h : Chg [] a b) : Below a.heap.size a b := h.below (fun x hx => by cases hx) (Nat.le_refl _)
theorem Chg.cell {S : List Nat} {a b : World} (h : Chg S a b) {p : Addr} {v : Value} (hc : a.cell? p = some v) (hp : p.block ∉ S) : b.cell? p = some v :=
  (World.cell?_of_block (h.block p.block (World.block_lt_of_cell? a p hc) hp)).trans hc
theorem Chg.heap {S : List Nat} {a b : World} (h : Chg S a b) {k : Nat} {o : Obj} (hc : a.heap[k]? = some o) (hp : k ∉ S) : b.heap[k]? = some o :=
  (h.block k (Array.getElem?_eq_some_iff.1 hc).1 hp).trans hc

/-- A block that may be new: r' is r, or a block that a does not have. -/
def Fresh (a : World) (r r' : Option Nat) : Prop := ∀ g, r' = some g → r = some g ∨ a.heap.size ≤ g

theorem Fresh.refl (a : World) (r : Option Nat) : Fresh a r r := fun _ h => .inl h
theorem Fresh.trans {a b : World} {r s t : Option Nat} (h : Fresh a r s) (hs : a.heap.size ≤ b.heap.size) (k : Fresh b s t) : Fresh a r t := fun g hg => by
  rcases k g hg with h1 | h1
  · exact h g h1
  · exact .inr (by omega)
theorem Fresh.mono {a b : World} {r s : Option Nat} (k : Fresh b r s) (hs : a.heap.size ≤ b.heap.size) : Fresh a r s := fun g hg => (k g hg).imp id fun h => by omega

/-- An owned row: a slice value over the head of a block that nobody else writes. -/
structure Row (w : World) (e k : Nat) (v : Value) (r : Option Nat) (n : Nat) (xs : List Value) : Prop where
  own : w.ownsRow 0 e k v n xs
  blk : v.ownBlock = r

theorem Row.nil (w : World) (e k : Nat) : Row w e k (.slice none 0 0) none 0 [] := ⟨World.ownsRow_nil _ _ _ _, rfl⟩
theorem Row.lt {w : World} {e k : Nat} {v : Value} {r : Option Nat} {n : Nat} {xs : List Value} (h : Row w e k v r n xs) : ∀ g, r = some g → g < w.heap.size :=
  fun g hg => (h.own.lt g (h.blk.trans hg)).2
theorem Row.keep {w w' : World} {e k : Nat} {v : Value} {r : Option Nat} {n : Nat} {xs : List Value} {S : List Nat} (h : Row w e k v r n xs) (hc : Chg S w w') (hS : ∀ g, r = some g → g ∉ S) :
    Row w' e k v r n xs := by
  refine ⟨⟨h.own.1, ?_⟩, h.blk⟩
  rcases h.own.2 with hn | ⟨g, cap, cur, hv, hb, hg, rest⟩
  · exact .inl hn
  · refine .inr ⟨g, cap, cur, hv, hb, hc.heap hg (hS g ?_), rest⟩
    rw [← h.blk, hv]; rfl
theorem Row.len {w : World} {e k : Nat} {v : Value} {r : Option Nat} {n : Nat} {xs : List Value} (h : Row w e k v r n xs) : xs.length = n * k := h.own.1

/-- What is known of an owned row's value. -/
theorem Row.form {w : World} {e k : Nat} {v : Value} {r : Option Nat} {n : Nat} {xs : List Value} (h : Row w e k v r n xs) :
    (v = .slice none 0 0 ∧ n = 0 ∧ xs = [] ∧ r = none) ∨
    ∃ g cap cur, v = .slice (some ⟨g, 0, none⟩) n cap ∧ r = some g ∧ n ≤ cap ∧ cap ≤ maxLen ∧ w.heap[g]? = some (.cells cur e (0, 0)) ∧ cur.size = cap * k ∧ cur.toList.take (n * k) = xs := by
  obtain ⟨⟨hl, h1⟩, h2⟩ := h
  rcases h1 with ⟨rfl, rfl⟩ | ⟨g, cap, cur, rfl, _, hg, hn, hm, hs, ht⟩
  · refine .inl ⟨rfl, rfl, List.eq_nil_of_length_eq_zero (by simpa using hl), ?_⟩
    rw [← h2]; rfl
  · exact .inr ⟨g, cap, cur, rfl, by rw [← h2]; rfl, hn, hm, hg, hs, ht⟩

theorem Row.shape {w : World} {e k : Nat} {v : Value} {r : Option Nat} {n : Nat} {xs : List Value} (h : Row w e k v r n xs) : ∃ ao cap, v = .slice ao n cap := by
  rcases h.form with ⟨rfl, rfl, _⟩ | ⟨g, cap, _, rfl, _⟩
  · exact ⟨_, _, rfl⟩
  · exact ⟨_, _, rfl⟩

/-- A slice that is read: n elements of k cells each. -/
def View (w : World) (k : Nat) (v : Value) (n : Nat) (xs : List Value) : Prop :=
  xs.length = n * k ∧ n ≤ maxLen ∧ ∃ ao cap, v = .slice ao n cap ∧ n ≤ cap ∧ cap ≤ maxLen ∧ (ao = none → n = 0 ∧ cap = 0) ∧
    (0 < n * k → ∃ b off, ao = some ⟨b, off, none⟩ ∧ ∀ j, j < n * k → w.cell? ⟨b, off + j, none⟩ = some (xs.getD j undef))

theorem View.keep {w w' : World} {k : Nat} {v : Value} {n : Nat} {xs : List Value} {S : List Nat} (h : View w k v n xs) (hc : Chg S w w') (hS : ∀ g, v.ownBlock = some g → g ∉ S) : View w' k v n xs := by
  obtain ⟨h1, h2, ao, cap, hv, h3, h4, h5, h6⟩ := h
  refine ⟨h1, h2, ao, cap, hv, h3, h4, h5, fun hn => ?_⟩
  obtain ⟨b, off, hb, hcell⟩ := h6 hn
  refine ⟨b, off, hb, fun j hj => hc.cell (hcell j hj) (hS b ?_)⟩
  rw [hv, hb]; rfl

theorem Row.view {w : World} {e k : Nat} {v : Value} {r : Option Nat} {n : Nat} {xs : List Value} (h : Row w e k v r n xs) : View w k v n xs := by
  rcases h.form with ⟨rfl, rfl, rfl, _⟩ | ⟨g, cap, cur, rfl, _, hn, hm, hg, hs, ht⟩
  · exact ⟨by simp, by simp [maxLen], none, 0, rfl, Nat.le_refl _, by simp [maxLen], fun _ => ⟨rfl, rfl⟩, fun h => by simp at h⟩
  · refine ⟨h.len, Nat.le_trans hn hm, some ⟨g, 0, none⟩, cap, rfl, hn, hm, (fun h => by cases h), fun h0 => ⟨g, 0, rfl, fun j hj => ?_⟩⟩
    have hlt : j < cur.size := by rw [hs]; exact Nat.lt_of_lt_of_le hj (Nat.mul_le_mul_right k hn)
    subst ht
    simp only [World.cell?, hg, Nat.zero_add]
    simp [hlt, List.getD, hj]

/-- One new cell, as a slice of one element. -/
theorem View.one (w : World) (x : Value) (t : TypeId) : View (w.alloc (.cells #[x] t)) 1 (.slice (some ⟨w.heap.size, 0, none⟩) 1 1) 1 [x] := by
  refine ⟨rfl, by simp [maxLen], _, _, rfl, Nat.le_refl _, by simp [maxLen], (fun h => by cases h), fun _ => ⟨_, _, rfl, fun j hj => ?_⟩⟩
  obtain rfl : j = 0 := by omega
  simp

section append
variable {P : Program}

theorem loadCells_zero (a : Addr) (w : World) : (loadCells a 0).run P w = .ok #[] w := rfl

theorem firstCells_view {w : World} {k m : Nat} {v : Value} {ys : List Value} (h : View w k v m ys) : ∀ u : World, u.heap = w.heap → (Builtin.firstCells k m v).run P u = .ok ys.toArray u := by
  intro u hu
  obtain ⟨hl, _, ao, cap, rfl, _, _, _, hc⟩ := h
  rcases Nat.eq_zero_or_pos (m * k) with h0 | h0
  · have hy : ys = [] := List.eq_nil_of_length_eq_zero (by omega)
    subst hy
    cases ao with
    | none => simp [Builtin.firstCells]
    | some a => simp only [Builtin.firstCells, h0]; exact loadCells_zero _ _
  · obtain ⟨b, off, rfl, hcell⟩ := hc h0
    simp only [Builtin.firstCells]
    rw [← hl]
    refine run_loadCells_list u ⟨b, off, none⟩ ys fun j y hy => ?_
    have hj : j < ys.length := (List.getElem?_eq_some_iff.1 hy).1
    have := hcell j (by omega)
    rw [Addr.add_lit, show u.cell? ⟨b, off + j, none⟩ = w.cell? ⟨b, off + j, none⟩ from by simp only [World.cell?, hu], this, List.getD, hy]; rfl

theorem firstCells_string (w : World) (s : ByteArray) : (Builtin.firstCells 1 s.size (.string s)).run P w = .ok (s.data.map fun b => Value.int .u8 b.toNat) w := by
  have hx : (Array.map (fun b : UInt8 => Value.int IntKind.u8 (b.toNat : Int)) s.data).extract 0 s.size = Array.map (fun b : UInt8 => Value.int IntKind.u8 (b.toNat : Int)) s.data := by
    have hs : s.size = (Array.map (fun b : UInt8 => Value.int IntKind.u8 (b.toNat : Int)) s.data).size := by rw [Array.size_map]; rfl
    rw [hs, Array.extract_size]
  simp [Builtin.firstCells]

/-- append(row, x), x whatever is read as the cells ys: the row that is owned behind it. -/
theorem run_append_gen (w : World) (t tx ty e : TypeId) (U : TypeDesc) (i : TypeInfo) (z : Value) (k bytes : Nat) (ht : P.underlying t = some (.slice e)) (hu : P.underlying tx = some U) (hU : (∃ e', U = .slice e') ∨ U = .string)
    (hi : P.info? e = some i) (hz : i.zero = some z) (hsize : i.size = k) (hby : i.bytes = bytes) (hzs : z.cells.size = k) (hk : 0 < k)
    (v : Value) (r : Option Nat) (n : Nat) (xs : List Value) (hrow : Row w e k v r n xs)
    (x : Value) (m : Nat) (ys : List Value) (hl : ys.length = m * k) (hlen : (Builtin.lenOf x).run P w = .ok m w) (hx : ∀ u : World, u.heap = w.heap → (Builtin.firstCells k m x).run P u = .ok ys.toArray u)
    (h1 : ∀ u ∈ ys, u.oneCell' = true) (h63 : n + m ≤ maxLen) (hbytes : (n + m) * bytes ≤ 140737488355328) :
    ∃ v' w' r', (Builtin.append_ #[t, tx] ty #[v, x]).run P w = .ok v' w' ∧ Row w' e k v' r' (n + m) (xs ++ ys) ∧ Chg r.toList w w' ∧ Fresh w r r' ∧ (v' = .slice none 0 0 ↔ v = .slice none 0 0 ∧ m = 0) := by
  subst hsize
  subst hby
  have hsmall : n + m ≤ 9223372036854775807 := by simp only [maxLen] at h63; omega
  have hlen' : (xs ++ ys).length = (n + m) * i.size := by rw [List.length_append, hrow.len, hl, Nat.add_mul]
  have grown : ∀ (old : Nat), Row (w.drew.alloc (.cells (xs.toArray ++ ys.toArray ++ Builtin.zeroCells z.cells (grownCap w (n + m) old e - (n + m))) e)) e i.size
        (.slice (some ⟨w.heap.size, 0, none⟩) (n + m) (grownCap w (n + m) old e)) (some w.heap.size) (n + m) (xs ++ ys) := by
    intro old
    have hge := grownCap_ge w (n + m) old e
    have hcm : grownCap w (n + m) old e ≤ maxLen := grownCap_le_maxLen w (n + m) old e h63
    refine ⟨⟨hlen', .inr ⟨w.heap.size, _, _, rfl, Nat.zero_le _, heap_alloc_new w.drew _, hge, hcm, ?_, ?_⟩⟩, rfl⟩
    · simp only [Array.size_append, List.size_toArray, size_zeroCells, hzs, hrow.len, hl, ← Nat.add_mul]
      congr 1
      omega
    · simp only [Array.toList_append, List.append_assoc]
      rw [← List.append_assoc, ← hlen']
      exact List.take_left
  have hgchg : ∀ o, Chg r.toList w (w.drew.alloc o) := fun o => ((Chg.refl _ _).drew).alloc o
  have hfr : Fresh w r (some w.heap.size) := fun g hg => by simp at hg; subst hg; exact .inr (Nat.le_refl _)
  rcases hrow.form with ⟨rfl, rfl, rfl, rfl⟩ | ⟨g, cap, cur, rfl, rfl, hnc, hcm, hg, hcs, htake⟩
  · by_cases hm : m = 0
    · subst hm
      have hn : ys = [] := List.eq_nil_of_length_eq_zero (by simpa using hl)
      subst hn
      refine ⟨.slice none 0 0, w, none, ?_, Row.nil w e i.size, Chg.refl _ _, Fresh.refl _ _, by simp⟩
      have hx0 := hx w rfl
      rcases hU with ⟨e', rfl⟩ | rfl <;> simp [Builtin.append_, run_underlying ht, run_underlying hu, sizeOf, typeInfo, hi, hlen, hx0]
    · have h63' : ¬ (9223372036854775807 < (m : Int)) := by omega
      have h48' : ¬ (281474976710656 < Builtin.nextslicecap m 0 * i.bytes) := by rw [nextslicecap_zero (by omega)]; simp only [Nat.zero_add] at hbytes; omega
      have hx0 := hx w.drew rfl
      have hgr := grown 0
      simp only [Nat.zero_add, List.nil_append] at hgr ⊢
      refine ⟨_, _, _, ?_, hgr, hgchg _, hfr, by simp [hm]⟩
      rcases hU with ⟨e', rfl⟩ | rfl <;> simp [Builtin.append_, run_underlying ht, run_underlying hu, sizeOf, typeInfo, zeroValue, hi, hz, hlen, hm, h63', h48', hx0, Question.forced, run_firstCells_none, newRow, grownCap]
  · by_cases hroom : n + m ≤ cap
    · have hfit : n * i.size + ys.length ≤ cur.size := by rw [hl, hcs, ← Nat.add_mul]; exact Nat.mul_le_mul_right _ hroom
      have hst := run_storeCells_at P g (n * i.size) e ys 0 cur w hg (by simpa using hfit) h1
      simp only [Nat.add_zero] at hst
      have hx0 := hx w rfl
      refine ⟨.slice (some ⟨g, 0, none⟩) (n + m) cap, w.setRow g (cur.toList.take (n * i.size) ++ ys ++ cur.toList.drop (n * i.size + ys.length)).toArray, some g, ?_, ⟨⟨hlen', .inr ⟨g, cap, _, rfl, Nat.zero_le _, setRow_heap w g cur _ e _ hg, hroom, hcm, ?_, ?_⟩⟩, rfl⟩, ?_, Fresh.refl _ _, by simp⟩
      · rcases hU with ⟨e', rfl⟩ | rfl <;> simp [Builtin.append_, run_underlying ht, run_underlying hu, sizeOf, typeInfo, hi, hlen, hx0, hroom, hst, Addr.add_lit]
      · simp only [List.size_toArray, List.length_append, List.length_take, List.length_drop, Array.length_toList]
        omega
      · rw [htake, ← hlen']
        exact List.take_left
      · exact ⟨rfl, rfl, rfl, by simp, fun k' _ hk' => setRow_other w g k' _ (fun e => hk' (by simp [e]))⟩
    · have h63' : ¬ (9223372036854775807 < ((n : Int) + (m : Int))) := by omega
      have h48' : ¬ (281474976710656 < Builtin.nextslicecap (n + m) cap * i.bytes) := by have := growslice_fits (need := n + m) (old := cap) (bytes := i.bytes) (by omega) hbytes; omega
      have hx0 := hx w.drew rfl
      have hfo : (Builtin.firstCells i.size n (.slice (some ⟨g, 0, none⟩) n cap)).run P w.drew = .ok xs.toArray w.drew := firstCells_view hrow.view w.drew rfl
      have hgr := grown cap
      refine ⟨_, _, _, ?_, hgr, hgchg _, hfr, by simp⟩
      rcases hU with ⟨e', rfl⟩ | rfl <;> simp [Builtin.append_, run_underlying ht, run_underlying hu, sizeOf, typeInfo, zeroValue, hi, hz, hlen, hroom, h63', h48', hx0, hfo, Question.forced, newRow, grownCap] <;> (congr 2; apply Array.ext'; simp)

/-- The facts on a slice type and its elements' type, out of the program's tables. -/
structure ElemOk (P : Program) (t e k bytes : Nat) : Prop where
  und : P.underlying t = some (.slice e)
  info : ∃ i z, P.info? e = some i ∧ i.zero = some z ∧ i.size = k ∧ i.bytes = bytes ∧ z.cells.size = k
  pos : 0 < k

theorem ElemOk.of {t e k bytes : Nat} {z : Value} (h1 : P.underlying t = some (.slice e)) (h2 : (P.info? e).map (fun i => (i.zero, i.size, i.bytes)) = some (some z, k, bytes)) (h3 : z.cells.size = k) (h4 : 0 < k) : ElemOk P t e k bytes := by
  obtain ⟨i, hi, hz, hs, hb⟩ := info_parts h2
  exact ⟨h1, ⟨i, z, hi, hz, hs, hb, h3⟩, h4⟩

theorem wpList_app {w : World} {ops : Array Oper} {rest : List Oper} {o : Oper} {a : Act} {Q : Exit → Act → World → Prop} (hgd : o.guard = none) (s x : Operand) (t : TypeId)
    (ho : o.op = .call { callee := .builtin .append, args := #[s, x], argTypes := #[t, t] }) {e k bytes : Nat} (E : ElemOk P t e k bytes)
    {v : Value} {r : Option Nat} {n : Nat} {xs : List Value} (hs : a.eval s = v) (hrow : Row w e k v r n xs)
    {y : Value} {m : Nat} {ys : List Value} (hx : a.eval x = y) (hy : View w k y m ys) (h1 : ∀ u ∈ ys, u.oneCell' = true) (h63 : n + m ≤ maxLen) (hbytes : (n + m) * bytes ≤ 140737488355328)
    (h : ∀ ao' cap' r' w', Row w' e k (.slice ao' (n + m) cap') r' (n + m) (xs ++ ys) → Chg r.toList w w' → Fresh w r r' → (Value.slice ao' (n + m) cap' = .slice none 0 0 ↔ v = .slice none 0 0 ∧ m = 0) → wpList P ops Q rest (a.put o.dst (.slice ao' (n + m) cap')) w') : wpList P ops Q (o :: rest) a w := by
  obtain ⟨i, z, hi, hz, hs', hb, hzs⟩ := E.info
  have hlen : (Builtin.lenOf y).run P w = .ok m w := by obtain ⟨_, _, ao, cap, rfl, _⟩ := hy; rfl
  obtain ⟨v', w', r', hr, h2, h3, h4, h5⟩ := run_append_gen (P := P) w t t o.type e _ i z k bytes E.und E.und (.inl ⟨_, rfl⟩) hi hz hs' hb hzs E.pos v r n xs hrow y m ys hy.1 hlen (firstCells_view hy) h1 h63 hbytes
  refine wpList_plain hgd fun _ hK => ?_
  unfold Oper.wp execOp
  simp only [ho, resolve, invoke, builtin, Sem.run_bind, Sem.run_pure, Result.andThen_ok, List.map_toArray, List.map_cons, List.map_nil, hs, hx, hr]
  obtain ⟨ao', cap', rfl⟩ := h2.shape
  exact hK _ _ (h ao' cap' r' w' h2 h3 h4 h5)

theorem wpList_app_string {w : World} {ops : Array Oper} {rest : List Oper} {o : Oper} {a : Act} {Q : Exit → Act → World → Prop} (hgd : o.guard = none) (s x : Operand) (t tx : TypeId)
    (ho : o.op = .call { callee := .builtin .append, args := #[s, x], argTypes := #[t, tx] }) {e bytes : Nat} (E : ElemOk P t e 1 bytes) (hstr : P.underlying tx = some .string)
    {v : Value} {r : Option Nat} {n : Nat} {xs : List Value} (hs : a.eval s = v) (hrow : Row w e 1 v r n xs)
    {y : ByteArray} (hx : a.eval x = .string y) (h63 : n + y.size ≤ maxLen) (hbytes : (n + y.size) * bytes ≤ 140737488355328)
    (h : ∀ ao' cap' r' w', Row w' e 1 (.slice ao' (n + y.size) cap') r' (n + y.size) (xs ++ y.data.toList.map fun b => Value.int .u8 b.toNat) → Chg r.toList w w' → Fresh w r r' → (Value.slice ao' (n + y.size) cap' = .slice none 0 0 ↔ v = .slice none 0 0 ∧ y.size = 0) → wpList P ops Q rest (a.put o.dst (.slice ao' (n + y.size) cap')) w') : wpList P ops Q (o :: rest) a w := by
  obtain ⟨i, z, hi, hz, hs', hb, hzs⟩ := E.info
  have hyl : (y.data.toList.map fun b => Value.int .u8 (b.toNat : Int)).length = y.size * 1 := by simp
  have hfc : ∀ u : World, u.heap = w.heap → (Builtin.firstCells 1 y.size (.string y)).run P u = .ok (y.data.toList.map fun b => Value.int .u8 (b.toNat : Int)).toArray u := fun u _ => by
    rw [firstCells_string]
    congr 1
    apply Array.ext'
    simp
  obtain ⟨v', w', r', hr, h2, h3, h4, h5⟩ := run_append_gen (P := P) w t tx o.type e _ i z 1 bytes E.und hstr (.inr rfl) hi hz hs' hb hzs E.pos v r n xs hrow (.string y) y.size _ hyl rfl hfc (by intro u hu; obtain ⟨_, _, rfl⟩ := List.mem_map.1 hu; rfl) h63 hbytes
  refine wpList_plain hgd fun _ hK => ?_
  unfold Oper.wp execOp
  simp only [ho, resolve, invoke, builtin, Sem.run_bind, Sem.run_pure, Result.andThen_ok, List.map_toArray, List.map_cons, List.map_nil, hs, hx, hr]
  obtain ⟨ao', cap', rfl⟩ := h2.shape
  exact hK _ _ (h ao' cap' r' w' h2 h3 h4 h5)
end append

end Go.AB

/- Blocks of cells, bytes, a writer. -/
namespace Go.AB
open Go.RowKit

/-! blocks of cells -/
theorem blk_lt {w : World} {b : Nat} {o : Obj} (h : w.heap[b]? = some o) : b < w.heap.size := (Array.getElem?_eq_some_iff.1 h).1
theorem blk_cell {w : World} {b : Nat} {cs : Array Value} {t : TypeId} {fr : Nat × Nat} (h : w.heap[b]? = some (.cells cs t fr)) (i : Nat) : w.cell? ⟨b, i, none⟩ = cs[i]? := by
  simp [World.cell?, h]
theorem blk_free {w : World} {b : Nat} {cs : Array Value} {t : TypeId} (h : w.heap[b]? = some (.cells cs t (0, 0))) (i : Nat) : w.frozen? ⟨b, i, none⟩ = false := by
  simp [World.frozen?, h]
theorem blk_set {w : World} {b : Nat} {cs : Array Value} {t : TypeId} {fr : Nat × Nat} (h : w.heap[b]? = some (.cells cs t fr)) (i : Nat) (u : Value) :
    (w.setCell ⟨b, i, none⟩ u).heap[b]? = some (.cells (cs.setIfInBounds i u) t fr) := by
  simp [World.setCell, Array.getElem?_modify, h]
theorem blk_set_other {w : World} {b c : Nat} (h : c ≠ b) (i : Nat) (u : Value) : (w.setCell ⟨b, i, none⟩ u).heap[c]? = w.heap[c]? := Below.heap_setCell _ _ _ _ h
theorem blk_alloc_new (w : World) (o : Obj) : (w.alloc o).heap[w.heap.size]? = some o := heap_alloc_new w o
theorem blk_alloc_old {w : World} {b : Nat} {o' : Obj} (h : w.heap[b]? = some o') (o : Obj) : (w.alloc o).heap[b]? = some o' := (Below.heap_alloc _ _ _ (blk_lt h)).trans h

/-- A byte's cell. -/
def B (x : UInt8) : Value := .int .u8 (x.toNat : Int)
theorem B_one (l : List UInt8) : ∀ u ∈ l.map B, u.oneCell' = true := by
  intro u hu; obtain ⟨_, _, rfl⟩ := List.mem_map.1 hu; rfl
theorem B_ofNat (n : Nat) : Value.int .u8 ((n : Int) % 256) = B (UInt8.ofNat n) := by
  unfold B; congr 1

/-- A slice of bytes that is read. -/
def Bytes (w : World) (v : Value) (l : List UInt8) : Prop := View w 1 v l.length (l.map B)
theorem Bytes.keep {w w' : World} {v : Value} {l : List UInt8} {S : List Nat} (h : Bytes w v l) (hc : Chg S w w') (hS : ∀ g, v.ownBlock = some g → g ∉ S) : Bytes w' v l := View.keep h hc hS
/-- What a walk asks of it: the value written out, each cell. -/
theorem Bytes.out {w : World} {v : Value} {l : List UInt8} (h : Bytes w v l) : ∃ ao cap, v = .slice ao l.length cap ∧ l.length ≤ cap ∧ cap ≤ maxLen ∧ (ao = none → l.length = 0 ∧ cap = 0) ∧
    (0 < l.length → ∃ b off, ao = some ⟨b, off, none⟩ ∧ ∀ j (hj : j < l.length), w.cell? ⟨b, off + j, none⟩ = some (.int .u8 (l[j].toNat : Int))) := by
  obtain ⟨_, _, ao, cap, hv, h1, h2, h3, h4⟩ := h
  refine ⟨ao, cap, hv, h1, h2, h3, fun h0 => ?_⟩
  obtain ⟨b, off, hb, hc⟩ := h4 (by omega)
  refine ⟨b, off, hb, fun j hj => ?_⟩
  rw [hc j (by omega)]
  simp [List.getD, hj, B]

/-- A struct of one field that is a slice of bytes of its own (a Writer): block b, the row r, the bytes l. T: the struct's type, U: the byte's. -/
structure Wr (T U : Nat) (w : World) (b : Nat) (r : Option Nat) (l : List UInt8) (ao : Option Addr) (cap : Nat) : Prop where
  blk : w.heap[b]? = some (.cells #[.slice ao l.length cap] T (0, 0))
  row : Row w U 1 (.slice ao l.length cap) r l.length (l.map B)
  ne : r ≠ some b
theorem Wr.keep {T U : Nat} {w w' : World} {b : Nat} {r : Option Nat} {l : List UInt8} {ao : Option Addr} {cap : Nat} {S : List Nat} (h : Wr T U w b r l ao cap) (hc : Chg S w w') (hb : b ∉ S) (hr : ∀ g, r = some g → g ∉ S) : Wr T U w' b r l ao cap :=
  ⟨hc.heap h.blk hb, h.row.keep hc hr, h.ne⟩
theorem Wr.cell {T U : Nat} {w : World} {b : Nat} {r : Option Nat} {l : List UInt8} {ao : Option Addr} {cap : Nat} (h : Wr T U w b r l ao cap) : w.cell? ⟨b, 0, none⟩ = some (.slice ao l.length cap) := by rw [blk_cell h.blk]; rfl
theorem Wr.free {T U : Nat} {w : World} {b : Nat} {r : Option Nat} {l : List UInt8} {ao : Option Addr} {cap : Nat} (h : Wr T U w b r l ao cap) : w.frozen? ⟨b, 0, none⟩ = false := blk_free h.blk 0
/-- Behind an append and the store of what it gave. -/
theorem Wr.put {T U : Nat} {w w1 w2 : World} {b : Nat} {r r' : Option Nat} {l l' : List UInt8} {ao ao' : Option Addr} {cap cap' : Nat} {n' : Nat} (h : Wr T U w b r l ao cap) (h1 : Chg [] w w1) (hrow : Row w2 U 1 (.slice ao' n' cap') r' n' (l'.map B)) (hc : Chg r.toList w1 w2) (hf : Fresh w1 r r') :
    Wr T U (w2.setCell ⟨b, 0, none⟩ (.slice ao' n' cap')) b r' l' ao' cap' ∧ Chg (b :: r.toList) w (w2.setCell ⟨b, 0, none⟩ (.slice ao' n' cap')) ∧ Fresh w r r' := by
  have hbr : b ∉ r.toList := fun hm => h.ne (by simpa using hm)
  have hb2 : w2.heap[b]? = some (.cells #[.slice ao l.length cap] T (0, 0)) := hc.heap (h1.heap h.blk (by simp)) hbr
  have hne : r' ≠ some b := fun e => by
    rcases hf b e with h3 | h3
    · exact h.ne h3
    · have := blk_lt h.blk; have := h1.size; omega
  obtain rfl : n' = l'.length := by have := hrow.len; simp at this; omega
  refine ⟨⟨by rw [blk_set hb2]; rfl, hrow.keep (S := [b]) ((Chg.refl _ _).setCell (p := ⟨b, 0, none⟩) (.inl (by simp)) _) (fun g hg hm => hne (by simp at hm; rw [hg, hm])), hne⟩, ?_, hf.mono h1.size⟩
  exact ((h1.nil.trans hc (fun x hx => .inl (List.mem_cons_of_mem _ hx))).setCell (p := ⟨b, 0, none⟩) (.inl (by simp)) _)
theorem Wr.put_cell {T U : Nat} {w w1 w2 : World} {b : Nat} {r : Option Nat} {l : List UInt8} {ao : Option Addr} {cap : Nat} (h : Wr T U w b r l ao cap) (h1 : Chg [] w w1) (hc : Chg r.toList w1 w2) :
    w2.cell? ⟨b, 0, none⟩ = some (.slice ao l.length cap) ∧ w2.frozen? ⟨b, 0, none⟩ = false := by
  have hbr : b ∉ r.toList := fun hm => h.ne (by simpa using hm)
  have hb2 : w2.heap[b]? = some (.cells #[.slice ao l.length cap] T (0, 0)) := hc.heap (h1.heap h.blk (by simp)) hbr
  exact ⟨by rw [blk_cell hb2]; rfl, blk_free hb2 0⟩

/-- A call's own accumulator goes on: what was there when the call began is as it was. -/
theorem own_step {a w w1 w2 : World} {r : Option Nat} (h : Chg [] a w) (hf : Fresh a none r) (h1 : Chg [] w w1) (k : Chg r.toList w1 w2) : Chg [] a w2 :=
  (h.trans' h1).trans k (fun x hx => .inr ((hf x (by simpa using hx)).resolve_left (by simp)))
theorem fresh_step {a w w1 : World} {r r' : Option Nat} (h : Chg [] a w) (hf : Fresh a none r) (h1 : Chg [] w w1) (k : Fresh w1 r r') : Fresh a none r' :=
  hf.trans (Nat.le_trans h.size h1.size) k

/-- A slice of bytes in new memory. -/
def NewB (U : Nat) (w : World) (l : List UInt8) (e : Ending) (w' : World) : Prop :=
  ∃ l' ao cap r, e = .returned (.slice ao l'.length cap) ∧ Row w' U 1 (.slice ao l'.length cap) r l'.length (l'.map B) ∧ Fresh w none r ∧ Chg [] w w' ∧ Hid (l' = l)
theorem NewB.mk' {U : Nat} {w w' : World} {l : List UInt8} {ao : Option Addr} {n cap : Nat} {r : Option Nat} {xs : List Value} (hr : Row w' U 1 (.slice ao n cap) r n xs) (hx : xs = l.map B) (hf : Fresh w none r) (hc : Chg [] w w') : NewB U w l (.returned (.slice ao n cap)) w' := by
  subst hx
  obtain rfl : n = l.length := by have := hr.len; simp at this; omega
  exact ⟨l, ao, cap, r, rfl, hr, hf, hc, rfl⟩

/-- A reader: block b holds a slice of the bytes l, the place, the fault's place and number. -/
structure Rd (T : Nat) (w : World) (b : Nat) (l : List UInt8) (ao : Option Addr) (cap pos wh bad : Nat) : Prop where
  blk : w.heap[b]? = some (.cells #[.slice ao l.length cap, .int .i64 pos, .int .i64 wh, .int .i64 bad] T (0, 0))
  view : View w 1 (.slice ao l.length cap) l.length (l.map B)
  ne : ∀ g, (Value.slice ao l.length cap).ownBlock = some g → g ≠ b
  ok : pos ≤ l.length
theorem Rd.keep {T : Nat} {w w' : World} {b : Nat} {l : List UInt8} {ao : Option Addr} {cap pos wh bad : Nat} {S : List Nat} (h : Rd T w b l ao cap pos wh bad) (hc : Chg S w w') (hb : b ∉ S) (hv : ∀ g, (Value.slice ao l.length cap).ownBlock = some g → g ∉ S) : Rd T w' b l ao cap pos wh bad :=
  ⟨hc.heap h.blk hb, h.view.keep hc hv, h.ne, h.ok⟩
theorem Rd.c0 {T : Nat} {w : World} {b : Nat} {l : List UInt8} {ao : Option Addr} {cap pos wh bad : Nat} (h : Rd T w b l ao cap pos wh bad) : w.cell? ⟨b, 0, none⟩ = some (.slice ao l.length cap) := by rw [blk_cell h.blk]; rfl
theorem Rd.c1 {T : Nat} {w : World} {b : Nat} {l : List UInt8} {ao : Option Addr} {cap pos wh bad : Nat} (h : Rd T w b l ao cap pos wh bad) : w.cell? ⟨b, 1, none⟩ = some (.int .i64 pos) := by rw [blk_cell h.blk]; rfl
theorem Rd.c2 {T : Nat} {w : World} {b : Nat} {l : List UInt8} {ao : Option Addr} {cap pos wh bad : Nat} (h : Rd T w b l ao cap pos wh bad) : w.cell? ⟨b, 2, none⟩ = some (.int .i64 wh) := by rw [blk_cell h.blk]; rfl
theorem Rd.c3 {T : Nat} {w : World} {b : Nat} {l : List UInt8} {ao : Option Addr} {cap pos wh bad : Nat} (h : Rd T w b l ao cap pos wh bad) : w.cell? ⟨b, 3, none⟩ = some (.int .i64 bad) := by rw [blk_cell h.blk]; rfl
theorem Rd.fr {T : Nat} {w : World} {b : Nat} {l : List UInt8} {ao : Option Addr} {cap pos wh bad : Nat} (h : Rd T w b l ao cap pos wh bad) (i : Nat) : w.frozen? ⟨b, i, none⟩ = false := blk_free h.blk i
theorem Rd.set1 {T : Nat} {w : World} {b : Nat} {l : List UInt8} {ao : Option Addr} {cap pos wh bad : Nat} (h : Rd T w b l ao cap pos wh bad) (p : Nat) (hp : p ≤ l.length) : Rd T (w.setCell ⟨b, 1, none⟩ (.int .i64 p)) b l ao cap p wh bad ∧ Chg [b] w (w.setCell ⟨b, 1, none⟩ (.int .i64 p)) := by
  have hc : Chg [b] w (w.setCell ⟨b, 1, none⟩ (.int .i64 p)) := (Chg.refl [b] w).setCell (p := ⟨b, 1, none⟩) (.inl (by simp)) _
  exact ⟨⟨by rw [blk_set h.blk]; rfl, h.view.keep hc (fun g hg => by simpa using h.ne g hg), h.ne, hp⟩, hc⟩
theorem Rd.set23 {T : Nat} {w : World} {b : Nat} {l : List UInt8} {ao : Option Addr} {cap pos wh bad : Nat} (h : Rd T w b l ao cap pos wh bad) (e : Nat) : Rd T ((w.setCell ⟨b, 2, none⟩ (.int .i64 pos)).setCell ⟨b, 3, none⟩ (.int .i64 e)) b l ao cap pos pos e ∧ Chg [b] w ((w.setCell ⟨b, 2, none⟩ (.int .i64 pos)).setCell ⟨b, 3, none⟩ (.int .i64 e)) := by
  have hc : Chg [b] w ((w.setCell ⟨b, 2, none⟩ (.int .i64 pos)).setCell ⟨b, 3, none⟩ (.int .i64 e)) := ((Chg.refl [b] w).setCell (p := ⟨b, 2, none⟩) (.inl (by simp)) _).setCell (p := ⟨b, 3, none⟩) (.inl (by simp)) _
  exact ⟨⟨by rw [blk_set (blk_set h.blk _ _)]; rfl, h.view.keep hc (fun g hg => by simpa using h.ne g hg), h.ne, h.ok⟩, hc⟩

/-- Nothing but draws. -/
def Drew (w w' : World) : Prop := ∃ n, w' = w.drewN n
theorem Drew.refl {w : World} {n : Nat} : Drew w (w.drewN n) := ⟨n, rfl⟩
theorem Drew.refl0 {w : World} : Drew w w := ⟨0, rfl⟩
theorem Drew.refl1 {w : World} : Drew w w.drew := ⟨1, rfl⟩
theorem Drew.trans {a b c : World} (h : Drew a b) (k : Drew b c) : Drew a c := by
  obtain ⟨n, rfl⟩ := h
  obtain ⟨m, rfl⟩ := k
  exact ⟨n + m, by simp [World.drewN, Nat.add_assoc]⟩
theorem Drew.chg {w w' : World} {S : List Nat} (h : Drew w w') : Chg S w w' := by obtain ⟨n, rfl⟩ := h; exact Chg.of_drewN _ _ _

/-- string(b), b a slice of bytes that is read. -/
theorem run_conv_view {P : Program} {src dst e : TypeId} (hs : P.underlying src = some (.slice e)) (he : P.underlying e = some (.int .u8)) (hd : P.underlying dst = some .string)
    {w : World} {v : Value} {n : Nat} {l : List UInt8} (h : View w 1 v n (l.map B)) (u : World) (hu : u.heap = w.heap) : (convert src dst v).run P u = .ok (.string ⟨l.toArray⟩) u := by
  obtain ⟨hl, _, ao, cap, rfl, _, _, _, hc⟩ := h
  have hn : l.length = n := by simpa using hl
  cases ao with
  | none =>
    rcases Nat.eq_zero_or_pos n with h0 | h0
    · have : l = [] := List.eq_nil_of_length_eq_zero (by omega)
      subst this
      rw [run_convert_bytes_string u src dst e none n cap hs he hd]
      simp only [Conv.bytesToString]
      rfl
    · obtain ⟨b, off, hb, _⟩ := hc (by omega)
      cases hb
  | some a =>
    have hload : (loadCells a n).run P u = .ok ((l.map fun x => (x.toNat : Int)).map (Value.int .u8)).toArray u := by
      have hf := firstCells_view (P := P) (w := w) (k := 1) (m := n) (v := .slice (some a) n cap) (ys := l.map B) ⟨hl, by assumption, some a, cap, rfl, by assumption, by assumption, by assumption, hc⟩ u hu
      simp only [Builtin.firstCells, Nat.mul_one] at hf
      rw [hf, List.map_map]
      rfl
    rw [run_convert_bytes_string u src dst e (some a) n cap hs he hd, run_bytesToString u a n cap _ hload, foldl_push_bytes]
    congr 2
    rw [List.map_map]
    have : (l.map ((fun n : Int => UInt8.ofNat n.toNat) ∘ fun x : UInt8 => (x.toNat : Int))) = l := by
      conv => rhs; rw [← List.map_id l]
      apply List.map_congr_left
      intro x _
      simp
    rw [this]
    show ByteArray.mk (#[] ++ l.toArray) = _
    simp

theorem run_conv_empty {P : Program} {src dst e : TypeId} (hs : P.underlying src = some (.slice e)) (he : P.underlying e = some (.int .u8)) (hd : P.underlying dst = some .string)
    (ad : Option Addr) (c : Nat) (u : World) : (convert src dst (.slice ad 0 c)).run P u = .ok (.string ⟨([] : List UInt8).toArray⟩) u := by
  cases ad with
  | none =>
    rw [run_convert_bytes_string u src dst e none 0 c hs he hd]
    simp only [Conv.bytesToString]
    rfl
  | some a => rw [run_convert_bytes_string u src dst e (some a) 0 c hs he hd, run_bytesToString u a 0 c [] rfl]; rfl
/-- A part of a slice of bytes that is read. -/
theorem View.part {w : World} {l : List UInt8} {bb off cap p v : Nat} (h : (l.map B).length = l.length * 1 ∧ l.length ≤ maxLen ∧ ∀ j, j < l.length * 1 → w.cell? ⟨bb, off + j, none⟩ = some ((l.map B).getD j undef)) (hp : p + v ≤ l.length) (hc : l.length ≤ cap) (hm : cap ≤ maxLen) :
    View w 1 (.slice (some ⟨bb, off + p, none⟩) v (cap - p)) v (((l.drop p).take v).map B) := by
  refine ⟨by simp; omega, by omega, _, _, rfl, by omega, by omega, (fun h => by cases h), fun _ => ⟨_, _, rfl, fun j hj => ?_⟩⟩
  rw [Nat.add_assoc, h.2.2 (p + j) (by omega)]
  have h1 : j < v := by omega
  have h2 : p + j < l.length := by omega
  simp [List.getD, h1, List.getElem?_drop]

theorem Rd.same {T : Nat} {w w' : World} {b : Nat} {l : List UInt8} {ao : Option Addr} {cap pos wh bad : Nat} (h : Rd T w b l ao cap pos wh bad) (hh : w'.heap = w.heap) : Rd T w' b l ao cap pos wh bad := by
  refine ⟨by rw [hh]; exact h.blk, ?_, h.ne, h.ok⟩
  obtain ⟨h1, h2, ao', cap', h3, h4, h5, h6, h7⟩ := h.view
  refine ⟨h1, h2, ao', cap', h3, h4, h5, h6, fun h0 => ?_⟩
  obtain ⟨bb, off, h8, h9⟩ := h7 h0
  exact ⟨bb, off, h8, fun j hj => by rw [show w'.cell? ⟨bb, off + j, none⟩ = w.cell? ⟨bb, off + j, none⟩ from by simp only [World.cell?, hh]]; exact h9 j hj⟩
theorem Chg.same {S : List Nat} {a w w' : World} (h : Chg S a w) (hh : w'.heap = w.heap) (h1 : w'.os = w.os) (h2 : w'.tape = w.tape) (h3 : w'.output = w.output) : Chg S a w' :=
  ⟨h1.trans h.os, h2.trans h.tape, h3.trans h.output, by rw [hh]; exact h.size, fun k hk hs => by rw [hh]; exact h.block k hk hs⟩

/-- What an argument's slice reads stays read while only new blocks are written. -/
theorem View.below {w w' : World} {k : Nat} {v : Value} {n : Nat} {xs : List Value} (h : View w k v n xs) (hb : Below w.heap.size w w') : View w' k v n xs := by
  obtain ⟨h1, h2, ao, cap, hv, h3, h4, h5, h6⟩ := h
  refine ⟨h1, h2, ao, cap, hv, h3, h4, h5, fun hn => ?_⟩
  obtain ⟨b, off, hb', hcell⟩ := h6 hn
  exact ⟨b, off, hb', fun j hj => (hb.cell (World.block_lt_of_cell? w _ (hcell j hj))).trans (hcell j hj)⟩

end Go.AB

/- Plain definitions for the wire layer: numbers and texts as bytes, the CRC. No program in sight. -/
namespace Go.AB
open Go.RowKit

def crcBit (c : Nat) : Nat := if c % 2 = 1 then (c / 2) ^^^ 3988292384 else c / 2
def crcBits : Nat → Nat → Nat
  | 0, c => c
  | k + 1, c => crcBit (crcBits k c)
def crcByte (c : Nat) (x : UInt8) : Nat := crcBits 8 (c ^^^ x.toNat)
def crcSum (c : Nat) (l : List UInt8) : Nat := l.foldl crcByte c

theorem crcBit_lt {c : Nat} (h : c < 4294967296) : crcBit c < 4294967296 := by
  unfold crcBit
  split
  · exact Nat.xor_lt_two_pow (n := 32) (by omega) (by omega)
  · omega
theorem crcBits_lt (k : Nat) {c : Nat} (h : c < 4294967296) : crcBits k c < 4294967296 := by
  induction k with
  | zero => exact h
  | succ k ih => exact crcBit_lt ih
theorem crcByte_lt {c : Nat} (h : c < 4294967296) (x : UInt8) : crcByte c x < 4294967296 :=
  crcBits_lt 8 (Nat.xor_lt_two_pow (n := 32) h (by have := x.toNat_lt; omega))
theorem crcSum_lt (l : List UInt8) : ∀ {c : Nat}, c < 4294967296 → crcSum c l < 4294967296 := by
  induction l with
  | nil => exact fun h => h
  | cons x l ih => exact fun h => ih (crcByte_lt h x)
theorem crcSum_snoc (c : Nat) (l : List UInt8) (x : UInt8) : crcSum c (l ++ [x]) = crcByte (crcSum c l) x := by simp [crcSum]
theorem crcSum_append (c : Nat) (l m : List UInt8) : crcSum c (l ++ m) = crcSum (crcSum c l) m := by simp [crcSum]

theorem take_snoc {α : Type} (l : List α) (k : Nat) (h : k < l.length) : l.take (k + 1) = l.take k ++ [l[k]] := by
  rw [List.take_succ_eq_append_getElem h]

/-- One bit's step, as the program's 32 bits do it. -/
theorem crcBit_u32 (c : Nat) (h : c < 4294967296) :
    bits .xor .u32 ((c : Int) / 2) (bits .and .u32 3988292384 (-(bits .and .u32 (c : Int) 1) % 4294967296)) = (crcBit c : Int) := by
  have e1 : bits .and .u32 (c : Int) 1 = ((c % 2 : Nat) : Int) := by
    rw [show (1 : Int) = ((1 : Nat) : Int) from rfl, u32_and_nat c 1 h (by omega), Nat.and_one_is_mod]
  rw [e1]
  unfold crcBit
  rcases Nat.mod_two_eq_zero_or_one c with h0 | h0
  · rw [h0, if_neg (by omega)]
    have : bits .and .u32 3988292384 (-((0 : Nat) : Int) % 4294967296) = ((0 : Nat) : Int) := by decide
    rw [this, show (c : Int) / 2 = ((c / 2 : Nat) : Int) from by omega, u32_xor_nat _ _ (by omega) (by omega), Nat.xor_zero]
  · rw [h0, if_pos rfl]
    have : bits .and .u32 3988292384 (-((1 : Nat) : Int) % 4294967296) = ((3988292384 : Nat) : Int) := by decide
    rw [this, show (c : Int) / 2 = ((c / 2 : Nat) : Int) from by omega, u32_xor_nat _ _ (by omega) (by omega)]
theorem crcXor_u32 (c : Nat) (h : c < 4294967296) (x : UInt8) : bits .xor .u32 (c : Int) ((x.toNat : Int) % 4294967296) = ((c ^^^ x.toNat : Nat) : Int) := by
  have := x.toNat_lt
  rw [show ((x.toNat : Int) % 4294967296) = ((x.toNat : Nat) : Int) from by omega, u32_xor_nat _ _ h (by omega)]
theorem xor_lt32 (c : Nat) (h : c < 4294967296) (x : UInt8) : c ^^^ x.toNat < 4294967296 := Nat.xor_lt_two_pow (n := 32) h (by have := x.toNat_lt; omega)

/-- A number's lowest n bytes, the lowest first. -/
def fixedB : Nat → Nat → List UInt8
  | 0, _ => []
  | n + 1, v => UInt8.ofNat v :: fixedB n (v / 256)
theorem fixedB_length (n v : Nat) : (fixedB n v).length = n := by
  induction n generalizing v with
  | zero => rfl
  | succ n ih => simp [fixedB, ih]

/-- How many bytes a width has. -/
def sizeOfW : Nat → Nat
  | 0 => 1 | 1 => 2 | 2 => 4 | 3 => 8 | 4 => 1 | 5 => 2 | 6 => 4 | 7 => 8 | _ => 0
theorem fixedB_congr (n : Nat) : ∀ a b, a % 256 ^ n = b % 256 ^ n → fixedB n a = fixedB n b := by
  induction n with
  | zero => intros; rfl
  | succ n ih =>
    intro a b h
    have h1 : a % 256 = b % 256 := by
      have := congrArg (· % 256) h
      simp only [Nat.pow_succ] at this
      rwa [Nat.mod_mul_left_mod, Nat.mod_mul_left_mod] at this
    have h2 : (a / 256) % 256 ^ n = (b / 256) % 256 ^ n := by
      have := congrArg (· / 256) h
      simp only [Nat.pow_succ', Nat.mod_mul_right_div_self] at this
      exact this
    simp only [fixedB]
    rw [ih _ _ h2]
    congr 1
    apply UInt8.toNat_inj.1
    simpa using h1
/-- How many bytes a number of a width has; 0: there is no such width. -/
def sizeI (k : Int) : Nat := if 0 ≤ k ∧ k < 8 then sizeOfW k.toNat else 0
/-- A short number's bytes. -/
def shortB (v : Nat) : List UInt8 := if h : v < 128 then [UInt8.ofNat v] else UInt8.ofNat (128 + v % 128) :: shortB (v / 128)
termination_by v
decreasing_by omega
theorem shortB_lt {v : Nat} (h : v < 128) : shortB v = [UInt8.ofNat v] := by unfold shortB; rw [dif_pos h]
theorem shortB_ge {v : Nat} (h : 128 ≤ v) : shortB v = UInt8.ofNat (128 + v % 128) :: shortB (v / 128) := by
  conv => lhs; unfold shortB
  rw [dif_neg (by omega)]
theorem shortB_len (f : Nat) : ∀ v, v < 128 ^ (f + 1) → (shortB v).length ≤ f + 1 := by
  induction f with
  | zero => intro v h; rw [shortB_lt (by omega)]; simp
  | succ f ih =>
    intro v h
    by_cases hv : v < 128
    · rw [shortB_lt hv]; simp
    · rw [shortB_ge (by omega), List.length_cons]
      have := ih (v / 128) (by rw [Nat.pow_succ] at h; exact Nat.div_lt_of_lt_mul (by omega))
      omega
theorem shortB_len10 {v : Nat} (h : v < 18446744073709551616) : (shortB v).length ≤ 10 :=
  shortB_len 9 v (Nat.lt_of_lt_of_le h (by decide))
theorem flat_fixed_len {α : Type} (n : Nat) (xs : List α) (f : α → List UInt8) (h : ∀ x, (f x).length = n) : (xs.flatMap f).length = xs.length * n := by
  induction xs with
  | nil => simp
  | cons x xs ih => rw [List.flatMap_cons, List.length_append, h, ih, List.length_cons, Nat.succ_mul]; omega
theorem flat_len_le {α : Type} (n : Nat) (xs : List α) (f : α → List UInt8) (h : ∀ x ∈ xs, (f x).length ≤ n) : (xs.flatMap f).length ≤ xs.length * n := by
  induction xs with
  | nil => simp
  | cons x xs ih =>
    have h1 := h x (by simp)
    have h2 := ih fun y hy => h y (by simp [hy])
    rw [List.flatMap_cons, List.length_append, List.length_cons, Nat.succ_mul]; omega
/-- A number with a sign, of 64 bits (behind a name). -/
def I64 (x : Int) : Prop := -9223372036854775808 ≤ x ∧ x ≤ 9223372036854775807
/-- A short signed number as a short one. -/
def zig (x : Int) : Nat := if x < 0 then (-2 * x - 1).toNat else (2 * x).toNat
theorem zig_U64 {x : Int} (h : I64 x) : U64 (zig x) := by unfold I64 at h; unfold U64 zig; split <;> omega
theorem xor_ones (n a : Nat) (h : a < 2 ^ n) : a ^^^ (2 ^ n - 1) = 2 ^ n - (a + 1) := by
  apply Nat.eq_of_testBit_eq
  intro i
  rw [Nat.testBit_xor, Nat.testBit_two_pow_sub_one, Nat.testBit_two_pow_sub_succ h]
  by_cases hi : i < n
  · simp [hi]
  · have : a.testBit i = false := Nat.testBit_lt_two_pow (Nat.lt_of_lt_of_le h (Nat.pow_le_pow_right (by decide) (by omega)))
    simp [hi, this]
theorem zig_u64 {x : Int} (h : I64 x) : bits .xor .u64 (IntKind.u64.wrap (IntKind.u64.wrap x * 2)) (IntKind.u64.wrap (x / 9223372036854775808)) = (zig x : Int) := by
  unfold I64 at h
  simp only [IntKind.wrap_u64]
  unfold zig
  split
  · rename_i h0
    have e1 : x % 18446744073709551616 * 2 % 18446744073709551616 = (((2 * x + 18446744073709551616).toNat : Nat) : Int) := by omega
    have e2 : x / 9223372036854775808 % 18446744073709551616 = ((2 ^ 64 - 1 : Nat) : Int) := by omega
    rw [e1, e2, u64_xor_nat _ _ (by omega) (by omega), xor_ones 64 _ (by omega)]
    omega
  · rename_i h0
    have e1 : x % 18446744073709551616 * 2 % 18446744073709551616 = (((2 * x).toNat : Nat) : Int) := by omega
    have e2 : x / 9223372036854775808 % 18446744073709551616 = ((0 : Nat) : Int) := by omega
    rw [e1, e2, u64_xor_nat _ _ (by omega) (by omega), Nat.xor_zero]
theorem wrap_u64_div {u : Nat} (h : U64 u) (k : Nat) : IntKind.u64.wrap ((u : Int) / (k : Int)) = ((u / k : Nat) : Int) := by
  have h2 := h.div k
  unfold U64 at h2
  rw [IntKind.wrap_u64, ← Int.natCast_ediv]
  generalize u / k = q at *
  omega
theorem turned_neg {x : Int} (h : I64 x) (h0 : x < 0) : IntKind.u64.wrap (IntKind.u64.wrap (2 * IntKind.u64.wrap (wrap64 (-wrap64 (x + 1)))) + 1) = (zig x : Int) := by
  unfold I64 at h
  rw [IntWalk.wrap64_in (x + 1) (by omega), IntWalk.wrap64_in _ (by omega)]
  simp only [IntKind.wrap_u64]
  unfold zig
  rw [if_pos h0]
  omega
theorem turned_pos {x : Int} (h : I64 x) (h0 : ¬ x < 0) : IntKind.u64.wrap (2 * IntKind.u64.wrap x) = (zig x : Int) := by
  unfold I64 at h
  simp only [IntKind.wrap_u64]
  unfold zig
  rw [if_neg h0]
  omega
/-- A number with a sign as 64 bits without one. -/
def lowU (x : Int) : Nat := (x % 18446744073709551616).toNat
theorem lowU_U64 (x : Int) : U64 (lowU x) := by unfold U64 lowU; omega
theorem wrap_lowU (x : Int) : IntKind.u64.wrap x = (lowU x : Int) := by
  rw [IntKind.wrap_u64]; unfold lowU; omega
end Go.AB

/- Plain definitions for the wire layer: what is read. No program in sight. -/
namespace Go.AB
open Go.RowKit

/-- The short number that stands at the head: its value, how many bytes, what is wrong (0: nothing). i: how many bytes went before; f: how many may come. -/
def peekF : Nat → Nat → List UInt8 → Nat × Nat × Nat
  | 0, _, _ => (0, 0, 11)
  | _ + 1, _, [] => (0, 0, 10)
  | f + 1, i, b :: rest =>
    if (i = 9 ∧ 1 < b.toNat) ∨ (b.toNat = 0 ∧ 0 < i) then (0, 0, 11)
    else if b.toNat < 128 then (b.toNat, i + 1, 0)
    else if (peekF f (i + 1) rest).2.2 = 0 then (b.toNat - 128 + 128 * (peekF f (i + 1) rest).1, (peekF f (i + 1) rest).2.1, 0)
    else (0, 0, (peekF f (i + 1) rest).2.2)
def peekS (l : List UInt8) : Nat × Nat × Nat := peekF 10 0 l

theorem peekF_len : ∀ f i l, (peekF f i l).2.2 = 0 → i < (peekF f i l).2.1 ∧ (peekF f i l).2.1 ≤ i + l.length
  | 0, _, _, h => by simp [peekF] at h
  | f + 1, i, [], h => by simp [peekF] at h
  | f + 1, i, b :: rest, h => by
    unfold peekF at h ⊢
    split
    · rename_i h1; rw [if_pos h1] at h; simp at h
    · rename_i h1
      rw [if_neg h1] at h
      split
      · simp only [List.length_cons]; omega
      · rename_i h2
        rw [if_neg h2] at h
        split
        · rename_i h3
          have := peekF_len f (i + 1) rest h3
          simp only [List.length_cons]
          omega
        · rename_i h3
          rw [if_neg h3] at h
          exact absurd h h3
theorem peekF_lt : ∀ f i l, f + i ≤ 10 → (peekF f i l).1 < 2 ^ (64 - 7 * i)
  | 0, i, _, _ => by simp [peekF]; exact Nat.two_pow_pos _
  | f + 1, i, [], _ => by simp [peekF]; exact Nat.two_pow_pos _
  | f + 1, i, b :: rest, h => by
    unfold peekF
    have hb := b.toNat_lt
    split
    · exact Nat.two_pow_pos _
    · rename_i h1
      split
      · rename_i h2
        by_cases h9 : i = 9
        · subst h9
          simp only
          omega
        · exact Nat.lt_of_lt_of_le h2 (Nat.pow_le_pow_right (n := 2) (i := 7) (by decide) (by omega))
      · rename_i h2
        split
        · have hi : i ≠ 9 := fun h9 => h1 (.inl ⟨h9, by omega⟩)
          have := peekF_lt f (i + 1) rest (by omega)
          have e : 2 ^ (64 - 7 * i) = 128 * 2 ^ (64 - 7 * (i + 1)) := by
            rw [show 64 - 7 * i = (64 - 7 * (i + 1)) + 7 from by omega, Nat.pow_add]; omega
          simp only
          rw [e]
          omega
        · exact Nat.two_pow_pos _
theorem peekS_U64 (l : List UInt8) : U64 (peekS l).1 := peekF_lt 10 0 l (by omega)
theorem peekF_err : ∀ f i l, (peekF f i l).2.2 = 0 ∨ ((peekF f i l).1 = 0 ∧ (peekF f i l).2.1 = 0)
  | 0, _, _ => by simp [peekF]
  | f + 1, i, [] => by simp [peekF]
  | f + 1, i, b :: rest => by
    unfold peekF
    repeat' split
    all_goals simp

theorem pow128 (q : Nat) : 128 ^ q = 2 ^ (7 * q) := by rw [Nat.pow_mul]
theorem acc_step (x q acc : Nat) (h : acc < 128 ^ q) (hx : x < 256) (h9 : x % 128 * 2 ^ (7 * q) < 18446744073709551616) (hq : 128 ^ q < 18446744073709551616) :
    bits .or .u64 (acc : Int) (IntKind.u64.wrap (IntKind.u64.wrap (bits .and .u8 (x : Int) 127) * 2 ^ (7 * q))) = ((acc + 128 ^ q * (x % 128) : Nat) : Int) := by
  have e1 : bits .and .u8 (x : Int) 127 = ((x % 128 : Nat) : Int) := by
    rw [show (127 : Int) = ((127 : Nat) : Int) from rfl, u8_and_nat x 127 hx (by omega)]
    congr 1
    exact Nat.and_two_pow_sub_one_eq_mod x 7
  have e2 : IntKind.u64.wrap ((x % 128 : Nat) : Int) = ((x % 128 : Nat) : Int) := by rw [IntKind.wrap_u64]; omega
  have e3 : ((x % 128 : Nat) : Int) * 2 ^ (7 * q) = ((x % 128 * 2 ^ (7 * q) : Nat) : Int) := by push_cast; rfl
  rw [e1, e2, e3]
  generalize hy : x % 128 * 2 ^ (7 * q) = y at *
  have e4 : IntKind.u64.wrap (y : Int) = (y : Int) := by rw [IntKind.wrap_u64]; omega
  rw [e4, u64_or_nat _ _ (by omega) h9]
  congr 1
  rw [← hy, Nat.or_comm, ← Nat.shiftLeft_eq, ← Nat.shiftLeft_add_eq_or_of_lt (by rw [← pow128]; exact h), Nat.shiftLeft_eq, pow128, Nat.mul_comm, Nat.add_comm]

/-- A number of so many bytes, the lowest first. -/
def leNat : List UInt8 → Nat
  | [] => 0
  | b :: l => b.toNat + 256 * leNat l
theorem leNat_lt (l : List UInt8) : leNat l < 256 ^ l.length := by
  induction l with
  | nil => simp [leNat]
  | cons b l ih =>
    have := b.toNat_lt
    simp only [leNat, List.length_cons, Nat.pow_succ]
    omega

theorem or_gen (A y K L m k : Nat) (hK : K = 2 ^ m) (hL : L = 2 ^ k) (hy : y < L) (hb : (A * L + y) * K < 18446744073709551616) :
    bits .or .u64 ((A * (L * K) : Nat) : Int) ((y * K : Nat) : Int) = (((A * L + y) * K : Nat) : Int) := by
  have e : (A * L + y) * K = A * (L * K) + y * K := by rw [Nat.add_mul, Nat.mul_assoc]
  have hyk : y * K < 2 ^ (k + m) := by
    rw [Nat.pow_add, ← hL, ← hK]
    exact Nat.mul_lt_mul_of_pos_right hy (by rw [hK]; exact Nat.two_pow_pos _)
  rw [u64_or_nat _ _ (by omega) (by omega)]
  congr 1
  rw [e, hL, hK, ← Nat.pow_add, ← Nat.shiftLeft_eq A, ← hK, ← Nat.shiftLeft_add_eq_or_of_lt hyk]
theorem wrap_byte (x : UInt8) : IntKind.u64.wrap (x.toNat : Int) = (x.toNat : Int) := by have := x.toNat_lt; rw [IntKind.wrap_u64]; omega
theorem wrap_shift (x : UInt8) (K : Nat) (hK : K ≤ 72057594037927936) : IntKind.u64.wrap (IntKind.u64.wrap (x.toNat : Int) * (K : Int)) = ((x.toNat * K : Nat) : Int) := by
  have := x.toNat_lt
  have h : x.toNat * K ≤ 255 * 72057594037927936 := Nat.mul_le_mul (by omega) hK
  rw [wrap_byte, IntKind.wrap_u64, ← Int.natCast_mul]
  generalize x.toNat * K = y at *
  omega
theorem or_zero_u64 (y : Nat) (h : y < 18446744073709551616) : bits .or .u64 0 (y : Int) = (y : Int) := by
  rw [show (0 : Int) = ((0 : Nat) : Int) from rfl, u64_or_nat _ _ (by decide) h, Nat.zero_or]
section
variable (b0 b1 b2 b3 b4 b5 b6 b7 : UInt8)
theorem leNat_lt1 : (leNat [b0] : Int) % 256 = (leNat [b0] : Int) := by have := leNat_lt [b0]; simp only [List.length_cons, List.length_nil] at this; omega
theorem leNat_lt2 : IntKind.u16.wrap (leNat [b0, b1] : Int) = (leNat [b0, b1] : Int) := by have := leNat_lt [b0, b1]; simp only [List.length_cons, List.length_nil] at this; rw [IntKind.wrap_u16]; omega
theorem leNat_lt4 : (leNat [b0, b1, b2, b3] : Int) % 4294967296 = (leNat [b0, b1, b2, b3] : Int) := by have := leNat_lt [b0, b1, b2, b3]; simp only [List.length_cons, List.length_nil] at this; omega
theorem le1 : bits .or .u64 0 (IntKind.u64.wrap (b0.toNat : Int)) = (leNat [b0] : Int) := by
  have h0 := b0.toNat_lt
  rw [wrap_byte, or_zero_u64 _ (by omega)]
  simp [leNat]
theorem le2 : bits .or .u64 (bits .or .u64 0 (IntKind.u64.wrap (IntKind.u64.wrap (b1.toNat : Int) * 256))) (IntKind.u64.wrap (b0.toNat : Int)) = (leNat [b0, b1] : Int) := by
  have h0 := b0.toNat_lt
  have h1 := b1.toNat_lt
  have s1 := wrap_shift b1 256 (by decide)
  rw [show ((256 : Nat) : Int) = 256 from rfl] at s1
  rw [s1, or_zero_u64 _ (by omega), wrap_byte]
  have s2 := or_gen b1.toNat b0.toNat 1 256 0 8 rfl rfl (by omega) (by omega)
  simp only [Nat.mul_one] at s2
  rw [s2]
  congr 1
  simp only [leNat]
  omega
theorem le4 : bits .or .u64 (bits .or .u64 (bits .or .u64 0 (bits .or .u64 (IntKind.u64.wrap (IntKind.u64.wrap (b3.toNat : Int) * 16777216)) (IntKind.u64.wrap (IntKind.u64.wrap (b2.toNat : Int) * 65536))))
      (IntKind.u64.wrap (IntKind.u64.wrap (b1.toNat : Int) * 256))) (IntKind.u64.wrap (b0.toNat : Int)) = (leNat [b0, b1, b2, b3] : Int) := by
  have h0 := b0.toNat_lt
  have h1 := b1.toNat_lt
  have h2 := b2.toNat_lt
  have h3 := b3.toNat_lt
  have s1 := wrap_shift b1 256 (by decide)
  have s2 := wrap_shift b2 65536 (by decide)
  have s3 := wrap_shift b3 16777216 (by decide)
  rw [show ((256 : Nat) : Int) = 256 from rfl] at s1
  rw [show ((65536 : Nat) : Int) = 65536 from rfl] at s2
  rw [show ((16777216 : Nat) : Int) = 16777216 from rfl] at s3
  rw [s1, s2, s3, wrap_byte]
  have t1 := or_gen b3.toNat b2.toNat 65536 256 16 8 rfl rfl (by omega) (by omega)
  rw [show 256 * 65536 = 16777216 from rfl] at t1
  rw [t1, or_zero_u64 _ (by omega)]
  have t2 := or_gen (b3.toNat * 256 + b2.toNat) b1.toNat 256 256 8 8 rfl rfl (by omega) (by omega)
  rw [show 256 * 256 = 65536 from rfl] at t2
  rw [t2]
  have t3 := or_gen ((b3.toNat * 256 + b2.toNat) * 256 + b1.toNat) b0.toNat 1 256 0 8 rfl rfl (by omega) (by omega)
  simp only [Nat.mul_one] at t3
  rw [t3]
  congr 1
  simp only [leNat]
  omega
theorem le8 : bits .or .u64 (bits .or .u64 (bits .or .u64 (bits .or .u64 0 (bits .or .u64 (bits .or .u64 (bits .or .u64 (IntKind.u64.wrap (IntKind.u64.wrap (b7.toNat : Int) * 72057594037927936)) (IntKind.u64.wrap (IntKind.u64.wrap (b6.toNat : Int) * 281474976710656)))
        (IntKind.u64.wrap (IntKind.u64.wrap (b5.toNat : Int) * 1099511627776))) (IntKind.u64.wrap (IntKind.u64.wrap (b4.toNat : Int) * 4294967296))))
      (bits .or .u64 (IntKind.u64.wrap (IntKind.u64.wrap (b3.toNat : Int) * 16777216)) (IntKind.u64.wrap (IntKind.u64.wrap (b2.toNat : Int) * 65536))))
      (IntKind.u64.wrap (IntKind.u64.wrap (b1.toNat : Int) * 256))) (IntKind.u64.wrap (b0.toNat : Int)) = (leNat [b0, b1, b2, b3, b4, b5, b6, b7] : Int) := by
  have h0 := b0.toNat_lt
  have h1 := b1.toNat_lt
  have h2 := b2.toNat_lt
  have h3 := b3.toNat_lt
  have h4 := b4.toNat_lt
  have h5 := b5.toNat_lt
  have h6 := b6.toNat_lt
  have h7 := b7.toNat_lt
  have s1 := wrap_shift b1 256 (by decide)
  have s2 := wrap_shift b2 65536 (by decide)
  have s3 := wrap_shift b3 16777216 (by decide)
  have s4 := wrap_shift b4 4294967296 (by decide)
  have s5 := wrap_shift b5 1099511627776 (by decide)
  have s6 := wrap_shift b6 281474976710656 (by decide)
  have s7 := wrap_shift b7 72057594037927936 (by decide)
  rw [show ((256 : Nat) : Int) = 256 from rfl] at s1
  rw [show ((65536 : Nat) : Int) = 65536 from rfl] at s2
  rw [show ((16777216 : Nat) : Int) = 16777216 from rfl] at s3
  rw [show ((4294967296 : Nat) : Int) = 4294967296 from rfl] at s4
  rw [show ((1099511627776 : Nat) : Int) = 1099511627776 from rfl] at s5
  rw [show ((281474976710656 : Nat) : Int) = 281474976710656 from rfl] at s6
  rw [show ((72057594037927936 : Nat) : Int) = 72057594037927936 from rfl] at s7
  rw [s1, s2, s3, s4, s5, s6, s7, wrap_byte]
  clear s1 s2 s3 s4 s5 s6 s7
  have t1 := or_gen b7.toNat b6.toNat 281474976710656 256 48 8 rfl rfl (by omega) (by omega)
  rw [show 256 * 281474976710656 = 72057594037927936 from rfl] at t1
  rw [t1]
  have t2 := or_gen (b7.toNat * 256 + b6.toNat) b5.toNat 1099511627776 256 40 8 rfl rfl (by omega) (by omega)
  rw [show 256 * 1099511627776 = 281474976710656 from rfl] at t2
  rw [t2]
  have t3 := or_gen ((b7.toNat * 256 + b6.toNat) * 256 + b5.toNat) b4.toNat 4294967296 256 32 8 rfl rfl (by omega) (by omega)
  rw [show 256 * 4294967296 = 1099511627776 from rfl] at t3
  rw [t3, or_zero_u64 _ (by omega)]
  have t4 := or_gen b3.toNat b2.toNat 65536 256 16 8 rfl rfl (by omega) (by omega)
  rw [show 256 * 65536 = 16777216 from rfl] at t4
  rw [t4]
  have t5 := or_gen (((b7.toNat * 256 + b6.toNat) * 256 + b5.toNat) * 256 + b4.toNat) (b3.toNat * 256 + b2.toNat) 65536 65536 16 16 rfl rfl (by omega) (by omega)
  rw [show 65536 * 65536 = 4294967296 from rfl] at t5
  rw [t5]
  have t6 := or_gen ((((b7.toNat * 256 + b6.toNat) * 256 + b5.toNat) * 256 + b4.toNat) * 65536 + (b3.toNat * 256 + b2.toNat)) b1.toNat 256 256 8 8 rfl rfl (by omega) (by omega)
  rw [show 256 * 256 = 65536 from rfl] at t6
  rw [t6]
  have t7 := or_gen (((((b7.toNat * 256 + b6.toNat) * 256 + b5.toNat) * 256 + b4.toNat) * 65536 + (b3.toNat * 256 + b2.toNat)) * 256 + b1.toNat) b0.toNat 1 256 0 8 rfl rfl (by omega) (by omega)
  simp only [Nat.mul_one] at t7
  rw [t7]
  congr 1
  simp only [leNat]
  omega
end

/-- Where a reader stands: the place, the fault's place and number. -/
structure RS where
  pos : Nat
  wh : Nat
  bad : Nat
def RS.fails (s : RS) (e : Nat) : RS := { s with wh := s.pos, bad := e }
def rFixed (n : Nat) (l : List UInt8) (s : RS) : Nat × RS :=
  if s.bad ≠ 0 then (0, s) else if l.length - s.pos < n then (0, s.fails 10) else (leNat ((l.drop s.pos).take n), { s with pos := s.pos + n })
def rShort (most : Nat) (l : List UInt8) (s : RS) : Nat × RS :=
  if s.bad ≠ 0 then (0, s)
  else if (peekS (l.drop s.pos)).2.2 ≠ 0 then (0, s.fails (peekS (l.drop s.pos)).2.2)
  else if most < (peekS (l.drop s.pos)).1 then (0, s.fails 12)
  else ((peekS (l.drop s.pos)).1, { s with pos := s.pos + (peekS (l.drop s.pos)).2.1 })
/-- A width that is none takes nothing. -/
def rWidth (k : Int) (l : List UInt8) (s : RS) : Nat × RS := if 0 ≤ k ∧ k < 8 then rFixed (sizeI k) l s else (0, s)
/-- A short number as a signed one. -/
def unzig (v : Nat) : Int := if v % 2 = 1 then -((v / 2 : Nat) : Int) - 1 else ((v / 2 : Nat) : Int)
theorem xor_i64_zero (m : Nat) (h : m < 9223372036854775808) : bits .xor .i64 (m : Int) 0 = (m : Int) := by
  have e : (BitVec.ofInt 64 (m : Int) ^^^ BitVec.ofInt 64 0).toNat = m := by
    rw [show BitVec.ofInt 64 0 = 0#64 from rfl, BitVec.xor_zero, BitVec.toNat_ofInt]
    omega
  show IntKind.i64.wrap (((BitVec.ofInt 64 (m : Int) ^^^ BitVec.ofInt 64 0).toNat : Nat) : Int) = _
  rw [e, IntKind.wrap_i64]
  omega
theorem xor_i64_ones (m : Nat) (h : m < 9223372036854775808) : bits .xor .i64 (m : Int) (-1) = -(m : Int) - 1 := by
  have e : (BitVec.ofInt 64 (m : Int) ^^^ BitVec.ofInt 64 (-1)).toNat = 18446744073709551615 - m := by
    rw [show BitVec.ofInt 64 (-1) = BitVec.allOnes 64 from by decide, BitVec.xor_allOnes, BitVec.toNat_not, BitVec.toNat_ofInt]
    omega
  show IntKind.i64.wrap (((BitVec.ofInt 64 (m : Int) ^^^ BitVec.ofInt 64 (-1)).toNat : Nat) : Int) = _
  rw [e, IntKind.wrap_i64]
  omega
theorem unzig_i64 {v : Nat} (h : U64 v) : bits .xor .i64 (wrap64 ((v : Int) / 2)) (wrap64 (-wrap64 (bits .and .u64 (v : Int) 1))) = unzig v := by
  have h' := h.out
  have e1 : wrap64 ((v : Int) / 2) = ((v / 2 : Nat) : Int) := by rw [IntWalk.wrap64_in _ (by omega)]; omega
  have e2 : bits .and .u64 (v : Int) 1 = ((v % 2 : Nat) : Int) := by
    rw [show (1 : Int) = ((1 : Nat) : Int) from rfl, u64_and_nat v 1 h' (by omega), Nat.and_one_is_mod]
  rw [e1, e2]
  unfold unzig
  rcases Nat.mod_two_eq_zero_or_one v with h0 | h0
  · rw [h0, if_neg (by omega), show wrap64 (-wrap64 ((0 : Nat) : Int)) = 0 from by simp [wrap64], xor_i64_zero _ (by omega)]
  · rw [h0, if_pos rfl, show wrap64 (-wrap64 ((1 : Nat) : Int)) = -1 from by simp [wrap64], xor_i64_ones _ (by omega)]
theorem rShort_U64 (most : Nat) (l : List UInt8) (s : RS) : U64 (rShort most l s).1 := by
  unfold rShort
  repeat' split
  all_goals first | exact peekS_U64 _ | (show (0 : Nat) < 18446744073709551616; decide)
def rSigned (l : List UInt8) (s : RS) : Int × RS := (unzig (rShort 18446744073709551615 l s).1, (rShort 18446744073709551615 l s).2)
def rFlag (l : List UInt8) (s : RS) : Bool × RS :=
  if s.bad ≠ 0 then (false, s)
  else match l.drop s.pos with
    | [] => (false, s.fails 10)
    | b :: _ => if 1 < b.toNat then (false, s.fails 11) else (b == 1, { s with pos := s.pos + 1 })
def rText (most : Int) (l : List UInt8) (s : RS) : List UInt8 × RS :=
  if s.bad ≠ 0 then ([], s)
  else if (peekS (l.drop s.pos)).2.2 ≠ 0 then ([], s.fails (peekS (l.drop s.pos)).2.2)
  else if most.toNat < (peekS (l.drop s.pos)).1 then ([], s.fails 12)
  else if l.length - (s.pos + (peekS (l.drop s.pos)).2.1) < (peekS (l.drop s.pos)).1 then ([], s.fails 10)
  else (((l.drop (s.pos + (peekS (l.drop s.pos)).2.1)).take (peekS (l.drop s.pos)).1), { s with pos := s.pos + (peekS (l.drop s.pos)).2.1 + (peekS (l.drop s.pos)).1 })
theorem wrap_max (most : Int) (h : I64 most) : IntKind.u64.wrap (max 0 most) = ((most.toNat : Nat) : Int) := by
  unfold I64 at h
  rw [IntKind.wrap_u64]; omega
def rEnd (l : List UInt8) (s : RS) : Nat := if s.bad ≠ 0 then s.bad else if s.pos < l.length then 13 else 0
/-- The place lies in the bytes. -/
def RS.ok (s : RS) (l : List UInt8) : Prop := s.pos ≤ l.length

theorem peekS_pos (l : List UInt8) (p : Nat) (hp : p ≤ l.length) (h : (peekS (l.drop p)).2.2 = 0) : p + (peekS (l.drop p)).2.1 ≤ l.length := by
  have := (peekF_len 10 0 (l.drop p) h).2
  rw [List.length_drop] at this
  unfold peekS
  omega
theorem rFixed_ok {n : Nat} {l : List UInt8} {s : RS} (h : s.ok l) : (rFixed n l s).2.ok l := by
  unfold rFixed RS.ok at *
  repeat' split
  all_goals simp only [RS.fails]; omega
theorem rShort_ok {n : Nat} {l : List UInt8} {s : RS} (h : s.ok l) : (rShort n l s).2.ok l := by
  unfold rShort RS.ok at *
  repeat' split
  all_goals simp only [RS.fails]
  all_goals first | omega | skip
  rename_i h1 h2 h3
  exact peekS_pos l s.pos h (by omega)
theorem rFlag_ok {l : List UInt8} {s : RS} (h : s.ok l) : (rFlag l s).2.ok l := by
  unfold rFlag RS.ok at *
  split
  · exact h
  · split
    · exact h
    · rename_i b t he
      have := congrArg List.length he
      rw [List.length_drop, List.length_cons] at this
      split
      · exact h
      · simp only; omega
theorem rText_ok {n : Int} {l : List UInt8} {s : RS} (h : s.ok l) : (rText n l s).2.ok l := by
  unfold rText RS.ok at *
  repeat' split
  all_goals simp only [RS.fails]
  all_goals first | omega | skip
  rename_i h1 h2 h3 h4
  have := peekS_pos l s.pos h (by omega)
  omega
end Go.AB

/- The wire layer's plain laws: what is taken and laid again is the same bytes. No program in sight. -/
namespace Go.AB
open Go.RowKit

theorem fixedB_leNat (l : List UInt8) : fixedB l.length (leNat l) = l := by
  induction l with
  | nil => rfl
  | cons b l ih =>
    have hb := b.toNat_lt
    simp only [List.length_cons, fixedB, leNat]
    rw [show (b.toNat + 256 * leNat l) / 256 = leNat l by omega, ih]
    congr 1
    apply UInt8.toNat_inj.1
    simp
theorem peekF_pos : ∀ f i l, 0 < i → (peekF f i l).2.2 = 0 → 0 < (peekF f i l).1
  | 0, _, _, _, h => by simp [peekF] at h
  | f + 1, i, [], _, h => by simp [peekF] at h
  | f + 1, i, b :: rest, hi, h => by
    unfold peekF at h ⊢
    split
    · rename_i h1; rw [if_pos h1] at h; simp at h
    · rename_i h1
      rw [if_neg h1] at h
      split
      · simp only; omega
      · rename_i h2
        rw [if_neg h2] at h
        split
        · rename_i h3
          have := peekF_pos f (i + 1) rest (by omega) h3
          simp only
          omega
        · rename_i h3
          rw [if_neg h3] at h
          exact absurd h h3
theorem shortB_peekF : ∀ f i l, (peekF f i l).2.2 = 0 → shortB (peekF f i l).1 = l.take ((peekF f i l).2.1 - i)
  | 0, _, _, h => by simp [peekF] at h
  | f + 1, i, [], h => by simp [peekF] at h
  | f + 1, i, b :: rest, h => by
    have hb := b.toNat_lt
    have hob : UInt8.ofNat b.toNat = b := by simp
    unfold peekF at h ⊢
    split
    · rename_i h1; rw [if_pos h1] at h; simp at h
    · rename_i h1
      rw [if_neg h1] at h
      split
      · rename_i h2
        rw [shortB_lt h2, show i + 1 - i = 1 by omega]
        simp
      · rename_i h2
        rw [if_neg h2] at h
        split
        · rename_i h3
          have hp := peekF_pos f (i + 1) rest (by omega) h3
          have hs := shortB_peekF f (i + 1) rest h3
          have hl := peekF_len f (i + 1) rest h3
          simp only
          generalize peekF f (i + 1) rest = p at *
          have hge : 128 ≤ b.toNat - 128 + 128 * p.1 := by omega
          rw [shortB_ge hge, show (b.toNat - 128 + 128 * p.1) / 128 = p.1 by omega, hs, show p.2.1 - i = (p.2.1 - (i + 1)) + 1 by omega, List.take_succ_cons]
          congr 1
          rw [show 128 + (b.toNat - 128 + 128 * p.1) % 128 = b.toNat by omega, hob]
        · rename_i h3
          rw [if_neg h3] at h
          exact absurd h h3
theorem shortB_peekS (l : List UInt8) (h : (peekS l).2.2 = 0) : shortB (peekS l).1 = l.take (peekS l).2.1 := shortB_peekF 10 0 l h
theorem zig_unzig (v : Nat) : zig (unzig v) = v := by
  unfold zig unzig
  rcases Nat.mod_two_eq_zero_or_one v with h | h
  · rw [if_neg (by omega), if_neg (by omega)]; omega
  · rw [if_pos h, if_pos (by omega)]; omega
theorem unzig_I64 {v : Nat} (h : U64 v) : I64 (unzig v) := by
  unfold U64 at h; unfold I64 unzig
  split <;> omega

/-- A take of the law's script. -/
structure TakeD where
  kind : Int
  width : Int
  n : Int
  most : Nat
/-- One take, and what is laid of it. -/
def onlyStep (l : List UInt8) (t : TakeD) (s : RS) : RS × List UInt8 :=
  if t.kind = 1 then ((rWidth t.width l s).2, fixedB (sizeI t.width) (rWidth t.width l s).1)
  else if t.kind = 2 then ((rShort t.most l s).2, shortB (rShort t.most l s).1)
  else if t.kind = 3 then ((rSigned l s).2, shortB (zig (rSigned l s).1))
  else if t.kind = 4 then ((rFlag l s).2, [if (rFlag l s).1 then 1 else 0])
  else if t.kind = 5 then ((rText t.n l s).2, shortB (rText t.n l s).1.length ++ (rText t.n l s).1)
  else (s, [])
/-- What holds of a step: the reader stays in the bytes; while it is right, what is laid is what was taken; what is laid is short. -/
structure StepOk (l : List UInt8) (s : RS) (r : RS × List UInt8) : Prop where
  ok : r.1.ok l
  le : s.pos ≤ r.1.pos
  keep : r.1.bad = 0 → s.bad = 0 ∧ l.take r.1.pos = l.take s.pos ++ r.2
  len : r.2.length + s.pos ≤ r.1.pos + 10
theorem take_drop_take {α : Type} (l : List α) (p n : Nat) : l.take (p + n) = l.take p ++ (l.drop p).take n := by rw [List.take_add]
theorem sizeI_le (k : Int) : sizeI k ≤ 8 := by
  unfold sizeI; split
  · rename_i h
    obtain ⟨q, rfl⟩ := Int.eq_ofNat_of_zero_le h.1
    match q, h with
    | 0, _ | 1, _ | 2, _ | 3, _ | 4, _ | 5, _ | 6, _ | 7, _ => decide
    | q + 8, h => omega
  · decide
theorem step_short (l : List UInt8) (m : Nat) (s : RS) (h : s.ok l) : StepOk l s ((rShort m l s).2, shortB (rShort m l s).1) := by
  have hok := rShort_ok (n := m) h
  have hlen := shortB_len10 (rShort_U64 m l s)
  unfold rShort at *
  repeat' split
  all_goals simp_all only [if_true, if_false, RS.fails, ne_eq, not_false_eq_true]
  · rename_i hb
    exact ⟨h, Nat.le_refl _, fun h0 => absurd h0 (by simpa using hb), by simp only; omega⟩
  · rename_i hb he
    exact ⟨h, Nat.le_refl _, fun h0 => absurd h0 he, by simp only; omega⟩
  · exact ⟨h, Nat.le_refl _, fun h0 => by simp at h0, by simp only; omega⟩
  · rename_i hb he hm
    refine ⟨hok, by simp only; omega, fun h0 => ⟨h0, ?_⟩, by simp only; omega⟩
    simp only
    rw [take_drop_take, shortB_peekS _ (by simpa using he)]
theorem step_signed (l : List UInt8) (s : RS) (h : s.ok l) : StepOk l s ((rSigned l s).2, shortB (zig (rSigned l s).1)) := by
  unfold rSigned
  rw [zig_unzig]
  exact step_short l _ s h
theorem step_flag (l : List UInt8) (s : RS) (h : s.ok l) : StepOk l s ((rFlag l s).2, [if (rFlag l s).1 then 1 else 0]) := by
  have hok := rFlag_ok h
  unfold rFlag at *
  split
  · rename_i hb
    exact ⟨h, Nat.le_refl _, fun h0 => absurd h0 (by simpa using hb), by simp; omega⟩
  · rename_i hb
    simp only [hb, if_false] at hok
    cases hd : l.drop s.pos with
    | nil => exact ⟨h, Nat.le_refl _, fun h0 => by simp [RS.fails] at h0, by simp [RS.fails]; omega⟩
    | cons b t =>
      rw [hd] at hok
      simp only at hok ⊢
      split
      · exact ⟨h, Nat.le_refl _, fun h0 => by simp [RS.fails] at h0, by simp [RS.fails]; omega⟩
      · rename_i hb1
        rw [if_neg hb1] at hok
        refine ⟨hok, by simp, fun h0 => ⟨h0, ?_⟩, by simp; omega⟩
        simp only
        rw [take_drop_take, hd]
        have : b = 0 ∨ b = 1 := by
          rcases Nat.lt_or_ge b.toNat 1 with h2 | h2
          · exact .inl (UInt8.toNat_inj.1 (by simp; omega))
          · exact .inr (UInt8.toNat_inj.1 (by simp; omega))
        rcases this with rfl | rfl <;> simp
theorem step_fixed (l : List UInt8) (n : Nat) (hn : n ≤ 8) (s : RS) (h : s.ok l) : StepOk l s ((rFixed n l s).2, fixedB n (rFixed n l s).1) := by
  have hok := rFixed_ok (n := n) h
  unfold rFixed at *
  split
  · rename_i hb
    exact ⟨h, Nat.le_refl _, fun h0 => absurd h0 (by simpa using hb), by simp [fixedB_length]; omega⟩
  · rename_i hb
    rw [if_neg hb] at hok
    split
    · exact ⟨h, Nat.le_refl _, fun h0 => by simp [RS.fails] at h0, by simp [RS.fails, fixedB_length]; omega⟩
    · rename_i hs
      rw [if_neg hs] at hok
      refine ⟨hok, by simp, fun h0 => ⟨h0, ?_⟩, by simp [fixedB_length]; omega⟩
      simp only
      rw [take_drop_take]
      congr 1
      have hl : ((l.drop s.pos).take n).length = n := by
        unfold RS.ok at h
        rw [List.length_take, List.length_drop]; omega
      have := fixedB_leNat ((l.drop s.pos).take n)
      rw [hl] at this
      exact this.symm
theorem step_width (l : List UInt8) (k : Int) (s : RS) (h : s.ok l) : StepOk l s ((rWidth k l s).2, fixedB (sizeI k) (rWidth k l s).1) := by
  unfold rWidth
  split
  · exact step_fixed l _ (sizeI_le k) s h
  · rename_i hk
    have : sizeI k = 0 := by unfold sizeI; rw [if_neg hk]
    rw [this]
    exact ⟨h, Nat.le_refl _, fun h0 => ⟨h0, by simp [fixedB]⟩, by simp [fixedB]⟩
theorem rText_len (m : Int) (l : List UInt8) (s : RS) {N : Nat} (h : l.length ≤ N) : (rText m l s).1.length ≤ N := by
  unfold rText
  repeat' split
  all_goals first | (simp; done) | (simp only [List.length_take, List.length_drop]; omega)
theorem step_text (l : List UInt8) (hl : l.length < 18446744073709551616) (m : Int) (s : RS) (h : s.ok l) : StepOk l s ((rText m l s).2, shortB (rText m l s).1.length ++ (rText m l s).1) := by
  have hok := rText_ok (n := m) h
  have hz : (shortB ([] : List UInt8).length ++ []).length = 1 := by rw [List.length_nil, shortB_lt (by decide)]; rfl
  unfold rText at *
  split
  · rename_i hb
    exact ⟨h, Nat.le_refl _, fun h0 => absurd h0 (by simpa using hb), by simp only [hz]; omega⟩
  · rename_i hb
    rw [if_neg hb] at hok
    split
    · rename_i he
      exact ⟨h, Nat.le_refl _, fun h0 => absurd h0 (by simpa [RS.fails] using he), by simp only [hz, RS.fails]; omega⟩
    · rename_i he
      rw [if_neg he] at hok
      split
      · exact ⟨h, Nat.le_refl _, fun h0 => by simp [RS.fails] at h0, by simp only [hz, RS.fails]; omega⟩
      · rename_i hm
        rw [if_neg hm] at hok
        split
        · exact ⟨h, Nat.le_refl _, fun h0 => by simp [RS.fails] at h0, by simp only [hz, RS.fails]; omega⟩
        · rename_i hlong
          rw [if_neg hlong] at hok
          have hp := peekS_pos l s.pos h (by simpa using he)
          have hlen : ((l.drop (s.pos + (peekS (l.drop s.pos)).2.1)).take (peekS (l.drop s.pos)).1).length = (peekS (l.drop s.pos)).1 := by
            rw [List.length_take, List.length_drop]; omega
          have h10 := shortB_len10 (peekS_U64 (l.drop s.pos))
          refine ⟨hok, by simp only; omega, fun h0 => ⟨h0, ?_⟩, ?_⟩
          · simp only
            rw [hlen, take_drop_take l (s.pos + (peekS (l.drop s.pos)).2.1), take_drop_take l s.pos, shortB_peekS _ (by simpa using he), List.append_assoc]
          · simp only [List.length_append, hlen]
            omega
theorem onlyStep_ok (l : List UInt8) (hl : l.length < 18446744073709551616) (t : TakeD) (s : RS) (h : s.ok l) : StepOk l s (onlyStep l t s) := by
  unfold onlyStep
  split
  · exact step_width l _ s h
  split
  · exact step_short l _ s h
  split
  · exact step_signed l s h
  split
  · exact step_flag l s h
  split
  · exact step_text l hl _ s h
  · exact ⟨h, Nat.le_refl _, fun h0 => ⟨h0, by simp⟩, by simp⟩
theorem only_next {l : List UInt8} (hl : l.length < 18446744073709551616) (t : TakeD) {s : RS} {out : List UInt8} {k : Nat} (h : s.ok l) (hlen : out.length ≤ s.pos + 10 * k) (hb : s.bad = 0 → out = l.take s.pos) :
    (out ++ (onlyStep l t s).2).length ≤ (onlyStep l t s).1.pos + 10 * (k + 1) ∧ ((onlyStep l t s).1.bad = 0 → out ++ (onlyStep l t s).2 = l.take (onlyStep l t s).1.pos) := by
  have hs := onlyStep_ok l hl t s h
  refine ⟨by have := hs.len; have := hs.le; rw [List.length_append]; omega, fun h0 => ?_⟩
  obtain ⟨h1, h2⟩ := hs.keep h0
  rw [h2, hb h1]
end Go.AB

/- The wire layer's plain laws: what was laid is taken off. No program in sight. -/
namespace Go.AB
open Go.RowKit

theorem peekF_shortB : ∀ (f i v : Nat) (rest : List UInt8), f + i = 10 → v < 2 ^ (64 - 7 * i) → (0 < i → 0 < v) → peekF f i (shortB v ++ rest) = (v, i + (shortB v).length, 0)
  | 0, i, v, rest, h, hv, hp => by
    obtain rfl : i = 10 := by omega
    have := hp (by omega)
    simp at hv
    omega
  | f + 1, i, v, rest, h, hv, hp => by
    by_cases h128 : v < 128
    · rw [shortB_lt h128]
      have e : (UInt8.ofNat v).toNat = v := by simp; omega
      have c : ¬ ((i = 9 ∧ 1 < v) ∨ (v = 0 ∧ 0 < i)) := by
        rintro (⟨rfl, h1⟩ | ⟨rfl, h1⟩)
        · simp at hv; omega
        · have := hp h1; omega
      simp only [List.cons_append, List.nil_append, peekF, e, List.length_cons, List.length_nil]
      rw [if_neg c, if_pos h128]
    · rw [shortB_ge (by omega)]
      have e : (UInt8.ofNat (128 + v % 128)).toNat = 128 + v % 128 := by simp; omega
      have h9 : i ≠ 9 := fun h9 => by subst h9; simp at hv; omega
      have hi : i ≤ 8 := by
        rcases Nat.lt_or_ge 9 i with h10 | h10
        · obtain rfl : i = 10 := by omega
          simp at hv; omega
        · omega
      have ih := peekF_shortB f (i + 1) (v / 128) rest (by omega) (by
        rw [show 64 - 7 * i = (64 - 7 * (i + 1)) + 7 by omega, Nat.pow_add] at hv
        exact Nat.div_lt_of_lt_mul (by omega)) (fun _ => by omega)
      have c : ¬ ((i = 9 ∧ 1 < 128 + v % 128) ∨ (128 + v % 128 = 0 ∧ 0 < i)) := by omega
      simp only [List.cons_append, peekF, e]
      rw [if_neg c, if_neg (by omega), ih]
      simp only [if_true, List.length_cons]
      refine Prod.ext ?_ (Prod.ext ?_ rfl)
      · show 128 + v % 128 - 128 + 128 * (v / 128) = v; omega
      · show i + 1 + (shortB (v / 128)).length = i + ((shortB (v / 128)).length + 1); omega
theorem peekS_shortB {v : Nat} (hv : U64 v) (rest : List UInt8) : peekS (shortB v ++ rest) = (v, (shortB v).length, 0) := by
  have := peekF_shortB 10 0 v rest rfl hv (fun h => absurd h (by omega))
  simpa [peekS] using this
theorem leNat_fixedB (n : Nat) : ∀ m, leNat (fixedB n m) = m % 256 ^ n := by
  induction n with
  | zero => intro m; simp [fixedB, leNat, Nat.mod_one]
  | succ n ih =>
    intro m
    simp only [fixedB, leNat, ih]
    rw [Nat.pow_succ', Nat.mod_mul]
    have : (UInt8.ofNat m).toNat = m % 256 := by simp
    rw [this]
theorem unzig_zig {x : Int} : unzig (zig x) = x := by
  unfold unzig zig
  split
  · rw [if_pos (by omega)]; omega
  · rw [if_neg (by omega)]; omega

theorem flat_step {α : Type} (f : α → List UInt8) (xs : List α) (k : Nat) (h : k < xs.length) : xs.flatMap f = (xs.take k).flatMap f ++ f xs[k] ++ (xs.drop (k + 1)).flatMap f := by
  conv => lhs; rw [← List.take_append_drop k xs, List.drop_eq_getElem_cons h]
  rw [List.flatMap_append, List.flatMap_cons, List.append_assoc]

section
variable {L rest : List UInt8} {p wh : Nat}
theorem back_short {v m : Nat} (hv : U64 v) (hm : v ≤ m) (h : L.drop p = shortB v ++ rest) : rShort m L ⟨p, wh, 0⟩ = (v, ⟨p + (shortB v).length, wh, 0⟩) := by
  unfold rShort
  simp only [h, peekS_shortB hv]
  simp
  omega
theorem back_signed {x : Int} (hx : I64 x) (h : L.drop p = shortB (zig x) ++ rest) : rSigned L ⟨p, wh, 0⟩ = (x, ⟨p + (shortB (zig x)).length, wh, 0⟩) := by
  have hz := zig_U64 hx
  unfold rSigned
  rw [back_short hz (by have := hz.out; omega) h, unzig_zig]
theorem back_fixed {n m : Nat} (h : L.drop p = fixedB n m ++ rest) : rFixed n L ⟨p, wh, 0⟩ = (m % 256 ^ n, ⟨p + n, wh, 0⟩) := by
  have hl := congrArg List.length h
  rw [List.length_drop, List.length_append, fixedB_length] at hl
  unfold rFixed
  have h2 : ¬ (L.length - p < n) := by omega
  have h3 : (fixedB n m ++ rest).take n = fixedB n m := by
    have := List.take_left (l₁ := fixedB n m) (l₂ := rest)
    rwa [fixedB_length] at this
  simp only [h, h3, leNat_fixedB]
  simp [h2]
theorem back_flag {t : Bool} (h : L.drop p = [if t then 1 else 0] ++ rest) : rFlag L ⟨p, wh, 0⟩ = (t, ⟨p + 1, wh, 0⟩) := by
  unfold rFlag
  rw [if_neg (by simp)]
  simp only [h]
  cases t <;> simp
theorem back_text {s : List UInt8} {m : Int} (hs : U64 s.length) (hm : s.length ≤ m.toNat) (h : L.drop p = shortB s.length ++ s ++ rest) : rText m L ⟨p, wh, 0⟩ = (s, ⟨p + (shortB s.length ++ s).length, wh, 0⟩) := by
  have h' : L.drop p = shortB s.length ++ (s ++ rest) := by rw [h, List.append_assoc]
  have hd : L.drop (p + (shortB s.length).length) = s ++ rest := by rw [← List.drop_drop, h', List.drop_left]
  have hl := congrArg List.length hd
  rw [List.length_drop, List.length_append] at hl
  have h1 : ¬ (m.toNat < s.length) := by omega
  have h2 : ¬ (L.length - (p + (shortB s.length).length) < s.length) := by omega
  unfold rText
  simp only [h', peekS_shortB hs, hd]
  simp [h1, h2, Nat.add_assoc]
theorem back_next {x : List UInt8} (h : L.drop p = x ++ rest) : L.drop (p + x.length) = rest := by rw [← List.drop_drop, h, List.drop_left]
end
end Go.AB

/- Programs as data, and as bytes; plain. No program in sight. -/
namespace Go.AB
open Go.RowKit

/-- What an operation names, as letters. -/
def namedL : Nat → List UInt8
  | 1 => [97, 110] | 2 => [97, 98] | 3 => [97, 98, 99] | 4 => [97, 98, 99] | 5 => [97, 98, 99] | 6 => [97, 98, 99] | 7 => [97, 98, 99]
  | 8 => [110] | 9 => [97, 110] | 10 => [97] | 11 => [97, 110] | 12 => [97, 110] | 13 => [97, 110] | 14 => [97, 110]
  | 15 => [110] | 16 => [110] | 17 => [110] | 18 => [110] | 19 => [110] | _ => []
def namedI (op : Int) : List UInt8 := if op < 1 then [] else namedL op.toNat
def hasB (c : UInt8) (l : List UInt8) : Bool := l.contains c
theorem hasB_nil (c : UInt8) : hasB c [] = false := rfl
theorem hasB_cons (c x : UInt8) (l : List UInt8) : hasB c (x :: l) = (if x = c then true else hasB c l) := by
  unfold hasB
  by_cases h : x = c
  · subst h; simp
  · have h2 : ¬ c = x := fun e => h e.symm
    simp [h, h2]
/-- What an operation names: A, B, C, N. -/
def nA (op : Int) : Bool := hasB 97 (namedI op)
def nB (op : Int) : Bool := hasB 98 (namedI op)
def nC (op : Int) : Bool := hasB 99 (namedI op)
def nN (op : Int) : Bool := hasB 110 (namedI op)
theorem namedI_out {op : Int} (h : op < 1 ∨ 20 ≤ op) : namedI op = [] := by
  unfold namedI
  rcases h with h | h
  · rw [if_pos h]
  · rw [if_neg (by omega)]
    obtain ⟨k, rfl⟩ : ∃ k : Nat, op = k + 20 := ⟨(op - 20).toNat, by omega⟩
    rw [show ((k : Int) + 20).toNat = k + 20 from by omega]
    rfl

/-- A variable, a volatile, or a barrier. -/
structure VarD where
  name : ByteArray
  first : Int
structure InsD where
  op : Int
  a : Int
  b : Int
  c : Int
  n : Int
structure PlcD where
  line : Int
  col : Int
structure ThrD where
  name : ByteArray
  code : List InsD
  places : List PlcD
structure PrgD where
  vars : List VarD
  vols : List VarD
  locks : List ByteArray
  bars : List VarD
  thrs : List ThrD

def varC (v : VarD) : List Value := [.string v.name, .int .i64 v.first]
def insC (x : InsD) : List Value := [.int .i64 x.op, .int .i64 x.a, .int .i64 x.b, .int .i64 x.c, .int .i64 x.n]
def plcC (p : PlcD) : List Value := [.int .i64 p.line, .int .i64 p.col]

/-- Is a register right? -/
def regB (v : Int) (named : Bool) : Bool := if named then decide (0 ≤ v) && decide (v ≤ 15) else v == 0
def insB (x : InsD) : Bool := decide (1 ≤ x.op) && decide (x.op ≤ 20) && regB x.a (nA x.op) && regB x.b (nB x.op) && regB x.c (nC x.op) && (nN x.op || x.n == 0)
def plcB (p : PlcD) : Bool := decide (0 ≤ p.line) && decide (p.line ≤ 2147483647) && decide (0 ≤ p.col) && decide (p.col ≤ 2147483647)
def varsB (l : List VarD) : Bool := decide (l.length ≤ 4096) && l.all fun v => decide (v.name.size ≤ 24)
def locksB (l : List ByteArray) : Bool := decide (l.length ≤ 4096) && l.all fun v => decide (v.size ≤ 24)
def thrB (t : ThrD) : Bool := decide (t.name.size ≤ 24) && decide (t.code.length ≤ 4096) && decide (t.places.length = t.code.length) && (t.code.all insB && t.places.all plcB)
def codeSum (l : List ThrD) : Nat := l.foldl (fun s t => s + t.code.length) 0
def prgB (p : PrgD) : Bool := varsB p.vars && varsB p.vols && locksB p.locks && varsB p.bars && decide (p.thrs.length ≤ 65535) && (p.thrs.all thrB && decide (codeSum p.thrs ≤ 262144))

/-- The bytes. -/
def textB (s : ByteArray) : List UInt8 := shortB s.size ++ s.data.toList
def varB (v : VarD) : List UInt8 := textB v.name ++ shortB (zig v.first)
def varsL (l : List VarD) : List UInt8 := shortB l.length ++ l.flatMap varB
def insL (line : Int) (x : InsD) (p : PlcD) : List UInt8 :=
  [UInt8.ofNat x.op.toNat] ++ (if nA x.op then [UInt8.ofNat (x.a + 16 * x.b).toNat] else []) ++ (if nC x.op then [UInt8.ofNat x.c.toNat] else []) ++
    (if nN x.op then shortB (zig x.n) else []) ++ shortB (zig (p.line - line)) ++ shortB p.col.toNat
def inssL : Int → List InsD → List PlcD → List UInt8
  | line, x :: xs, p :: ps => insL line x p ++ inssL p.line xs ps
  | _, _, _ => []
def thrL (t : ThrD) : List UInt8 := textB t.name ++ shortB t.code.length ++ inssL 0 t.code t.places
def bodyL (p : PrgD) : List UInt8 :=
  varsL p.vars ++ varsL p.vols ++ (shortB p.locks.length ++ p.locks.flatMap textB) ++ varsL p.bars ++ (shortB p.thrs.length ++ p.thrs.flatMap thrL)
end Go.AB

/- Plain definitions and laws for the frames of the wire layer. No program in sight. -/
namespace Go.AB
open Go.RowKit

def sumB (l : List UInt8) : Nat := crcSum 4294967295 l ^^^ 4294967295
theorem xorBegin_lt {c : Nat} (h : c < 4294967296) : c ^^^ 4294967295 < 4294967296 := Nat.xor_lt_two_pow (n := 32) h (by omega)
theorem sumB_lt (l : List UInt8) : sumB l < 4294967296 := xorBegin_lt (crcSum_lt l (by omega))
theorem xorBegin (c : Nat) (h : c < 4294967296) : bits .xor .u32 (c : Int) 4294967295 = ((c ^^^ 4294967295 : Nat) : Int) := by
  rw [show (4294967295 : Int) = ((4294967295 : Nat) : Int) from rfl, u32_xor_nat _ _ h (by omega)]
def headB (kind : UInt8) (n : Nat) : List UInt8 := kind :: fixedB 4 n
def frameB (kind : UInt8) (body : List UInt8) : List UInt8 := [97, 98] ++ headB kind body.length ++ fixedB 4 (sumB (headB kind body.length ++ body)) ++ body
theorem headB_length (k : UInt8) (n : Nat) : (headB k n).length = 5 := by simp [headB, fixedB_length]
theorem frameB_length (k : UInt8) (body : List UInt8) : (frameB k body).length = body.length + 11 := by simp [frameB, headB_length, fixedB_length]; omega

/-- What is taken off a frame: the kind, the body, what is wrong. -/
def openB (l : List UInt8) : UInt8 × List UInt8 × Nat :=
  if l.length < 11 ∨ l[0]? ≠ some 97 ∨ l[1]? ≠ some 98 then (0, [], 14)
  else if 16777216 < leNat ((l.drop 3).take 4) then (0, [], 14)
  else if l.length - 11 < leNat ((l.drop 3).take 4) then (0, [], 10)
  else if leNat ((l.drop 3).take 4) < l.length - 11 then (0, [], 13)
  else if (l.drop 7).take 4 ≠ fixedB 4 (sumB ((l.drop 2).take 5 ++ l.drop 11)) then (0, [], 15)
  else (l.getD 2 0, l.drop 11, 0)

end Go.AB

/- Walks of the wire layer: the widths of the numbers. -/
namespace Go.Proofs.Ytbikekgljabalaa
open Go.RowKit Go.AB

set_option maxHeartbeats 400000 in
theorem width_u8 (w : World) : Calls Try.prog 99 #[] w fun e w' => e = .returned (.int .i64 1) ∧ w = w' := by
  go_enter Try.func99, Try.ntmps99
  go_wp2
  refine wp_loop_rounds 2 ?_
  repeat (rw [rounds_succ]; go_wp2)
  go_ret
  exact ⟨rfl, rfl⟩

set_option maxHeartbeats 400000 in
theorem width_u32 (w : World) : Calls Try.prog 100 #[] w fun e w' => e = .returned (.int .i64 4) ∧ w = w' := by
  go_enter Try.func100, Try.ntmps100
  go_wp2
  refine wp_loop_rounds 5 ?_
  repeat (rw [rounds_succ]; go_wp2)
  go_ret
  exact ⟨rfl, rfl⟩

end Go.Proofs.Ytbikekgljabalaa

/- Walks of the wire layer: the sum. -/
namespace Go.Proofs.Ytbikekgljabalaa
open Go.RowKit Go.AB

set_option maxHeartbeats 400000 in
theorem sum_calls (c : Nat) (hc : c < 4294967296) (v : Value) (l : List UInt8) (w : World) (hv : Bytes w v l) (hl : l.length ≤ 4611686018427387904) :
    Calls Try.prog 80 #[.int .u32 c, v] w fun e w' => e = .returned (.int .u32 (crcSum c l)) ∧ w = w' := by
  obtain ⟨ao, cap, rfl, _, _, _, hcells⟩ := hv.out
  clear hv
  go_enter Try.func80, Try.ntmps80
  go_wp2
  go_loop [0, 6, 9] (fun x _ i => ∃ k : Nat, k ≤ l.length ∧ i = .int .i64 k ∧ x = .int .u32 (crcSum c (l.take k))) (fun _ _ i => l.length - (intOf i).toNat)
  case atStart => exact ⟨0, Nat.zero_le _, rfl, rfl⟩
  case round =>
    obtain ⟨k, hk, rfl, rfl⟩ := hrel
    have hn := crcSum_lt (l.take k) hc
    obtain ⟨n, hne⟩ : ∃ n, crcSum c (l.take k) = n := ⟨_, rfl⟩
    rw [hne] at hn ⊢
    by_cases hlt : k < l.length
    · have hs : crcSum c (l.take (k + 1)) = crcByte n l[k] := by rw [take_snoc l k hlt, crcSum_snoc, hne]
      obtain ⟨b, off, rfl, hcell⟩ := hcells (by omega)
      have hk1 := hcell k hlt
      have hx := crcXor_u32 n hn l[k]
      have hx2 := xor_lt32 n hn l[k]
      have HS := hid hs
      clear hcells hcell hs hne
      go_wp2
      clear hx
      go_loop [0, 17] (fun c i => ∃ q : Nat, q ≤ 8 ∧ i = .int .i64 q ∧ c = .int .u32 (crcBits q (n ^^^ l[k].toNat))) (fun _ i => 8 - (intOf i).toNat)
      case atStart => exact ⟨0, by omega, rfl, rfl⟩
      case round =>
        obtain ⟨q, hq, rfl, rfl⟩ := hrel
        have hb := crcBit_u32 _ (crcBits_lt q hx2)
        go_wp2
        · go_round
          case rel => exact ⟨q + 1, by omega, by go_num, rfl⟩
          case measure => simp [intOf]; omega
        · go_round
          case rel => exact ⟨k + 1, by omega, by go_num, (by have e : q = 8 := (by omega); subst e; rw [HS.out]; rfl)⟩
          case measure => simp [intOf]; omega
    · have HN := hid hne
      clear hne
      go_wp2
      go_ret
      exact ⟨(by rw [← HN.out, List.take_of_length_le (by omega)]; rfl), rfl⟩
end Go.Proofs.Ytbikekgljabalaa

/- Walks of the wire layer: short numbers laid. -/
namespace Go.Proofs.Ytbikekgljabalaa
open Go.RowKit Go.AB

theorem info_u8 : (Try.prog.info? 5).map (fun i => (i.zero, i.size, i.bytes)) = some (some (.int .u8 0), 1, 1) := by kernel_rfl
theorem elem_u8 : ElemOk Try.prog 29 5 1 1 := .of Try.underlying29 info_u8 rfl (by decide)

theorem or128 (u : Nat) : bits .or .u8 ((u : Int) % 256) 128 = ((UInt8.ofNat (128 + u % 128)).toNat : Int) := by
  have e : ((u : Int) % 256) = ((u % 256 : Nat) : Int) := by omega
  rw [e, show (128 : Int) = ((128 : Nat) : Int) from rfl, u8_or_nat _ _ (by omega) (by decide)]
  congr 1
  have : ∀ x < 256, x ||| 128 = (128 + x % 128) % 256 := by decide +kernel
  rw [this _ (by omega)]
  simp

/-- Bytes are laid: the writer at block b holds l. -/
def LaidW (T U : Nat) (w : World) (b : Nat) (r : Option Nat) (l : List UInt8) (w' : World) : Prop :=
  ∃ l' r' ao' cap', Wr T U w' b r' l' ao' cap' ∧ Chg (b :: r.toList) w w' ∧ Fresh w r r' ∧ Hid (l' = l)
theorem LaidW.of {T U : Nat} {w W w' : World} {b : Nat} {r : Option Nat} {l : List UInt8} (h : LaidW T U W b r l w') (hc : Chg [] w W) : LaidW T U w b r l w' := by
  obtain ⟨l', r', ao', cap', h1, h2, h3, h4⟩ := h
  exact ⟨l', r', ao', cap', h1, hc.nil.trans' h2, h3.mono hc.size, h4⟩
theorem LaidW.to {T U : Nat} {w w' : World} {b : Nat} {r : Option Nat} {l l2 : List UInt8} (h : LaidW T U w b r l w') (he : l = l2) : LaidW T U w b r l2 w' := he ▸ h
def ShortPost (T U : Nat) (w : World) (b : Nat) (r : Option Nat) (l : List UInt8) (e : Ending) (w' : World) : Prop :=
  e = .returned (.tuple #[]) ∧ LaidW T U w b r l w'

set_option maxHeartbeats 400000 in
set_option maxRecDepth 100000 in
theorem short_calls (u0 : Nat) (hu0 : U64 u0) (w : World) (b : Nat) (r : Option Nat) (l : List UInt8) (ao0 : Option Addr) (cap0 : Nat) (hW : Wr 73 5 w b r l ao0 cap0) (hl : l.length ≤ 1099511627776) :
    Calls Try.prog 77 #[.pointer (some ⟨b, 0, none⟩), .int .u64 u0] w (ShortPost 73 5 w b r (l ++ shortB u0)) := by
  have hl10 := shortB_len10 hu0
  go_enter Try.func77, Try.ntmps77
  go_wp2_with fail
  go_loopw [1] (fun x wr => ∃ u r1 l1 ao1 cap1, x = .int .u64 (u : Nat) ∧ U64 u ∧ Wr 73 5 wr b r1 l1 ao1 cap1 ∧ l1 ++ shortB u = l ++ shortB u0 ∧ Chg (b :: r.toList) w wr ∧ Fresh w r r1)
    (fun x _ => (intOf x).toNat)
  case atStart => exact ⟨u0, r, l, ao0, cap0, rfl, hu0, hW, rfl, Chg.refl _ _, Fresh.refl _ _⟩
  case round =>
    obtain ⟨u, r1, l1, ao1, cap1, rfl, hu, hW1, hll, hch, hfr⟩ := hrel
    have hlen : l1.length ≤ l.length + 10 := by
      have := congrArg List.length hll
      simp only [List.length_append] at this
      omega
    have hc1 := hW1.cell
    have HLL := hid hll
    clear hll
    have hrow := fun o => hW1.row.keep ((Chg.refl [] wr).alloc o) (by simp)
    by_cases h : u < 128
    · go_wp2_with (at_builtin; refine wpList_app rfl _ _ 29 rfl elem_u8 rfl (hrow _) rfl (View.one _ _ _) (by simp [Value.oneCell']) (by unfold maxLen; omega) (by omega) (fun ao' cap' r' w2 hr2 hc2 hf2 _ => halt (fun X hX => ?_)))
      rw [hX.out]; clear hX
      obtain ⟨hcell, hfree⟩ := hW1.put_cell ((Chg.refl [] wr).alloc _) hc2
      go_wp2
      go_end0
      obtain ⟨p1, p2, p3⟩ := hW1.put (l' := l1 ++ shortB u) ((Chg.refl [] wr).alloc _) (by rw [shortB_lt h, List.map_append]; simpa [B, Nat.mod_eq_of_lt (show u < 256 by omega)] using hr2) hc2 hf2
      exact ⟨rfl, _, r', ao', cap', p1, hch.trans p2 (fun x hx => by
        rcases List.mem_cons.1 hx with h1 | h1
        · exact .inl (by simp [h1])
        · exact (hfr x (by simpa using h1)).imp (fun h2 => by simp [h2]) id), hfr.trans hch.size p3, HLL⟩
    · go_wp2_with (at_builtin; refine wpList_app rfl _ _ 29 rfl elem_u8 rfl (hrow _) rfl (View.one _ _ _) (by simp [Value.oneCell']) (by unfold maxLen; omega) (by omega) (fun ao' cap' r' w2 hr2 hc2 hf2 _ => halt (fun X hX => ?_)))
      rw [hX.out]; clear hX
      obtain ⟨hcell, hfree⟩ := hW1.put_cell ((Chg.refl [] wr).alloc _) hc2
      go_wp2
      obtain ⟨p1, p2, p3⟩ := hW1.put (l' := l1 ++ [UInt8.ofNat (128 + u % 128)]) ((Chg.refl [] wr).alloc _) (by rw [List.map_append]; simpa [B, or128] using hr2) hc2 hf2
      go_roundw
      case rel => exact ⟨u / 128, r', _, ao', cap', rfl, hu.div 128, p1, (by rw [List.append_assoc]; simpa [shortB_ge (Nat.le_of_not_lt h)] using HLL.out), hch.trans p2 (fun x hx => by
        rcases List.mem_cons.1 hx with h1 | h1
        · exact .inl (by simp [h1])
        · exact (hfr x (by simpa using h1)).imp (fun h2 => by simp [h2]) id), hfr.trans hch.size p3⟩
      case measure => simp [intOf]; omega
end Go.Proofs.Ytbikekgljabalaa

/- Walks of the wire layer: numbers of fixed width laid. -/
namespace Go.Proofs.Ytbikekgljabalaa
open Go.RowKit Go.AB

set_option maxHeartbeats 1000000 in
set_option maxRecDepth 100000 in
theorem put_u8 (xs : List Nat) (hxs : ∀ m ∈ xs, m < 256) (v : Value) (w : World) (b : Nat) (r : Option Nat) (l : List UInt8) (ao0 : Option Addr) (cap0 : Nat) (hW : Wr 73 5 w b r l ao0 cap0) (hl : l.length ≤ 1099511627776)
    (hv : View w 1 v xs.length (xs.map (fun m : Nat => Value.int .u8 (m : Int)))) (hvb : 0 < xs.length → ∀ g, v.ownBlock = some g → g ≠ b ∧ r ≠ some g) (hn : xs.length ≤ 1099511627776) :
    Calls Try.prog 78 #[.pointer (some ⟨b, 0, none⟩), v] w (ShortPost 73 5 w b r (l ++ xs.flatMap (fun m => fixedB 1 m))) := by
  obtain ⟨_, _, ao, cap, rfl, _, _, _, hcells⟩ := hv
  go_enter Try.func78, Try.ntmps78
  go_wp2_with fail
  go_loopw [5, 6, 11] (fun _ _ i wr => ∃ k r1 ao1 cap1, k ≤ xs.length ∧ i = .int .i64 (k : Nat) ∧ Wr 73 5 wr b r1 (l ++ (xs.take k).flatMap (fun m => fixedB 1 m)) ao1 cap1 ∧ Chg (b :: r.toList) w wr ∧ Fresh w r r1)
    (fun _ _ i _ => xs.length - (intOf i).toNat)
  case atStart => exact ⟨0, r, ao0, cap0, by omega, rfl, by simpa using hW, Chg.refl _ _, Fresh.refl _ _⟩
  case round =>
    obtain ⟨k, r1, ao1, cap1, hk, rfl, hW1, hch, hfr⟩ := hrel
    by_cases hlt : k < xs.length
    · obtain ⟨bb, off, rfl, hc⟩ := hcells (by omega)
      have hbb := hvb (by omega) bb rfl
      have hck : wr.cell? ⟨bb, off + k, none⟩ = some (.int .u8 ((xs[k] : Nat) : Int)) := hch.cell ((hc k (by omega)).trans (by simp [List.getD, hlt])) (by simp; exact ⟨hbb.1, hbb.2⟩)
      have hxk := hxs xs[k] (List.getElem_mem hlt)
      have hu0 : U64 xs[k] := (Nat.lt_of_lt_of_le (hxs _ (List.getElem_mem hlt)) (by decide))
      have hll : (l ++ (xs.take k).flatMap (fun m => fixedB 1 m)).length ≤ 17592186044416 := by
        have := flat_fixed_len 1 (xs.take k) (fun m => fixedB 1 m) (fun _ => fixedB_length _ _)
        rw [List.length_append, this, List.length_take]; omega
      have hsn : l ++ (xs.take (k + 1)).flatMap (fun m => fixedB 1 m) = (l ++ (xs.take k).flatMap (fun m => fixedB 1 m)) ++ fixedB 1 xs[k] := by
        rw [take_snoc xs k hlt, List.flatMap_append, List.append_assoc]; simp
      have HS := hid hsn
      clear hc hcells hsn hxs
      obtain ⟨l1, hl1⟩ : ∃ l1, l ++ (xs.take k).flatMap (fun m => fixedB 1 m) = l1 := ⟨_, rfl⟩
      rw [hl1] at hW1 hll HS
      clear hl1
      go_wp2_with (go_at_call 99; refine (width_u8 _).mono ?_; rintro e w' ⟨rfl, rfl⟩)
      obtain ⟨wo, rfl⟩ : ∃ wo : World, wo = wr := ⟨_, rfl⟩
      clear hck
      go_loopw [6, 18] (fun x i wr => ∃ q u r2 l2 ao2 cap2, q ≤ 1 ∧ i = .int .i64 (q : Nat) ∧ x = .int .u64 (u : Nat) ∧ U64 u ∧ Wr 73 5 wr b r2 l2 ao2 cap2 ∧ l2 ++ fixedB (1 - q) u = l1 ++ fixedB 1 xs[k] ∧ Chg (b :: r.toList) w wr ∧ Fresh w r r2)
        (fun _ i _ => 1 - (intOf i).toNat)
      case atStart => exact ⟨0, xs[k], r1, l1, ao1, cap1, by omega, rfl, rfl, hu0, hW1, rfl, hch, hfr⟩
      case round =>
        obtain ⟨q, u, r2, l2, ao2, cap2, hq, rfl, rfl, hu, hW2, hl2, hch2, hfr2⟩ := hrel
        have hlen : l2.length ≤ 17592186044516 := by
          have := congrArg List.length hl2
          simp only [List.length_append, fixedB_length] at this
          omega
        have hc2 := hW2.cell
        have hrow := fun o => hW2.row.keep ((Chg.refl [] wr).alloc o) (by simp)
        have HLL := hid hl2
        clear hl2 hch hfr hW1
        by_cases hq8 : q < 1
        · go_wp2_with (at_builtin; refine wpList_app rfl _ _ 29 rfl elem_u8 rfl (hrow _) rfl (View.one _ _ _) (by simp [Value.oneCell']) (by unfold maxLen; omega) (by omega) (fun ao' cap' r' w2 hr2 hch3 hf2 _ => halt (fun X hX => ?_)))
          rw [hX.out]; clear hX
          obtain ⟨hcell, hfree⟩ := hW2.put_cell ((Chg.refl [] wr).alloc _) hch3
          go_wp2
          obtain ⟨p1, p2, p3⟩ := hW2.put (l' := l2 ++ [UInt8.ofNat u]) ((Chg.refl [] wr).alloc _) (by rw [List.map_append]; simpa [B] using hr2) hch3 hf2
          go_roundw
          case rel => exact ⟨q + 1, u / 256, r', _, ao', cap', by omega, by go_num, rfl, hu.div 256, p1, (by rw [List.append_assoc, ← HLL.out, show 1 - q = (1 - (q + 1)) + 1 from by omega]; rfl), hch2.trans p2 (fun x hx => by
            rcases List.mem_cons.1 hx with h1 | h1
            · exact .inl (by simp [h1])
            · exact (hfr2 x (by simpa using h1)).imp (fun h2 => by simp [h2]) id), hfr2.trans hch2.size p3⟩
          case measure => simp [intOf]; omega
        · go_wp2
          go_roundw
          case rel => exact ⟨k + 1, r2, ao2, cap2, by omega, by go_num, (by
            have hq' : 1 - q = 0 := by omega
            have := HLL.out
            rw [hq'] at this
            rw [show fixedB 0 u = [] from rfl, List.append_nil] at this
            rw [HS.out, ← this]; exact hW2), hch2, hfr2⟩
          case measure => simp [intOf]; omega
    · have he : xs.take k = xs := List.take_of_length_le (by omega)
      rw [he] at hW1
      clear hcells he
      go_wp2
      go_end0
      exact ⟨rfl, _, r1, ao1, cap1, hW1, hch, hfr, hid rfl⟩

set_option maxHeartbeats 1000000 in
set_option maxRecDepth 100000 in
theorem put_u32 (xs : List Nat) (hxs : ∀ m ∈ xs, m < 4294967296) (v : Value) (w : World) (b : Nat) (r : Option Nat) (l : List UInt8) (ao0 : Option Addr) (cap0 : Nat) (hW : Wr 73 5 w b r l ao0 cap0) (hl : l.length ≤ 1099511627776)
    (hv : View w 1 v xs.length (xs.map (fun m : Nat => Value.int .u32 (m : Int)))) (hvb : 0 < xs.length → ∀ g, v.ownBlock = some g → g ≠ b ∧ r ≠ some g) (hn : xs.length ≤ 1099511627776) :
    Calls Try.prog 79 #[.pointer (some ⟨b, 0, none⟩), v] w (ShortPost 73 5 w b r (l ++ xs.flatMap (fun m => fixedB 4 m))) := by
  obtain ⟨_, _, ao, cap, rfl, _, _, _, hcells⟩ := hv
  go_enter Try.func79, Try.ntmps79
  go_wp2_with fail
  go_loopw [5, 6, 11] (fun _ _ i wr => ∃ k r1 ao1 cap1, k ≤ xs.length ∧ i = .int .i64 (k : Nat) ∧ Wr 73 5 wr b r1 (l ++ (xs.take k).flatMap (fun m => fixedB 4 m)) ao1 cap1 ∧ Chg (b :: r.toList) w wr ∧ Fresh w r r1)
    (fun _ _ i _ => xs.length - (intOf i).toNat)
  case atStart => exact ⟨0, r, ao0, cap0, by omega, rfl, by simpa using hW, Chg.refl _ _, Fresh.refl _ _⟩
  case round =>
    obtain ⟨k, r1, ao1, cap1, hk, rfl, hW1, hch, hfr⟩ := hrel
    by_cases hlt : k < xs.length
    · obtain ⟨bb, off, rfl, hc⟩ := hcells (by omega)
      have hbb := hvb (by omega) bb rfl
      have hck : wr.cell? ⟨bb, off + k, none⟩ = some (.int .u32 ((xs[k] : Nat) : Int)) := hch.cell ((hc k (by omega)).trans (by simp [List.getD, hlt])) (by simp; exact ⟨hbb.1, hbb.2⟩)
      have hxk := hxs xs[k] (List.getElem_mem hlt)
      have hu0 : U64 xs[k] := (Nat.lt_of_lt_of_le (hxs _ (List.getElem_mem hlt)) (by decide))
      have hll : (l ++ (xs.take k).flatMap (fun m => fixedB 4 m)).length ≤ 17592186044416 := by
        have := flat_fixed_len 4 (xs.take k) (fun m => fixedB 4 m) (fun _ => fixedB_length _ _)
        rw [List.length_append, this, List.length_take]; omega
      have hsn : l ++ (xs.take (k + 1)).flatMap (fun m => fixedB 4 m) = (l ++ (xs.take k).flatMap (fun m => fixedB 4 m)) ++ fixedB 4 xs[k] := by
        rw [take_snoc xs k hlt, List.flatMap_append, List.append_assoc]; simp
      have HS := hid hsn
      clear hc hcells hsn hxs
      obtain ⟨l1, hl1⟩ : ∃ l1, l ++ (xs.take k).flatMap (fun m => fixedB 4 m) = l1 := ⟨_, rfl⟩
      rw [hl1] at hW1 hll HS
      clear hl1
      go_wp2_with (go_at_call 100; refine (width_u32 _).mono ?_; rintro e w' ⟨rfl, rfl⟩)
      obtain ⟨wo, rfl⟩ : ∃ wo : World, wo = wr := ⟨_, rfl⟩
      clear hck
      go_loopw [6, 18] (fun x i wr => ∃ q u r2 l2 ao2 cap2, q ≤ 4 ∧ i = .int .i64 (q : Nat) ∧ x = .int .u64 (u : Nat) ∧ U64 u ∧ Wr 73 5 wr b r2 l2 ao2 cap2 ∧ l2 ++ fixedB (4 - q) u = l1 ++ fixedB 4 xs[k] ∧ Chg (b :: r.toList) w wr ∧ Fresh w r r2)
        (fun _ i _ => 4 - (intOf i).toNat)
      case atStart => exact ⟨0, xs[k], r1, l1, ao1, cap1, by omega, rfl, rfl, hu0, hW1, rfl, hch, hfr⟩
      case round =>
        obtain ⟨q, u, r2, l2, ao2, cap2, hq, rfl, rfl, hu, hW2, hl2, hch2, hfr2⟩ := hrel
        have hlen : l2.length ≤ 17592186044516 := by
          have := congrArg List.length hl2
          simp only [List.length_append, fixedB_length] at this
          omega
        have hc2 := hW2.cell
        have hrow := fun o => hW2.row.keep ((Chg.refl [] wr).alloc o) (by simp)
        have HLL := hid hl2
        clear hl2 hch hfr hW1
        by_cases hq8 : q < 4
        · go_wp2_with (at_builtin; refine wpList_app rfl _ _ 29 rfl elem_u8 rfl (hrow _) rfl (View.one _ _ _) (by simp [Value.oneCell']) (by unfold maxLen; omega) (by omega) (fun ao' cap' r' w2 hr2 hch3 hf2 _ => halt (fun X hX => ?_)))
          rw [hX.out]; clear hX
          obtain ⟨hcell, hfree⟩ := hW2.put_cell ((Chg.refl [] wr).alloc _) hch3
          go_wp2
          obtain ⟨p1, p2, p3⟩ := hW2.put (l' := l2 ++ [UInt8.ofNat u]) ((Chg.refl [] wr).alloc _) (by rw [List.map_append]; simpa [B] using hr2) hch3 hf2
          go_roundw
          case rel => exact ⟨q + 1, u / 256, r', _, ao', cap', by omega, by go_num, rfl, hu.div 256, p1, (by rw [List.append_assoc, ← HLL.out, show 4 - q = (4 - (q + 1)) + 1 from by omega]; rfl), hch2.trans p2 (fun x hx => by
            rcases List.mem_cons.1 hx with h1 | h1
            · exact .inl (by simp [h1])
            · exact (hfr2 x (by simpa using h1)).imp (fun h2 => by simp [h2]) id), hfr2.trans hch2.size p3⟩
          case measure => simp [intOf]; omega
        · go_wp2
          go_roundw
          case rel => exact ⟨k + 1, r2, ao2, cap2, by omega, by go_num, (by
            have hq' : 4 - q = 0 := by omega
            have := HLL.out
            rw [hq'] at this
            rw [show fixedB 0 u = [] from rfl, List.append_nil] at this
            rw [HS.out, ← this]; exact hW2), hch2, hfr2⟩
          case measure => simp [intOf]; omega
    · have he : xs.take k = xs := List.take_of_length_le (by omega)
      rw [he] at hW1
      clear hcells he
      go_wp2
      go_end0
      exact ⟨rfl, _, r1, ao1, cap1, hW1, hch, hfr, hid rfl⟩

end Go.Proofs.Ytbikekgljabalaa

/- Walks of the wire layer: the writer's other methods. -/
namespace Go.Proofs.Ytbikekgljabalaa
open Go.RowKit Go.AB

theorem chg_step {a w w' : World} {b : Nat} {r r1 : Option Nat} (h : Chg (b :: r.toList) a w) (hf : Fresh a r r1) (k : Chg (b :: r1.toList) w w') : Chg (b :: r.toList) a w' :=
  h.trans k (fun x hx => by
    rcases List.mem_cons.1 hx with h1 | h1
    · exact .inl (by simp [h1])
    · exact (hf x (by simpa using h1)).imp (fun h2 => by simp [h2]) id)

set_option maxHeartbeats 400000 in
theorem shorts_calls (xs : List Nat) (hxs : ∀ m ∈ xs, U64 m) (v : Value) (w : World) (b : Nat) (r : Option Nat) (l : List UInt8) (ao0 : Option Addr) (cap0 : Nat) (hW : Wr 73 5 w b r l ao0 cap0) (hl : l.length ≤ 549755813888)
    (hv : View w 1 v xs.length (xs.map (fun m : Nat => Value.int .u64 (m : Int)))) (hvb : 0 < xs.length → ∀ g, v.ownBlock = some g → g ≠ b ∧ r ≠ some g) (hn : xs.length ≤ 34359738368) :
    Calls Try.prog 34 #[.pointer (some ⟨b, 0, none⟩), v] w (ShortPost 73 5 w b r (l ++ xs.flatMap shortB)) := by
  obtain ⟨_, _, ao, cap, rfl, _, _, _, hcells⟩ := hv
  go_enter Try.func34, Try.ntmps34
  go_wp2_with fail
  go_loopw [5, 10] (fun _ i wr => ∃ k r1 ao1 cap1, k ≤ xs.length ∧ i = .int .i64 (k : Nat) ∧ Wr 73 5 wr b r1 (l ++ (xs.take k).flatMap shortB) ao1 cap1 ∧ Chg (b :: r.toList) w wr ∧ Fresh w r r1)
    (fun _ i _ => xs.length - (intOf i).toNat)
  case atStart => exact ⟨0, r, ao0, cap0, by omega, rfl, by simpa using hW, Chg.refl _ _, Fresh.refl _ _⟩
  case round =>
    obtain ⟨k, r1, ao1, cap1, hk, rfl, hW1, hch, hfr⟩ := hrel
    by_cases hlt : k < xs.length
    · obtain ⟨bb, off, rfl, hc⟩ := hcells (by omega)
      have hbb := hvb (by omega) bb rfl
      have hck : wr.cell? ⟨bb, off + k, none⟩ = some (.int .u64 ((xs[k] : Nat) : Int)) := hch.cell ((hc k (by omega)).trans (by simp [List.getD, hlt])) (by simp; exact ⟨hbb.1, hbb.2⟩)
      have hu0 : U64 xs[k] := hxs _ (List.getElem_mem hlt)
      have hll : (l ++ (xs.take k).flatMap shortB).length ≤ 1099511627776 := by
        have := flat_len_le 10 (xs.take k) shortB (fun x hx => shortB_len10 (hxs x (List.mem_of_mem_take hx)))
        rw [List.length_append]; rw [List.length_take] at this; omega
      have hsn : l ++ (xs.take (k + 1)).flatMap shortB = (l ++ (xs.take k).flatMap shortB) ++ shortB xs[k] := by
        rw [take_snoc xs k hlt, List.flatMap_append, List.append_assoc]; simp
      have HS := hid hsn
      clear hc hcells hsn hxs
      go_wp2_with (go_at_call 77; refine (short_calls _ hu0 _ _ _ _ _ _ hW1 hll).mono ?_; rintro e w' ⟨rfl, l2, r2, ao2, cap2, hW2, hch2, hfr2, HL2⟩)
      go_roundw
      case rel => exact ⟨k + 1, r2, ao2, cap2, by omega, by go_num, (by rw [HS.out, ← HL2.out]; exact hW2), chg_step hch hfr hch2, hfr.trans hch.size hfr2⟩
      case measure => simp [intOf]; omega
    · have he : xs.take k = xs := List.take_of_length_le (by omega)
      rw [he] at hW1
      clear hcells he
      go_wp2
      go_end0
      exact ⟨rfl, _, r1, ao1, cap1, hW1, hch, hfr, hid rfl⟩

set_option maxHeartbeats 400000 in
theorem text_calls (s : ByteArray) (w : World) (b : Nat) (r : Option Nat) (l : List UInt8) (ao0 : Option Addr) (cap0 : Nat) (hW : Wr 73 5 w b r l ao0 cap0) (hl : l.length ≤ 549755813888) (hs : s.size ≤ 549755813888) :
    Calls Try.prog 35 #[.pointer (some ⟨b, 0, none⟩), .string s] w (ShortPost 73 5 w b r (l ++ (shortB s.size ++ s.data.toList))) := by
  have hu : U64 s.size := by unfold U64; omega
  have hl10 := shortB_len10 hu
  go_enter Try.func35, Try.ntmps35
  go_wp2_with (go_at_call 77; refine (short_calls _ hu _ _ _ _ _ _ hW (by omega)).mono ?_; rintro e w' ⟨rfl, l2, r2, ao2, cap2, hW2, hch2, hfr2, HL2⟩; have hc := hW2.cell; refine halt (fun X hX => ?_))
  rw [hX.out]; clear hX
  have hlen : l2.length ≤ 549755813898 := by rw [HL2.out, List.length_append]; omega
  go_wp2_with (at_builtin; refine wpList_app_string rfl _ _ 29 9 rfl elem_u8 Try.underlying9 rfl hW2.row rfl (by unfold maxLen; omega) (by omega) (fun ao' cap' r' w2 hr2 hch3 hf2 _ => halt (fun X hX => ?_)))
  rw [hX.out]; clear hX
  obtain ⟨hcell, hfree⟩ := hW2.put_cell (Chg.refl [] _) hch3
  go_wp2
  go_end0
  obtain ⟨p1, p2, p3⟩ := hW2.put (l' := l2 ++ s.data.toList) (Chg.refl [] _) (by rw [List.map_append]; exact hr2) hch3 hf2
  exact ⟨rfl, _, r', ao', cap', p1, chg_step hch2 hfr2 p2, hfr2.trans hch2.size p3, hid (by rw [HL2.out, List.append_assoc])⟩

set_option maxHeartbeats 400000 in
theorem signed_calls (xs : List Int) (hxs : ∀ m ∈ xs, I64 m) (v : Value) (w : World) (b : Nat) (r : Option Nat) (l : List UInt8) (ao0 : Option Addr) (cap0 : Nat) (hW : Wr 73 5 w b r l ao0 cap0) (hl : l.length ≤ 549755813888)
    (hv : View w 1 v xs.length (xs.map (Value.int .i64))) (hvb : 0 < xs.length → ∀ g, v.ownBlock = some g → g ≠ b ∧ r ≠ some g) (hn : xs.length ≤ 34359738368) :
    Calls Try.prog 36 #[.pointer (some ⟨b, 0, none⟩), v] w (ShortPost 73 5 w b r (l ++ xs.flatMap fun x => shortB (zig x))) := by
  obtain ⟨_, _, ao, cap, rfl, _, _, _, hcells⟩ := hv
  go_enter Try.func36, Try.ntmps36
  go_wp2_with fail
  go_loopw [5, 10] (fun _ i wr => ∃ k r1 ao1 cap1, k ≤ xs.length ∧ i = .int .i64 (k : Nat) ∧ Wr 73 5 wr b r1 (l ++ (xs.take k).flatMap fun x => shortB (zig x)) ao1 cap1 ∧ Chg (b :: r.toList) w wr ∧ Fresh w r r1)
    (fun _ i _ => xs.length - (intOf i).toNat)
  case atStart => exact ⟨0, r, ao0, cap0, by omega, rfl, by simpa using hW, Chg.refl _ _, Fresh.refl _ _⟩
  case round =>
    obtain ⟨k, r1, ao1, cap1, hk, rfl, hW1, hch, hfr⟩ := hrel
    by_cases hlt : k < xs.length
    · obtain ⟨bb, off, rfl, hc⟩ := hcells (by omega)
      have hbb := hvb (by omega) bb rfl
      have hck : wr.cell? ⟨bb, off + k, none⟩ = some (.int .i64 xs[k]) := hch.cell ((hc k (by omega)).trans (by simp [List.getD, hlt])) (by simp; exact ⟨hbb.1, hbb.2⟩)
      have hx0 : I64 xs[k] := hxs _ (List.getElem_mem hlt)
      have hll : (l ++ (xs.take k).flatMap fun x => shortB (zig x)).length ≤ 1099511627776 := by
        have := flat_len_le 10 (xs.take k) (fun x => shortB (zig x)) (fun x hx => shortB_len10 (zig_U64 (hxs x (List.mem_of_mem_take hx))))
        rw [List.length_append]; rw [List.length_take] at this; omega
      have hsn : (l ++ (xs.take (k + 1)).flatMap fun x => shortB (zig x)) = (l ++ (xs.take k).flatMap fun x => shortB (zig x)) ++ shortB (zig xs[k]) := by
        rw [take_snoc xs k hlt, List.flatMap_append, List.append_assoc]; simp
      have HS := hid hsn
      clear hc hcells hsn hxs
      go_wp2_with (go_at_call 77; rw [zig_u64 hx0]; refine (short_calls _ (zig_U64 hx0) _ _ _ _ _ _ hW1 hll).mono ?_; rintro e w' ⟨rfl, l2, r2, ao2, cap2, hW2, hch2, hfr2, HL2⟩)
      go_roundw
      case rel => exact ⟨k + 1, r2, ao2, cap2, by omega, by go_num, (by rw [HS.out, ← HL2.out]; exact hW2), chg_step hch hfr hch2, hfr.trans hch.size hfr2⟩
      case measure => simp [intOf]; omega
    · have he : xs.take k = xs := List.take_of_length_le (by omega)
      rw [he] at hW1
      clear hcells he
      go_wp2
      go_end0
      exact ⟨rfl, _, r1, ao1, cap1, hW1, hch, hfr, hid rfl⟩
end Go.Proofs.Ytbikekgljabalaa

/- Walks of the wire layer: clones, what is laid by the document. -/
namespace Go.Proofs.Ytbikekgljabalaa
open Go.RowKit Go.AB

theorem run_eql_nil_u8 (w : World) (ao : Option Addr) (n cap : Nat) : (binOp .eql 29 (.slice ao n cap) (.slice none 0 0)).run Try.prog w = .ok (.bool ao.isNone) w :=
  Lib.run_eql_slice_nil w _ _ ao n cap 0 0 Try.underlying29

set_option maxHeartbeats 400000 in
set_option maxRecDepth 100000 in
theorem clone_calls (v : Value) (l : List UInt8) (w : World) (hv : Bytes w v l) (hl : l.length ≤ 1099511627776) :
    Calls Try.prog 81 #[v] w (NewB 5 w l) := by
  have hv' := hv
  have he := run_eql_nil_u8
  obtain ⟨_, _, ao, cap, rfl, _, _, hnone, _⟩ := hv
  cases ao with
  | none =>
    obtain ⟨h0, rfl⟩ := hnone rfl
    have hln : l = [] := List.eq_nil_of_length_eq_zero h0
    subst hln
    go_enter Try.func81, Try.ntmps81
    go_wp2
    go_ret
    exact NewB.mk' (Row.nil _ _ _) rfl (Fresh.refl _ _) (Chg.refl _ _)
  | some ad =>
    clear hnone
    go_enter Try.func81, Try.ntmps81
    have hr0 : ∀ W : World, Row (W.alloc (.cells #[] 5)) 5 1 (.slice (some ⟨W.heap.size, 0, none⟩) 0 0) (some W.heap.size) 0 [] := fun W =>
      ⟨World.ownsRow_made _ #[] 0 (Nat.zero_le _) (by simp [maxLen]) rfl, rfl⟩
    have hva := fun o => hv'.keep ((Chg.refl [] w).alloc o) (fun g _ => by simp)
    go_wp2_with (at_builtin; refine wpList_app rfl _ _ 29 rfl elem_u8 rfl (hr0 _) rfl (hva _) (B_one _) (by unfold maxLen; omega) (by omega) (fun ao' cap' r' w2 hr2 hc2 hf2 hnil2 => halt (fun X hX => ?_)))
    rw [hX.out]; clear hX
    go_wp2
    go_ret
    simp only [Nat.zero_add, List.nil_append] at hr2
    have hf : Fresh w none (some w.heap.size) := fun g hg => by simp at hg; exact .inr (by omega)
    have hca := (Chg.refl [] w).alloc (.cells #[] 5)
    exact NewB.mk' hr2 rfl (hf.trans hca.size hf2) (own_step (Chg.refl _ _) hf hca hc2)

set_option maxHeartbeats 400000 in
set_option maxRecDepth 100000 in
theorem bytes_calls (w : World) (b : Nat) (r : Option Nat) (l : List UInt8) (ao0 : Option Addr) (cap0 : Nat) (hW : Wr 73 5 w b r l ao0 cap0) (hl : l.length ≤ 1099511627776) :
    Calls Try.prog 39 #[.pointer (some ⟨b, 0, none⟩)] w (NewB 5 w l) := by
  have hc := hW.cell
  go_enter Try.func39, Try.ntmps39
  go_wp2_with (go_at_call 81; refine (clone_calls _ _ _ hW.row.view hl).mono ?_; rintro e w' ⟨l2, ao, cap, r2, rfl, hrow2, hfr2, hch2, HL2⟩)
  go_ret
  exact ⟨l2, ao, cap, r2, rfl, hrow2, hfr2, hch2, HL2⟩

theorem short_B (u : Nat) : B (UInt8.ofNat (128 + u % 128)) = .int .u8 (128 + (u : Int) % 128) := by
  unfold B
  congr 1
  simp
  omega

set_option maxHeartbeats 400000 in
set_option maxRecDepth 100000 in
theorem ref_short_calls (u0 : Nat) (hu0 : U64 u0) (w : World) : Calls Try.prog 96 #[.int .u64 u0] w (NewB 5 w (shortB u0)) := by
  have hl10 := shortB_len10 hu0
  go_enter Try.func96, Try.ntmps96
  go_wp2_with fail
  go_loopw [0, 3] (fun x s wr => ∃ u l1 r1 ao1 cap1, x = .int .u64 (u : Nat) ∧ U64 u ∧ s = .slice ao1 l1.length cap1 ∧ Row wr 5 1 (.slice ao1 l1.length cap1) r1 l1.length (l1.map B) ∧ Hid (l1 ++ shortB u = shortB u0) ∧ Chg [] w wr ∧ Fresh w none r1)
    (fun x _ _ => (intOf x).toNat)
  case atStart => exact ⟨u0, [], none, none, 0, rfl, hu0, rfl, Row.nil _ _ _, hid rfl, Chg.refl _ _, Fresh.refl _ _⟩
  case round =>
    obtain ⟨u, l1, r1, ao1, cap1, rfl, hu, rfl, hr1, HLL, hch, hfr⟩ := hrel
    have hlen : l1.length ≤ 10 := by
      have := congrArg List.length HLL.out
      simp only [List.length_append] at this
      omega
    have hrow := fun o => hr1.keep ((Chg.refl [] wr).alloc o) (by simp)
    have hca := fun o => (Chg.refl [] wr).alloc o
    by_cases h : u < 128
    · go_wp2_with (at_builtin; refine wpList_app rfl _ _ 29 rfl elem_u8 rfl (hrow _) rfl (View.one _ _ _) (by simp [Value.oneCell']) (by unfold maxLen; omega) (by omega) (fun ao' cap' r' w2 hr2 hc2 hf2 _ => halt (fun X hX => ?_)))
      rw [hX.out]; clear hX
      go_wp2
      go_ret
      exact NewB.mk' hr2 (by rw [← HLL.out, shortB_lt h, List.map_append]; simp [B, Nat.mod_eq_of_lt (show u < 256 by omega)]) (fresh_step hch hfr (hca _) hf2) (own_step hch hfr (hca _) hc2)
    · have hd : IntKind.u64.wrap ((u : Int) / 128) = ((u / 128 : Nat) : Int) := wrap_u64_div hu 128
      go_wp2_with (at_builtin; refine wpList_app rfl _ _ 29 rfl elem_u8 rfl (hrow _) rfl (View.one _ _ _) (by simp [Value.oneCell']) (by unfold maxLen; omega) (by omega) (fun ao' cap' r' w2 hr2 hc2 hf2 _ => halt (fun X hX => ?_)))
      rw [hX.out]; clear hX
      go_wp2
      go_roundw
      case rel => exact ⟨u / 128, l1 ++ [UInt8.ofNat (128 + u % 128)], r', ao', cap', rfl, hu.div 128, by simp, (by rw [List.map_append, List.map_cons, List.map_nil, short_B, List.length_append]; exact hr2), hid (by rw [List.append_assoc]; simpa [shortB_ge (Nat.le_of_not_lt h)] using HLL.out), own_step hch hfr (hca _) hc2, fresh_step hch hfr (hca _) hf2⟩
      case measure => simp [intOf]; omega

set_option maxHeartbeats 400000 in
set_option maxRecDepth 100000 in
theorem ref_fixed_calls (v0 : Nat) (hv0 : U64 v0) (n : Nat) (hn : n ≤ 8) (w : World) : Calls Try.prog 53 #[.int .u64 v0, .int .i64 n] w (NewB 5 w (fixedB n v0)) := by
  go_enter Try.func53, Try.ntmps53
  go_wp2_with fail
  go_loopw [0, 5, 6] (fun x s i wr => ∃ q u l1 r1 ao1 cap1, q ≤ n ∧ i = .int .i64 (q : Nat) ∧ x = .int .u64 (u : Nat) ∧ U64 u ∧ s = .slice ao1 l1.length cap1 ∧ Row wr 5 1 (.slice ao1 l1.length cap1) r1 l1.length (l1.map B) ∧ Hid (l1 ++ fixedB (n - q) u = fixedB n v0) ∧ Chg [] w wr ∧ Fresh w none r1)
    (fun _ _ i _ => n - (intOf i).toNat)
  case atStart => exact ⟨0, v0, [], none, none, 0, by omega, rfl, rfl, hv0, rfl, Row.nil _ _ _, hid rfl, Chg.refl _ _, Fresh.refl _ _⟩
  case round =>
    obtain ⟨q, u, l1, r1, ao1, cap1, hq, rfl, rfl, hu, rfl, hr1, HLL, hch, hfr⟩ := hrel
    have hlen : l1.length ≤ 8 := by
      have := congrArg List.length HLL.out
      simp only [List.length_append, fixedB_length] at this
      omega
    have hrow := fun o => hr1.keep ((Chg.refl [] wr).alloc o) (by simp)
    have hca := fun o => (Chg.refl [] wr).alloc o
    by_cases h : q < n
    · go_wp2_with (at_builtin; refine wpList_app rfl _ _ 29 rfl elem_u8 rfl (hrow _) rfl (View.one _ _ _) (by simp [Value.oneCell']) (by unfold maxLen; omega) (by omega) (fun ao' cap' r' w2 hr2 hc2 hf2 _ => halt (fun X hX => ?_)))
      rw [hX.out]; clear hX
      go_wp2
      go_roundw
      case rel => exact ⟨q + 1, u / 256, l1 ++ [UInt8.ofNat u], r', ao', cap', by omega, by go_num, congrArg (Value.int .u64) (wrap_u64_div hu 256), hu.div 256, by simp, (by simpa [B] using hr2), hid (by rw [List.append_assoc, ← HLL.out, show n - q = (n - (q + 1)) + 1 from by omega]; rfl), own_step hch hfr (hca _) hc2, fresh_step hch hfr (hca _) hf2⟩
      case measure => simp [intOf]; omega
    · go_wp2
      go_ret
      exact NewB.mk' hr1 (by rw [← HLL.out, show n - q = 0 from by omega]; simp [fixedB]) hfr hch

set_option maxHeartbeats 400000 in
set_option maxRecDepth 100000 in
theorem ref_text_calls (s : ByteArray) (hs : s.size ≤ 549755813888) (w : World) : Calls Try.prog 97 #[.string s] w (NewB 5 w (shortB s.size ++ s.data.toList)) := by
  have hu : U64 s.size := by unfold U64; omega
  have hl10 := shortB_len10 hu
  have hsz : s.data.toList.length = s.size := by rw [Array.length_toList]; rfl
  have HSZ := hid hsz
  clear hsz
  go_enter Try.func97, Try.ntmps97
  go_wp2_with (go_at_call 96; refine (ref_short_calls _ hu _).mono ?_; rintro e w' ⟨l2, ao, cap, r2, rfl, hrow2, hfr2, hch2, HL2⟩)
  go_loopw [3, 4] (fun x i wr => ∃ q l1 r1 ao1 cap1, q ≤ s.size ∧ i = .int .i64 (q : Nat) ∧ x = .slice ao1 l1.length cap1 ∧ Row wr 5 1 (.slice ao1 l1.length cap1) r1 l1.length (l1.map B) ∧ Hid (l1 = shortB s.size ++ s.data.toList.take q) ∧ Chg [] w wr ∧ Fresh w none r1)
    (fun _ i _ => s.size - (intOf i).toNat)
  case atStart => exact ⟨0, l2, r2, ao, cap, by omega, rfl, rfl, hrow2, hid (by simp [HL2.out]), hch2, hfr2⟩
  case round =>
    obtain ⟨q, l1, r1, ao1, cap1, hq, rfl, rfl, hr1, HLL, hch, hfr⟩ := hrel
    have hlen : l1.length ≤ 549755813898 := by
      have := congrArg List.length HLL.out
      have h2 := HSZ.out
      simp only [List.length_append, List.length_take] at this
      omega
    have hrow := fun o => hr1.keep ((Chg.refl [] wr).alloc o) (by simp)
    have hca := fun o => (Chg.refl [] wr).alloc o
    by_cases h : q < s.size
    · have hsn : s.data.toList.take (q + 1) = s.data.toList.take q ++ [s[q]] := take_snoc s.data.toList q (by rw [HSZ.out]; exact h)
      have HSN := hid hsn
      clear hsn
      go_wp2_with (at_builtin; refine wpList_app rfl _ _ 29 rfl elem_u8 rfl (hrow _) rfl (View.one _ _ _) (by simp [Value.oneCell']) (by unfold maxLen; omega) (by omega) (fun ao' cap' r' w2 hr2 hc2 hf2 _ => halt (fun X hX => ?_)))
      rw [hX.out]; clear hX
      go_wp2
      go_roundw
      case rel => exact ⟨q + 1, l1 ++ [s[q]], r', ao', cap', by omega, by go_num, by simp, (by simpa [B] using hr2), hid (by rw [HSN.out, HLL.out, List.append_assoc]), own_step hch hfr (hca _) hc2, fresh_step hch hfr (hca _) hf2⟩
      case measure => simp [intOf]; omega
    · go_wp2
      go_ret
      exact NewB.mk' hr1 (by rw [HLL.out, List.take_of_length_le (by rw [HSZ.out]; omega)]) hfr hch

set_option maxHeartbeats 400000 in
set_option maxRecDepth 100000 in
theorem turned_calls (x : Int) (hx : I64 x) (w : World) : Calls Try.prog 110 #[.int .i64 x] w fun e w' => e = .returned (.int .u64 (zig x)) ∧ w = w' := by
  by_cases h : x < 0
  · have ht := turned_neg hx h
    go_enter Try.func110, Try.ntmps110
    go_wp2
    go_ret
    exact ⟨rfl, rfl⟩
  · have ht := turned_pos hx h
    go_enter Try.func110, Try.ntmps110
    go_wp2
    go_ret
    exact ⟨rfl, rfl⟩

theorem ref_signed_calls (x : Int) (hx : I64 x) (w : World) : Calls Try.prog 98 #[.int .i64 x] w (NewB 5 w (shortB (zig x))) := by
  go_enter Try.func98, Try.ntmps98
  go_wp2_with (first | (go_at_call 110; refine (turned_calls x hx _).mono ?_; rintro e w' ⟨rfl, rfl⟩) | (go_at_call 96; refine (ref_short_calls _ (zig_U64 hx) _).mono ?_; rintro e w' ⟨l2, ao, cap, r2, rfl, hrow2, hfr2, hch2, HL2⟩))
  go_ret
  exact ⟨l2, ao, cap, r2, rfl, hrow2, hfr2, hch2, HL2⟩

end Go.Proofs.Ytbikekgljabalaa

/- More on rows and slices: parts, single cells written. -/
namespace Go.AB
open Go.RowKit

/-- New cells, as a slice. -/
theorem View.news (w : World) (xs : List Value) (t : TypeId) (h : xs.length ≤ maxLen) : View (w.alloc (.cells xs.toArray t)) 1 (.slice (some ⟨w.heap.size, 0, none⟩) xs.length xs.length) xs.length xs := by
  refine ⟨by simp, h, _, _, rfl, Nat.le_refl _, h, (fun h => by cases h), fun h0 => ⟨_, _, rfl, fun j hj => ?_⟩⟩
  have hj' : j < xs.length := by omega
  rw [blk_cell (blk_alloc_new w _)]
  simp [List.getD, hj']
/-- The first elements of a slice. -/
theorem View.pre {w : World} {ao : Option Addr} {cap n : Nat} {xs : List Value} (h : View w 1 (.slice ao n cap) n xs) {m : Nat} (hm : m ≤ n) : View w 1 (.slice ao m cap) m (xs.take m) := by
  obtain ⟨h1, h2, ao', cap', hv, h3, h4, h5, h6⟩ := h
  simp only [Value.slice.injEq, true_and] at hv
  obtain ⟨rfl, rfl⟩ := hv
  refine ⟨by simp; omega, by omega, _, _, rfl, by omega, h4, fun e => ⟨by have := (h5 e).1; omega, (h5 e).2⟩, fun h0 => ?_⟩
  obtain ⟨b, off, hb, hc⟩ := h6 (by omega)
  refine ⟨b, off, hb, fun j hj => ?_⟩
  rw [hc j (by omega)]
  have : j < m := by omega
  simp [List.getD, this]
/-- A row of bytes, one of them: what stands there, and the row behind a store. -/
theorem Row.at {w : World} {U : Nat} {ao : Option Addr} {cap : Nat} {r : Option Nat} {l : List UInt8} (h : Row w U 1 (.slice ao l.length cap) r l.length (l.map B)) {k : Nat} (hk : k < l.length) :
    ∃ g, ao = some ⟨g, 0, none⟩ ∧ r = some g ∧ w.cell? ⟨g, k, none⟩ = some (.int .u8 (l[k].toNat : Nat)) ∧ w.frozen? ⟨g, k, none⟩ = false ∧
      ∀ x : UInt8, Row (w.setCell ⟨g, k, none⟩ (B x)) U 1 (.slice ao l.length cap) r l.length ((l.set k x).map B) ∧ Chg [g] w (w.setCell ⟨g, k, none⟩ (B x)) := by
  rcases h.form with ⟨_, h0, _⟩ | ⟨g, cap', cur, hv, rfl, hnc, hcm, hg, hcs, ht⟩
  · omega
  · simp only [Value.slice.injEq, true_and] at hv
    obtain ⟨rfl, rfl⟩ := hv
    have hkc : k < cur.size := by omega
    have hcell : cur[k]? = some (.int .u8 (l[k].toNat : Nat)) := by
      have h1 : (cur.toList.take (l.length * 1))[k]? = (l.map B)[k]? := by rw [ht]
      rw [List.getElem?_take] at h1
      rw [if_pos (by omega)] at h1
      simp only [Array.getElem?_toList] at h1
      rw [h1]
      simp [hk, B]
    refine ⟨g, rfl, rfl, ?_, blk_free hg k, fun x => ⟨⟨⟨by simp, .inr ⟨g, cap, _, rfl, Nat.zero_le _, blk_set hg k _, hnc, hcm, ?_, ?_⟩⟩, rfl⟩, (Chg.refl [g] w).setCell (p := ⟨g, k, none⟩) (.inl (by simp)) _⟩⟩
    · rw [blk_cell hg, hcell]
    · simp [hcs]
    · rw [Array.toList_setIfInBounds, List.map_set, ← ht, List.take_set]
theorem xor255 : ∀ x : Nat, x < 256 → bits .xor .u8 (x : Int) 255 = ((255 - x : Nat) : Int) := by decide +kernel
end Go.AB

/- Walks of the frames: the sum, lists joined. -/
namespace Go.Proofs.Ytbikekgljabalaa
open Go.RowKit Go.AB
set_option linter.unusedSimpArgs false

theorem crcBit_even {c : Nat} (h : c % 2 = 0) : crcBit c = c / 2 := by unfold crcBit; rw [if_neg (by omega)]
theorem crcBit_odd {c : Nat} (h : c % 2 = 1) : crcBit c = (c / 2) ^^^ 3988292384 := by unfold crcBit; rw [if_pos h]

set_option maxHeartbeats 1000000 in
set_option maxRecDepth 100000 in
theorem q_sum_calls (v : Value) (l : List UInt8) (w : World) (hv : Bytes w v l) (hl : l.length ≤ 1099511627776) :
    Calls Try.prog 54 #[v] w fun e w' => e = .returned (.int .u32 (sumB l)) ∧ w = w' := by
  obtain ⟨ao, cap, rfl, _, _, _, hcells⟩ := hv.out
  clear hv
  go_enter Try.func54, Try.ntmps54
  go_wp2
  go_loop [3, 4, 5, 6] (fun x i _ _ => ∃ k : Nat, k ≤ l.length ∧ i = .int .i64 k ∧ x = .int .u32 (crcSum 4294967295 (l.take k))) (fun _ i _ _ => l.length - (intOf i).toNat)
  case atStart => exact ⟨0, Nat.zero_le _, rfl, rfl⟩
  case round =>
    obtain ⟨k, hk, rfl, rfl⟩ := hrel
    have hn := crcSum_lt (c := 4294967295) (l.take k) (by omega)
    obtain ⟨n, hne⟩ : ∃ n, crcSum 4294967295 (l.take k) = n := ⟨_, rfl⟩
    rw [hne] at hn ⊢
    by_cases hlt : k < l.length
    · have hs : crcSum 4294967295 (l.take (k + 1)) = crcByte n l[k] := by rw [take_snoc l k hlt, crcSum_snoc, hne]
      obtain ⟨b, off, rfl, hcell⟩ := hcells (by omega)
      have hk1 := hcell k hlt
      have hx := crcXor_u32 n hn l[k]
      have hx2 := xor_lt32 n hn l[k]
      have HS := hid hs
      clear hcells hcell hs hne
      go_wp2
      clear hx
      go_loop [3, 5, 6] (fun c i _ => ∃ q : Nat, q ≤ 8 ∧ i = .int .i64 q ∧ c = .int .u32 (crcBits q (n ^^^ l[k].toNat))) (fun _ i _ => 8 - (intOf i).toNat)
      case atStart => exact ⟨0, by omega, rfl, rfl⟩
      case round =>
        obtain ⟨q, hq, rfl, rfl⟩ := hrel
        have hb := crcBits_lt q hx2
        obtain ⟨c, hc⟩ : ∃ c, crcBits q (n ^^^ l[k].toNat) = c := ⟨_, rfl⟩
        rw [hc] at hb ⊢
        have hc1 : crcBits (q + 1) (n ^^^ l[k].toNat) = crcBit c := by rw [← hc]; rfl
        have HC1 := hid hc1
        have HC := hid hc
        clear hc hc1
        by_cases hq8 : q < 8
        · rcases Nat.mod_two_eq_zero_or_one c with h0 | h0
          · have e := crcBit_even h0
            rw [e] at HC1
            have ho : ((c : Int) % 2 == 1) = false := by simp; omega
            clear e
            go_wp2
            go_round
            case rel => exact ⟨q + 1, by omega, by go_num, by rw [HC1.out]; exact congrArg (Value.int .u32) (by omega)⟩
            case measure => simp [intOf]; omega
          · have e := crcBit_odd h0
            rw [e] at HC1
            have ho : ((c : Int) % 2 == 1) = true := by simp; omega
            have hxx : bits .xor .u32 ((c : Int) / 2) 3988292384 = (((c / 2) ^^^ 3988292384 : Nat) : Int) := by
              rw [show (c : Int) / 2 = ((c / 2 : Nat) : Int) from by omega, show (3988292384 : Int) = ((3988292384 : Nat) : Int) from rfl, u32_xor_nat _ _ (by omega) (by omega)]
            clear e
            go_wp2
            go_round
            case rel => exact ⟨q + 1, by omega, by go_num, by rw [HC1.out]⟩
            case measure => simp [intOf]; omega
        · go_wp2
          go_round
          case rel => exact ⟨k + 1, by omega, by go_num, (by have e : q = 8 := (by omega); subst e; rw [HS.out, ← HC.out]; rfl)⟩
          case measure => simp [intOf]; omega
    · have hx := xorBegin n hn
      have hne2 : crcSum 4294967295 l = n := by rw [← hne, List.take_of_length_le (by omega)]
      have HN := hid hne2
      clear hne hne2
      go_wp2
      go_ret
      exact ⟨by unfold sumB; rw [HN.out]; rfl, rfl⟩

set_option maxHeartbeats 1000000 in
set_option maxRecDepth 100000 in
theorem joined_calls (va vb : Value) (a c : List UInt8) (w : World) (ha : Bytes w va a) (hc : Bytes w vb c) (hla : a.length ≤ 549755813888) (hlc : c.length ≤ 549755813888) :
    Calls Try.prog 52 #[va, vb] w (NewB 5 w (a ++ c)) := by
  obtain ⟨aoa, capa, rfl, _, _, _, hcella⟩ := ha.out
  obtain ⟨aoc, capc, rfl, _, _, _, hcellc⟩ := hc.out
  clear ha hc
  go_enter Try.func52, Try.ntmps52
  go_wp2_with fail
  go_loopw [5, 6] (fun x i wr => ∃ k l1 r1 ao1 cap1, k ≤ a.length ∧ i = .int .i64 (k : Nat) ∧ x = .slice ao1 l1.length cap1 ∧ Row wr 5 1 (.slice ao1 l1.length cap1) r1 l1.length (l1.map B) ∧ Hid (l1 = a.take k) ∧ Chg [] w wr ∧ Fresh w none r1)
    (fun _ i _ => a.length - (intOf i).toNat)
  case atStart => exact ⟨0, [], none, none, 0, by omega, rfl, rfl, Row.nil _ _ _, hid (by simp), Chg.refl _ _, Fresh.refl _ _⟩
  case round =>
    obtain ⟨k, l1, r1, ao1, cap1, hk, rfl, rfl, hr1, HL, hch, hfr⟩ := hrel
    have hlen : l1.length ≤ 549755813888 := by rw [HL.out, List.length_take]; omega
    have hrow := fun o => hr1.keep ((Chg.refl [] wr).alloc o) (by simp)
    have hca := fun o => (Chg.refl [] wr).alloc o
    by_cases hlt : k < a.length
    · obtain ⟨bb, off, rfl, hcc⟩ := hcella (by omega)
      have hx := hch.cell (hcc k hlt) (by simp)
      have HS := hid (take_snoc a k hlt)
      clear hcc hcella hcellc
      go_wp2_with (at_builtin; refine wpList_app rfl _ _ 29 rfl elem_u8 rfl (hrow _) rfl (View.one _ _ _) (by simp [Value.oneCell']) (by unfold maxLen; omega) (by omega) (fun ao' cap' r' w2 hr2 hc2 hf2 _ => halt (fun X hX => ?_)))
      rw [hX.out]; clear hX
      go_wp2
      go_roundw
      case rel => exact ⟨k + 1, l1 ++ [a[k]], r', ao', cap', by omega, by go_num, by simp, (by simpa [B] using hr2), hid (by rw [HS.out, HL.out]), own_step hch hfr (hca _) hc2, fresh_step hch hfr (hca _) hf2⟩
      case measure => simp [intOf]; omega
    · have he : a.take k = a := List.take_of_length_le (by omega)
      rw [he] at HL
      have hl1 := HL.out
      clear HL he hcella hrow hca
      subst hl1
      obtain ⟨wo, hwo⟩ : ∃ wo : World, wo = wr := ⟨_, rfl⟩
      rw [← hwo] at hr1 hch ⊢
      clear hwo
      go_wp2_with fail
      go_loopw [5, 7] (fun x i wr => ∃ k l2 r2 ao2 cap2, k ≤ c.length ∧ i = .int .i64 (k : Nat) ∧ x = .slice ao2 l2.length cap2 ∧ Row wr 5 1 (.slice ao2 l2.length cap2) r2 l2.length (l2.map B) ∧ Hid (l2 = l1 ++ c.take k) ∧ Chg [] w wr ∧ Fresh w none r2)
        (fun _ i _ => c.length - (intOf i).toNat)
      case atStart => exact ⟨0, l1, r1, ao1, cap1, by omega, rfl, rfl, hr1, hid (by simp), hch, hfr⟩
      case round =>
        obtain ⟨k, l2, r2, ao2, cap2, hk, rfl, rfl, hr3, HL, hch3, hfr3⟩ := hrel
        have hlen2 : l2.length ≤ 1099511627776 := by rw [HL.out, List.length_append, List.length_take]; omega
        have hrow := fun o => hr3.keep ((Chg.refl [] wr).alloc o) (by simp)
        have hca := fun o => (Chg.refl [] wr).alloc o
        clear hr1
        by_cases hlt : k < c.length
        · obtain ⟨bb, off, rfl, hcc⟩ := hcellc (by omega)
          have hx := hch3.cell (hcc k hlt) (by simp)
          have HS := hid (take_snoc c k hlt)
          clear hcc hcellc
          go_wp2_with (at_builtin; refine wpList_app rfl _ _ 29 rfl elem_u8 rfl (hrow _) rfl (View.one _ _ _) (by simp [Value.oneCell']) (by unfold maxLen; omega) (by omega) (fun ao' cap' r' w2 hr2 hc2 hf2 _ => halt (fun X hX => ?_)))
          rw [hX.out]; clear hX
          go_wp2
          go_roundw
          case rel => exact ⟨k + 1, l2 ++ [c[k]], r', ao', cap', by omega, by go_num, by simp, (by simpa [B] using hr2), hid (by rw [HS.out, HL.out, List.append_assoc]), own_step hch3 hfr3 (hca _) hc2, fresh_step hch3 hfr3 (hca _) hf2⟩
          case measure => simp [intOf]; omega
        · clear hcellc
          go_wp2
          go_ret
          exact NewB.mk' hr3 (by rw [HL.out, List.take_of_length_le (by omega)]) hfr3 hch3
end Go.Proofs.Ytbikekgljabalaa

/- Walks of the wire layer: the law's helpers that make lists of numbers. -/
namespace Go.Proofs.Ytbikekgljabalaa
open Go.RowKit Go.AB

theorem info_i32 : (Try.prog.info? 21).map (fun i => (i.zero, i.size, i.bytes)) = some (some (.int .i32 0), 1, 4) := by kernel_rfl
theorem info_i64 : (Try.prog.info? 2).map (fun i => (i.zero, i.size, i.bytes)) = some (some (.int .i64 0), 1, 8) := by kernel_rfl
theorem info_u32 : (Try.prog.info? 99).map (fun i => (i.zero, i.size, i.bytes)) = some (some (.int .u32 0), 1, 4) := by kernel_rfl
theorem elem_u32 : ElemOk Try.prog 150 99 1 4 := .of Try.underlying150 info_u32 rfl (by decide)
theorem info_int : (Try.prog.info? 3).map (fun i => (i.zero, i.size, i.bytes)) = some (some (.int .i64 0), 1, 8) := by kernel_rfl
theorem elem_int : ElemOk Try.prog 124 3 1 8 := .of Try.underlying124 info_int rfl (by decide)

def cU (m : Nat) : Value := .int .u64 (m : Int)

def cv_i8 (m : Nat) : Int := IntKind.i8.wrap (m : Int)
theorem cv_i8_eq (m : Nat) : IntKind.i8.wrap (m : Int) = cv_i8 m := rfl

def cv_i16 (m : Nat) : Int := IntKind.i16.wrap (m : Int)
theorem cv_i16_eq (m : Nat) : IntKind.i16.wrap (m : Int) = cv_i16 m := rfl

def cv_i32 (m : Nat) : Int := wrap32 (m : Int)
theorem cv_i32_eq (m : Nat) : wrap32 (m : Int) = cv_i32 m := rfl

def cv_i64 (m : Nat) : Int := wrap64 (m : Int)
theorem cv_i64_eq (m : Nat) : wrap64 (m : Int) = cv_i64 m := rfl

def cv_u8 (m : Nat) : Int := (m : Int) % 256
theorem cv_u8_eq (m : Nat) : (m : Int) % 256 = cv_u8 m := rfl

def cv_u16 (m : Nat) : Int := IntKind.u16.wrap (m : Int)
theorem cv_u16_eq (m : Nat) : IntKind.u16.wrap (m : Int) = cv_u16 m := rfl

def cv_u32 (m : Nat) : Int := (m : Int) % 4294967296
theorem cv_u32_eq (m : Nat) : (m : Int) % 4294967296 = cv_u32 m := rfl

end Go.Proofs.Ytbikekgljabalaa

/- Walks of the wire layer: a step of the law's script on a writer, and what it lays by the document. -/
namespace Go.Proofs.Ytbikekgljabalaa
open Go.RowKit Go.AB

/-- A step of a script. -/
structure AddD where
  kind : Int
  width : Int
  many : List Nat
  text : ByteArray
def laidB (a : AddD) : List UInt8 :=
  if a.kind = 1 then a.many.flatMap (fixedB (sizeI a.width))
  else if a.kind = 2 then a.many.flatMap shortB
  else if a.kind = 3 then a.many.flatMap fun m => shortB (zig (cv_i64 m))
  else if a.kind = 4 then [if 0 < a.many.length then 1 else 0]
  else if a.kind = 5 then shortB a.text.size ++ a.text.data.toList
  else []

theorem map_view {w : World} {v : Value} {n : Nat} {xs : List Nat} {f g : Nat → Value} (h : View w 1 v n (xs.map f)) (he : ∀ x ∈ xs, f x = g x) : View w 1 v n (xs.map g) := by
  rwa [List.map_congr_left he] at h
theorem flat_congr {α : Type} (xs : List α) (f g : α → List UInt8) (he : ∀ x ∈ xs, f x = g x) : xs.flatMap f = xs.flatMap g := by
  induction xs with
  | nil => rfl
  | cons x xs ih => rw [List.flatMap_cons, List.flatMap_cons, he x (by simp), ih fun y hy => he y (by simp [hy])]

theorem cv_i64_I64 (m : Nat) : I64 (cv_i64 m) := by
  unfold I64 cv_i64
  have := IntKind.wrap_i64 (m : Int)
  simp only [wrap64]
  omega

theorem low_i8 (m : Nat) : lowU (cv_i8 m) % 256 ^ 1 = m % 256 ^ 1 := by
  show lowU (cv_i8 m) % 256 = m % 256
  have : cv_i8 m % 256 = (m : Int) % 256 := by unfold cv_i8; simp only [IntKind.wrap, IntKind.bits, IntKind.signed]; simp; split <;> omega
  unfold lowU; omega
theorem low_i16 (m : Nat) : lowU (cv_i16 m) % 256 ^ 2 = m % 256 ^ 2 := by
  show lowU (cv_i16 m) % 65536 = m % 65536
  have : cv_i16 m % 65536 = (m : Int) % 65536 := by unfold cv_i16; simp only [IntKind.wrap, IntKind.bits, IntKind.signed]; simp; split <;> omega
  unfold lowU; omega
theorem low_i32 (m : Nat) : lowU (cv_i32 m) % 256 ^ 4 = m % 256 ^ 4 := by
  show lowU (cv_i32 m) % 4294967296 = m % 4294967296
  have : cv_i32 m % 4294967296 = (m : Int) % 4294967296 := by unfold cv_i32 wrap32; omega
  unfold lowU; omega
theorem low_i64 (m : Nat) : lowU (cv_i64 m) % 256 ^ 8 = m % 256 ^ 8 := by
  show lowU (cv_i64 m) % 18446744073709551616 = m % 18446744073709551616
  have : cv_i64 m % 18446744073709551616 = (m : Int) % 18446744073709551616 := by unfold cv_i64 wrap64; omega
  unfold lowU; omega

theorem lawput_apart {T U : Nat} {w : World} {b : Nat} {r : Option Nat} {l : List UInt8} {ao0 : Option Addr} {cap0 : Nat} (hW : Wr T U w b r l ao0 cap0) (u : Value) (hu : ∀ g, u.ownBlock = some g → w.heap.size ≤ g) : ∀ g, u.ownBlock = some g → g ≠ b ∧ r ≠ some g := fun g hg => by
  have h1 := hu g hg
  have hlt := blk_lt hW.blk
  exact ⟨by omega, fun e => by have := hW.row.lt g e; omega⟩

section
variable (xs : List Nat) (hxs : ∀ m ∈ xs, U64 m) (v : Value) (w : World) (b : Nat) (r : Option Nat) (l : List UInt8) (ao0 : Option Addr) (cap0 : Nat) (hW : Wr 73 5 w b r l ao0 cap0) (hl : l.length ≤ 549755813888)
    (hv : View w 1 v xs.length (xs.map cU)) (hvb : 0 < xs.length → ∀ g, v.ownBlock = some g → g ≠ b ∧ r ≠ some g) (hn : xs.length ≤ 34359738000)
include hW hl hv hn
include hxs hvb
end

end Go.Proofs.Ytbikekgljabalaa

/- Walks of the wire layer: a step of the law's script on a writer. -/
namespace Go.Proofs.Ytbikekgljabalaa
open Go.RowKit Go.AB

/-- A step's value, its numbers in the slice v. -/
def addV (a : AddD) (v : Value) : Value := .agg #[.int .i64 a.kind, .int .i64 a.width, v, .string a.text]

section
variable (a : AddD) (ha : ∀ m ∈ a.many, U64 m) (v : Value) (w : World) (b : Nat) (r : Option Nat) (l : List UInt8) (ao0 : Option Addr) (cap0 : Nat) (hW : Wr 73 5 w b r l ao0 cap0) (hl : l.length ≤ 274877906944)
    (hv : View w 1 v a.many.length (a.many.map cU)) (hvb : 0 < a.many.length → ∀ g, v.ownBlock = some g → g ≠ b ∧ r ≠ some g) (hn : a.many.length ≤ 34359738000) (ht : a.text.size ≤ 274877906944)
include ha hW hl hv hvb hn ht

end
end Go.Proofs.Ytbikekgljabalaa

/- Walks of the wire layer: the reader. -/
namespace Go.Proofs.Ytbikekgljabalaa
open Go.RowKit Go.AB

section
variable {w : World} {b : Nat} {l : List UInt8} {ao : Option Addr} {cap pos wh bad : Nat} (hR : Rd 133 w b l ao cap pos wh bad)
include hR

set_option maxHeartbeats 400000 in
theorem wrong_calls : Calls Try.prog 102 #[.pointer (some ⟨b, 0, none⟩)] w fun e w' => e = .returned (.bool (decide (bad ≠ 0))) ∧ w = w' := by
  have h3 := hR.c3
  by_cases h0 : bad = 0
  · subst h0
    go_enter Try.func102, Try.ntmps102
    go_wp2
    go_ret
    exact ⟨rfl, rfl⟩
  · go_enter Try.func102, Try.ntmps102
    go_wp2
    go_ret
    exact ⟨by simp [h0], rfl⟩

def FailPost (T : Nat) (w : World) (b : Nat) (l : List UInt8) (ao : Option Addr) (cap pos : Nat) (bad : Nat) (e : Ending) (w' : World) : Prop :=
  e = .returned (.tuple #[]) ∧ Rd T w' b l ao cap pos pos bad ∧ Chg [b] w w'
set_option maxHeartbeats 400000 in
theorem fails_calls (e : Nat) : Calls Try.prog 103 #[.pointer (some ⟨b, 0, none⟩), .int .i64 e] w (FailPost 133 w b l ao cap pos e) := by
  have h1 := hR.c1
  have h2 := hR.c2
  have h3 := hR.c3
  have f2 := hR.fr 2
  have f3 := hR.fr 3
  go_enter Try.func103, Try.ntmps103
  go_wp2
  go_end0
  exact ⟨rfl, hR.set23 e⟩

set_option maxHeartbeats 400000 in
theorem fault_calls : Calls Try.prog 86 #[.pointer (some ⟨b, 0, none⟩)] w fun e w' => e = .returned (.tuple #[.int .i64 wh, .int .i64 bad]) ∧ Drew w w' := by
  have h2 := hR.c2
  have h3 := hR.c3
  go_enter Try.func86, Try.ntmps86
  go_wp2
  go_quiet (fail)
  go_wp2
  go_ret2
  exact ⟨rfl, Drew.refl⟩
end
end Go.Proofs.Ytbikekgljabalaa
