/- Slices of structs that are read; programs in memory. (Out of wip/tpl XGplain, XGv.) -/
import Derived.Test.YtmahcabidggmeaaGreatDoorOwn
set_option linter.unusedSimpArgs false
set_option linter.unusedSectionVars false
namespace Go.AB
open Go.RowKit
set_option linter.unusedVariables false

/-- A variable, a volatile, or a barrier. -/
structure VarD where
  name : ByteArray
  first : Int
structure InsD where
  op : Int
  a : Int
  b : Int
  c : Int
  n : Int
structure PlcD where
  line : Int
  col : Int
structure ThrD where
  name : ByteArray
  code : List InsD
  places : List PlcD
structure PrgD where
  vars : List VarD
  vols : List VarD
  locks : List ByteArray
  bars : List VarD
  thrs : List ThrD

def varC (v : VarD) : List Value := [.string v.name, .int .i64 v.first]
def insC (x : InsD) : List Value := [.int .i64 x.op, .int .i64 x.a, .int .i64 x.b, .int .i64 x.c, .int .i64 x.n]
def plcC (p : PlcD) : List Value := [.int .i64 p.line, .int .i64 p.col]

theorem flat_len {α : Type} {f : α → List Value} {k : Nat} (hf : ∀ x, (f x).length = k) (xs : List α) : (xs.flatMap f).length = xs.length * k := by
  induction xs with
  | nil => simp
  | cons x xs ih => rw [List.flatMap_cons, List.length_append, hf, ih, List.length_cons, Nat.add_mul]; omega
theorem flat_get {α : Type} {f : α → List Value} {k : Nat} (hf : ∀ x, (f x).length = k) : ∀ (xs : List α) (i j : Nat) (hi : i < xs.length) (hj : j < k), (xs.flatMap f).getD (i * k + j) undef = (f xs[i]).getD j undef
  | [], i, _, hi, _ => by simp at hi
  | x :: xs, 0, j, _, hj => by
    rw [List.flatMap_cons, Nat.zero_mul, Nat.zero_add]
    simp only [List.getD]
    rw [List.getElem?_append_left (by rw [hf]; exact hj)]
    rfl
  | x :: xs, i + 1, j, hi, hj => by
    have h := flat_get hf xs i j (by simpa using hi) hj
    rw [List.flatMap_cons]
    simp only [List.getD] at h ⊢
    rw [List.getElem?_append_right (by rw [hf, Nat.add_mul]; omega), hf, show (i + 1) * k + j - k = i * k + j from by rw [Nat.add_mul]; omega, h]
    rfl
/-- A slice whose elements' cells are those of a list. -/
def Lst {α : Type} (f : α → List Value) (k : Nat) (w : World) (v : Value) (xs : List α) : Prop := View w k v xs.length (xs.flatMap f)
theorem Lst.at {α : Type} {f : α → List Value} {k : Nat} (hf : ∀ x, (f x).length = k) {w : World} {ao : Option Addr} {n cap : Nat} {xs : List α} (h : Lst f k w (.slice ao n cap) xs) {i : Nat} (hi : i < xs.length) (hk : 0 < k) :
    ∃ b off, ao = some ⟨b, off, none⟩ ∧ ∀ j, j < k → w.cell? ⟨b, off + i * k + j, none⟩ = some ((f xs[i]).getD j undef) := by
  obtain ⟨_, _, ao', cap', hv, _, _, _, hc⟩ := h
  simp only [Value.slice.injEq] at hv
  obtain ⟨rfl, rfl, rfl⟩ := hv
  have h1 : (i + 1) * k ≤ xs.length * k := Nat.mul_le_mul_right k (by omega)
  rw [Nat.add_mul] at h1
  obtain ⟨b, off, rfl, hcell⟩ := hc (by omega)
  refine ⟨b, off, rfl, fun j hj => ?_⟩
  rw [Nat.add_assoc, hcell (i * k + j) (by omega), flat_get hf xs i j hi hj]
theorem Lst.len {α : Type} {f : α → List Value} {k : Nat} {w : World} {v : Value} {xs : List α} (h : Lst f k w v xs) : ∃ ao cap, v = .slice ao xs.length cap ∧ xs.length ≤ cap ∧ cap ≤ maxLen ∧ xs.length ≤ maxLen := by
  obtain ⟨_, h1, ao, cap, rfl, h2, h3, _⟩ := h
  exact ⟨ao, cap, rfl, h2, h3, h1⟩
theorem Lst.keep {α : Type} {f : α → List Value} {k : Nat} {w w' : World} {v : Value} {xs : List α} (h : Lst f k w v xs) (hc : Chg [] w w') : Lst f k w' v xs := View.keep h hc (by simp)
theorem varC_len (v : VarD) : (varC v).length = 2 := rfl
theorem insC_len (v : InsD) : (insC v).length = 5 := rfl
theorem plcC_len (v : PlcD) : (plcC v).length = 2 := rfl
def strC (s : ByteArray) : List Value := [.string s]
theorem strC_len (s : ByteArray) : (strC s).length = 1 := rfl
/-- A thread's value: its name, and two slices. -/
structure ThrV where
  t : ThrD
  code : Value
  places : Value
def thrC (x : ThrV) : List Value := [.string x.t.name, x.code, x.places]
theorem thrC_len (x : ThrV) : (thrC x).length = 3 := rfl
/-- A program in memory. -/
structure PrgV (w : World) (v : Value) (p : PrgD) : Prop where
  mk' : ∃ a b c d e : Value, ∃ ts : List ThrV, v = .agg #[a, b, c, d, e] ∧ Lst varC 2 w a p.vars ∧ Lst varC 2 w b p.vols ∧ Lst strC 1 w c p.locks ∧ Lst varC 2 w d p.bars ∧ Lst thrC 3 w e ts ∧ ts.map ThrV.t = p.thrs ∧
    ∀ x ∈ ts, Lst insC 5 w x.code x.t.code ∧ Lst plcC 2 w x.places x.t.places
theorem PrgV.keep {w w' : World} {v : Value} {p : PrgD} (h : PrgV w v p) (hc : Chg [] w w') : PrgV w' v p := by
  obtain ⟨a, b, c, d, e, ts, h0, h1, h2, h3, h4, h5, h6, h7⟩ := h
  exact ⟨a, b, c, d, e, ts, h0, h1.keep hc, h2.keep hc, h3.keep hc, h4.keep hc, h5.keep hc, h6, fun x hx => ⟨(h7 x hx).1.keep hc, (h7 x hx).2.keep hc⟩⟩
end Go.AB
