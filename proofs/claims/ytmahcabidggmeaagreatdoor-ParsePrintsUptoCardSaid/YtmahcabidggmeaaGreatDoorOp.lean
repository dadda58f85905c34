/- Units and programs, plain: what is built of a unit. No program in sight. -/
import Derived.Test.YtmahcabidggmeaaGreatDoorJs
set_option linter.unusedSimpArgs false
set_option linter.unusedSectionVars false
namespace Go.AB
open Go.RowKit
set_option linter.unusedVariables false

/-- An Item. -/
structure ItD where
  op : Int
  a : Int
  b : Int
  c : Int
  n : Int
  name : ByteArray
  p1 : Int
  p2 : Int
  q1 : Int
  q2 : Int
/-- A declaration. -/
structure DcD where
  kind : Int
  name : ByteArray
  val : Int
  l : Int
  c : Int
/-- A block. -/
structure BkD where
  name : ByteArray
  items : List ItD
  l : Int
  c : Int
structure UnD where
  decls : List DcD
  blocks : List BkD
def itC (x : ItD) : List Value := [.int .i64 x.op, .int .i64 x.a, .int .i64 x.b, .int .i64 x.c, .int .i64 x.n, .string x.name, .int .i64 x.p1, .int .i64 x.p2, .int .i64 x.q1, .int .i64 x.q2]
theorem itC_len (x : ItD) : (itC x).length = 10 := rfl
def dcC (x : DcD) : List Value := [.int .i64 x.kind, .string x.name, .int .i64 x.val, .int .i64 x.l, .int .i64 x.c]
theorem dcC_len (x : DcD) : (dcC x).length = 5 := rfl
/-- A block's value: its Items are a slice. -/
structure BkV where
  b : BkD
  items : Value
def bkC (x : BkV) : List Value := [.string x.b.name, x.items, .int .i64 x.b.l, .int .i64 x.b.c]
theorem bkC_len (x : BkV) : (bkC x).length = 4 := rfl
/-- A unit in memory. -/
structure UnV (w : World) (v : Value) (u : UnD) : Prop where
  mk' : ∃ a b : Value, ∃ bs : List BkV, v = .agg #[a, b] ∧ Lst dcC 5 w a u.decls ∧ Lst bkC 4 w b bs ∧ bs.map BkV.b = u.blocks ∧ ∀ x ∈ bs, Lst itC 10 w x.items x.b.items
theorem UnV.keep {w w' : World} {v : Value} {u : UnD} (h : UnV w v u) (hc : Chg [] w w') : UnV w' v u := by
  obtain ⟨a, b, bs, h0, h1, h2, h3, h4⟩ := h
  exact ⟨a, b, bs, h0, h1.keep hc, h2.keep hc, h3, fun x hx => (h4 x hx).keep hc⟩

def isLett (c : UInt8) : Bool := (decide (97 ≤ c.toNat) && decide (c.toNat ≤ 122)) || (decide (65 ≤ c.toNat) && decide (c.toNat ≤ 90))
def isNameC (c : UInt8) : Bool := isLett c || decide (c.toNat = 95) || (decide (48 ≤ c.toNat) && decide (c.toNat ≤ 57))
/-- Is it a name? -/
def nameL : List UInt8 → Bool
  | [] => false
  | c :: r => decide (r.length ≤ 23) && isLett c && r.all isNameC
def nameB (s : ByteArray) : Bool := nameL s.data.toList
/-- What an operation touches. -/
def touchB (op : Int) : Int :=
  if op = 11 ∨ op = 12 then 1 else if op = 13 ∨ op = 14 then 2 else if op = 15 ∨ op = 16 then 3 else if op = 19 then 4 else if op = 17 ∨ op = 18 then 5 else if op = 8 ∨ op = 9 then 6 else 0
/-- How many registers it names. -/
def regsB (op : Int) : Int :=
  if op = 3 ∨ op = 4 ∨ op = 5 ∨ op = 6 ∨ op = 7 then 3 else if op = 2 then 2 else if op = 1 ∨ op = 10 ∨ op = 9 ∨ op = 11 ∨ op = 12 ∨ op = 13 ∨ op = 14 then 1
  else if op = 8 ∨ op = 15 ∨ op = 16 ∨ op = 17 ∨ op = 18 ∨ op = 19 ∨ op = 20 then 0 else -1
def fit1 (n : Int) (i : Nat) (r : Int) : Bool := decide (0 ≤ r) && decide (r < 16) && (decide ((i : Int) < n) || decide (r = 0))
def fitB (n a b c : Int) : Bool := fit1 n 0 a && fit1 n 1 b && fit1 n 2 c && decide (0 ≤ n)
/-- May an Item be? -/
def lookB (x : ItD) : Bool :=
  if x.op = 0 then fitB 0 x.a x.b x.c && decide (x.n = 0) && nameB x.name
  else fitB (regsB x.op) x.a x.b x.c && (decide (x.n = 0) || decide (x.op = 1)) && (if touchB x.op = 0 then decide (x.name = ⟨#[]⟩) else nameB x.name)

/-- What is wrong, and where. -/
structure Flt where
  code : Int
  l : Int
  c : Int
/-- The value at a key of a list. -/
def assoc {α : Type} (l : List (ByteArray × α)) (s : ByteArray) : Option α := (l.find? (fun p => decide (p.1 = s))).map Prod.snd
/-- A block's labels and where they lead to; o: a label's place behind which there is no instruction yet. -/
def waysGo : List ItD → Nat → List (ByteArray × Nat) → Option (Int × Int) → Except Flt (List (ByteArray × Nat))
  | [], _, by', none => .ok by'
  | [], _, _, some q => .error ⟨93, q.1, q.2⟩
  | x :: r, n, by', o =>
    if lookB x = false then .error ⟨95, x.p1, x.p2⟩
    else if x.op ≠ 0 then waysGo r (n + 1) by' none
    else if (assoc by' x.name).isSome then .error ⟨90, x.p1, x.p2⟩
    else waysGo r n (by' ++ [(x.name, n)]) (some (o.getD (x.p1, x.p2)))
def waysD (l : List ItD) : Except Flt (List (ByteArray × Nat)) := waysGo l 0 [] none
/-- The names so far: each one's sort and number. -/
abbrev Nms := List (ByteArray × (Int × Nat))
def cntS (st : Nms) (s : Int) : Nat := (st.filter fun e => decide (e.2.1 = s)).length
def declD (st : Nms) (name : ByteArray) (s : Int) (most : Int) (l c : Int) : Except Flt Nms :=
  if nameB name = false then .error ⟨95, l, c⟩
  else if (assoc st name).isSome then .error ⟨90, l, c⟩
  else if most ≤ (cntS st s : Int) then .error ⟨94, l, c⟩
  else .ok (st ++ [(name, (s, cntS st s))])
/-- A declaration is laid down. -/
def dcPut (p : PrgD) (d : DcD) : PrgD :=
  if d.kind = 1 then { p with vars := p.vars ++ [⟨d.name, d.val⟩] } else if d.kind = 2 then { p with vols := p.vols ++ [⟨d.name, d.val⟩] }
  else if d.kind = 3 then { p with locks := p.locks ++ [d.name] } else { p with bars := p.bars ++ [⟨d.name, d.val⟩] }
def declnD (st : Nms) (p : PrgD) (d : DcD) : Except Flt (Nms × PrgD) :=
  if d.kind = 3 ∧ d.val ≠ 0 then .error ⟨95, d.l, d.c⟩
  else if d.kind = 1 ∨ d.kind = 2 ∨ d.kind = 3 ∨ d.kind = 4 then
    match declD st d.name d.kind 4096 d.l d.c with
    | .error f => .error f
    | .ok st' => .ok (st', dcPut p d)
  else .error ⟨95, d.l, d.c⟩
def declsD : List DcD → Nms → PrgD → Except Flt (Nms × PrgD)
  | [], st, p => .ok (st, p)
  | d :: r, st, p => match declnD st p d with
    | .error f => .error f
    | .ok q => declsD r q.1 q.2
def blocksD : List BkD → Nms → Except Flt Nms
  | [], st => .ok st
  | k :: r, st => match declD st k.name 5 65535 k.l k.c with
    | .error f => .error f
    | .ok st' => blocksD r st'
/-- What an instruction's name names or leads to. -/
def targD (st : Nms) (by' : List (ByteArray × Nat)) (x : ItD) : Except Flt Int :=
  if touchB x.op = 0 then .ok x.n
  else if touchB x.op = 6 then match assoc by' x.name with
    | none => .error ⟨91, x.q1, x.q2⟩
    | some n => .ok n
  else match assoc st x.name with
    | none => .error ⟨91, x.q1, x.q2⟩
    | some e => if e.1 ≠ touchB x.op then .error ⟨92, x.q1, x.q2⟩ else .ok e.2
def codeGo (st : Nms) (by' : List (ByteArray × Nat)) : List ItD → Nat → List InsD → List PlcD → Except Flt (Nat × List InsD × List PlcD)
  | [], all, c, p => .ok (all, c, p)
  | x :: r, all, c, p =>
    if x.op = 0 then codeGo st by' r all c p
    else if 262144 < all + 1 ∨ 4096 ≤ c.length then .error ⟨94, x.p1, x.p2⟩
    else match targD st by' x with
      | .error f => .error f
      | .ok n => codeGo st by' r (all + 1) (c ++ [⟨x.op, x.a, x.b, x.c, n⟩]) (p ++ [⟨x.p1, x.p2⟩])
def thrD (st : Nms) (all : Nat) (k : BkD) : Except Flt (Nat × ThrD) :=
  match waysD k.items with
  | .error f => .error f
  | .ok by' => match codeGo st by' k.items all [] [] with
    | .error f => .error f
    | .ok r => .ok (r.1, ⟨k.name, r.2.1, r.2.2⟩)
def thrsD (st : Nms) : List BkD → Nat → List ThrD → Except Flt (List ThrD)
  | [], _, ts => .ok ts
  | k :: r, all, ts => match thrD st all k with
    | .error f => .error f
    | .ok q => thrsD st r q.1 (ts ++ [q.2])
/-- The program of a unit. -/
def progD (u : UnD) : Except Flt PrgD :=
  match declsD u.decls [] ⟨[], [], [], [], []⟩ with
  | .error f => .error f
  | .ok q => match blocksD u.blocks q.1 with
    | .error f => .error f
    | .ok st => match thrsD st u.blocks 0 [] with
      | .error f => .error f
      | .ok ts => .ok { q.2 with thrs := ts }
end Go.AB
