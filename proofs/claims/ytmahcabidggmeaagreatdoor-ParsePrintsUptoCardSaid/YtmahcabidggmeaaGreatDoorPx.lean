/- Joined by join.py out of Xpa, Xpb, Xpc, Xpd, Xpe, Xpf, Xpg, Xph, Xpi, Xpj, Xpk, Xpl, Xpm, Xpn, Xpo, Xpq. -/
import Derived.Test.YtmahcabidggmeaaGreatDoorOp
import Derived.Test.YtmahcabidggmeaaGreatDoorAscan
import Derived.Lib.ItoaNum
import Derived.Test.YtmahcabidggmeaaGreatDoorBlexed
set_option linter.unusedSimpArgs false
set_option linter.unusedVariables false
set_option linter.unusedSectionVars false

/- Words, names, units: what a text says. No program in sight. (Printed by gen_pplain.py.) -/
set_option linter.unusedSimpArgs false
set_option linter.unusedVariables false
set_option linter.unusedSectionVars false
namespace Go.AB
open Go.RowKit

/-- The operations' words and forms, from 1 on. -/
def opTab : List (List UInt8 × List UInt8) := [([99, 111, 110, 115, 116], [114, 110]), ([109, 111, 118, 101], [114, 114]), ([97, 100, 100], [114, 114, 114]), ([115, 117, 98], [114, 114, 114]), ([109, 117, 108], [114, 114, 114]), ([108, 101, 115, 115], [114, 114, 114]), ([101, 113, 117, 97, 108], [114, 114, 114]), ([106, 117, 109, 112], [120]), ([122, 101, 114, 111], [114, 120]), ([112, 114, 105, 110, 116], [114]), ([114, 101, 97, 100], [114, 120]), ([119, 114, 105, 116, 101], [114, 120]), ([108, 111, 111, 107], [114, 120]), ([115, 101, 116], [114, 120]), ([108, 111, 99, 107], [120]), ([117, 110, 108, 111, 99, 107], [120]), ([102, 111, 114, 107], [120]), ([106, 111, 105, 110], [120]), ([98, 97, 114, 114, 105, 101, 114], [120]), ([101, 120, 105, 116], [])]
def kindTab : List (List UInt8) := [[118, 97, 114], [118, 111, 108], [109, 117, 116, 101, 120], [103, 97, 116, 101], [116, 104, 114, 101, 97, 100]]
/-- The place of a word in a list, from 1 on; 0: it is not there. -/
def idxOf (l : List (List UInt8)) (s : List UInt8) : Nat := go l 1
where go : List (List UInt8) → Nat → Nat
  | [], _ => 0
  | x :: r, i => if x = s then i else go r (i + 1)
def wordAt (op : Int) : List UInt8 := if op < 1 then [] else (opTab[(op - 1).toNat]?.map Prod.fst).getD []
def formAt (op : Int) : List UInt8 := if op < 1 then [] else (opTab[(op - 1).toNat]?.map Prod.snd).getD []
def opL (s : List UInt8) : Nat := idxOf (opTab.map Prod.fst) s
def kindL (s : List UInt8) : Nat := idxOf kindTab s
/-- Which register a word is; -1: none. -/
def regL (s : List UInt8) : Int := (idxOf ((List.range 16).map fun i => 114 :: Lib.decDigits i) s : Int) - 1
def wordL (s : List UInt8) : Bool := decide (opL s ≠ 0) || decide (0 ≤ regL s) || decide (kindL s ≠ 0)
def nameP (s : List UInt8) : Bool := nameL s && !wordL s

/-! Tokens taken. -/
def fltAt (code : Int) (t : Tok) : Flt := ⟨code, t.line, t.col⟩
def noTok : Flt := ⟨82, 0, 0⟩
def takeK (k : Nat) : List Tok → Except Flt (Tok × List Tok)
  | [] => .error noTok
  | t :: r => if t.kind = k then .ok (t, r) else .error (fltAt 82 t)
def freeB (t : Tok) : Bool := decide (t.kind = 1) && !wordL t.text
def nameT : List Tok → Except Flt (Tok × List Tok)
  | [] => .error noTok
  | t :: r => if freeB t = false then .error (fltAt 82 t) else if 24 < t.text.length then .error (fltAt 84 t) else .ok (t, r)
def bA (s : List UInt8) : ByteArray := ⟨s.toArray⟩
/-- An Item joins the last block. -/
def putLast (x : ItD) (bs : List BkD) : List BkD := match bs.getLast? with
  | none => bs
  | some k => bs.dropLast ++ [⟨k.name, k.items ++ [x], k.l, k.c⟩]
def labelI (t : Tok) : ItD := ⟨0, 0, 0, 0, 0, bA t.text, t.line, t.col, t.line, t.col⟩
def labelsD : List Tok → List BkD → Bool → Except Flt (List Tok × List BkD × Bool)
  | t :: c :: r, bs, any =>
    if freeB t = true ∧ c.kind = 4 then
      if bs = [] then .error (fltAt 81 t) else if 24 < t.text.length then .error (fltAt 84 t) else labelsD r (putLast (labelI t) bs) true
    else .ok (t :: c :: r, bs, any)
  | ts, bs, any => .ok (ts, bs, any)
def setReg (x : ItD) (k : Nat) (n : Int) : ItD := if k = 0 then ⟨x.op, n, x.b, x.c, x.n, x.name, x.p1, x.p2, x.q1, x.q2⟩ else if k = 1 then ⟨x.op, x.a, n, x.c, x.n, x.name, x.p1, x.p2, x.q1, x.q2⟩ else ⟨x.op, x.a, x.b, n, x.n, x.name, x.p1, x.p2, x.q1, x.q2⟩
/-- One operand. -/
def operD (c : UInt8) (k : Nat) (ts : List Tok) (x : ItD) : Except Flt (List Tok × Nat × ItD) :=
  if c = 114 then match ts with
    | [] => .error noTok
    | t :: r => if t.kind = 1 ∧ 0 ≤ regL t.text then .ok (r, k + 1, setReg x k (regL t.text)) else .error (fltAt 82 t)
  else if c = 110 then match takeK 2 ts with
    | .error f => .error f
    | .ok (t, r) => .ok (r, k, ⟨x.op, x.a, x.b, x.c, t.num, x.name, x.p1, x.p2, t.line, t.col⟩)
  else match nameT ts with
    | .error f => .error f
    | .ok (t, r) => .ok (r, k, ⟨x.op, x.a, x.b, x.c, x.n, bA t.text, x.p1, x.p2, t.line, t.col⟩)
/-- The operands of a form; a comma ahead of each but the first. -/
def opersD : List UInt8 → Bool → Nat → List Tok → ItD → Except Flt (List Tok × ItD)
  | [], _, _, ts, x => .ok (ts, x)
  | c :: f, first, k, ts, x =>
    match (if first = true then .ok ts else (takeK 3 ts).map Prod.snd) with
    | .error e => .error e
    | .ok ts => match operD c k ts x with
      | .error e => .error e
      | .ok (ts, k, x) => opersD f false k ts x
def instrD (op : Nat) : List Tok → List BkD → Except Flt (List Tok × List BkD)
  | [], _ => .error noTok
  | t :: r, bs => if bs = [] then .error (fltAt 81 t) else match opersD (formAt op) true 0 r ⟨op, 0, 0, 0, 0, ⟨#[]⟩, t.line, t.col, 0, 0⟩ with
    | .error e => .error e
    | .ok (ts, x) => .ok (ts, putLast x bs)
/-- What stands behind a declared name. -/
def valueD (kind : Nat) (ts : List Tok) : Except Flt (Int × List Tok) :=
  if kind = 4 ∨ (kind ≤ 2 ∧ (ts.head?.map Tok.kind) = some 5) then
    match takeK 5 ts with
    | .error e => .error e
    | .ok (_, ts) => match takeK 2 ts with
      | .error e => .error e
      | .ok (t, ts) => .ok (t.num, ts)
  else .ok (0, ts)
def declG (kind : Nat) : Nat → List Tok → List DcD → Except Flt (List Tok × List DcD)
  | 0, ts, ds => .ok (ts, ds)
  | fuel + 1, ts, ds =>
    match nameT ts with
    | .error e => .error e
    | .ok (t, ts) => match valueD kind ts with
      | .error e => .error e
      | .ok (v, ts) => match ts with
        | c :: r => if c.kind = 3 then declG kind fuel r (ds ++ [⟨kind, bA t.text, v, t.line, t.col⟩]) else .ok (c :: r, ds ++ [⟨kind, bA t.text, v, t.line, t.col⟩])
        | [] => .ok ([], ds ++ [⟨kind, bA t.text, v, t.line, t.col⟩])
def endsB (t : Tok) : Bool := decide (t.kind = 6 ∨ t.kind = 7)
/-- A line's end is wanted. -/
def endD {α : Type} (ts : List Tok) (a : α) : Except Flt (List Tok × α) := match ts with
  | [] => .error noTok
  | t :: r => if endsB t = true then .ok (t :: r, a) else .error (fltAt 83 t)
def lineD (ts : List Tok) (u : UnD) : Except Flt (List Tok × UnD) :=
  match labelsD ts u.blocks false with
  | .error e => .error e
  | .ok ([], bs, any) => .error noTok
  | .ok (t :: r, bs, any) =>
    if endsB t = true then .ok (t :: r, ⟨u.decls, bs⟩)
    else if t.kind = 1 ∧ opL t.text ≠ 0 then match instrD (opL t.text) (t :: r) bs with
      | .error e => .error e
      | .ok (ts, bs) => endD ts ⟨u.decls, bs⟩
    else if t.kind ≠ 1 ∨ kindL t.text = 0 ∨ any = true then .error (fltAt 80 t)
    else if kindL t.text = 5 then match nameT r with
      | .error e => .error e
      | .ok (n, ts) => endD ts ⟨u.decls, bs ++ [⟨bA n.text, [], n.line, n.col⟩]⟩
    else match declG (kindL t.text) r.length r u.decls with
      | .error e => .error e
      | .ok (ts, ds) => endD ts ⟨ds, bs⟩
def linesD : Nat → List Tok → UnD → Except Flt UnD
  | 0, _, u => .ok u
  | fuel + 1, ts, u => match lineD ts u with
    | .error e => .error e
    | .ok (t :: r, u) => if t.kind = 6 then linesD fuel r u else .ok u
    | .ok ([], u) => .ok u
/-- The unit of some tokens. -/
def unitT (ts : List Tok) : Except Flt UnD := linesD ts.length ts ⟨[], []⟩

/-! Units written. -/
def numS (n : Int) : List UInt8 := Lib.itoa n
def operS (c : UInt8) (k : Nat) (x : ItD) : List UInt8 :=
  if c = 114 then 114 :: numS (if k = 0 then x.a else if k = 1 then x.b else x.c) else if c = 110 then numS x.n else x.name.data.toList
def opersS : List UInt8 → Nat → ItD → List UInt8
  | [], _, _ => []
  | c :: f, k, x => (if k = 0 then [32] else [44, 32]) ++ operS c k x ++ opersS f (k + 1) x
/-- May an Item be? -/
def regB (n : Int) : Bool := decide (0 ≤ n ∧ n < 16)
def itemOk (x : ItD) : Bool :=
  let f := if x.op = 0 then [120] else formAt x.op
  (decide (x.op = 0) || !(wordAt x.op).isEmpty) &&
  (if 1 ≤ f.count 114 then regB x.a else decide (x.a = 0)) && (if 2 ≤ f.count 114 then regB x.b else decide (x.b = 0)) && (if 3 ≤ f.count 114 then regB x.c else decide (x.c = 0)) &&
  (decide (110 ∈ f) || decide (x.n = 0)) && (if 120 ∈ f then nameP x.name.data.toList else decide (x.name.size = 0))
def declOk (d : DcD) : Bool := decide (1 ≤ d.kind ∧ d.kind ≤ 4) && nameP d.name.data.toList && (decide (d.kind ≠ 3) || decide (d.val = 0))
def blockOk (b : BkD) : Bool := nameP b.name.data.toList && b.items.all itemOk
def unitOk (u : UnD) : Bool := u.decls.all declOk && u.blocks.all blockOk
def itemS (x : ItD) : List UInt8 := if x.op = 0 then x.name.data.toList ++ [58] else [32, 32] ++ wordAt x.op ++ opersS (formAt x.op) 0 x
def declS (d : DcD) : List UInt8 := (kindTab[(d.kind - 1).toNat]?).getD [] ++ [32] ++ d.name.data.toList ++ (if d.kind = 3 then [] else [32, 61, 32] ++ numS d.val)
def blockS (b : BkD) : List (List UInt8) := ([116, 104, 114, 101, 97, 100, 32] ++ b.name.data.toList) :: b.items.map itemS
def linesS (u : UnD) : List (List UInt8) := u.decls.map declS ++ u.blocks.flatMap blockS
def textS (u : UnD) : List UInt8 := (linesS u).flatMap fun l => l ++ [10]
/-- A unit's text, or the refusal. -/
def printD (u : UnD) : Except Nat (List UInt8) := if unitOk u = false then .error 85 else if 1048576 < (textS u).length then .error 3 else .ok (textS u)
end Go.AB

/- The parser and the places: tokens that are alike but for their places say units that are alike but for these. No program in sight. -/
set_option linter.unusedSimpArgs false
set_option linter.unusedVariables false
set_option linter.unusedSectionVars false
namespace Go.AB
open Go.RowKit

inductive All2 {α β : Type} (R : α → β → Prop) : List α → List β → Prop
  | nil : All2 R [] []
  | cons {a b l m} : R a b → All2 R l m → All2 R (a :: l) (b :: m)
theorem All2.app {α β : Type} {R : α → β → Prop} {l m : List α} {l' m' : List β} (h : All2 R l l') (h2 : All2 R m m') : All2 R (l ++ m) (l' ++ m') := by
  induction h with
  | nil => exact h2
  | cons h1 _ ih => exact .cons h1 ih
theorem All2.snoc {α β : Type} {R : α → β → Prop} {l : List α} {l' : List β} (h : All2 R l l') {a : α} {b : β} (h2 : R a b) : All2 R (l ++ [a]) (l' ++ [b]) := h.app (.cons h2 .nil)
theorem All2.len {α β : Type} {R : α → β → Prop} {l : List α} {l' : List β} (h : All2 R l l') : l.length = l'.length := by
  induction h with
  | nil => rfl
  | cons _ _ ih => simp [ih]
theorem All2.isNil {α β : Type} {R : α → β → Prop} {l : List α} {l' : List β} (h : All2 R l l') : (l = [] ↔ l' = []) := by
  cases h <;> simp
/-- Both empty, or both with a last one. -/
theorem All2.last {α β : Type} {R : α → β → Prop} {l : List α} {l' : List β} (h : All2 R l l') : (l.getLast? = none ∧ l'.getLast? = none) ∨ ∃ a b, l.getLast? = some a ∧ l'.getLast? = some b ∧ R a b ∧ All2 R l.dropLast l'.dropLast := by
  induction h with
  | nil => exact .inl ⟨rfl, rfl⟩
  | @cons a b l m h1 h2 ih =>
    refine .inr ?_
    cases h2 with
    | nil => exact ⟨a, b, rfl, rfl, h1, .nil⟩
    | @cons c d l m h3 h4 =>
      rcases ih with ⟨e1, _⟩ | ⟨x, y, e1, e2, e3, e4⟩
      · simp at e1
      · refine ⟨x, y, ?_, ?_, e3, ?_⟩
        · rw [List.getLast?_cons_cons]; exact e1
        · rw [List.getLast?_cons_cons]; exact e2
        · rw [List.dropLast_cons_cons, List.dropLast_cons_cons]
          exact .cons h1 e4

section
variable (R : Int → Int → Int → Int → Prop)
/-- Places that are told alike, or none. -/
def PlR (l c l' c' : Int) : Prop := R l c l' c' ∨ (l = 0 ∧ c = 0 ∧ l' = 0 ∧ c' = 0)
def TkR (t t' : Tok) : Prop := t.kind = t'.kind ∧ t.text = t'.text ∧ t.num = t'.num ∧ R t.line t.col t'.line t'.col
def FlR (f f' : Flt) : Prop := f.code = f'.code ∧ PlR R f.l f.c f'.l f'.c
def ItR (x y : ItD) : Prop := x.op = y.op ∧ x.a = y.a ∧ x.b = y.b ∧ x.c = y.c ∧ x.n = y.n ∧ x.name = y.name ∧ R x.p1 x.p2 y.p1 y.p2 ∧ PlR R x.q1 x.q2 y.q1 y.q2
def DcR (x y : DcD) : Prop := x.kind = y.kind ∧ x.name = y.name ∧ x.val = y.val ∧ R x.l x.c y.l y.c
def BkR (x y : BkD) : Prop := x.name = y.name ∧ All2 (ItR R) x.items y.items ∧ R x.l x.c y.l y.c
def UnR (x y : UnD) : Prop := All2 (DcR R) x.decls y.decls ∧ All2 (BkR R) x.blocks y.blocks
def ExR {α β : Type} (Q : α → β → Prop) : Except Flt α → Except Flt β → Prop
  | .ok a, .ok b => Q a b
  | .error f, .error g => FlR R f g
  | _, _ => False
variable {R}
theorem flt_rel {t t' : Tok} (h : TkR R t t') (code : Int) : FlR R (fltAt code t) (fltAt code t') := ⟨rfl, .inl h.2.2.2⟩
theorem no_rel : FlR R noTok noTok := ⟨rfl, .inr ⟨rfl, rfl, rfl, rfl⟩⟩
theorem takeK_rel (k : Nat) {ts ts' : List Tok} (h : All2 (TkR R) ts ts') : ExR R (fun p p' => TkR R p.1 p'.1 ∧ All2 (TkR R) p.2 p'.2) (takeK k ts) (takeK k ts') := by
  cases h with
  | nil => exact no_rel
  | @cons t t' r r' ht hr =>
    unfold takeK
    dsimp only
    rw [← ht.1]
    by_cases hk : t.kind = k
    · rw [if_pos hk, if_pos hk]
      exact ⟨ht, hr⟩
    · rw [if_neg hk, if_neg hk]
      exact flt_rel ht 82
theorem free_rel {t t' : Tok} (h : TkR R t t') : freeB t = freeB t' := by
  unfold freeB
  rw [h.1, h.2.1]
theorem nameT_rel {ts ts' : List Tok} (h : All2 (TkR R) ts ts') : ExR R (fun p p' => TkR R p.1 p'.1 ∧ All2 (TkR R) p.2 p'.2) (nameT ts) (nameT ts') := by
  cases h with
  | nil => exact no_rel
  | @cons t t' r r' ht hr =>
    unfold nameT
    dsimp only
    rw [← free_rel ht, ← ht.2.1]
    by_cases hf : freeB t = false
    · rw [if_pos hf, if_pos hf]
      exact flt_rel ht 82
    · rw [if_neg hf, if_neg hf]
      by_cases hl : 24 < t.text.length
      · rw [if_pos hl, if_pos hl]
        exact flt_rel ht 84
      · rw [if_neg hl, if_neg hl]
        exact ⟨ht, hr⟩
theorem put_rel {x y : ItD} {bs bs' : List BkD} (hx : ItR R x y) (h : All2 (BkR R) bs bs') : All2 (BkR R) (putLast x bs) (putLast y bs') := by
  unfold putLast
  rcases h.last with ⟨e1, e2⟩ | ⟨a, b, e1, e2, e3, e4⟩
  · rw [e1, e2]
    exact h
  · rw [e1, e2]
    exact e4.snoc ⟨e3.1, e3.2.1.snoc hx, e3.2.2⟩
theorem label_rel {t t' : Tok} (h : TkR R t t') : ItR R (labelI t) (labelI t') := by
  refine ⟨rfl, rfl, rfl, rfl, rfl, ?_, h.2.2.2, .inl h.2.2.2⟩
  unfold labelI
  simp only
  rw [h.2.1]
theorem labels_rel : ∀ (n : Nat) {ts ts' : List Tok} {bs bs' : List BkD} (any : Bool), ts.length ≤ n → All2 (TkR R) ts ts' → All2 (BkR R) bs bs' →
    ExR R (fun p p' => All2 (TkR R) p.1 p'.1 ∧ All2 (BkR R) p.2.1 p'.2.1 ∧ p.2.2 = p'.2.2) (labelsD ts bs any) (labelsD ts' bs' any)
  | n, ts, ts', bs, bs', any, hn, h, hb => by
    cases h with
    | nil => exact ⟨.nil, hb, rfl⟩
    | @cons t t' r r' ht hr =>
      cases hr with
      | nil => exact ⟨.cons ht .nil, hb, rfl⟩
      | @cons c c' r r' hc hr =>
        unfold labelsD
        rw [← free_rel ht, ← ht.2.1, ← hc.1]
        by_cases h1 : freeB t = true ∧ c.kind = 4
        · rw [if_pos h1, if_pos h1]
          by_cases h2 : bs = []
          · rw [if_pos h2, if_pos (hb.isNil.1 h2)]
            exact flt_rel ht 81
          · rw [if_neg h2, if_neg (fun e => h2 (hb.isNil.2 e))]
            by_cases h3 : 24 < t.text.length
            · rw [if_pos h3, if_pos h3]
              exact flt_rel ht 84
            · rw [if_neg h3, if_neg h3]
              match n, hn with
              | n + 1, hn => exact labels_rel n true (by simp only [List.length_cons] at hn; omega) hr (put_rel (label_rel ht) hb)
        · rw [if_neg h1, if_neg h1]
          exact ⟨.cons ht (.cons hc hr), hb, rfl⟩
theorem reg_rel {x y : ItD} (h : ItR R x y) (k : Nat) (n : Int) : ItR R (setReg x k n) (setReg y k n) := by
  obtain ⟨h1, h2, h3, h4, h5, h6, h7, h8⟩ := h
  unfold setReg
  split
  · exact ⟨h1, rfl, h3, h4, h5, h6, h7, h8⟩
  · split
    · exact ⟨h1, h2, rfl, h4, h5, h6, h7, h8⟩
    · exact ⟨h1, h2, h3, rfl, h5, h6, h7, h8⟩
theorem oper_rel (c : UInt8) (k : Nat) {ts ts' : List Tok} {x y : ItD} (h : All2 (TkR R) ts ts') (hx : ItR R x y) :
    ExR R (fun p p' => All2 (TkR R) p.1 p'.1 ∧ p.2.1 = p'.2.1 ∧ ItR R p.2.2 p'.2.2) (operD c k ts x) (operD c k ts' y) := by
  unfold operD
  by_cases c1 : c = 114
  · rw [if_pos c1, if_pos c1]
    cases h with
    | nil => exact no_rel
    | @cons t t' r r' ht hr =>
      simp only
      rw [← ht.1, ← ht.2.1]
      by_cases h1 : t.kind = 1 ∧ 0 ≤ regL t.text
      · rw [if_pos h1, if_pos h1]
        exact ⟨hr, rfl, reg_rel hx k _⟩
      · rw [if_neg h1, if_neg h1]
        exact flt_rel ht 82
  · rw [if_neg c1, if_neg c1]
    obtain ⟨h1, h2, h3, h4, h5, h6, h7, h8⟩ := hx
    by_cases c2 : c = 110
    · rw [if_pos c2, if_pos c2]
      have ht := takeK_rel 2 h
      cases e1 : takeK 2 ts <;> cases e2 : takeK 2 ts' <;> rw [e1, e2] at ht <;> simp only [ExR] at ht ⊢
      · exact ht
      · exact ⟨ht.2, trivial, h1, h2, h3, h4, ht.1.2.2.1, h6, h7, .inl ht.1.2.2.2⟩
    · rw [if_neg c2, if_neg c2]
      have ht := nameT_rel h
      cases e1 : nameT ts <;> cases e2 : nameT ts' <;> rw [e1, e2] at ht <;> simp only [ExR] at ht ⊢
      · exact ht
      · exact ⟨ht.2, trivial, h1, h2, h3, h4, h5, congrArg bA ht.1.2.1, h7, .inl ht.1.2.2.2⟩
theorem opers_rel : ∀ (f : List UInt8) (first : Bool) (k : Nat) {ts ts' : List Tok} {x y : ItD}, All2 (TkR R) ts ts' → ItR R x y →
    ExR R (fun p p' => All2 (TkR R) p.1 p'.1 ∧ ItR R p.2 p'.2) (opersD f first k ts x) (opersD f first k ts' y)
  | [], _, _, ts, ts', x, y, h, hx => ⟨h, hx⟩
  | c :: f, first, k, ts, ts', x, y, h, hx => by
    have hc : ExR R (All2 (TkR R)) (if first = true then .ok ts else (takeK 3 ts).map Prod.snd) (if first = true then .ok ts' else (takeK 3 ts').map Prod.snd) := by
      split
      · exact h
      · have ht := takeK_rel 3 h
        cases e1 : takeK 3 ts <;> cases e2 : takeK 3 ts' <;> rw [e1, e2] at ht <;> simp only [ExR, Except.map] at ht ⊢
        · exact ht
        · exact ht.2
    unfold opersD
    revert hc
    generalize (if first = true then Except.ok ts else (takeK 3 ts).map Prod.snd) = A
    generalize (if first = true then Except.ok ts' else (takeK 3 ts').map Prod.snd) = B
    intro hc
    cases A <;> cases B <;> simp only [ExR] at hc ⊢
    · exact hc
    · rename_i us us'
      have ho := oper_rel c k hc hx
      cases e1 : operD c k us x <;> cases e2 : operD c k us' y <;> rw [e1, e2] at ho <;> simp only [ExR] at ho ⊢
      · exact ho
      · obtain ⟨o1, o2, o3⟩ := ho
        rw [← o2]
        exact opers_rel f false _ o1 o3
theorem instr_rel (op : Nat) {ts ts' : List Tok} {bs bs' : List BkD} (h : All2 (TkR R) ts ts') (hb : All2 (BkR R) bs bs') :
    ExR R (fun p p' => All2 (TkR R) p.1 p'.1 ∧ All2 (BkR R) p.2 p'.2) (instrD op ts bs) (instrD op ts' bs') := by
  cases h with
  | nil => exact no_rel
  | @cons t t' r r' ht hr =>
    unfold instrD
    dsimp only
    by_cases h2 : bs = []
    · rw [if_pos h2, if_pos (hb.isNil.1 h2)]
      exact flt_rel ht 81
    · rw [if_neg h2, if_neg (fun e => h2 (hb.isNil.2 e))]
      have ho := opers_rel (formAt op) true 0 hr (x := ⟨op, 0, 0, 0, 0, ⟨#[]⟩, t.line, t.col, 0, 0⟩) (y := ⟨op, 0, 0, 0, 0, ⟨#[]⟩, t'.line, t'.col, 0, 0⟩) ⟨rfl, rfl, rfl, rfl, rfl, rfl, ht.2.2.2, .inr ⟨rfl, rfl, rfl, rfl⟩⟩
      cases e1 : opersD (formAt op) true 0 r ⟨op, 0, 0, 0, 0, ⟨#[]⟩, t.line, t.col, 0, 0⟩ <;> cases e2 : opersD (formAt op) true 0 r' ⟨op, 0, 0, 0, 0, ⟨#[]⟩, t'.line, t'.col, 0, 0⟩ <;> rw [e1, e2] at ho <;> simp only [ExR] at ho ⊢
      · exact ho
      · exact ⟨ho.1, put_rel ho.2 hb⟩
theorem value_rel (kind : Nat) {ts ts' : List Tok} (h : All2 (TkR R) ts ts') : ExR R (fun p p' => p.1 = p'.1 ∧ All2 (TkR R) p.2 p'.2) (valueD kind ts) (valueD kind ts') := by
  have hh : ts.head?.map Tok.kind = ts'.head?.map Tok.kind := by
    cases h with
    | nil => rfl
    | cons ht _ => simp [ht.1]
  unfold valueD
  rw [← hh]
  split
  · have ht := takeK_rel 5 h
    cases e1 : takeK 5 ts <;> cases e2 : takeK 5 ts' <;> rw [e1, e2] at ht <;> simp only [ExR] at ht ⊢
    · exact ht
    · rename_i p p'
      have hu := takeK_rel 2 ht.2
      cases e3 : takeK 2 p.2 <;> cases e4 : takeK 2 p'.2 <;> rw [e3, e4] at hu <;> simp only [ExR] at hu ⊢
      · exact hu
      · exact ⟨hu.1.2.2.1, hu.2⟩
  · exact ⟨rfl, h⟩
theorem decl_rel (kind : Nat) : ∀ (fuel : Nat) {ts ts' : List Tok} {ds ds' : List DcD}, All2 (TkR R) ts ts' → All2 (DcR R) ds ds' →
    ExR R (fun p p' => All2 (TkR R) p.1 p'.1 ∧ All2 (DcR R) p.2 p'.2) (declG kind fuel ts ds) (declG kind fuel ts' ds')
  | 0, ts, ts', ds, ds', h, hd => ⟨h, hd⟩
  | fuel + 1, ts, ts', ds, ds', h, hd => by
    unfold declG
    have ht := nameT_rel h
    cases e1 : nameT ts <;> cases e2 : nameT ts' <;> rw [e1, e2] at ht <;> simp only [ExR] at ht ⊢
    · exact ht
    · rename_i p p'
      have hv := value_rel kind ht.2
      cases e3 : valueD kind p.2 <;> cases e4 : valueD kind p'.2 <;> rw [e3, e4] at hv <;> simp only [ExR] at hv ⊢
      · exact hv
      · rename_i q q'
        obtain ⟨q1, us⟩ := q
        obtain ⟨q2, us'⟩ := q'
        obtain ⟨hq, hu⟩ := hv
        simp only at hq hu ⊢
        subst hq
        have hd2 : All2 (DcR R) (ds ++ [⟨kind, bA p.1.text, q1, p.1.line, p.1.col⟩]) (ds' ++ [⟨kind, bA p'.1.text, q1, p'.1.line, p'.1.col⟩]) := hd.snoc ⟨rfl, congrArg bA ht.1.2.1, rfl, ht.1.2.2.2⟩
        cases hu with
        | nil => exact ⟨.nil, hd2⟩
        | @cons c c' r r' hc hr =>
          simp only
          rw [← hc.1]
          by_cases hk : c.kind = 3
          · rw [if_pos hk, if_pos hk]
            exact decl_rel kind fuel hr hd2
          · rw [if_neg hk, if_neg hk]
            exact ⟨.cons hc hr, hd2⟩
theorem end_rel {α β : Type} {Q : α → β → Prop} {ts ts' : List Tok} {a : α} {b : β} (h : All2 (TkR R) ts ts') (hq : Q a b) : ExR R (fun p p' => All2 (TkR R) p.1 p'.1 ∧ Q p.2 p'.2) (endD ts a) (endD ts' b) := by
  cases h with
  | nil => exact no_rel
  | @cons t t' r r' ht hr =>
    have he : endsB t = endsB t' := by unfold endsB; rw [ht.1]
    unfold endD
    simp only
    rw [← he]
    by_cases h1 : endsB t = true
    · rw [if_pos h1, if_pos h1]
      exact ⟨.cons ht hr, hq⟩
    · rw [if_neg h1, if_neg h1]
      exact flt_rel ht 83
theorem line_rel {ts ts' : List Tok} {u u' : UnD} (h : All2 (TkR R) ts ts') (hu : UnR R u u') : ExR R (fun p p' => All2 (TkR R) p.1 p'.1 ∧ UnR R p.2 p'.2) (lineD ts u) (lineD ts' u') := by
  unfold lineD
  have hl := labels_rel ts.length false (Nat.le_refl _) h hu.2
  cases e1 : labelsD ts u.blocks false <;> cases e2 : labelsD ts' u'.blocks false <;> rw [e1, e2] at hl <;> simp only [ExR] at hl ⊢
  · exact hl
  · rename_i p p'
    obtain ⟨us, bs, any⟩ := p
    obtain ⟨us', bs', any'⟩ := p'
    obtain ⟨l1, l2, l3⟩ := hl
    simp only at l1 l2 l3
    subst l3
    cases l1 with
    | nil => exact no_rel
    | @cons t t' r r' ht hr =>
      have he : endsB t = endsB t' := by unfold endsB; rw [ht.1]
      simp only
      rw [← he, ← ht.1, ← ht.2.1]
      by_cases h1 : endsB t = true
      · rw [if_pos h1, if_pos h1]
        exact ⟨.cons ht hr, hu.1, l2⟩
      · rw [if_neg h1, if_neg h1]
        by_cases h2 : t.kind = 1 ∧ opL t.text ≠ 0
        · rw [if_pos h2, if_pos h2]
          have hi := instr_rel (opL t.text) (All2.cons ht hr) l2
          cases e3 : instrD (opL t.text) (t :: r) bs <;> cases e4 : instrD (opL t.text) (t' :: r') bs' <;> rw [e3, e4] at hi <;> simp only [ExR] at hi ⊢
          · exact hi
          · exact end_rel hi.1 ⟨hu.1, hi.2⟩
        · rw [if_neg h2, if_neg h2]
          by_cases h3 : t.kind ≠ 1 ∨ kindL t.text = 0 ∨ any = true
          · rw [if_pos h3, if_pos h3]
            exact flt_rel ht 80
          · rw [if_neg h3, if_neg h3]
            by_cases h4 : kindL t.text = 5
            · rw [if_pos h4, if_pos h4]
              have hn := nameT_rel hr
              cases e3 : nameT r <;> cases e4 : nameT r' <;> rw [e3, e4] at hn <;> simp only [ExR] at hn ⊢
              · exact hn
              · exact end_rel hn.2 ⟨hu.1, l2.snoc ⟨congrArg bA hn.1.2.1, .nil, hn.1.2.2.2⟩⟩
            · rw [if_neg h4, if_neg h4, ← hr.len]
              have hi := decl_rel (kindL t.text) r.length hr hu.1
              cases e3 : declG (kindL t.text) r.length r u.decls <;> cases e4 : declG (kindL t.text) r.length r' u'.decls <;> rw [e3, e4] at hi <;> simp only [ExR] at hi ⊢
              · exact hi
              · exact end_rel hi.1 ⟨hi.2, l2⟩
theorem lines_rel : ∀ (fuel : Nat) {ts ts' : List Tok} {u u' : UnD}, All2 (TkR R) ts ts' → UnR R u u' → ExR R (UnR R) (linesD fuel ts u) (linesD fuel ts' u')
  | 0, ts, ts', u, u', h, hu => hu
  | fuel + 1, ts, ts', u, u', h, hu => by
    unfold linesD
    have hl := line_rel h hu
    cases e1 : lineD ts u <;> cases e2 : lineD ts' u' <;> rw [e1, e2] at hl <;> simp only [ExR] at hl ⊢
    · exact hl
    · rename_i p p'
      obtain ⟨us, v⟩ := p
      obtain ⟨us', v'⟩ := p'
      obtain ⟨l1, l2⟩ := hl
      simp only at l1 l2
      cases l1 with
      | nil => exact l2
      | @cons t t' r r' ht hr =>
        simp only
        rw [← ht.1]
        by_cases hk : t.kind = 6
        · rw [if_pos hk, if_pos hk]
          exact lines_rel fuel hr l2
        · rw [if_neg hk, if_neg hk]
          exact l2
/-- Tokens alike but for their places: units alike but for these, or the same fault. -/
theorem unitT_rel {ts ts' : List Tok} (h : All2 (TkR R) ts ts') : ExR R (UnR R) (unitT ts) (unitT ts') := by
  unfold unitT
  rw [← h.len]
  exact lines_rel ts.length h ⟨.nil, .nil⟩
end
end Go.AB

/- What is read may be printed: the units of tokens are right. No program in sight. -/
set_option linter.unusedSimpArgs false
set_option linter.unusedVariables false
set_option linter.unusedSectionVars false
namespace Go.AB
open Go.RowKit

/-- A letter, and letters, digits and _ behind it. -/
def shapeL : List UInt8 → Bool
  | [] => false
  | c :: r => isLett c && r.all isNameC
/-- The tokens' names are shaped as the lexer shapes them. -/
def TokS (ts : List Tok) : Prop := ∀ t ∈ ts, t.kind = 1 → shapeL t.text = true
theorem TokS.tail {t : Tok} {r : List Tok} (h : TokS (t :: r)) : TokS r := fun x hx => h x (List.mem_cons_of_mem _ hx)
theorem takeK_ok {k : Nat} {ts : List Tok} {t : Tok} {r : List Tok} (h : takeK k ts = .ok (t, r)) : ts = t :: r ∧ t.kind = k := by
  unfold takeK at h
  split at h
  · cases h
  · split at h
    · rename_i hk
      cases h
      exact ⟨rfl, hk⟩
    · cases h
theorem nameT_ok {ts : List Tok} {t : Tok} {r : List Tok} (h : nameT ts = .ok (t, r)) : ts = t :: r ∧ freeB t = true ∧ t.text.length ≤ 24 := by
  unfold nameT at h
  split at h
  · cases h
  · split at h
    · cases h
    · split at h
      · cases h
      · rename_i h1 h2
        cases h
        exact ⟨rfl, by simpa using h1, by omega⟩
theorem name_ok {t : Tok} (hs : t.kind = 1 → shapeL t.text = true) (hf : freeB t = true) (hl : t.text.length ≤ 24) : nameP t.text = true := by
  unfold freeB at hf
  simp only [Bool.and_eq_true, decide_eq_true_eq] at hf
  have h1 := hs hf.1
  unfold nameP
  rw [hf.2, Bool.and_true]
  revert h1 hl
  cases t.text with
  | nil => intro _ h; exact h
  | cons c r =>
    intro hl h
    simp only [shapeL, Bool.and_eq_true] at h
    simp only [List.length_cons] at hl
    simp only [nameL, Bool.and_eq_true, decide_eq_true_eq]
    exact ⟨⟨by omega, h.1⟩, h.2⟩
theorem bA_list (s : List UInt8) : (bA s).data.toList = s := rfl
theorem idx_le (l : List (List UInt8)) (s : List UInt8) : idxOf l s ≤ l.length := by
  have h : ∀ (l : List (List UInt8)) (i : Nat), idxOf.go s l i = 0 ∨ (i ≤ idxOf.go s l i ∧ idxOf.go s l i < i + l.length) := by
    intro l
    induction l with
    | nil => intro i; exact .inl rfl
    | cons x r ih =>
      intro i
      unfold idxOf.go
      split
      · exact .inr ⟨Nat.le_refl _, by simp⟩
      · rcases ih (i + 1) with h | h
        · exact .inl h
        · exact .inr ⟨by omega, by simp only [List.length_cons]; omega⟩
  rcases h l 1 with h | h
  · unfold idxOf; omega
  · unfold idxOf; omega
theorem reg_lt {s : List UInt8} (h : 0 ≤ regL s) : regB (regL s) = true := by
  have h1 := idx_le ((List.range 16).map fun i => 114 :: Lib.decDigits i) s
  simp only [List.length_map, List.length_range] at h1
  unfold regB
  unfold regL at h ⊢
  simp only [decide_eq_true_eq]
  omega
/-- What the operands leave. -/
structure OpPost (f : List UInt8) (k : Nat) (x y : ItD) : Prop where
  op : y.op = x.op
  a : if k = 0 ∧ 1 ≤ f.count 114 then regB y.a = true else y.a = x.a
  b : if k ≤ 1 ∧ 2 ≤ k + f.count 114 then regB y.b = true else y.b = x.b
  c : if k ≤ 2 ∧ 3 ≤ k + f.count 114 then regB y.c = true else y.c = x.c
  n : 110 ∉ f → y.n = x.n
  nm : if 120 ∈ f then nameP y.name.data.toList = true else y.name = x.name
theorem opers_ok : ∀ (f : List UInt8) (first : Bool) (k : Nat) (ts : List Tok) (x : ItD) {ts' : List Tok} {y : ItD}, (∀ c ∈ f, c = 114 ∨ c = 110 ∨ c = 120) → f.count 120 ≤ 1 → k + f.count 114 ≤ 3 → TokS ts → opersD f first k ts x = .ok (ts', y) → OpPost f k x y ∧ TokS ts'
  | [], first, k, ts, x, ts', y, hf, h1, h3, hs, h => by
    unfold opersD at h
    cases h
    exact ⟨⟨rfl, by simp, by rw [if_neg (by simp; omega)], by rw [if_neg (by simp; omega)], fun _ => rfl, by simp⟩, hs⟩
  | c :: f, first, k, ts, x, ts', y, hf, h1, h3, hs, h => by
    have hc := hf c (List.mem_cons_self ..)
    have hf2 : ∀ c ∈ f, c = 114 ∨ c = 110 ∨ c = 120 := fun d hd => hf d (List.mem_cons_of_mem _ hd)
    unfold opersD at h
    have hcm : ∀ us, (if first = true then Except.ok ts else (takeK 3 ts).map Prod.snd) = .ok us → TokS us := by
      intro us hu
      split at hu
      · cases hu; exact hs
      · cases e : takeK 3 ts with
        | error e9 => rw [e] at hu; cases hu
        | ok p =>
          rw [e] at hu
          cases hu
          obtain ⟨rfl, _⟩ := takeK_ok (t := p.1) (r := p.2) e
          exact hs.tail
    revert h hcm
    generalize (if first = true then Except.ok ts else (takeK 3 ts).map Prod.snd) = A
    intro h hcm
    cases A with
    | error e => cases h
    | ok us =>
      have hus := hcm us rfl
      simp only at h
      cases eo : operD c k us x with
      | error e => rw [eo] at h; cases h
      | ok p =>
        obtain ⟨vs, k2, x2⟩ := p
        rw [eo] at h
        simp only at h
        unfold operD at eo
        rcases hc with rfl | rfl | rfl
        · rw [if_pos rfl] at eo
          rw [List.count_cons_self] at h3
          rw [List.count_cons_of_ne (by decide)] at h1
          split at eo
          · cases eo
          · rename_i t r
            split at eo
            · rename_i hr
              cases eo
              obtain ⟨g, gs⟩ := opers_ok f false (k + 1) vs _ hf2 h1 (by omega) hus.tail h
              obtain ⟨g1, g2, g3, g4, g5, g6⟩ := g
              have hrr := reg_lt hr.2
              rw [if_neg (by omega)] at g2
              refine ⟨⟨?_, ?_, ?_, ?_, ?_, ?_⟩, gs⟩
              · rw [g1]; unfold setReg; (repeat' split) <;> rfl
              · rw [List.count_cons_self]
                by_cases hk : k = 0
                · rw [if_pos ⟨hk, by omega⟩, g2]
                  unfold setReg
                  rw [if_pos hk]
                  exact hrr
                · rw [if_neg (by omega), g2]
                  unfold setReg
                  rw [if_neg hk]
                  split <;> rfl
              · rw [List.count_cons_self]
                by_cases hk : k ≤ 1
                · by_cases h2 : 2 ≤ k + (f.count 114 + 1)
                  · rw [if_pos ⟨hk, h2⟩]
                    by_cases hk0 : k = 0
                    · rw [if_pos (by omega)] at g3
                      exact g3
                    · rw [if_neg (by omega)] at g3
                      rw [g3]
                      unfold setReg
                      rw [if_neg hk0, if_pos (by omega)]
                      exact hrr
                  · rw [if_neg (by omega)]
                    rw [if_neg (by omega)] at g3
                    rw [g3]
                    unfold setReg
                    rw [if_pos (by omega)]
                · rw [if_neg (by omega)]
                  rw [if_neg (by omega)] at g3
                  rw [g3]
                  unfold setReg
                  rw [if_neg (by omega), if_neg (by omega)]
              · rw [List.count_cons_self]
                by_cases h2 : 3 ≤ k + (f.count 114 + 1)
                · rw [if_pos ⟨by omega, h2⟩]
                  by_cases hk2 : k = 2
                  · rw [if_neg (by omega)] at g4
                    rw [g4]
                    unfold setReg
                    rw [if_neg (by omega), if_neg (by omega)]
                    exact hrr
                  · rw [if_pos (by omega)] at g4
                    exact g4
                · rw [if_neg (by omega)]
                  rw [if_neg (by omega)] at g4
                  rw [g4]
                  unfold setReg
                  split
                  · rfl
                  · rw [if_pos (by omega)]
              · intro hn
                rw [g5 (fun hm => hn (List.mem_cons_of_mem _ hm))]
                unfold setReg
                (repeat' split) <;> rfl
              · have hm : (120 ∈ (114 :: f : List UInt8)) ↔ 120 ∈ f := by simp
                by_cases h120 : (120 : UInt8) ∈ f
                · rw [if_pos (hm.2 h120)]
                  rw [if_pos h120] at g6
                  exact g6
                · rw [if_neg (fun h => h120 (hm.1 h))]
                  rw [if_neg h120] at g6
                  rw [g6]
                  unfold setReg
                  (repeat' split) <;> rfl
            · cases eo
        · rw [if_neg (by decide), if_pos rfl] at eo
          rw [List.count_cons_of_ne (by decide)] at h1 h3
          cases et : takeK 2 us with
          | error e => rw [et] at eo; cases eo
          | ok q =>
            rw [et] at eo
            cases eo
            obtain ⟨rfl, _⟩ := takeK_ok (t := q.1) (r := q.2) et
            obtain ⟨g, gs⟩ := opers_ok f false _ _ _ hf2 h1 h3 hus.tail h
            obtain ⟨g1, g2, g3, g4, g5, g6⟩ := g
            refine ⟨⟨g1, ?_, ?_, ?_, fun hn => absurd (List.mem_cons_self ..) hn, ?_⟩, gs⟩
            · rw [List.count_cons_of_ne (by decide)]; exact g2
            · rw [List.count_cons_of_ne (by decide)]; exact g3
            · rw [List.count_cons_of_ne (by decide)]; exact g4
            · have hm : (120 ∈ (110 :: f : List UInt8)) ↔ 120 ∈ f := by simp
              by_cases h120 : (120 : UInt8) ∈ f
              · rw [if_pos (hm.2 h120)]
                rw [if_pos h120] at g6
                exact g6
              · rw [if_neg (fun h => h120 (hm.1 h))]
                rw [if_neg h120] at g6
                exact g6
        · rw [if_neg (by decide), if_neg (by decide)] at eo
          rw [List.count_cons_of_ne (by decide)] at h3
          rw [List.count_cons_self] at h1
          cases et : nameT us with
          | error e => rw [et] at eo; cases eo
          | ok q =>
            rw [et] at eo
            cases eo
            obtain ⟨rfl, hfr, hle⟩ := nameT_ok (t := q.1) (r := q.2) et
            obtain ⟨g, gs⟩ := opers_ok f false _ _ _ hf2 (by omega) h3 hus.tail h
            obtain ⟨g1, g2, g3, g4, g5, g6⟩ := g
            have hno : (120 : UInt8) ∉ f := fun hm => by
              have := List.count_pos_iff.2 hm
              omega
            refine ⟨⟨g1, ?_, ?_, ?_, fun hn => g5 (fun hm => hn (List.mem_cons_of_mem _ hm)), ?_⟩, gs⟩
            · rw [List.count_cons_of_ne (by decide)]; exact g2
            · rw [List.count_cons_of_ne (by decide)]; exact g3
            · rw [List.count_cons_of_ne (by decide)]; exact g4
            · rw [if_pos (List.mem_cons_self ..)]
              rw [if_neg hno] at g6
              rw [g6]
              exact name_ok (hus q.1 (List.mem_cons_self ..)) hfr hle
end Go.AB

/- The units of tokens may be printed. No program in sight. -/
set_option linter.unusedSimpArgs false
set_option linter.unusedVariables false
set_option linter.unusedSectionVars false
namespace Go.AB
open Go.RowKit

theorem form_facts : ∀ i : Fin 21, (∀ c ∈ formAt (i.val : Int), c = 114 ∨ c = 110 ∨ c = 120) ∧ (formAt (i.val : Int)).count 120 ≤ 1 ∧ (formAt (i.val : Int)).count 114 ≤ 3 ∧ (i.val ≠ 0 → (wordAt (i.val : Int)).isEmpty = false) := by decide +kernel
theorem opL_le (s : List UInt8) : opL s ≤ 20 := by
  have h := idx_le (opTab.map Prod.fst) s
  have e : (opTab.map Prod.fst).length = 20 := by rfl
  unfold opL
  omega
/-- Every Item and name so far may be printed. -/
def BksOk (bs : List BkD) : Prop := bs.all blockOk = true
theorem bks_snoc {bs : List BkD} {b : BkD} (h : BksOk bs) (hb : blockOk b = true) : BksOk (bs ++ [b]) := by
  unfold BksOk at h ⊢
  rw [List.all_append, h]
  simp [hb]
theorem put_ok {bs : List BkD} {x : ItD} (h : BksOk bs) (hx : itemOk x = true) : BksOk (putLast x bs) := by
  unfold putLast
  split
  · exact h
  · rename_i k hk
    have hm := List.mem_of_getLast? hk
    have hall := List.all_eq_true.1 h
    refine bks_snoc (List.all_eq_true.2 fun b hb => hall b ((List.dropLast_sublist bs).mem hb)) ?_
    have h1 := hall k hm
    unfold blockOk at h1 ⊢
    simp only [Bool.and_eq_true] at h1
    simp only [List.all_append, List.all_cons, List.all_nil, Bool.and_true, Bool.and_eq_true]
    exact ⟨h1.1, h1.2, hx⟩
theorem label_ok {t : Tok} (h : nameP t.text = true) : itemOk (labelI t) = true := by
  unfold itemOk labelI
  simp [h, bA_list]
theorem labels_ok2 : ∀ (n : Nat) (ts : List Tok) (bs : List BkD) (any : Bool) {p : List Tok × List BkD × Bool}, ts.length ≤ n → TokS ts → BksOk bs → labelsD ts bs any = .ok p → TokS p.1 ∧ BksOk p.2.1
  | n, [], bs, any, p, _, hs, hb, h => by unfold labelsD at h; cases h; exact ⟨hs, hb⟩
  | n, [t], bs, any, p, _, hs, hb, h => by unfold labelsD at h; cases h; exact ⟨hs, hb⟩
  | 0, t :: c :: r, bs, any, p, hn, hs, hb, h => by simp at hn
  | n + 1, t :: c :: r, bs, any, p, hn, hs, hb, h => by
    unfold labelsD at h
    split at h
    · rename_i h1
      split at h
      · cases h
      · split at h
        · cases h
        · rename_i h2 h3
          exact labels_ok2 n r _ _ (by simp only [List.length_cons] at hn; omega) hs.tail.tail (put_ok hb (label_ok (name_ok (hs t (List.mem_cons_self ..)) h1.1 (by omega)))) h
    · cases h
      exact ⟨hs, hb⟩
theorem instr_ok {op : Nat} (h0 : op ≠ 0) (h20 : op ≤ 20) {ts : List Tok} {bs : List BkD} {p : List Tok × List BkD} (hs : TokS ts) (hb : BksOk bs) (h : instrD op ts bs = .ok p) : TokS p.1 ∧ BksOk p.2 := by
  unfold instrD at h
  cases ts with
  | nil => cases h
  | cons t r =>
    dsimp only at h
    split at h
    · cases h
    · split at h
      · cases h
      · rename_i us y ho
        cases h
        obtain ⟨f1, f2, f3, f4⟩ := form_facts ⟨op, by omega⟩
        simp only at f1 f2 f3 f4
        obtain ⟨⟨g1, g2, g3, g4, g5, g6⟩, gs⟩ := opers_ok _ true 0 r _ f1 f2 (by omega) hs.tail ho
        simp only at g1 g2 g3 g4 g5 g6
        refine ⟨gs, put_ok hb ?_⟩
        have hop : y.op ≠ 0 := by rw [g1]; omega
        unfold itemOk
        simp only [Bool.and_eq_true]
        rw [if_neg hop, g1, f4 h0]
        refine ⟨⟨⟨⟨⟨by simp, ?_⟩, ?_⟩, ?_⟩, ?_⟩, ?_⟩
        · split at g2
          · rename_i hc
            rw [if_pos hc.2]; exact g2
          · rename_i hc
            rw [if_neg (fun e => hc ⟨trivial, e⟩), g2]; rfl
        · split at g3
          · rename_i hc
            rw [if_pos (by omega)]; exact g3
          · rename_i hc
            rw [if_neg (by omega), g3]; rfl
        · split at g4
          · rename_i hc
            rw [if_pos (by omega)]; exact g4
          · rename_i hc
            rw [if_neg (by omega), g4]; rfl
        · by_cases hn : (110 : UInt8) ∈ formAt op
          · simp [hn]
          · rw [g5 hn]; simp
        · split at g6
          · rename_i hc
            rw [if_pos hc]; exact g6
          · rename_i hc
            rw [if_neg hc, g6]; rfl
theorem value_ok {kind : Nat} {ts : List Tok} {p : Int × List Tok} (hs : TokS ts) (h : valueD kind ts = .ok p) : TokS p.2 ∧ (kind = 3 → p.1 = 0) := by
  unfold valueD at h
  split at h
  · rename_i hk
    split at h
    · cases h
    · rename_i a us h1
      split at h
      · cases h
      · rename_i t vs h2
        cases h
        obtain ⟨rfl, _⟩ := takeK_ok h1
        obtain ⟨rfl, _⟩ := takeK_ok h2
        exact ⟨hs.tail.tail, fun e => by omega⟩
  · cases h
    exact ⟨hs, fun _ => rfl⟩
theorem decl_ok {kind : Nat} (hk : 1 ≤ kind ∧ kind ≤ 4) : ∀ (fuel : Nat) (ts : List Tok) (ds : List DcD) {p : List Tok × List DcD}, TokS ts → ds.all declOk = true → declG kind fuel ts ds = .ok p → TokS p.1 ∧ p.2.all declOk = true
  | 0, ts, ds, p, hs, hd, h => by unfold declG at h; cases h; exact ⟨hs, hd⟩
  | fuel + 1, ts, ds, p, hs, hd, h => by
    unfold declG at h
    split at h
    · cases h
    · rename_i t us h1
      obtain ⟨rfl, hf, hl⟩ := nameT_ok h1
      split at h
      · cases h
      · rename_i v vs h2
        obtain ⟨hvs, hv⟩ := value_ok hs.tail h2
        have hd2 : (ds ++ [(⟨kind, bA t.text, v, t.line, t.col⟩ : DcD)]).all declOk = true := by
          rw [List.all_append, hd]
          have hnm := name_ok (hs t (List.mem_cons_self ..)) hf hl
          unfold declOk
          simp only [List.all_cons, List.all_nil, Bool.and_true, Bool.true_and, Bool.and_eq_true, Bool.or_eq_true, decide_eq_true_eq, bA_list]
          refine ⟨⟨by omega, hnm⟩, ?_⟩
          by_cases h3 : kind = 3
          · exact .inr (hv h3)
          · exact .inl (by omega)
        simp only at hvs
        split at h
        · rename_i c r
          split at h
          · exact decl_ok hk fuel r _ hvs.tail hd2 h
          · cases h; exact ⟨hvs, hd2⟩
        · cases h; exact ⟨hvs, hd2⟩
theorem end_ok {α : Type} {ts : List Tok} {a : α} {p : List Tok × α} (hs : TokS ts) (h : endD ts a = .ok p) : TokS p.1 ∧ p.2 = a := by
  unfold endD at h
  split at h
  · cases h
  · split at h
    · cases h; exact ⟨hs, rfl⟩
    · cases h
theorem line_ok {ts : List Tok} {u : UnD} {p : List Tok × UnD} (hs : TokS ts) (hu : unitOk u = true) (h : lineD ts u = .ok p) : TokS p.1 ∧ unitOk p.2 = true := by
  unfold unitOk at hu
  simp only [Bool.and_eq_true] at hu
  have key : ∀ (ds : List DcD) (bs : List BkD), ds.all declOk = true → BksOk bs → unitOk ⟨ds, bs⟩ = true := fun ds bs h1 h2 => by
    unfold unitOk
    simp only [Bool.and_eq_true]
    exact ⟨h1, h2⟩
  unfold lineD at h
  split at h
  · cases h
  · cases h
  · rename_i t r bs any hl
    obtain ⟨l1, l2⟩ := labels_ok2 _ _ _ _ (Nat.le_refl _) hs hu.2 hl
    simp only at l1 l2
    split at h
    · cases h
      exact ⟨l1, key _ _ hu.1 l2⟩
    · split at h
      · rename_i ho
        split at h
        · cases h
        · rename_i us bs2 hi
          obtain ⟨i1, i2⟩ := instr_ok ho.2 (opL_le _) l1 l2 hi
          obtain ⟨e1, e2⟩ := end_ok i1 h
          exact ⟨e1, by rw [e2]; exact key _ _ hu.1 i2⟩
      · split at h
        · cases h
        · rename_i h3
          split at h
          · split at h
            · cases h
            · rename_i n us hn
              obtain ⟨rfl, hf, hle⟩ := nameT_ok hn
              obtain ⟨e1, e2⟩ := end_ok l1.tail.tail h
              refine ⟨e1, ?_⟩
              rw [e2]
              refine key _ _ hu.1 (bks_snoc l2 ?_)
              unfold blockOk
              simp only [bA_list, List.all_nil, Bool.and_true]
              exact name_ok (l1.tail n (List.mem_cons_self ..)) hf hle
          · rename_i h5
            split at h
            · cases h
            · rename_i us ds hd
              have hk5 : kindL t.text ≤ 5 := idx_le kindTab _
              have hk0 : kindL t.text ≠ 0 := fun e => h3 (.inr (.inl e))
              obtain ⟨d1, d2⟩ := decl_ok (by omega) _ _ _ l1.tail hu.1 hd
              obtain ⟨e1, e2⟩ := end_ok d1 h
              exact ⟨e1, by rw [e2]; exact key _ _ d2 l2⟩
theorem lines_ok : ∀ (fuel : Nat) (ts : List Tok) (u : UnD) {v : UnD}, TokS ts → unitOk u = true → linesD fuel ts u = .ok v → unitOk v = true
  | 0, ts, u, v, hs, hu, h => by unfold linesD at h; cases h; exact hu
  | fuel + 1, ts, u, v, hs, hu, h => by
    unfold linesD at h
    split at h
    · cases h
    · rename_i t r w hl
      obtain ⟨l1, l2⟩ := line_ok hs hu hl
      split at h
      · exact lines_ok fuel r w l1.tail l2 h
      · cases h; exact l2
    · rename_i w hl
      cases h
      exact (line_ok hs hu hl).2
/-- What is read may be printed. -/
theorem unitT_ok {ts : List Tok} {u : UnD} (hs : TokS ts) (h : unitT ts = .ok u) : unitOk u = true := lines_ok _ _ _ hs rfl h
end Go.AB

/- The lexer at what the printer writes. No program in sight. -/
set_option linter.unusedSimpArgs false
set_option linter.unusedVariables false
set_option linter.unusedSectionVars false
namespace Go.AB
open Go.RowKit

theorem lett_eq (c : UInt8) : isLett c = isLetter c := rfl
theorem namec_eq (c : UInt8) : isNameC c = isWordly c := by
  unfold isNameC isWordly isDigit
  rw [lett_eq]
  cases isLetter c <;> cases h : (decide (c.toNat = 95)) <;> simp_all
theorem letter_blank {c : UInt8} (h : isLetter c = true) : isBlank c = false ∧ c.toNat ≠ 59 := by
  unfold isLetter at h
  unfold isBlank
  simp only [Bool.or_eq_true, Bool.and_eq_true, decide_eq_true_eq] at h
  refine ⟨?_, by omega⟩
  simp only [Bool.or_eq_false_iff, beq_eq_false_iff_ne]
  omega
/-- The lexer's names are letters, and letters, digits and _ behind. -/
theorem tok_shape {d : List UInt8} {k : Nat} {t : List UInt8} {v : Int} {n : Nat} (h : act1 d = .tok k t v n) (hk : k = 1) : shapeL t = true := by
  subst hk
  cases d with
  | nil =>
    have h1 : act1 [] = .tok 7 [] 0 0 := rfl
    rw [h1] at h
    cases h
  | cons c r =>
    obtain ⟨_, _, h3⟩ := act1_tokAt h
    unfold tokAt at h3
    simp only at h3
    split at h3
    · rename_i hl
      simp only [Prod.mk.injEq] at h3
      obtain ⟨_, _, ht, _, _⟩ := h3
      subst ht
      have hw : isWordly c = true := by unfold isWordly; rw [hl]; rfl
      have h4 := runLen_all isWordly (c :: r)
      have e : runLen isWordly (c :: r) = runLen isWordly r + 1 := by
        show (if isWordly c then _ else _) = _
        rw [if_pos hw]
      rw [e] at h4 ⊢
      rw [List.take_succ_cons] at h4 ⊢
      unfold shapeL
      dsimp only
      rw [lett_eq, hl, Bool.true_and, List.all_eq_true]
      intro x hx
      rw [namec_eq]
      exact h4 x (List.mem_cons_of_mem _ hx)
    · split at h3
      · split at h3 <;> simp at h3
      · repeat' split at h3
        all_goals simp at h3
theorem lexed_shape {d : List UInt8} {p : Nat × Nat} {ts : List Tok} (h : Lexed d p ts) : TokS ts := by
  induction h with
  | stop p => intro t ht hk; rw [List.mem_singleton] at ht; subst ht; cases hk
  | pass _ _ ih => exact ih
  | tok h hk _ ih =>
    intro t ht h1
    rcases List.mem_cons.1 ht with rfl | ht
    · exact tok_shape h h1
    · exact ih t ht h1
/-- A name is lexed as it is. -/
theorem lex_name {s z : List UInt8} (hs : shapeL s = true) (hz : nonw z) : act1 (s ++ z) = .tok 1 s 0 s.length := by
  cases s with
  | nil => cases hs
  | cons c r =>
    simp only [shapeL, Bool.and_eq_true] at hs
    have hl : isLetter c = true := hs.1
    obtain ⟨b1, b2⟩ := letter_blank hl
    have hall : ∀ x ∈ c :: r, isWordly x = true := by
      intro x hx
      rcases List.mem_cons.1 hx with rfl | hx
      · unfold isWordly; rw [hl]; rfl
      · rw [← namec_eq]; exact List.all_eq_true.1 hs.2 x hx
    have hr := runLen_append hz (c :: r) hall
    rw [List.cons_append] at hr ⊢
    refine act1_of_tokAt b1 b2 ?_
    unfold tokAt
    simp only
    rw [if_pos hl, hr]
    congr 3
    rw [← List.cons_append, List.take_left']
    rfl
theorem lex_mark (z : List UInt8) : act1 (44 :: z) = .tok 3 [] 0 1 ∧ act1 (58 :: z) = .tok 4 [] 0 1 ∧ act1 (61 :: z) = .tok 5 [] 0 1 ∧ act1 (10 :: z) = .tok 6 [] 0 1 ∧ act1 (32 :: z) = .pass 1 := by
  refine ⟨?_, ?_, ?_, ?_, act1_blank (by decide)⟩ <;> refine act1_of_tokAt (by decide) (by decide) ?_ <;> unfold tokAt <;> simp [isLetter, isDigit]
end Go.AB

/- The lexer at a printed number. No program in sight. -/
set_option linter.unusedSimpArgs false
set_option linter.unusedVariables false
set_option linter.unusedSectionVars false
namespace Go.AB
open Go.RowKit

theorem dig_byte {u : Nat} (h : u < 10) : (UInt8.ofNat (48 + u)).toNat = 48 + u := by
  rw [UInt8.toNat_ofNat']
  omega
theorem digs_say : ∀ (n u : Nat), u < n → decNat (Lib.decDigits u) = u ∧ (∀ c ∈ Lib.decDigits u, isDigit c = true) ∧ Lib.decDigits u ≠ []
  | 0, u, h => absurd h (Nat.not_lt_zero _)
  | n + 1, u, h => by
    have hd : ∀ v, v < 10 → isDigit (UInt8.ofNat (48 + v)) = true := fun v hv => by
      unfold isDigit
      rw [dig_byte hv]
      simp only [Bool.and_eq_true, decide_eq_true_eq]
      omega
    by_cases h10 : u < 10
    · rw [Lib.decDigits, dif_pos h10]
      refine ⟨?_, fun c hc => ?_, by simp⟩
      · unfold decNat
        simp only [List.foldl_cons, List.foldl_nil, dig_byte h10]
        omega
      · rw [List.mem_singleton] at hc
        subst hc
        exact hd u h10
    · obtain ⟨h1, h2, _⟩ := digs_say n (u / 10) (by omega)
      have h3 : u % 10 < 10 := Nat.mod_lt _ (by omega)
      rw [Lib.decDigits, dif_neg h10]
      refine ⟨?_, fun c hc => ?_, by simp⟩
      · unfold decNat at h1 ⊢
        rw [List.foldl_append, h1]
        simp only [List.foldl_cons, List.foldl_nil, dig_byte h3]
        omega
      · rcases List.mem_append.1 hc with hc | hc
        · exact h2 c hc
        · rw [List.mem_singleton] at hc
          subst hc
          exact hd _ h3
theorem digit_not {c : UInt8} (h : isDigit c = true) : isLetter c = false ∧ isBlank c = false ∧ c.toNat ≠ 59 ∧ c.toNat ≠ 45 ∧ c ≠ 45 ∧ c ≠ 120 := by
  unfold isDigit at h
  simp only [Bool.and_eq_true, decide_eq_true_eq] at h
  refine ⟨?_, ?_, by omega, by omega, ?_, ?_⟩
  · unfold isLetter
    simp only [Bool.or_eq_false_iff, Bool.and_eq_false_iff, decide_eq_false_iff_not]
    omega
  · unfold isBlank
    simp only [Bool.or_eq_false_iff, beq_eq_false_iff_ne]
    omega
  · rintro rfl; simp at h
  · rintro rfl; simp at h
theorem nonw_digit {z : List UInt8} (hz : nonw z) : ∀ c, z.head? = some c → isDigit c = false := fun c h => wordly_digit (hz c h)
theorem dig_run {u : Nat} {z : List UInt8} (hz : nonw z) : runLen isDigit (Lib.decDigits u ++ z) = (Lib.decDigits u).length :=
  runLen_append (nonw_digit hz) _ (digs_say _ u (Nat.lt_succ_self u)).2.1
theorem wAt_end {l z : List UInt8} (hz : nonw z) : wAt (l ++ z) l.length = false := by
  have h := wAt_cut (l := l) hz (Nat.le_refl _)
  rwa [List.take_length] at h
/-- A printed number is lexed as it. -/
theorem lex_num {n : Int} {z : List UInt8} (h1 : -9223372036854775808 ≤ n) (h2 : n ≤ 9223372036854775807) (hz : nonw z) : act1 (numS n ++ z) = .tok 2 [] n (numS n).length := by
  unfold numS Lib.itoa
  by_cases hn : n < 0
  · rw [if_pos hn]
    obtain ⟨v1, v2, v3⟩ := digs_say _ n.natAbs (Nat.lt_succ_self _)
    have hr := dig_run (u := n.natAbs) hz
    rw [List.cons_append]
    refine act1_of_tokAt (by decide) (by decide) ?_
    unfold tokAt
    simp only
    rw [if_neg (by decide)]
    have hd : isDigit 45 = true ∨ ((45 : UInt8).toNat = 45 ∧ ∃ d ∈ (Lib.decDigits n.natAbs ++ z).head?, isDigit d = true) := by
      refine .inr ⟨rfl, ?_⟩
      cases hl : Lib.decDigits n.natAbs with
      | nil => exact absurd hl v3
      | cons a r => exact ⟨a, by simp, v2 a (by rw [hl]; exact List.mem_cons_self ..)⟩
    rw [if_pos hd]
    have hna : numAt (45 :: (Lib.decDigits n.natAbs ++ z)) = some (n, (Lib.decDigits n.natAbs).length + 1) := by
      unfold numAt
      rw [if_neg (by simp), if_pos (by simp)]
      simp only [List.drop_succ_cons, List.drop_zero]
      rw [hr, List.take_left' rfl, v1, if_pos (by omega)]
      simp only [Option.some.injEq, Prod.mk.injEq, and_true]
      omega
    have hw : wAt (45 :: (Lib.decDigits n.natAbs ++ z)) ((Lib.decDigits n.natAbs).length + 1) = false := by
      have := wAt_end (l := 45 :: Lib.decDigits n.natAbs) hz
      simpa using this
    unfold numTokAt
    rw [hna]
    simp only [hw]
    rfl
  · rw [if_neg hn]
    obtain ⟨v1, v2, v3⟩ := digs_say _ n.toNat (Nat.lt_succ_self _)
    have hr := dig_run (u := n.toNat) hz
    have hw := wAt_end (l := Lib.decDigits n.toNat) hz
    have hx : ¬ ((Lib.decDigits n.toNat ++ z).head? = some 48 ∧ (Lib.decDigits n.toNat ++ z)[1]? = some 120) := by
      rintro ⟨_, e⟩
      cases hl : Lib.decDigits n.toNat with
      | nil => exact v3 hl
      | cons a r =>
        rw [hl] at e v2
        cases r with
        | nil =>
          cases z with
          | nil => simp at e
          | cons b z =>
            simp at e
            subst e
            have := hz 120 rfl
            revert this
            decide
        | cons b r =>
          simp at e
          subst e
          have := (digit_not (v2 120 (by simp))).2.2.2.2.2
          exact this rfl
    have hna : numAt (Lib.decDigits n.toNat ++ z) = some (n, (Lib.decDigits n.toNat).length) := by
      unfold numAt
      rw [if_neg hx, if_neg (fun e => ?_), hr, List.take_left' rfl, v1, if_pos (by omega)]
      · simp only [Option.some.injEq, Prod.mk.injEq, and_true]
        omega
      · cases hl : Lib.decDigits n.toNat with
        | nil => exact v3 hl
        | cons a r =>
          rw [hl] at e v2
          simp at e
          subst e
          exact (digit_not (v2 45 (by simp))).2.2.2.2.1 rfl
    have hnt : numTokAt (Lib.decDigits n.toNat ++ z) = some (n, (Lib.decDigits n.toNat).length) := by
      unfold numTokAt
      rw [hna]
      simp only [hw]
      rfl
    cases hl : Lib.decDigits n.toNat with
    | nil => exact absurd hl v3
    | cons a r =>
      rw [hl] at hnt v2
      obtain ⟨d1, d2, d3, d4, _, _⟩ := digit_not (v2 a (List.mem_cons_self ..))
      rw [List.cons_append] at hnt ⊢
      refine act1_of_tokAt d2 d3 ?_
      unfold tokAt
      simp only
      rw [if_neg (by rw [d1]; decide), if_pos (.inl (v2 a (List.mem_cons_self ..))), hnt]
end Go.AB

/- A printed unit lexed. No program in sight. -/
set_option linter.unusedSimpArgs false
set_option linter.unusedVariables false
set_option linter.unusedSectionVars false
namespace Go.AB
open Go.RowKit

/-- Alike but for the places. -/
def anyR : Int → Int → Int → Int → Prop := fun _ _ _ _ => True
def T1 (s : List UInt8) : Tok := ⟨1, s, 0, 0, 0⟩
def T2 (n : Int) : Tok := ⟨2, [], n, 0, 0⟩
def TK (k : Nat) : Tok := ⟨k, [], 0, 0, 0⟩
/-- Some bytes say some tokens, where (if c) no letter follows. -/
def Lx (c : Bool) (s : List UInt8) (us : List Tok) : Prop := ∀ (z : List UInt8) (p : Nat × Nat) (ts : List Tok), (c = true → nonw z) → Lexed z (pos p s) ts → ∃ us', All2 (TkR anyR) us' us ∧ Lexed (s ++ z) p (us' ++ ts)
theorem Lx.nil : Lx false [] [] := fun z p ts _ h => ⟨[], .nil, h⟩
theorem Lx.weak {s : List UInt8} {us : List Tok} (h : Lx false s us) : Lx true s us := fun z p ts _ hl => h z p ts (by simp) hl
/-- One behind the other. -/
theorem Lx.app {c1 c2 : Bool} {s1 s2 : List UInt8} {u1 u2 : List Tok} (h1 : Lx c1 s1 u1) (h2 : Lx c2 s2 u2) (hn : c1 = true → ∀ z, nonw (s2 ++ z) ∨ (s2 = [] ∧ c2 = true)) : Lx c2 (s1 ++ s2) (u1 ++ u2) := by
  intro z p ts hz hl
  rw [pos_append] at hl
  obtain ⟨us2, a2, l2⟩ := h2 z (pos p s1) ts hz hl
  obtain ⟨us1, a1, l1⟩ := h1 (s2 ++ z) p (us2 ++ ts) (fun hc => by
    rcases hn hc z with h | ⟨rfl, h⟩
    · exact h
    · exact hz h) l2
  exact ⟨us1 ++ us2, a1.app a2, by rw [List.append_assoc, List.append_assoc]; exact l1⟩
theorem lx_name {s : List UInt8} (hs : shapeL s = true) : Lx true s [T1 s] := by
  intro z p ts hz hl
  have h := lex_name hs (hz rfl)
  refine ⟨[⟨1, s, 0, p.1, p.2⟩], .cons ⟨rfl, rfl, rfl, trivial⟩ .nil, ?_⟩
  have := Lexed.tok (p := p) h (by decide) (ts := ts) (by rw [List.drop_left' rfl, List.take_left' rfl]; exact hl)
  exact this
theorem lx_num {n : Int} (h1 : -9223372036854775808 ≤ n) (h2 : n ≤ 9223372036854775807) : Lx true (numS n) [T2 n] := by
  intro z p ts hz hl
  have h := lex_num h1 h2 (hz rfl)
  refine ⟨[⟨2, [], n, p.1, p.2⟩], .cons ⟨rfl, rfl, rfl, trivial⟩ .nil, ?_⟩
  have := Lexed.tok (p := p) h (by decide) (ts := ts) (by rw [List.drop_left' rfl, List.take_left' rfl]; exact hl)
  exact this
theorem lx_one {b : UInt8} {k : Nat} (hk : k ≠ 7) (h : ∀ z, act1 (b :: z) = .tok k [] 0 1) : Lx false [b] [TK k] := by
  intro z p ts hz hl
  refine ⟨[⟨k, [], 0, p.1, p.2⟩], .cons ⟨rfl, rfl, rfl, trivial⟩ .nil, ?_⟩
  exact Lexed.tok (p := p) (h z) hk (ts := ts) hl
theorem lx_comma : Lx false [44] [TK 3] := lx_one (by decide) fun z => (lex_mark z).1
theorem lx_colon : Lx false [58] [TK 4] := lx_one (by decide) fun z => (lex_mark z).2.1
theorem lx_equal : Lx false [61] [TK 5] := lx_one (by decide) fun z => (lex_mark z).2.2.1
theorem lx_line : Lx false [10] [TK 6] := lx_one (by decide) fun z => (lex_mark z).2.2.2.1
theorem lx_space : Lx false [32] [] := by
  intro z p ts hz hl
  exact ⟨[], .nil, Lexed.pass (lex_mark z).2.2.2.2 hl⟩
theorem name_shape {s : List UInt8} (h : nameP s = true) : shapeL s = true := by
  unfold nameP at h
  simp only [Bool.and_eq_true] at h
  cases s with
  | nil => exact h.1
  | cons c r =>
    have h1 := h.1
    simp only [nameL, Bool.and_eq_true, decide_eq_true_eq] at h1
    simp only [shapeL, Bool.and_eq_true]
    exact ⟨h1.1.2, h1.2⟩
/-- A declaration's tokens. -/
def declT (d : DcD) : List Tok := [T1 ((kindTab[(d.kind - 1).toNat]?).getD []), T1 d.name.data.toList] ++ (if d.kind = 3 then [] else [TK 5, T2 d.val])
theorem kind_shape : ∀ i : Fin 5, shapeL ((kindTab[i.val]?).getD []) = true := by decide +kernel
theorem word_shape : ∀ i : Fin 20, shapeL ((opTab[i.val]?.map Prod.fst).getD []) = true := by decide +kernel
theorem lx_decl {d : DcD} (h : declOk d = true) (h1 : -9223372036854775808 ≤ d.val) (h2 : d.val ≤ 9223372036854775807) : Lx false (declS d ++ [10]) (declT d ++ [TK 6]) := by
  unfold declOk at h
  simp only [Bool.and_eq_true, decide_eq_true_eq] at h
  have hk := kind_shape ⟨(d.kind - 1).toNat, by omega⟩
  simp only at hk
  have hw32 : isWordly 32 = false := by decide
  have a := ((lx_name hk).app lx_space (fun _ z => .inl (nonw_cons hw32))).app (lx_name (name_shape h.1.2)) (fun e => by cases e)
  unfold declS declT
  by_cases h3 : d.kind = 3
  · rw [if_pos h3, if_pos h3]
    have b := a.app lx_line (fun _ z => .inl (nonw_cons (by decide)))
    simpa using b
  · rw [if_neg h3, if_neg h3]
    have b := (a.app (lx_space.app (lx_equal.app (lx_space.app (lx_num h1 h2) (fun e => by cases e)) (fun e => by cases e)) (fun e => by cases e)) (fun _ z => .inl (nonw_cons hw32))).app lx_line (fun _ z => .inl (nonw_cons (by decide)))
    simpa [List.append_assoc] using b
end Go.AB

/- Printed Items and units lexed. No program in sight. -/
set_option linter.unusedSimpArgs false
set_option linter.unusedVariables false
set_option linter.unusedSectionVars false
namespace Go.AB
open Go.RowKit

def regAt (x : ItD) (k : Nat) : Int := if k = 0 then x.a else if k = 1 then x.b else x.c
def operT (c : UInt8) (k : Nat) (x : ItD) : List Tok := if c = 114 then [T1 (114 :: numS (regAt x k))] else if c = 110 then [T2 x.n] else [T1 x.name.data.toList]
def opersT : List UInt8 → Nat → ItD → List Tok
  | [], _, _ => []
  | c :: f, k, x => (if k = 0 then [] else [TK 3]) ++ operT c k x ++ opersT f (k + 1) x
theorem reg_shape : ∀ i : Fin 16, shapeL (114 :: numS (i.val : Int)) = true := by decide +kernel
theorem lx_oper {c : UInt8} {k : Nat} {x : ItD} (hr : c = 114 → regB (regAt x k) = true) (hn : -9223372036854775808 ≤ x.n ∧ x.n ≤ 9223372036854775807) (hx : c ≠ 114 → c ≠ 110 → nameP x.name.data.toList = true) : Lx true (operS c k x) (operT c k x) := by
  unfold operS operT
  by_cases c1 : c = 114
  · rw [if_pos c1, if_pos c1]
    have h := hr c1
    unfold regB at h
    simp only [decide_eq_true_eq] at h
    have h2 := reg_shape ⟨(regAt x k).toNat, by omega⟩
    simp only [Int.toNat_of_nonneg h.1] at h2
    exact lx_name h2
  · rw [if_neg c1, if_neg c1]
    by_cases c2 : c = 110
    · rw [if_pos c2, if_pos c2]
      exact lx_num hn.1 hn.2
    · rw [if_neg c2, if_neg c2]
      exact lx_name (name_shape (hx c1 c2))
theorem opers_nonw {f : List UInt8} {k : Nat} {x : ItD} (z : List UInt8) : nonw (opersS f k x ++ z) ∨ (opersS f k x = [] ∧ true = true) := by
  cases f with
  | nil => exact .inr ⟨rfl, rfl⟩
  | cons c f =>
    refine .inl ?_
    unfold opersS
    split
    · exact nonw_cons (by decide)
    · exact nonw_cons (by decide)
theorem lx_opers : ∀ (f : List UInt8) (k : Nat) (x : ItD), (∀ j (h : j < f.length), f[j] = 114 → regB (regAt x (k + j)) = true) → (-9223372036854775808 ≤ x.n ∧ x.n ≤ 9223372036854775807) → ((∃ c ∈ f, c ≠ 114 ∧ c ≠ 110) → nameP x.name.data.toList = true) → Lx true (opersS f k x) (opersT f k x)
  | [], k, x, _, _, _ => Lx.nil.weak
  | c :: f, k, x, hr, hn, hx => by
    unfold opersS opersT
    have h1 := lx_oper (c := c) (k := k) (x := x) (fun e => hr 0 (by simp) e) hn (fun a b => hx ⟨c, List.mem_cons_self .., a, b⟩)
    have h2 := lx_opers f (k + 1) x (fun j h e => by have := hr (j + 1) (by simpa using h) (by simpa using e); rwa [show k + (j + 1) = k + 1 + j from by omega] at this) hn (fun ⟨d, hd, a⟩ => hx ⟨d, List.mem_cons_of_mem _ hd, a⟩)
    have h3 : Lx false (if k = 0 then [32] else [44, 32]) (if k = 0 then [] else [TK 3]) := by
      split
      · exact lx_space
      · exact lx_comma.app lx_space (fun e => by cases e)
    exact (h3.app h1 (fun e => by cases e)).app h2 (fun _ z => opers_nonw z)
/-- An Item's tokens. -/
def itemT (x : ItD) : List Tok := if x.op = 0 then [T1 x.name.data.toList, TK 4] else T1 (wordAt x.op) :: opersT (formAt x.op) 0 x
theorem form_regs : ∀ i : Fin 21, (∀ j : Fin 3, (formAt (i.val : Int))[j.val]? = some 114 → j.val + 1 ≤ (formAt (i.val : Int)).count 114) ∧ (formAt (i.val : Int)).length ≤ 3 ∧ (∀ c ∈ formAt (i.val : Int), c ≠ 114 → c ≠ 110 → c = 120) := by decide +kernel
theorem word_none {n : Int} (h : (wordAt n).isEmpty = false) : 1 ≤ n ∧ n ≤ 20 := by
  unfold wordAt at h
  split at h
  · cases h
  · refine ⟨by omega, ?_⟩
    by_cases h20 : n ≤ 20
    · exact h20
    · have e : opTab[(n - 1).toNat]? = none := by
        rw [List.getElem?_eq_none_iff]
        show 20 ≤ _
        omega
      rw [e] at h
      cases h
theorem lx_item {x : ItD} (h : itemOk x = true) (hn : -9223372036854775808 ≤ x.n ∧ x.n ≤ 9223372036854775807) : Lx false (itemS x ++ [10]) (itemT x ++ [TK 6]) := by
  unfold itemOk at h
  simp only [Bool.and_eq_true, Bool.or_eq_true, decide_eq_true_eq] at h
  obtain ⟨⟨⟨⟨⟨h0, ha⟩, hb⟩, hc⟩, hnn⟩, hx⟩ := h
  unfold itemS itemT
  by_cases e : x.op = 0
  · rw [if_pos e, if_pos e]
    rw [if_pos e] at hx
    have hx2 : nameP x.name.data.toList = true := by simpa using hx
    have a := ((lx_name (name_shape hx2)).app lx_colon (fun _ z => .inl (nonw_cons (by decide)))).app lx_line (fun e => by cases e)
    simpa using a
  · rw [if_neg e, if_neg e]
    rw [if_neg e] at ha hb hc hnn hx
    have hw : (wordAt x.op).isEmpty = false := by
      rcases h0 with h0 | h0
      · exact absurd h0 e
      · simpa using h0
    obtain ⟨o1, o2⟩ := word_none hw
    have hop : x.op = ((x.op.toNat : Nat) : Int) := by omega
    have f1 := form_regs ⟨x.op.toNat, by omega⟩
    simp only [← hop] at f1
    have ws := word_shape ⟨(x.op - 1).toNat, by omega⟩
    have hws : shapeL (wordAt x.op) = true := by
      unfold wordAt
      rw [if_neg (by omega)]
      exact ws
    have ho := lx_opers (formAt x.op) 0 x (fun j hj ej => by
      have hj3 : j < 3 := by omega
      have h9 := f1.1 ⟨j, hj3⟩ (by simp only; rw [List.getElem?_eq_getElem hj, ej])
      simp only at h9
      unfold regAt
      rw [Nat.zero_add]
      by_cases j0 : j = 0
      · rw [if_pos j0]
        rw [if_pos (by omega)] at ha
        exact ha
      · rw [if_neg j0]
        by_cases j1 : j = 1
        · rw [if_pos j1]
          rw [if_pos (by omega)] at hb
          exact hb
        · rw [if_neg j1]
          rw [if_pos (by omega)] at hc
          exact hc) hn (fun ⟨c, hc1, hc2, hc3⟩ => by
      have h9 := f1.2.2 c hc1 hc2 hc3
      subst h9
      rw [if_pos hc1] at hx
      exact hx)
    have a := (((lx_space.app lx_space (fun e => by cases e)).app (lx_name hws) (fun e => by cases e)).app ho (fun _ z => opers_nonw z)).app lx_line (fun _ z => .inl (nonw_cons (by decide)))
    simpa [List.append_assoc] using a
end Go.AB

/- A printed unit lexed. No program in sight. -/
set_option linter.unusedSimpArgs false
set_option linter.unusedVariables false
set_option linter.unusedSectionVars false
namespace Go.AB
open Go.RowKit

def threadW : List UInt8 := [116, 104, 114, 101, 97, 100]
def blockT (b : BkD) : List Tok := [T1 threadW, T1 b.name.data.toList, TK 6] ++ b.items.flatMap fun x => itemT x ++ [TK 6]
def unitTk (u : UnD) : List Tok := (u.decls.flatMap fun d => declT d ++ [TK 6]) ++ u.blocks.flatMap blockT
/-- The unit's numbers are of 64 bits. -/
def Num64 (n : Int) : Prop := -9223372036854775808 ≤ n ∧ n ≤ 9223372036854775807
structure UnW (u : UnD) : Prop where
  d : ∀ x ∈ u.decls, Num64 x.val
  i : ∀ b ∈ u.blocks, ∀ x ∈ b.items, Num64 x.n
theorem lx_flat {α : Type} {f : α → List UInt8} {g : α → List Tok} : ∀ (l : List α), (∀ x ∈ l, Lx false (f x) (g x)) → Lx false (l.flatMap f) (l.flatMap g)
  | [], _ => Lx.nil
  | x :: l, h => by
    rw [List.flatMap_cons, List.flatMap_cons]
    exact (h x (List.mem_cons_self ..)).app (lx_flat l fun y hy => h y (List.mem_cons_of_mem _ hy)) (fun e => by cases e)
theorem block_text (b : BkD) : ((blockS b).flatMap fun l => l ++ [10]) = (threadW ++ [32] ++ b.name.data.toList ++ [10]) ++ b.items.flatMap fun x => itemS x ++ [10] := by
  unfold blockS threadW
  rw [List.flatMap_cons, List.flatMap_map]
  rfl
theorem unit_text (u : UnD) : textS u = (u.decls.flatMap fun d => declS d ++ [10]) ++ u.blocks.flatMap fun b => (blockS b).flatMap fun l => l ++ [10] := by
  unfold textS linesS
  rw [List.flatMap_append, List.flatMap_map, List.flatMap_assoc]
theorem lx_block {b : BkD} (h : blockOk b = true) (hn : ∀ x ∈ b.items, Num64 x.n) : Lx false ((blockS b).flatMap fun l => l ++ [10]) (blockT b) := by
  unfold blockOk at h
  simp only [Bool.and_eq_true] at h
  rw [block_text]
  unfold blockT
  have h1 : Lx false (b.items.flatMap fun x => itemS x ++ [10]) (b.items.flatMap fun x => itemT x ++ [TK 6]) := lx_flat _ fun x hx => lx_item (List.all_eq_true.1 h.2 x hx) (hn x hx)
  have h2 := ((((lx_name (show shapeL threadW = true from by decide)).app lx_space (fun _ z => .inl (nonw_cons (by decide)))).app (lx_name (name_shape h.1)) (fun e => by cases e)).app lx_line (fun _ z => .inl (nonw_cons (by decide)))).app h1 (fun e => by cases e)
  simpa [List.append_assoc] using h2
theorem lx_unit {u : UnD} (h : unitOk u = true) (hw : UnW u) : Lx false (textS u) (unitTk u) := by
  unfold unitOk at h
  simp only [Bool.and_eq_true] at h
  rw [unit_text]
  exact (lx_flat _ fun d hd => lx_decl (List.all_eq_true.1 h.1 d hd) (hw.d d hd).1 (hw.d d hd).2).app (lx_flat _ fun b hb => lx_block (List.all_eq_true.1 h.2 b hb) (hw.i b hb)) (fun e => by cases e)
/-- What is printed is lexed. -/
theorem lexed_text {u : UnD} (h : unitOk u = true) (hw : UnW u) : ∃ ts, Lexed (textS u) (1, 1) ts ∧ All2 (TkR anyR) ts (unitTk u ++ [TK 7]) := by
  obtain ⟨us, h1, h2⟩ := lx_unit h hw [] (1, 1) _ (by simp) (Lexed.stop _)
  rw [List.append_nil] at h2
  exact ⟨_, h2, h1.app (.cons ⟨rfl, rfl, rfl, trivial⟩ .nil)⟩
end Go.AB

/- The tokens of a printed unit say it. No program in sight. -/
set_option linter.unusedSimpArgs false
set_option linter.unusedVariables false
set_option linter.unusedSectionVars false
namespace Go.AB
open Go.RowKit

/-- Without its places. -/
def bareI (x : ItD) : ItD := if x.op = 0 then labelI (T1 x.name.data.toList) else ⟨x.op, x.a, x.b, x.c, x.n, x.name, 0, 0, 0, 0⟩
def bareDc (d : DcD) : DcD := ⟨d.kind, d.name, d.val, 0, 0⟩
def bareB (b : BkD) : BkD := ⟨b.name, b.items.map bareI, 0, 0⟩
theorem name_free {s : List UInt8} (h : nameP s = true) : freeB (T1 s) = true ∧ s.length ≤ 24 := by
  unfold nameP at h
  simp only [Bool.and_eq_true] at h
  refine ⟨?_, ?_⟩
  · unfold freeB T1
    simp only [decide_true, Bool.true_and]
    exact h.2
  · cases s with
    | nil => simp
    | cons c r =>
      have h1 := h.1
      simp only [nameL, Bool.and_eq_true, decide_eq_true_eq] at h1
      simp only [List.length_cons]
      omega
theorem nameT_T1 {s : List UInt8} (h : nameP s = true) (r : List Tok) : nameT (T1 s :: r) = .ok (T1 s, r) := by
  obtain ⟨h1, h2⟩ := name_free h
  unfold nameT
  dsimp only
  rw [if_neg (by rw [h1]; decide), if_neg (by show ¬ 24 < s.length; omega)]
theorem bA_id (s : ByteArray) : bA s.data.toList = s := by
  cases s
  rfl
theorem kind_word : ∀ i : Fin 5, freeB (T1 ((kindTab[i.val]?).getD [])) = false ∧ opL ((kindTab[i.val]?).getD []) = 0 ∧ kindL ((kindTab[i.val]?).getD []) = i.val + 1 := by decide +kernel
theorem op_word : ∀ i : Fin 20, freeB (T1 ((opTab[i.val]?.map Prod.fst).getD [])) = false ∧ opL ((opTab[i.val]?.map Prod.fst).getD []) = i.val + 1 := by decide +kernel
theorem labels_none {t : Tok} {r : List Tok} {bs : List BkD} {any : Bool} (h : freeB t = false) : labelsD (t :: r) bs any = .ok (t :: r, bs, any) := by
  cases r with
  | nil => rfl
  | cons c r =>
    unfold labelsD
    rw [if_neg (by rw [h]; simp)]
theorem ends_T1 (s : List UInt8) : endsB (T1 s) = false := by
  unfold endsB T1
  simp
theorem t_ok {k kl : Nat} {any : Bool} (h1 : k = 1) (h2 : kl ≠ 0) (h3 : any = false := by rfl) : ¬ (k ≠ 1 ∨ kl = 0 ∨ any = true) := by
  subst h3
  simp [h1, h2]
theorem line_decl {d : DcD} (h : declOk d = true) (u : UnD) (r : List Tok) : lineD (declT d ++ TK 6 :: r) u = .ok (TK 6 :: r, ⟨u.decls ++ [bareDc d], u.blocks⟩) := by
  unfold declOk at h
  simp only [Bool.and_eq_true, Bool.or_eq_true, decide_eq_true_eq] at h
  obtain ⟨⟨hk, hnm⟩, h3⟩ := h
  obtain ⟨w1, w2, w3⟩ := kind_word ⟨(d.kind - 1).toNat, by omega⟩
  simp only at w1 w2 w3
  obtain ⟨W, hW⟩ : ∃ W, (kindTab[(d.kind - 1).toNat]?).getD [] = W := ⟨_, rfl⟩
  rw [hW] at w1 w2 w3
  have hkk : kindL W = d.kind.toNat := by omega
  have hkd : ((d.kind.toNat : Nat) : Int) = d.kind := by omega
  unfold declT
  rw [hW]
  obtain ⟨tl, htl⟩ : ∃ tl, (if d.kind = 3 then [] else [TK 5, T2 d.val]) ++ TK 6 :: r = tl := ⟨_, rfl⟩
  have hlist : ([T1 W, T1 d.name.data.toList] ++ (if d.kind = 3 then [] else [TK 5, T2 d.val])) ++ TK 6 :: r = T1 W :: T1 d.name.data.toList :: tl := by
    rw [← htl]; simp
  rw [hlist]
  have hv : valueD d.kind.toNat tl = .ok (d.val, TK 6 :: r) := by
    rw [← htl]
    unfold valueD
    by_cases e3 : d.kind = 3
    · rw [if_pos e3, if_neg (by rintro (h | ⟨h, _⟩) <;> omega)]
      rcases h3 with h3 | h3
      · exact absurd e3 h3
      · rw [h3]; rfl
    · rw [if_neg e3, if_pos (by
        by_cases e4 : d.kind = 4
        · left; omega
        · right; exact ⟨by omega, rfl⟩)]
      rfl
  unfold lineD
  rw [labels_none w1]
  dsimp only
  rw [if_neg (by rw [ends_T1]; decide), if_neg (fun e => e.2 w2), if_neg (t_ok (k := (T1 W).kind) (kl := kindL (T1 W).text) (any := false) rfl (by show kindL W ≠ 0; omega)), if_neg (by show ¬ kindL W = 5; omega)]
  have hd : declG (kindL (T1 W).text) (T1 d.name.data.toList :: tl).length (T1 d.name.data.toList :: tl) u.decls = .ok (TK 6 :: r, u.decls ++ [bareDc d]) := by
    show declG (kindL W) (tl.length + 1) (T1 d.name.data.toList :: tl) u.decls = _
    rw [hkk]
    unfold declG
    rw [nameT_T1 hnm]
    dsimp only
    rw [hv]
    dsimp only
    rw [if_neg (by show ¬ (6 : Nat) = 3; decide), hkd]
    unfold bareDc T1
    simp only [bA_id]
    rfl
  rw [hd]
  dsimp only
  unfold endD
  dsimp only
  rw [if_pos (by show endsB (TK 6) = true; decide)]
end Go.AB

/- The tokens of a printed unit say it: threads and labels. No program in sight. -/
set_option linter.unusedSimpArgs false
set_option linter.unusedVariables false
set_option linter.unusedSectionVars false
namespace Go.AB
open Go.RowKit

theorem thread_word : freeB (T1 threadW) = false ∧ opL threadW = 0 ∧ kindL threadW = 5 := by decide +kernel
theorem endD_line {α : Type} (r : List Tok) (a : α) : endD (TK 6 :: r) a = .ok (TK 6 :: r, a) := by
  unfold endD
  dsimp only
  rw [if_pos (by show endsB (TK 6) = true; decide)]
theorem line_thread {s : ByteArray} (h : nameP s.data.toList = true) (u : UnD) (r : List Tok) : lineD (T1 threadW :: T1 s.data.toList :: TK 6 :: r) u = .ok (TK 6 :: r, ⟨u.decls, u.blocks ++ [⟨s, [], 0, 0⟩]⟩) := by
  obtain ⟨w1, w2, w3⟩ := thread_word
  unfold lineD
  rw [labels_none w1]
  dsimp only
  rw [if_neg (by rw [ends_T1]; decide), if_neg (fun e => e.2 w2), if_neg (t_ok (k := (T1 threadW).kind) (kl := kindL (T1 threadW).text) (any := false) rfl (by show kindL threadW ≠ 0; omega)), if_pos (by show kindL threadW = 5; exact w3), nameT_T1 h]
  dsimp only
  rw [endD_line]
  unfold T1
  simp only [bA_id]
  rfl
theorem free_TK (k : Nat) (h : k ≠ 1) : freeB (TK k) = false := by
  unfold freeB TK
  simp [h]
theorem line_label {s : ByteArray} (h : nameP s.data.toList = true) {u : UnD} (hb : u.blocks ≠ []) (r : List Tok) : lineD (T1 s.data.toList :: TK 4 :: TK 6 :: r) u = .ok (TK 6 :: r, ⟨u.decls, putLast (labelI (T1 s.data.toList)) u.blocks⟩) := by
  obtain ⟨h1, h2⟩ := name_free h
  have hl : labelsD (T1 s.data.toList :: TK 4 :: TK 6 :: r) u.blocks false = .ok (TK 6 :: r, putLast (labelI (T1 s.data.toList)) u.blocks, true) := by
    unfold labelsD
    rw [if_pos ⟨h1, rfl⟩, if_neg hb, if_neg (by show ¬ 24 < s.data.toList.length; omega)]
    exact labels_none (free_TK 6 (by decide))
  unfold lineD
  rw [hl]
  dsimp only
  rw [if_pos (by show endsB (TK 6) = true; decide)]
theorem reg_back : ∀ i : Fin 16, regL (114 :: numS (i.val : Int)) = (i.val : Int) := by decide +kernel
theorem regL_num {n : Int} (h : regB n = true) : regL (114 :: numS n) = n := by
  unfold regB at h
  simp only [decide_eq_true_eq] at h
  have h2 := reg_back ⟨n.toNat, by omega⟩
  simp only [Int.toNat_of_nonneg h.1] at h2
  exact h2
end Go.AB

/- The tokens of a printed unit say it: operations. No program in sight. -/
set_option linter.unusedSimpArgs false
set_option linter.unusedVariables false
set_option linter.unusedSectionVars false
namespace Go.AB
open Go.RowKit

theorem sep_ok (first : Bool) (r : List Tok) : (if first = true then Except.ok ((if first = true then [] else [TK 3]) ++ r) else (takeK 3 ((if first = true then [] else [TK 3]) ++ r)).map Prod.snd) = .ok r := by
  cases first <;> rfl
theorem step_r {n : Int} (h : regB n = true) (first : Bool) (f : List UInt8) (k : Nat) (r : List Tok) (y : ItD) : opersD (114 :: f) first k ((if first = true then [] else [TK 3]) ++ T1 (114 :: numS n) :: r) y = opersD f false (k + 1) r (setReg y k n) := by
  conv => lhs; unfold opersD
  rw [sep_ok]
  dsimp only
  unfold operD
  rw [if_pos rfl]
  dsimp only
  have e : (T1 (114 :: numS n)).text = 114 :: numS n := rfl
  have h0 : 0 ≤ n := by unfold regB at h; simp only [decide_eq_true_eq] at h; exact h.1
  rw [e, regL_num h, if_pos ⟨rfl, h0⟩]
theorem step_n (n : Int) (first : Bool) (f : List UInt8) (k : Nat) (r : List Tok) (y : ItD) : opersD (110 :: f) first k ((if first = true then [] else [TK 3]) ++ T2 n :: r) y = opersD f false k r ⟨y.op, y.a, y.b, y.c, n, y.name, y.p1, y.p2, 0, 0⟩ := by
  conv => lhs; unfold opersD
  rw [sep_ok]
  rfl
theorem step_x {s : ByteArray} (h : nameP s.data.toList = true) (first : Bool) (f : List UInt8) (k : Nat) (r : List Tok) (y : ItD) : opersD (120 :: f) first k ((if first = true then [] else [TK 3]) ++ T1 s.data.toList :: r) y = opersD f false k r ⟨y.op, y.a, y.b, y.c, y.n, s, y.p1, y.p2, 0, 0⟩ := by
  conv => lhs; unfold opersD
  rw [sep_ok]
  dsimp only
  unfold operD
  rw [if_neg (by decide), if_neg (by decide), nameT_T1 h]
  dsimp only
  unfold T1
  simp only [bA_id]
  rfl
theorem form_list : ∀ i : Fin 21, formAt (i.val : Int) ∈ ([[114, 110], [114, 114], [114, 114, 114], [120], [114, 120], [114], []] : List (List UInt8)) := by decide +kernel
theorem opers_end (first : Bool) (k : Nat) (r : List Tok) (y : ItD) : opersD [] first k r y = .ok (r, y) := by unfold opersD; rfl
/-- The operands that are printed are read. -/
theorem opers_back {x : ItD} {f : List UInt8} (hf : f ∈ ([[114, 110], [114, 114], [114, 114, 114], [120], [114, 120], [114], []] : List (List UInt8)))
    (ha : (if 1 ≤ f.count 114 then regB x.a else decide (x.a = 0)) = true) (hb : (if 2 ≤ f.count 114 then regB x.b else decide (x.b = 0)) = true) (hc : (if 3 ≤ f.count 114 then regB x.c else decide (x.c = 0)) = true)
    (hn : (decide (110 ∈ f) || decide (x.n = 0)) = true) (hx : (if 120 ∈ f then nameP x.name.data.toList else decide (x.name.size = 0)) = true) (r : List Tok) :
    opersD f true 0 (opersT f 0 x ++ r) ⟨x.op, 0, 0, 0, 0, ⟨#[]⟩, 0, 0, 0, 0⟩ = .ok (r, ⟨x.op, x.a, x.b, x.c, x.n, x.name, 0, 0, 0, 0⟩) := by
  simp only [List.mem_cons, List.not_mem_nil, or_false] at hf
  rcases hf with rfl | rfl | rfl | rfl | rfl | rfl | rfl
  · simp at ha hb hc hn hx
    refine (show _ = _ from step_r ha true [110] 0 (TK 3 :: T2 x.n :: r) (⟨x.op, 0, 0, 0, 0, ⟨#[]⟩, 0, 0, 0, 0⟩)).trans ?_
    refine (show _ = _ from step_n x.n false [] 1 (r) (setReg (⟨x.op, 0, 0, 0, 0, ⟨#[]⟩, 0, 0, 0, 0⟩) 0 x.a)).trans ?_
    rw [opers_end, hb, hc, hx]
    try rfl
  · simp at ha hb hc hn hx
    refine (show _ = _ from step_r ha true [114] 0 (TK 3 :: T1 (114 :: numS x.b) :: r) (⟨x.op, 0, 0, 0, 0, ⟨#[]⟩, 0, 0, 0, 0⟩)).trans ?_
    refine (show _ = _ from step_r hb false [] 1 (r) (setReg (⟨x.op, 0, 0, 0, 0, ⟨#[]⟩, 0, 0, 0, 0⟩) 0 x.a)).trans ?_
    rw [opers_end, hc, hn, hx]
    try rfl
  · simp at ha hb hc hn hx
    refine (show _ = _ from step_r ha true [114, 114] 0 (TK 3 :: T1 (114 :: numS x.b) :: TK 3 :: T1 (114 :: numS x.c) :: r) (⟨x.op, 0, 0, 0, 0, ⟨#[]⟩, 0, 0, 0, 0⟩)).trans ?_
    refine (show _ = _ from step_r hb false [114] 1 (TK 3 :: T1 (114 :: numS x.c) :: r) (setReg (⟨x.op, 0, 0, 0, 0, ⟨#[]⟩, 0, 0, 0, 0⟩) 0 x.a)).trans ?_
    refine (show _ = _ from step_r hc false [] 2 (r) (setReg (setReg (⟨x.op, 0, 0, 0, 0, ⟨#[]⟩, 0, 0, 0, 0⟩) 0 x.a) 1 x.b)).trans ?_
    rw [opers_end, hn, hx]
    try rfl
  · simp at ha hb hc hn hx
    refine (show _ = _ from step_x hx true [] 0 (r) (⟨x.op, 0, 0, 0, 0, ⟨#[]⟩, 0, 0, 0, 0⟩)).trans ?_
    rw [opers_end, ha, hb, hc, hn]
    try rfl
  · simp at ha hb hc hn hx
    refine (show _ = _ from step_r ha true [120] 0 (TK 3 :: T1 x.name.data.toList :: r) (⟨x.op, 0, 0, 0, 0, ⟨#[]⟩, 0, 0, 0, 0⟩)).trans ?_
    refine (show _ = _ from step_x hx false [] 1 (r) (setReg (⟨x.op, 0, 0, 0, 0, ⟨#[]⟩, 0, 0, 0, 0⟩) 0 x.a)).trans ?_
    rw [opers_end, hb, hc, hn]
    try rfl
  · simp at ha hb hc hn hx
    refine (show _ = _ from step_r ha true [] 0 (r) (⟨x.op, 0, 0, 0, 0, ⟨#[]⟩, 0, 0, 0, 0⟩)).trans ?_
    rw [opers_end, hb, hc, hn, hx]
    try rfl
  · simp at ha hb hc hn hx
    rw [opers_end, ha, hb, hc, hn, hx]
    try rfl
end Go.AB

/- The tokens of a printed unit say it: Items. No program in sight. -/
set_option linter.unusedSimpArgs false
set_option linter.unusedVariables false
set_option linter.unusedSectionVars false
namespace Go.AB
open Go.RowKit

theorem line_item {x : ItD} (h : itemOk x = true) {u : UnD} (hb : u.blocks ≠ []) (r : List Tok) : lineD (itemT x ++ TK 6 :: r) u = .ok (TK 6 :: r, ⟨u.decls, putLast (bareI x) u.blocks⟩) := by
  unfold itemOk at h
  simp only [Bool.and_eq_true] at h
  obtain ⟨⟨⟨⟨⟨h0, ha⟩, hbb⟩, hc⟩, hnn⟩, hx⟩ := h
  unfold itemT bareI
  by_cases e : x.op = 0
  · rw [if_pos e, if_pos e]
    rw [if_pos e] at hx
    have hx2 : nameP x.name.data.toList = true := by simpa using hx
    exact line_label hx2 hb r
  · rw [if_neg e, if_neg e]
    rw [if_neg e] at ha hbb hc hnn hx
    have hw : (wordAt x.op).isEmpty = false := by
      simp only [Bool.or_eq_true, decide_eq_true_eq] at h0
      rcases h0 with h0 | h0
      · exact absurd h0 e
      · simpa using h0
    obtain ⟨o1, o2⟩ := word_none hw
    have hop : x.op = ((x.op.toNat : Nat) : Int) := by omega
    have fl := form_list ⟨x.op.toNat, by omega⟩
    simp only [← hop] at fl
    obtain ⟨w1, w2⟩ := op_word ⟨(x.op - 1).toNat, by omega⟩
    simp only at w1 w2
    have hwe : wordAt x.op = (opTab[(x.op - 1).toNat]?.map Prod.fst).getD [] := by unfold wordAt; rw [if_neg (by omega)]
    rw [← hwe] at w1 w2
    have hoo : ((opL (wordAt x.op) : Nat) : Int) = x.op := by omega
    have ho := opers_back fl ha hbb hc hnn hx (TK 6 :: r)
    have hi : instrD (opL (wordAt x.op)) (T1 (wordAt x.op) :: (opersT (formAt x.op) 0 x ++ TK 6 :: r)) u.blocks = .ok (TK 6 :: r, putLast ⟨x.op, x.a, x.b, x.c, x.n, x.name, 0, 0, 0, 0⟩ u.blocks) := by
      unfold instrD
      dsimp only
      rw [if_neg hb, hoo]
      have ho2 : opersD (formAt x.op) true 0 (opersT (formAt x.op) 0 x ++ TK 6 :: r) ⟨x.op, 0, 0, 0, 0, ⟨#[]⟩, ((T1 (wordAt x.op)).line : Int), ((T1 (wordAt x.op)).col : Int), 0, 0⟩ = _ := ho
      rw [ho2]
    unfold lineD
    rw [List.cons_append, labels_none w1]
    dsimp only
    rw [if_neg (by rw [ends_T1]; decide), if_pos ⟨rfl, by show opL (wordAt x.op) ≠ 0; omega⟩]
    have hi2 : instrD (opL (T1 (wordAt x.op)).text) (T1 (wordAt x.op) :: (opersT (formAt x.op) 0 x ++ TK 6 :: r)) u.blocks = _ := hi
    rw [hi2]
    exact endD_line _ _
end Go.AB

/- The tokens of a printed unit say it. No program in sight. -/
set_option linter.unusedSimpArgs false
set_option linter.unusedVariables false
set_option linter.unusedSectionVars false
namespace Go.AB
open Go.RowKit

theorem lines_step {ts r : List Tok} {u v : UnD} (fuel : Nat) (h : lineD ts u = .ok (TK 6 :: r, v)) : linesD (fuel + 1) ts u = linesD fuel r v := by
  conv => lhs; unfold linesD
  rw [h]
  dsimp only
  rw [if_pos (by rfl)]
theorem lines_decls : ∀ (ds : List DcD) (fuel : Nat) (r : List Tok) (u : UnD), ds.all declOk = true → linesD (fuel + ds.length) ((ds.flatMap fun d => declT d ++ [TK 6]) ++ r) u = linesD fuel r ⟨u.decls ++ ds.map bareDc, u.blocks⟩
  | [], fuel, r, u, _ => by simp
  | d :: ds, fuel, r, u, h => by
    simp only [List.all_cons, Bool.and_eq_true] at h
    have h1 := line_decl h.1 u ((ds.flatMap fun d => declT d ++ [TK 6]) ++ r)
    have e : ((d :: ds).flatMap fun d => declT d ++ [TK 6]) ++ r = declT d ++ TK 6 :: ((ds.flatMap fun d => declT d ++ [TK 6]) ++ r) := by simp [List.flatMap_cons]
    rw [e, List.length_cons, show fuel + (ds.length + 1) = (fuel + ds.length) + 1 from by omega, lines_step _ h1, lines_decls ds fuel r _ h.2]
    simp
theorem put_snoc (x : ItD) (bs : List BkD) (k : BkD) : putLast x (bs ++ [k]) = bs ++ [⟨k.name, k.items ++ [x], k.l, k.c⟩] := by
  unfold putLast
  simp
theorem lines_items : ∀ (its : List ItD) (fuel : Nat) (r : List Tok) (ds : List DcD) (bs : List BkD) (k : BkD), its.all itemOk = true → linesD (fuel + its.length) ((its.flatMap fun x => itemT x ++ [TK 6]) ++ r) ⟨ds, bs ++ [k]⟩ = linesD fuel r ⟨ds, bs ++ [⟨k.name, k.items ++ its.map bareI, k.l, k.c⟩]⟩
  | [], fuel, r, ds, bs, k, _ => by simp
  | x :: its, fuel, r, ds, bs, k, h => by
    simp only [List.all_cons, Bool.and_eq_true] at h
    have h1 := line_item h.1 (u := ⟨ds, bs ++ [k]⟩) (by simp) ((its.flatMap fun x => itemT x ++ [TK 6]) ++ r)
    have e : ((x :: its).flatMap fun x => itemT x ++ [TK 6]) ++ r = itemT x ++ TK 6 :: ((its.flatMap fun x => itemT x ++ [TK 6]) ++ r) := by simp [List.flatMap_cons]
    rw [e, List.length_cons, show fuel + (its.length + 1) = (fuel + its.length) + 1 from by omega, lines_step _ h1]
    simp only [put_snoc]
    rw [lines_items its fuel r ds bs _ h.2]
    simp
def linesN : List BkD → Nat
  | [] => 0
  | b :: r => linesN r + b.items.length + 1
theorem lines_blocks : ∀ (ks : List BkD) (fuel : Nat) (r : List Tok) (u : UnD), ks.all blockOk = true → linesD (fuel + linesN ks) (ks.flatMap blockT ++ r) u = linesD fuel r ⟨u.decls, u.blocks ++ ks.map bareB⟩
  | [], fuel, r, u, _ => by simp [linesN]
  | b :: ks, fuel, r, u, h => by
    simp only [List.all_cons, Bool.and_eq_true] at h
    have hb := h.1
    unfold blockOk at hb
    simp only [Bool.and_eq_true] at hb
    have h1 := line_thread hb.1 u ((b.items.flatMap fun x => itemT x ++ [TK 6]) ++ (ks.flatMap blockT ++ r))
    have e : (b :: ks).flatMap blockT ++ r = T1 threadW :: T1 b.name.data.toList :: TK 6 :: ((b.items.flatMap fun x => itemT x ++ [TK 6]) ++ (ks.flatMap blockT ++ r)) := by
      rw [List.flatMap_cons]
      simp [blockT]
    rw [e, linesN, show fuel + (linesN ks + b.items.length + 1) = ((fuel + linesN ks) + b.items.length) + 1 from by omega, lines_step _ h1, lines_items _ _ _ _ _ _ hb.2, lines_blocks ks fuel r _ h.2]
    simp [bareB]
/-- Without its places. -/
def bareU (u : UnD) : UnD := ⟨u.decls.map bareDc, u.blocks.map bareB⟩
theorem lines_stop (fuel : Nat) (u : UnD) : linesD (fuel + 1) [TK 7] u = .ok u := by
  rfl
theorem linesN_le : ∀ ks : List BkD, linesN ks ≤ (ks.flatMap blockT).length
  | [] => Nat.le_refl _
  | b :: ks => by
    have h1 := linesN_le ks
    have h2 : ∀ l : List ItD, l.length ≤ (l.flatMap fun x => itemT x ++ [TK 6]).length := by
      intro l
      induction l with
      | nil => simp
      | cons x l ih => rw [List.flatMap_cons, List.length_append, List.length_append, List.length_cons, List.length_cons]; omega
    have h3 := h2 b.items
    have h4 : (blockT b).length = 3 + (b.items.flatMap fun x => itemT x ++ [TK 6]).length := by
      unfold blockT
      rw [List.length_append]
      rfl
    rw [linesN, List.flatMap_cons, List.length_append, h4]
    omega
theorem unit_back {u : UnD} (h : unitOk u = true) : unitT (unitTk u ++ [TK 7]) = .ok (bareU u) := by
  unfold unitOk at h
  simp only [Bool.and_eq_true] at h
  have h1 : u.decls.length ≤ (u.decls.flatMap fun d => declT d ++ [TK 6]).length := by
    generalize u.decls = l
    induction l with
    | nil => simp
    | cons x l ih => rw [List.flatMap_cons, List.length_append, List.length_append, List.length_cons, List.length_cons]; omega
  have h2 := linesN_le u.blocks
  obtain ⟨f, hf⟩ : ∃ f, (unitTk u ++ [TK 7]).length = ((f + 1) + linesN u.blocks) + u.decls.length := by
    refine ⟨(unitTk u ++ [TK 7]).length - 1 - linesN u.blocks - u.decls.length, ?_⟩
    unfold unitTk
    simp only [List.length_append, List.length_cons, List.length_nil]
    omega
  unfold unitT
  rw [hf]
  unfold unitTk
  rw [List.append_assoc, lines_decls _ _ _ _ h.1, lines_blocks _ _ _ _ h.2, lines_stop]
  rfl
end Go.AB

/- What is printed is read as that unit. No program in sight. -/
set_option linter.unusedSimpArgs false
set_option linter.unusedVariables false
set_option linter.unusedSectionVars false
namespace Go.AB
open Go.RowKit

/-- The tokens of a printed unit say it, but for the places. -/
theorem text_unit {u : UnD} (h : unitOk u = true) (hw : UnW u) : ∃ ts v, scanD (textS u) 1 1 = (ts, (0, 0, 0)) ∧ unitT ts = .ok v ∧ UnR anyR v (bareU u) := by
  obtain ⟨ts, h1, h2⟩ := lexed_text h hw
  have h3 := unitT_rel h2
  rw [unit_back h] at h3
  cases e : unitT ts with
  | error f => rw [e] at h3; exact absurd h3 id
  | ok v =>
    rw [e] at h3
    exact ⟨ts, v, h1.scan, e, h3⟩
end Go.AB

/- The text of a unit does not tell its places. No program in sight. -/
set_option linter.unusedSimpArgs false
set_option linter.unusedVariables false
set_option linter.unusedSectionVars false
namespace Go.AB
open Go.RowKit

section
variable {R : Int → Int → Int → Int → Prop}
theorem operS_rel {x y : ItD} (h : ItR R x y) (c : UInt8) (k : Nat) : operS c k x = operS c k y := by
  obtain ⟨h1, h2, h3, h4, h5, h6, _⟩ := h
  unfold operS
  rw [h2, h3, h4, h5, h6]
theorem opersS_rel {x y : ItD} (h : ItR R x y) : ∀ (f : List UInt8) (k : Nat), opersS f k x = opersS f k y
  | [], _ => rfl
  | c :: f, k => by
    unfold opersS
    rw [operS_rel h, opersS_rel h f (k + 1)]
theorem itemS_rel {x y : ItD} (h : ItR R x y) : itemS x = itemS y ∧ itemOk x = itemOk y := by
  have ho := opersS_rel h (formAt x.op) 0
  obtain ⟨h1, h2, h3, h4, h5, h6, _⟩ := h
  refine ⟨?_, ?_⟩
  · unfold itemS
    rw [ho, h1, h6]
  · unfold itemOk
    rw [h1, h2, h3, h4, h5, h6]
theorem declS_rel {x y : DcD} (h : DcR R x y) : declS x = declS y ∧ declOk x = declOk y := by
  obtain ⟨h1, h2, h3, _⟩ := h
  refine ⟨?_, ?_⟩
  · unfold declS
    rw [h1, h2, h3]
  · unfold declOk
    rw [h1, h2, h3]
theorem All2.map_eq {α β γ : Type} {Q : α → β → Prop} {f : α → γ} {g : β → γ} {l : List α} {m : List β} (h : All2 Q l m) (he : ∀ a b, Q a b → f a = g b) : l.map f = m.map g := by
  induction h with
  | nil => rfl
  | cons h1 _ ih => rw [List.map_cons, List.map_cons, he _ _ h1, ih]
theorem All2.all_eq {α β : Type} {Q : α → β → Prop} {f : α → Bool} {g : β → Bool} {l : List α} {m : List β} (h : All2 Q l m) (he : ∀ a b, Q a b → f a = g b) : l.all f = m.all g := by
  induction h with
  | nil => rfl
  | cons h1 _ ih => rw [List.all_cons, List.all_cons, he _ _ h1, ih]
theorem blockS_rel {x y : BkD} (h : BkR R x y) : blockS x = blockS y ∧ blockOk x = blockOk y := by
  obtain ⟨h1, h2, _⟩ := h
  refine ⟨?_, ?_⟩
  · unfold blockS
    rw [h1, h2.map_eq (fun a b hab => (itemS_rel hab).1)]
  · unfold blockOk
    rw [h1, h2.all_eq (fun a b hab => (itemS_rel hab).2)]
theorem textS_rel {u v : UnD} (h : UnR R u v) : textS u = textS v ∧ unitOk u = unitOk v := by
  obtain ⟨h1, h2⟩ := h
  refine ⟨?_, ?_⟩
  · have hb : u.blocks.flatMap blockS = v.blocks.flatMap blockS := by
      rw [List.flatMap_def, List.flatMap_def, h2.map_eq (fun a b hab => (blockS_rel hab).1)]
    unfold textS linesS
    rw [h1.map_eq (fun a b hab => (declS_rel hab).1), hb]
  · unfold unitOk
    rw [h1.all_eq (fun a b hab => (declS_rel hab).2), h2.all_eq (fun a b hab => (blockS_rel hab).2)]
theorem printD_rel {u v : UnD} (h : UnR R u v) : printD u = printD v := by
  unfold printD
  rw [(textS_rel h).1, (textS_rel h).2]
end
end Go.AB
