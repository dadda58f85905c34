/- Joined by join.py out of Xpa, Xpz, Xpc, Xpd, Xpe, Xps. -/
import Derived.Test.YtmahcabidggmeaaGreatDoorPk2
import Derived.Lib.ItoaNum
import Derived.Test.YtmahcabidggmeaaGreatDoorPk3
set_option linter.unusedSimpArgs false
set_option linter.unusedVariables false
set_option linter.unusedSectionVars false

/- Words, names, units: what a text says. No program in sight. (Printed by gen_pplain.py.) -/
set_option linter.unusedSimpArgs false
set_option linter.unusedVariables false
set_option linter.unusedSectionVars false
namespace Go.AB
open Go.RowKit

/-- The operations' words and forms, from 1 on. -/
def opTab : List (List UInt8 × List UInt8) := [([99, 111, 110, 115, 116], [114, 110]), ([109, 111, 118, 101], [114, 114]), ([97, 100, 100], [114, 114, 114]), ([115, 117, 98], [114, 114, 114]), ([109, 117, 108], [114, 114, 114]), ([108, 101, 115, 115], [114, 114, 114]), ([101, 113, 117, 97, 108], [114, 114, 114]), ([106, 117, 109, 112], [120]), ([122, 101, 114, 111], [114, 120]), ([112, 114, 105, 110, 116], [114]), ([114, 101, 97, 100], [114, 120]), ([119, 114, 105, 116, 101], [114, 120]), ([108, 111, 111, 107], [114, 120]), ([115, 101, 116], [114, 120]), ([108, 111, 99, 107], [120]), ([117, 110, 108, 111, 99, 107], [120]), ([102, 111, 114, 107], [120]), ([106, 111, 105, 110], [120]), ([98, 97, 114, 114, 105, 101, 114], [120]), ([101, 120, 105, 116], [])]
def kindTab : List (List UInt8) := [[118, 97, 114], [118, 111, 108], [109, 117, 116, 101, 120], [103, 97, 116, 101], [116, 104, 114, 101, 97, 100]]
/-- The place of a word in a list, from 1 on; 0: it is not there. -/
def idxOf (l : List (List UInt8)) (s : List UInt8) : Nat := go l 1
where go : List (List UInt8) → Nat → Nat
  | [], _ => 0
  | x :: r, i => if x = s then i else go r (i + 1)
def wordAt (op : Int) : List UInt8 := if op < 1 then [] else (opTab[(op - 1).toNat]?.map Prod.fst).getD []
def formAt (op : Int) : List UInt8 := if op < 1 then [] else (opTab[(op - 1).toNat]?.map Prod.snd).getD []
def opL (s : List UInt8) : Nat := idxOf (opTab.map Prod.fst) s
def kindL (s : List UInt8) : Nat := idxOf kindTab s
/-- Which register a word is; -1: none. -/
def regL (s : List UInt8) : Int := (idxOf ((List.range 16).map fun i => 114 :: Lib.decDigits i) s : Int) - 1
def wordL (s : List UInt8) : Bool := decide (opL s ≠ 0) || decide (0 ≤ regL s) || decide (kindL s ≠ 0)
def nameP (s : List UInt8) : Bool := nameL s && !wordL s

/-! Tokens taken. -/
def fltAt (code : Int) (t : Tok) : Flt := ⟨code, t.line, t.col⟩
def noTok : Flt := ⟨82, 0, 0⟩
def takeK (k : Nat) : List Tok → Except Flt (Tok × List Tok)
  | [] => .error noTok
  | t :: r => if t.kind = k then .ok (t, r) else .error (fltAt 82 t)
def freeB (t : Tok) : Bool := decide (t.kind = 1) && !wordL t.text
def nameT : List Tok → Except Flt (Tok × List Tok)
  | [] => .error noTok
  | t :: r => if freeB t = false then .error (fltAt 82 t) else if 24 < t.text.length then .error (fltAt 84 t) else .ok (t, r)
def bA (s : List UInt8) : ByteArray := ⟨s.toArray⟩
/-- An Item joins the last block. -/
def putLast (x : ItD) (bs : List BkD) : List BkD := match bs.getLast? with
  | none => bs
  | some k => bs.dropLast ++ [⟨k.name, k.items ++ [x], k.l, k.c⟩]
def labelI (t : Tok) : ItD := ⟨0, 0, 0, 0, 0, bA t.text, t.line, t.col, t.line, t.col⟩
def labelsD : List Tok → List BkD → Bool → Except Flt (List Tok × List BkD × Bool)
  | t :: c :: r, bs, any =>
    if freeB t = true ∧ c.kind = 4 then
      if bs = [] then .error (fltAt 81 t) else if 24 < t.text.length then .error (fltAt 84 t) else labelsD r (putLast (labelI t) bs) true
    else .ok (t :: c :: r, bs, any)
  | ts, bs, any => .ok (ts, bs, any)
def setReg (x : ItD) (k : Nat) (n : Int) : ItD := if k = 0 then ⟨x.op, n, x.b, x.c, x.n, x.name, x.p1, x.p2, x.q1, x.q2⟩ else if k = 1 then ⟨x.op, x.a, n, x.c, x.n, x.name, x.p1, x.p2, x.q1, x.q2⟩ else ⟨x.op, x.a, x.b, n, x.n, x.name, x.p1, x.p2, x.q1, x.q2⟩
/-- One operand. -/
def operD (c : UInt8) (k : Nat) (ts : List Tok) (x : ItD) : Except Flt (List Tok × Nat × ItD) :=
  if c = 114 then match ts with
    | [] => .error noTok
    | t :: r => if t.kind = 1 ∧ 0 ≤ regL t.text then .ok (r, k + 1, setReg x k (regL t.text)) else .error (fltAt 82 t)
  else if c = 110 then match takeK 2 ts with
    | .error f => .error f
    | .ok (t, r) => .ok (r, k, ⟨x.op, x.a, x.b, x.c, t.num, x.name, x.p1, x.p2, t.line, t.col⟩)
  else match nameT ts with
    | .error f => .error f
    | .ok (t, r) => .ok (r, k, ⟨x.op, x.a, x.b, x.c, x.n, bA t.text, x.p1, x.p2, t.line, t.col⟩)
/-- The operands of a form; a comma ahead of each but the first. -/
def opersD : List UInt8 → Bool → Nat → List Tok → ItD → Except Flt (List Tok × ItD)
  | [], _, _, ts, x => .ok (ts, x)
  | c :: f, first, k, ts, x =>
    match (if first = true then .ok ts else (takeK 3 ts).map Prod.snd) with
    | .error e => .error e
    | .ok ts => match operD c k ts x with
      | .error e => .error e
      | .ok (ts, k, x) => opersD f false k ts x
def instrD (op : Nat) : List Tok → List BkD → Except Flt (List Tok × List BkD)
  | [], _ => .error noTok
  | t :: r, bs => if bs = [] then .error (fltAt 81 t) else match opersD (formAt op) true 0 r ⟨op, 0, 0, 0, 0, ⟨#[]⟩, t.line, t.col, 0, 0⟩ with
    | .error e => .error e
    | .ok (ts, x) => .ok (ts, putLast x bs)
/-- What stands behind a declared name. -/
def valueD (kind : Nat) (ts : List Tok) : Except Flt (Int × List Tok) :=
  if kind = 4 ∨ (kind ≤ 2 ∧ (ts.head?.map Tok.kind) = some 5) then
    match takeK 5 ts with
    | .error e => .error e
    | .ok (_, ts) => match takeK 2 ts with
      | .error e => .error e
      | .ok (t, ts) => .ok (t.num, ts)
  else .ok (0, ts)
def declG (kind : Nat) : Nat → List Tok → List DcD → Except Flt (List Tok × List DcD)
  | 0, ts, ds => .ok (ts, ds)
  | fuel + 1, ts, ds =>
    match nameT ts with
    | .error e => .error e
    | .ok (t, ts) => match valueD kind ts with
      | .error e => .error e
      | .ok (v, ts) => match ts with
        | c :: r => if c.kind = 3 then declG kind fuel r (ds ++ [⟨kind, bA t.text, v, t.line, t.col⟩]) else .ok (c :: r, ds ++ [⟨kind, bA t.text, v, t.line, t.col⟩])
        | [] => .ok ([], ds ++ [⟨kind, bA t.text, v, t.line, t.col⟩])
def endsB (t : Tok) : Bool := decide (t.kind = 6 ∨ t.kind = 7)
/-- A line's end is wanted. -/
def endD {α : Type} (ts : List Tok) (a : α) : Except Flt (List Tok × α) := match ts with
  | [] => .error noTok
  | t :: r => if endsB t = true then .ok (t :: r, a) else .error (fltAt 83 t)
def lineD (ts : List Tok) (u : UnD) : Except Flt (List Tok × UnD) :=
  match labelsD ts u.blocks false with
  | .error e => .error e
  | .ok ([], bs, any) => .error noTok
  | .ok (t :: r, bs, any) =>
    if endsB t = true then .ok (t :: r, ⟨u.decls, bs⟩)
    else if t.kind = 1 ∧ opL t.text ≠ 0 then match instrD (opL t.text) (t :: r) bs with
      | .error e => .error e
      | .ok (ts, bs) => endD ts ⟨u.decls, bs⟩
    else if t.kind ≠ 1 ∨ kindL t.text = 0 ∨ any = true then .error (fltAt 80 t)
    else if kindL t.text = 5 then match nameT r with
      | .error e => .error e
      | .ok (n, ts) => endD ts ⟨u.decls, bs ++ [⟨bA n.text, [], n.line, n.col⟩]⟩
    else match declG (kindL t.text) r.length r u.decls with
      | .error e => .error e
      | .ok (ts, ds) => endD ts ⟨ds, bs⟩
def linesD : Nat → List Tok → UnD → Except Flt UnD
  | 0, _, u => .ok u
  | fuel + 1, ts, u => match lineD ts u with
    | .error e => .error e
    | .ok (t :: r, u) => if t.kind = 6 then linesD fuel r u else .ok u
    | .ok ([], u) => .ok u
/-- The unit of some tokens. -/
def unitT (ts : List Tok) : Except Flt UnD := linesD ts.length ts ⟨[], []⟩

/-! Units written. -/
def numS (n : Int) : List UInt8 := Lib.itoa n
def operS (c : UInt8) (k : Nat) (x : ItD) : List UInt8 :=
  if c = 114 then 114 :: numS (if k = 0 then x.a else if k = 1 then x.b else x.c) else if c = 110 then numS x.n else x.name.data.toList
def opersS : List UInt8 → Nat → ItD → List UInt8
  | [], _, _ => []
  | c :: f, k, x => (if k = 0 then [32] else [44, 32]) ++ operS c k x ++ opersS f (k + 1) x
/-- May an Item be? -/
def regB (n : Int) : Bool := decide (0 ≤ n ∧ n < 16)
def itemOk (x : ItD) : Bool :=
  let f := if x.op = 0 then [120] else formAt x.op
  (decide (x.op = 0) || !(wordAt x.op).isEmpty) &&
  (if 1 ≤ f.count 114 then regB x.a else decide (x.a = 0)) && (if 2 ≤ f.count 114 then regB x.b else decide (x.b = 0)) && (if 3 ≤ f.count 114 then regB x.c else decide (x.c = 0)) &&
  (decide (110 ∈ f) || decide (x.n = 0)) && (if 120 ∈ f then nameP x.name.data.toList else decide (x.name.size = 0))
def declOk (d : DcD) : Bool := decide (1 ≤ d.kind ∧ d.kind ≤ 4) && nameP d.name.data.toList && (decide (d.kind ≠ 3) || decide (d.val = 0))
def blockOk (b : BkD) : Bool := nameP b.name.data.toList && b.items.all itemOk
def unitOk (u : UnD) : Bool := u.decls.all declOk && u.blocks.all blockOk
def itemS (x : ItD) : List UInt8 := if x.op = 0 then x.name.data.toList ++ [58] else [32, 32] ++ wordAt x.op ++ opersS (formAt x.op) 0 x
def declS (d : DcD) : List UInt8 := (kindTab[(d.kind - 1).toNat]?).getD [] ++ [32] ++ d.name.data.toList ++ (if d.kind = 3 then [] else [32, 61, 32] ++ numS d.val)
def blockS (b : BkD) : List (List UInt8) := ([116, 104, 114, 101, 97, 100, 32] ++ b.name.data.toList) :: b.items.map itemS
def linesS (u : UnD) : List (List UInt8) := u.decls.map declS ++ u.blocks.flatMap blockS
def textS (u : UnD) : List UInt8 := (linesS u).flatMap fun l => l ++ [10]
/-- A unit's text, or the refusal. -/
def printD (u : UnD) : Except Nat (List UInt8) := if unitOk u = false then .error 85 else if 1048576 < (textS u).length then .error 3 else .ok (textS u)
end Go.AB

/- A few plain definitions. -/
set_option linter.unusedVariables false
set_option linter.unusedSectionVars false
set_option linter.unusedSimpArgs false
namespace Go.AB
open Go.RowKit
inductive All2 {α β : Type} (R : α → β → Prop) : List α → List β → Prop
  | nil : All2 R [] []
  | cons {a b l m} : R a b → All2 R l m → All2 R (a :: l) (b :: m)
/-- The unit's numbers are of 64 bits. -/
def Num64 (n : Int) : Prop := -9223372036854775808 ≤ n ∧ n ≤ 9223372036854775807
structure UnW (u : UnD) : Prop where
  d : ∀ x ∈ u.decls, Num64 x.val
  i : ∀ b ∈ u.blocks, ∀ x ∈ b.items, Num64 x.n
def T1 (s : List UInt8) : Tok := ⟨1, s, 0, 0, 0⟩
theorem name_free {s : List UInt8} (h : nameP s = true) : freeB (T1 s) = true ∧ s.length ≤ 24 := by
  unfold nameP at h
  simp only [Bool.and_eq_true] at h
  refine ⟨?_, ?_⟩
  · unfold freeB T1
    simp only [decide_true, Bool.true_and]
    exact h.2
  · cases s with
    | nil => simp
    | cons c r =>
      have h1 := h.1
      simp only [nameL, Bool.and_eq_true, decide_eq_true_eq] at h1
      simp only [List.length_cons]
      omega
end Go.AB

/- What is read may be printed: the units of tokens are right. No program in sight. -/
set_option linter.unusedSimpArgs false
set_option linter.unusedVariables false
set_option linter.unusedSectionVars false
namespace Go.AB
open Go.RowKit

/-- A letter, and letters, digits and _ behind it. -/
def shapeL : List UInt8 → Bool
  | [] => false
  | c :: r => isLett c && r.all isNameC
/-- The tokens' names are shaped as the lexer shapes them. -/
def TokS (ts : List Tok) : Prop := ∀ t ∈ ts, t.kind = 1 → shapeL t.text = true
theorem TokS.tail {t : Tok} {r : List Tok} (h : TokS (t :: r)) : TokS r := fun x hx => h x (List.mem_cons_of_mem _ hx)
theorem takeK_ok {k : Nat} {ts : List Tok} {t : Tok} {r : List Tok} (h : takeK k ts = .ok (t, r)) : ts = t :: r ∧ t.kind = k := by
  unfold takeK at h
  split at h
  · cases h
  · split at h
    · rename_i hk
      cases h
      exact ⟨rfl, hk⟩
    · cases h
theorem nameT_ok {ts : List Tok} {t : Tok} {r : List Tok} (h : nameT ts = .ok (t, r)) : ts = t :: r ∧ freeB t = true ∧ t.text.length ≤ 24 := by
  unfold nameT at h
  split at h
  · cases h
  · split at h
    · cases h
    · split at h
      · cases h
      · rename_i h1 h2
        cases h
        exact ⟨rfl, by simpa using h1, by omega⟩
theorem name_ok {t : Tok} (hs : t.kind = 1 → shapeL t.text = true) (hf : freeB t = true) (hl : t.text.length ≤ 24) : nameP t.text = true := by
  unfold freeB at hf
  simp only [Bool.and_eq_true, decide_eq_true_eq] at hf
  have h1 := hs hf.1
  unfold nameP
  rw [hf.2, Bool.and_true]
  revert h1 hl
  cases t.text with
  | nil => intro _ h; exact h
  | cons c r =>
    intro hl h
    simp only [shapeL, Bool.and_eq_true] at h
    simp only [List.length_cons] at hl
    simp only [nameL, Bool.and_eq_true, decide_eq_true_eq]
    exact ⟨⟨by omega, h.1⟩, h.2⟩
theorem bA_list (s : List UInt8) : (bA s).data.toList = s := rfl
theorem idx_le (l : List (List UInt8)) (s : List UInt8) : idxOf l s ≤ l.length := by
  have h : ∀ (l : List (List UInt8)) (i : Nat), idxOf.go s l i = 0 ∨ (i ≤ idxOf.go s l i ∧ idxOf.go s l i < i + l.length) := by
    intro l
    induction l with
    | nil => intro i; exact .inl rfl
    | cons x r ih =>
      intro i
      unfold idxOf.go
      split
      · exact .inr ⟨Nat.le_refl _, by simp⟩
      · rcases ih (i + 1) with h | h
        · exact .inl h
        · exact .inr ⟨by omega, by simp only [List.length_cons]; omega⟩
  rcases h l 1 with h | h
  · unfold idxOf; omega
  · unfold idxOf; omega
theorem reg_lt {s : List UInt8} (h : 0 ≤ regL s) : regB (regL s) = true := by
  have h1 := idx_le ((List.range 16).map fun i => 114 :: Lib.decDigits i) s
  simp only [List.length_map, List.length_range] at h1
  unfold regB
  unfold regL at h ⊢
  simp only [decide_eq_true_eq]
  omega
/-- What the operands leave. -/
structure OpPost (f : List UInt8) (k : Nat) (x y : ItD) : Prop where
  op : y.op = x.op
  a : if k = 0 ∧ 1 ≤ f.count 114 then regB y.a = true else y.a = x.a
  b : if k ≤ 1 ∧ 2 ≤ k + f.count 114 then regB y.b = true else y.b = x.b
  c : if k ≤ 2 ∧ 3 ≤ k + f.count 114 then regB y.c = true else y.c = x.c
  n : 110 ∉ f → y.n = x.n
  nm : if 120 ∈ f then nameP y.name.data.toList = true else y.name = x.name
theorem opers_ok : ∀ (f : List UInt8) (first : Bool) (k : Nat) (ts : List Tok) (x : ItD) {ts' : List Tok} {y : ItD}, (∀ c ∈ f, c = 114 ∨ c = 110 ∨ c = 120) → f.count 120 ≤ 1 → k + f.count 114 ≤ 3 → TokS ts → opersD f first k ts x = .ok (ts', y) → OpPost f k x y ∧ TokS ts'
  | [], first, k, ts, x, ts', y, hf, h1, h3, hs, h => by
    unfold opersD at h
    cases h
    exact ⟨⟨rfl, by simp, by rw [if_neg (by simp; omega)], by rw [if_neg (by simp; omega)], fun _ => rfl, by simp⟩, hs⟩
  | c :: f, first, k, ts, x, ts', y, hf, h1, h3, hs, h => by
    have hc := hf c (List.mem_cons_self ..)
    have hf2 : ∀ c ∈ f, c = 114 ∨ c = 110 ∨ c = 120 := fun d hd => hf d (List.mem_cons_of_mem _ hd)
    unfold opersD at h
    have hcm : ∀ us, (if first = true then Except.ok ts else (takeK 3 ts).map Prod.snd) = .ok us → TokS us := by
      intro us hu
      split at hu
      · cases hu; exact hs
      · cases e : takeK 3 ts with
        | error e9 => rw [e] at hu; cases hu
        | ok p =>
          rw [e] at hu
          cases hu
          obtain ⟨rfl, _⟩ := takeK_ok (t := p.1) (r := p.2) e
          exact hs.tail
    revert h hcm
    generalize (if first = true then Except.ok ts else (takeK 3 ts).map Prod.snd) = A
    intro h hcm
    cases A with
    | error e => cases h
    | ok us =>
      have hus := hcm us rfl
      simp only at h
      cases eo : operD c k us x with
      | error e => rw [eo] at h; cases h
      | ok p =>
        obtain ⟨vs, k2, x2⟩ := p
        rw [eo] at h
        simp only at h
        unfold operD at eo
        rcases hc with rfl | rfl | rfl
        · rw [if_pos rfl] at eo
          rw [List.count_cons_self] at h3
          rw [List.count_cons_of_ne (by decide)] at h1
          split at eo
          · cases eo
          · rename_i t r
            split at eo
            · rename_i hr
              cases eo
              obtain ⟨g, gs⟩ := opers_ok f false (k + 1) vs _ hf2 h1 (by omega) hus.tail h
              obtain ⟨g1, g2, g3, g4, g5, g6⟩ := g
              have hrr := reg_lt hr.2
              rw [if_neg (by omega)] at g2
              refine ⟨⟨?_, ?_, ?_, ?_, ?_, ?_⟩, gs⟩
              · rw [g1]; unfold setReg; (repeat' split) <;> rfl
              · rw [List.count_cons_self]
                by_cases hk : k = 0
                · rw [if_pos ⟨hk, by omega⟩, g2]
                  unfold setReg
                  rw [if_pos hk]
                  exact hrr
                · rw [if_neg (by omega), g2]
                  unfold setReg
                  rw [if_neg hk]
                  split <;> rfl
              · rw [List.count_cons_self]
                by_cases hk : k ≤ 1
                · by_cases h2 : 2 ≤ k + (f.count 114 + 1)
                  · rw [if_pos ⟨hk, h2⟩]
                    by_cases hk0 : k = 0
                    · rw [if_pos (by omega)] at g3
                      exact g3
                    · rw [if_neg (by omega)] at g3
                      rw [g3]
                      unfold setReg
                      rw [if_neg hk0, if_pos (by omega)]
                      exact hrr
                  · rw [if_neg (by omega)]
                    rw [if_neg (by omega)] at g3
                    rw [g3]
                    unfold setReg
                    rw [if_pos (by omega)]
                · rw [if_neg (by omega)]
                  rw [if_neg (by omega)] at g3
                  rw [g3]
                  unfold setReg
                  rw [if_neg (by omega), if_neg (by omega)]
              · rw [List.count_cons_self]
                by_cases h2 : 3 ≤ k + (f.count 114 + 1)
                · rw [if_pos ⟨by omega, h2⟩]
                  by_cases hk2 : k = 2
                  · rw [if_neg (by omega)] at g4
                    rw [g4]
                    unfold setReg
                    rw [if_neg (by omega), if_neg (by omega)]
                    exact hrr
                  · rw [if_pos (by omega)] at g4
                    exact g4
                · rw [if_neg (by omega)]
                  rw [if_neg (by omega)] at g4
                  rw [g4]
                  unfold setReg
                  split
                  · rfl
                  · rw [if_pos (by omega)]
              · intro hn
                rw [g5 (fun hm => hn (List.mem_cons_of_mem _ hm))]
                unfold setReg
                (repeat' split) <;> rfl
              · have hm : (120 ∈ (114 :: f : List UInt8)) ↔ 120 ∈ f := by simp
                by_cases h120 : (120 : UInt8) ∈ f
                · rw [if_pos (hm.2 h120)]
                  rw [if_pos h120] at g6
                  exact g6
                · rw [if_neg (fun h => h120 (hm.1 h))]
                  rw [if_neg h120] at g6
                  rw [g6]
                  unfold setReg
                  (repeat' split) <;> rfl
            · cases eo
        · rw [if_neg (by decide), if_pos rfl] at eo
          rw [List.count_cons_of_ne (by decide)] at h1 h3
          cases et : takeK 2 us with
          | error e => rw [et] at eo; cases eo
          | ok q =>
            rw [et] at eo
            cases eo
            obtain ⟨rfl, _⟩ := takeK_ok (t := q.1) (r := q.2) et
            obtain ⟨g, gs⟩ := opers_ok f false _ _ _ hf2 h1 h3 hus.tail h
            obtain ⟨g1, g2, g3, g4, g5, g6⟩ := g
            refine ⟨⟨g1, ?_, ?_, ?_, fun hn => absurd (List.mem_cons_self ..) hn, ?_⟩, gs⟩
            · rw [List.count_cons_of_ne (by decide)]; exact g2
            · rw [List.count_cons_of_ne (by decide)]; exact g3
            · rw [List.count_cons_of_ne (by decide)]; exact g4
            · have hm : (120 ∈ (110 :: f : List UInt8)) ↔ 120 ∈ f := by simp
              by_cases h120 : (120 : UInt8) ∈ f
              · rw [if_pos (hm.2 h120)]
                rw [if_pos h120] at g6
                exact g6
              · rw [if_neg (fun h => h120 (hm.1 h))]
                rw [if_neg h120] at g6
                exact g6
        · rw [if_neg (by decide), if_neg (by decide)] at eo
          rw [List.count_cons_of_ne (by decide)] at h3
          rw [List.count_cons_self] at h1
          cases et : nameT us with
          | error e => rw [et] at eo; cases eo
          | ok q =>
            rw [et] at eo
            cases eo
            obtain ⟨rfl, hfr, hle⟩ := nameT_ok (t := q.1) (r := q.2) et
            obtain ⟨g, gs⟩ := opers_ok f false _ _ _ hf2 (by omega) h3 hus.tail h
            obtain ⟨g1, g2, g3, g4, g5, g6⟩ := g
            have hno : (120 : UInt8) ∉ f := fun hm => by
              have := List.count_pos_iff.2 hm
              omega
            refine ⟨⟨g1, ?_, ?_, ?_, fun hn => g5 (fun hm => hn (List.mem_cons_of_mem _ hm)), ?_⟩, gs⟩
            · rw [List.count_cons_of_ne (by decide)]; exact g2
            · rw [List.count_cons_of_ne (by decide)]; exact g3
            · rw [List.count_cons_of_ne (by decide)]; exact g4
            · rw [if_pos (List.mem_cons_self ..)]
              rw [if_neg hno] at g6
              rw [g6]
              exact name_ok (hus q.1 (List.mem_cons_self ..)) hfr hle
end Go.AB

/- The units of tokens may be printed. No program in sight. -/
set_option linter.unusedSimpArgs false
set_option linter.unusedVariables false
set_option linter.unusedSectionVars false
namespace Go.AB
open Go.RowKit

theorem form_facts : ∀ i : Fin 21, (∀ c ∈ formAt (i.val : Int), c = 114 ∨ c = 110 ∨ c = 120) ∧ (formAt (i.val : Int)).count 120 ≤ 1 ∧ (formAt (i.val : Int)).count 114 ≤ 3 ∧ (i.val ≠ 0 → (wordAt (i.val : Int)).isEmpty = false) := by decide +kernel
theorem opL_le (s : List UInt8) : opL s ≤ 20 := by
  have h := idx_le (opTab.map Prod.fst) s
  have e : (opTab.map Prod.fst).length = 20 := by rfl
  unfold opL
  omega
/-- Every Item and name so far may be printed. -/
def BksOk (bs : List BkD) : Prop := bs.all blockOk = true
theorem bks_snoc {bs : List BkD} {b : BkD} (h : BksOk bs) (hb : blockOk b = true) : BksOk (bs ++ [b]) := by
  unfold BksOk at h ⊢
  rw [List.all_append, h]
  simp [hb]
theorem put_ok {bs : List BkD} {x : ItD} (h : BksOk bs) (hx : itemOk x = true) : BksOk (putLast x bs) := by
  unfold putLast
  split
  · exact h
  · rename_i k hk
    have hm := List.mem_of_getLast? hk
    have hall := List.all_eq_true.1 h
    refine bks_snoc (List.all_eq_true.2 fun b hb => hall b ((List.dropLast_sublist bs).mem hb)) ?_
    have h1 := hall k hm
    unfold blockOk at h1 ⊢
    simp only [Bool.and_eq_true] at h1
    simp only [List.all_append, List.all_cons, List.all_nil, Bool.and_true, Bool.and_eq_true]
    exact ⟨h1.1, h1.2, hx⟩
theorem label_ok {t : Tok} (h : nameP t.text = true) : itemOk (labelI t) = true := by
  unfold itemOk labelI
  simp [h, bA_list]
theorem labels_ok2 : ∀ (n : Nat) (ts : List Tok) (bs : List BkD) (any : Bool) {p : List Tok × List BkD × Bool}, ts.length ≤ n → TokS ts → BksOk bs → labelsD ts bs any = .ok p → TokS p.1 ∧ BksOk p.2.1
  | n, [], bs, any, p, _, hs, hb, h => by unfold labelsD at h; cases h; exact ⟨hs, hb⟩
  | n, [t], bs, any, p, _, hs, hb, h => by unfold labelsD at h; cases h; exact ⟨hs, hb⟩
  | 0, t :: c :: r, bs, any, p, hn, hs, hb, h => by simp at hn
  | n + 1, t :: c :: r, bs, any, p, hn, hs, hb, h => by
    unfold labelsD at h
    split at h
    · rename_i h1
      split at h
      · cases h
      · split at h
        · cases h
        · rename_i h2 h3
          exact labels_ok2 n r _ _ (by simp only [List.length_cons] at hn; omega) hs.tail.tail (put_ok hb (label_ok (name_ok (hs t (List.mem_cons_self ..)) h1.1 (by omega)))) h
    · cases h
      exact ⟨hs, hb⟩
theorem instr_ok {op : Nat} (h0 : op ≠ 0) (h20 : op ≤ 20) {ts : List Tok} {bs : List BkD} {p : List Tok × List BkD} (hs : TokS ts) (hb : BksOk bs) (h : instrD op ts bs = .ok p) : TokS p.1 ∧ BksOk p.2 := by
  unfold instrD at h
  cases ts with
  | nil => cases h
  | cons t r =>
    dsimp only at h
    split at h
    · cases h
    · split at h
      · cases h
      · rename_i us y ho
        cases h
        obtain ⟨f1, f2, f3, f4⟩ := form_facts ⟨op, by omega⟩
        simp only at f1 f2 f3 f4
        obtain ⟨⟨g1, g2, g3, g4, g5, g6⟩, gs⟩ := opers_ok _ true 0 r _ f1 f2 (by omega) hs.tail ho
        simp only at g1 g2 g3 g4 g5 g6
        refine ⟨gs, put_ok hb ?_⟩
        have hop : y.op ≠ 0 := by rw [g1]; omega
        unfold itemOk
        simp only [Bool.and_eq_true]
        rw [if_neg hop, g1, f4 h0]
        refine ⟨⟨⟨⟨⟨by simp, ?_⟩, ?_⟩, ?_⟩, ?_⟩, ?_⟩
        · split at g2
          · rename_i hc
            rw [if_pos hc.2]; exact g2
          · rename_i hc
            rw [if_neg (fun e => hc ⟨trivial, e⟩), g2]; rfl
        · split at g3
          · rename_i hc
            rw [if_pos (by omega)]; exact g3
          · rename_i hc
            rw [if_neg (by omega), g3]; rfl
        · split at g4
          · rename_i hc
            rw [if_pos (by omega)]; exact g4
          · rename_i hc
            rw [if_neg (by omega), g4]; rfl
        · by_cases hn : (110 : UInt8) ∈ formAt op
          · simp [hn]
          · rw [g5 hn]; simp
        · split at g6
          · rename_i hc
            rw [if_pos hc]; exact g6
          · rename_i hc
            rw [if_neg hc, g6]; rfl
theorem value_ok {kind : Nat} {ts : List Tok} {p : Int × List Tok} (hs : TokS ts) (h : valueD kind ts = .ok p) : TokS p.2 ∧ (kind = 3 → p.1 = 0) := by
  unfold valueD at h
  split at h
  · rename_i hk
    split at h
    · cases h
    · rename_i a us h1
      split at h
      · cases h
      · rename_i t vs h2
        cases h
        obtain ⟨rfl, _⟩ := takeK_ok h1
        obtain ⟨rfl, _⟩ := takeK_ok h2
        exact ⟨hs.tail.tail, fun e => by omega⟩
  · cases h
    exact ⟨hs, fun _ => rfl⟩
theorem decl_ok {kind : Nat} (hk : 1 ≤ kind ∧ kind ≤ 4) : ∀ (fuel : Nat) (ts : List Tok) (ds : List DcD) {p : List Tok × List DcD}, TokS ts → ds.all declOk = true → declG kind fuel ts ds = .ok p → TokS p.1 ∧ p.2.all declOk = true
  | 0, ts, ds, p, hs, hd, h => by unfold declG at h; cases h; exact ⟨hs, hd⟩
  | fuel + 1, ts, ds, p, hs, hd, h => by
    unfold declG at h
    split at h
    · cases h
    · rename_i t us h1
      obtain ⟨rfl, hf, hl⟩ := nameT_ok h1
      split at h
      · cases h
      · rename_i v vs h2
        obtain ⟨hvs, hv⟩ := value_ok hs.tail h2
        have hd2 : (ds ++ [(⟨kind, bA t.text, v, t.line, t.col⟩ : DcD)]).all declOk = true := by
          rw [List.all_append, hd]
          have hnm := name_ok (hs t (List.mem_cons_self ..)) hf hl
          unfold declOk
          simp only [List.all_cons, List.all_nil, Bool.and_true, Bool.true_and, Bool.and_eq_true, Bool.or_eq_true, decide_eq_true_eq, bA_list]
          refine ⟨⟨by omega, hnm⟩, ?_⟩
          by_cases h3 : kind = 3
          · exact .inr (hv h3)
          · exact .inl (by omega)
        simp only at hvs
        split at h
        · rename_i c r
          split at h
          · exact decl_ok hk fuel r _ hvs.tail hd2 h
          · cases h; exact ⟨hvs, hd2⟩
        · cases h; exact ⟨hvs, hd2⟩
theorem end_ok {α : Type} {ts : List Tok} {a : α} {p : List Tok × α} (hs : TokS ts) (h : endD ts a = .ok p) : TokS p.1 ∧ p.2 = a := by
  unfold endD at h
  split at h
  · cases h
  · split at h
    · cases h; exact ⟨hs, rfl⟩
    · cases h
theorem line_ok {ts : List Tok} {u : UnD} {p : List Tok × UnD} (hs : TokS ts) (hu : unitOk u = true) (h : lineD ts u = .ok p) : TokS p.1 ∧ unitOk p.2 = true := by
  unfold unitOk at hu
  simp only [Bool.and_eq_true] at hu
  have key : ∀ (ds : List DcD) (bs : List BkD), ds.all declOk = true → BksOk bs → unitOk ⟨ds, bs⟩ = true := fun ds bs h1 h2 => by
    unfold unitOk
    simp only [Bool.and_eq_true]
    exact ⟨h1, h2⟩
  unfold lineD at h
  split at h
  · cases h
  · cases h
  · rename_i t r bs any hl
    obtain ⟨l1, l2⟩ := labels_ok2 _ _ _ _ (Nat.le_refl _) hs hu.2 hl
    simp only at l1 l2
    split at h
    · cases h
      exact ⟨l1, key _ _ hu.1 l2⟩
    · split at h
      · rename_i ho
        split at h
        · cases h
        · rename_i us bs2 hi
          obtain ⟨i1, i2⟩ := instr_ok ho.2 (opL_le _) l1 l2 hi
          obtain ⟨e1, e2⟩ := end_ok i1 h
          exact ⟨e1, by rw [e2]; exact key _ _ hu.1 i2⟩
      · split at h
        · cases h
        · rename_i h3
          split at h
          · split at h
            · cases h
            · rename_i n us hn
              obtain ⟨rfl, hf, hle⟩ := nameT_ok hn
              obtain ⟨e1, e2⟩ := end_ok l1.tail.tail h
              refine ⟨e1, ?_⟩
              rw [e2]
              refine key _ _ hu.1 (bks_snoc l2 ?_)
              unfold blockOk
              simp only [bA_list, List.all_nil, Bool.and_true]
              exact name_ok (l1.tail n (List.mem_cons_self ..)) hf hle
          · rename_i h5
            split at h
            · cases h
            · rename_i us ds hd
              have hk5 : kindL t.text ≤ 5 := idx_le kindTab _
              have hk0 : kindL t.text ≠ 0 := fun e => h3 (.inr (.inl e))
              obtain ⟨d1, d2⟩ := decl_ok (by omega) _ _ _ l1.tail hu.1 hd
              obtain ⟨e1, e2⟩ := end_ok d1 h
              exact ⟨e1, by rw [e2]; exact key _ _ d2 l2⟩
theorem lines_ok : ∀ (fuel : Nat) (ts : List Tok) (u : UnD) {v : UnD}, TokS ts → unitOk u = true → linesD fuel ts u = .ok v → unitOk v = true
  | 0, ts, u, v, hs, hu, h => by unfold linesD at h; cases h; exact hu
  | fuel + 1, ts, u, v, hs, hu, h => by
    unfold linesD at h
    split at h
    · cases h
    · rename_i t r w hl
      obtain ⟨l1, l2⟩ := line_ok hs hu hl
      split at h
      · exact lines_ok fuel r w l1.tail l2 h
      · cases h; exact l2
    · rename_i w hl
      cases h
      exact (line_ok hs hu hl).2
/-- What is read may be printed. -/
theorem unitT_ok {ts : List Tok} {u : UnD} (hs : TokS ts) (h : unitT ts = .ok u) : unitOk u = true := lines_ok _ _ _ hs rfl h
end Go.AB

/- The lexer at what the printer writes. No program in sight. -/
set_option linter.unusedSimpArgs false
set_option linter.unusedVariables false
set_option linter.unusedSectionVars false
namespace Go.AB
open Go.RowKit

theorem lett_eq (c : UInt8) : isLett c = isLetter c := rfl
theorem namec_eq (c : UInt8) : isNameC c = isWordly c := by
  unfold isNameC isWordly isDigit
  rw [lett_eq]
  cases isLetter c <;> cases h : (decide (c.toNat = 95)) <;> simp_all
theorem letter_blank {c : UInt8} (h : isLetter c = true) : isBlank c = false ∧ c.toNat ≠ 59 := by
  unfold isLetter at h
  unfold isBlank
  simp only [Bool.or_eq_true, Bool.and_eq_true, decide_eq_true_eq] at h
  refine ⟨?_, by omega⟩
  simp only [Bool.or_eq_false_iff, beq_eq_false_iff_ne]
  omega
/-- The lexer's names are letters, and letters, digits and _ behind. -/
theorem tok_shape {d : List UInt8} {k : Nat} {t : List UInt8} {v : Int} {n : Nat} (h : act1 d = .tok k t v n) (hk : k = 1) : shapeL t = true := by
  subst hk
  cases d with
  | nil =>
    have h1 : act1 [] = .tok 7 [] 0 0 := rfl
    rw [h1] at h
    cases h
  | cons c r =>
    obtain ⟨_, _, h3⟩ := act1_tokAt h
    unfold tokAt at h3
    simp only at h3
    split at h3
    · rename_i hl
      simp only [Prod.mk.injEq] at h3
      obtain ⟨_, _, ht, _, _⟩ := h3
      subst ht
      have hw : isWordly c = true := by unfold isWordly; rw [hl]; rfl
      have h4 := runLen_all isWordly (c :: r)
      have e : runLen isWordly (c :: r) = runLen isWordly r + 1 := by
        show (if isWordly c then _ else _) = _
        rw [if_pos hw]
      rw [e] at h4 ⊢
      rw [List.take_succ_cons] at h4 ⊢
      unfold shapeL
      dsimp only
      rw [lett_eq, hl, Bool.true_and, List.all_eq_true]
      intro x hx
      rw [namec_eq]
      exact h4 x (List.mem_cons_of_mem _ hx)
    · split at h3
      · split at h3 <;> simp at h3
      · repeat' split at h3
        all_goals simp at h3
theorem lexed_shape {d : List UInt8} {p : Nat × Nat} {ts : List Tok} (h : Lexed d p ts) : TokS ts := by
  induction h with
  | stop p => intro t ht hk; rw [List.mem_singleton] at ht; subst ht; cases hk
  | pass _ _ ih => exact ih
  | tok h hk _ ih =>
    intro t ht h1
    rcases List.mem_cons.1 ht with rfl | ht
    · exact tok_shape h h1
    · exact ih t ht h1
/-- A name is lexed as it is. -/
theorem lex_name {s z : List UInt8} (hs : shapeL s = true) (hz : nonw z) : act1 (s ++ z) = .tok 1 s 0 s.length := by
  cases s with
  | nil => cases hs
  | cons c r =>
    simp only [shapeL, Bool.and_eq_true] at hs
    have hl : isLetter c = true := hs.1
    obtain ⟨b1, b2⟩ := letter_blank hl
    have hall : ∀ x ∈ c :: r, isWordly x = true := by
      intro x hx
      rcases List.mem_cons.1 hx with rfl | hx
      · unfold isWordly; rw [hl]; rfl
      · rw [← namec_eq]; exact List.all_eq_true.1 hs.2 x hx
    have hr := runLen_append hz (c :: r) hall
    rw [List.cons_append] at hr ⊢
    refine act1_of_tokAt b1 b2 ?_
    unfold tokAt
    simp only
    rw [if_pos hl, hr]
    congr 3
    rw [← List.cons_append, List.take_left']
    rfl
theorem lex_mark (z : List UInt8) : act1 (44 :: z) = .tok 3 [] 0 1 ∧ act1 (58 :: z) = .tok 4 [] 0 1 ∧ act1 (61 :: z) = .tok 5 [] 0 1 ∧ act1 (10 :: z) = .tok 6 [] 0 1 ∧ act1 (32 :: z) = .pass 1 := by
  refine ⟨?_, ?_, ?_, ?_, act1_blank (by decide)⟩ <;> refine act1_of_tokAt (by decide) (by decide) ?_ <;> unfold tokAt <;> simp [isLetter, isDigit]
end Go.AB

/- What is read is small, and its numbers are of 64 bits. No program in sight. -/
set_option linter.unusedSimpArgs false
set_option linter.unusedVariables false
set_option linter.unusedSectionVars false
namespace Go.AB
open Go.RowKit

theorem num64_0 : Num64 0 := ⟨by decide, by decide⟩
/-- The tokens' numbers are of 64 bits. -/
def TokN (ts : List Tok) : Prop := ∀ t ∈ ts, Num64 t.num
theorem TokN.tail {t : Tok} {r : List Tok} (h : TokN (t :: r)) : TokN r := fun x hx => h x (List.mem_cons_of_mem _ hx)
theorem TokN.head {t : Tok} {r : List Tok} (h : TokN (t :: r)) : Num64 t.num := h t (List.mem_cons_self ..)
/-- So many blocks and Items. -/
def bsz : List BkD → Nat
  | [] => 0
  | b :: bs => b.items.length + 1 + bsz bs
theorem bsz_app : ∀ (a b : List BkD), bsz (a ++ b) = bsz a + bsz b
  | [], b => by simp [bsz]
  | x :: a, b => by simp only [List.cons_append, bsz, bsz_app a b]; omega
def BkW (bs : List BkD) : Prop := ∀ b ∈ bs, ∀ x ∈ b.items, Num64 x.n
theorem bkw_snoc {bs : List BkD} {b : BkD} (h : BkW bs) (hb : ∀ x ∈ b.items, Num64 x.n) : BkW (bs ++ [b]) := fun y hy => by
  rcases List.mem_append.1 hy with hy | hy
  · exact h y hy
  · simp only [List.mem_singleton] at hy; subst hy; exact hb
theorem put_w {bs : List BkD} {x : ItD} (h : BkW bs) (hx : Num64 x.n) : BkW (putLast x bs) ∧ bsz (putLast x bs) ≤ bsz bs + 1 := by
  unfold putLast
  split
  · exact ⟨h, by omega⟩
  · rename_i k hk
    have hm := List.mem_of_getLast? hk
    have hne : bs ≠ [] := fun e => by rw [e] at hk; cases hk
    have hl : bs.getLast hne = k := by
      have := List.getLast?_eq_some_getLast hne
      rw [hk] at this
      exact (Option.some.inj this).symm
    have hb : bs = bs.dropLast ++ [k] := by rw [← hl, List.dropLast_concat_getLast]
    refine ⟨bkw_snoc (fun b hb => h b ((List.dropLast_sublist bs).mem hb)) fun y hy => ?_, ?_⟩
    · rcases List.mem_append.1 hy with hy | hy
      · exact h k hm y hy
      · simp only [List.mem_singleton] at hy; subst hy; exact hx
    · conv => rhs; rw [hb]
      rw [bsz_app, bsz_app]
      simp only [bsz, List.length_append, List.length_cons, List.length_nil]
      omega
theorem labels_w : ∀ (n : Nat) (ts : List Tok) (bs : List BkD) (any : Bool) {p : List Tok × List BkD × Bool}, ts.length ≤ n → TokN ts → BkW bs → labelsD ts bs any = .ok p → TokN p.1 ∧ BkW p.2.1 ∧ bsz p.2.1 + p.1.length ≤ bsz bs + ts.length
  | n, [], bs, any, p, _, hs, hb, h => by unfold labelsD at h; cases h; exact ⟨hs, hb, Nat.le_refl _⟩
  | n, [t], bs, any, p, _, hs, hb, h => by unfold labelsD at h; cases h; exact ⟨hs, hb, Nat.le_refl _⟩
  | 0, t :: c :: r, bs, any, p, hn, hs, hb, h => by simp at hn
  | n + 1, t :: c :: r, bs, any, p, hn, hs, hb, h => by
    unfold labelsD at h
    split at h
    · split at h
      · cases h
      · split at h
        · cases h
        · have hp := put_w (x := labelI t) hb num64_0
          obtain ⟨g1, g2, g3⟩ := labels_w n r _ _ (by simp only [List.length_cons] at hn; omega) hs.tail.tail hp.1 h
          refine ⟨g1, g2, ?_⟩
          have := hp.2
          simp only [List.length_cons]
          omega
    · cases h
      exact ⟨hs, hb, Nat.le_refl _⟩
theorem oper_w {c : UInt8} {k : Nat} {ts : List Tok} {x : ItD} {p : List Tok × Nat × ItD} (hs : TokN ts) (hx : Num64 x.n) (h : operD c k ts x = .ok p) : TokN p.1 ∧ Num64 p.2.2.n ∧ p.1.length ≤ ts.length := by
  unfold operD at h
  split at h
  · split at h
    · cases h
    · split at h
      · cases h
        refine ⟨hs.tail, ?_, by simp⟩
        have : ∀ m : Int, (setReg x k m).n = x.n := fun m => by unfold setReg; (repeat' split) <;> rfl
        rw [this]
        exact hx
      · cases h
  · split at h
    · split at h
      · cases h
      · rename_i t r e
        cases h
        obtain ⟨rfl, _⟩ := takeK_ok e
        exact ⟨hs.tail, hs.head, by simp⟩
    · split at h
      · cases h
      · rename_i t r e
        cases h
        obtain ⟨rfl, _⟩ := nameT_ok e
        exact ⟨hs.tail, hx, by simp⟩
theorem opers_w : ∀ (f : List UInt8) (first : Bool) (k : Nat) (ts : List Tok) (x : ItD) {p : List Tok × ItD}, TokN ts → Num64 x.n → opersD f first k ts x = .ok p → TokN p.1 ∧ Num64 p.2.n ∧ p.1.length ≤ ts.length
  | [], first, k, ts, x, p, hs, hx, h => by unfold opersD at h; cases h; exact ⟨hs, hx, Nat.le_refl _⟩
  | c :: f, first, k, ts, x, p, hs, hx, h => by
    unfold opersD at h
    have hcm : ∀ us, (if first = true then Except.ok ts else (takeK 3 ts).map Prod.snd) = .ok us → TokN us ∧ us.length ≤ ts.length := by
      intro us hu
      split at hu
      · cases hu; exact ⟨hs, Nat.le_refl _⟩
      · cases e : takeK 3 ts with
        | error e9 => rw [e] at hu; cases hu
        | ok p =>
          rw [e] at hu
          cases hu
          obtain ⟨rfl, _⟩ := takeK_ok (t := p.1) (r := p.2) e
          exact ⟨hs.tail, by simp⟩
    revert h hcm
    generalize (if first = true then Except.ok ts else (takeK 3 ts).map Prod.snd) = A
    intro h hcm
    cases A with
    | error e => cases h
    | ok us =>
      obtain ⟨hus, hul⟩ := hcm us rfl
      simp only at h
      cases eo : operD c k us x with
      | error e => rw [eo] at h; cases h
      | ok q =>
        obtain ⟨vs, k2, x2⟩ := q
        rw [eo] at h
        simp only at h
        obtain ⟨g1, g2, g3⟩ := oper_w hus hx eo
        obtain ⟨g4, g5, g6⟩ := opers_w f false k2 vs x2 g1 g2 h
        exact ⟨g4, g5, by simp only at g3; omega⟩
theorem instr_w {op : Nat} {ts : List Tok} {bs : List BkD} {p : List Tok × List BkD} (hs : TokN ts) (hb : BkW bs) (h : instrD op ts bs = .ok p) : TokN p.1 ∧ BkW p.2 ∧ bsz p.2 + p.1.length ≤ bsz bs + ts.length := by
  unfold instrD at h
  cases ts with
  | nil => cases h
  | cons t r =>
    dsimp only at h
    split at h
    · cases h
    · split at h
      · cases h
      · rename_i us y ho
        cases h
        obtain ⟨g1, g2, g3⟩ := opers_w _ true 0 r _ hs.tail num64_0 ho
        have hp := put_w hb g2
        refine ⟨g1, hp.1, ?_⟩
        have := hp.2
        simp only [List.length_cons] at g3 this ⊢
        omega
theorem value_w {kind : Nat} {ts : List Tok} {p : Int × List Tok} (hs : TokN ts) (h : valueD kind ts = .ok p) : TokN p.2 ∧ Num64 p.1 ∧ p.2.length ≤ ts.length := by
  unfold valueD at h
  split at h
  · split at h
    · cases h
    · rename_i a us h1
      split at h
      · cases h
      · rename_i t vs h2
        cases h
        obtain ⟨rfl, _⟩ := takeK_ok h1
        obtain ⟨rfl, _⟩ := takeK_ok h2
        exact ⟨hs.tail.tail, hs.tail.head, by simp only [List.length_cons]; omega⟩
  · cases h
    exact ⟨hs, num64_0, Nat.le_refl _⟩
theorem decl_w {kind : Nat} : ∀ (fuel : Nat) (ts : List Tok) (ds : List DcD) {p : List Tok × List DcD}, TokN ts → (∀ d ∈ ds, Num64 d.val) → declG kind fuel ts ds = .ok p → TokN p.1 ∧ (∀ d ∈ p.2, Num64 d.val) ∧ p.2.length + p.1.length ≤ ds.length + ts.length
  | 0, ts, ds, p, hs, hd, h => by unfold declG at h; cases h; exact ⟨hs, hd, Nat.le_refl _⟩
  | fuel + 1, ts, ds, p, hs, hd, h => by
    unfold declG at h
    split at h
    · cases h
    · rename_i t us h1
      obtain ⟨rfl, hf, hl⟩ := nameT_ok h1
      split at h
      · cases h
      · rename_i v vs h2
        obtain ⟨hvs, hv, hvl⟩ := value_w hs.tail h2
        have hd2 : ∀ d ∈ ds ++ [(⟨kind, bA t.text, v, t.line, t.col⟩ : DcD)], Num64 d.val := fun y hy => by
          rcases List.mem_append.1 hy with hy | hy
          · exact hd y hy
          · simp only [List.mem_singleton] at hy; subst hy; exact hv
        simp only at hvs hvl
        split at h
        · rename_i c r
          split at h
          · obtain ⟨g1, g2, g3⟩ := decl_w fuel r _ hvs.tail hd2 h
            refine ⟨g1, g2, ?_⟩
            simp only [List.length_append, List.length_cons, List.length_nil] at g3 hvl ⊢
            omega
          · cases h
            refine ⟨hvs, hd2, ?_⟩
            simp only [List.length_append, List.length_cons, List.length_nil] at hvl ⊢
            omega
        · cases h
          refine ⟨hvs, hd2, ?_⟩
          simp only [List.length_append, List.length_cons, List.length_nil]
          omega
theorem end_w {α : Type} {ts : List Tok} {a : α} {p : List Tok × α} (h : endD ts a = .ok p) : p.1 = ts ∧ p.2 = a := by
  unfold endD at h
  split at h
  · cases h
  · split at h
    · cases h; exact ⟨rfl, rfl⟩
    · cases h
structure UnZ (u : UnD) (n : Nat) : Prop where
  w : UnW u
  n : u.decls.length + bsz u.blocks ≤ n
theorem line_w {ts : List Tok} {u : UnD} {n : Nat} {p : List Tok × UnD} (hs : TokN ts) (hu : UnW u) (hn : u.decls.length + bsz u.blocks + ts.length ≤ n) (h : lineD ts u = .ok p) : TokN p.1 ∧ UnW p.2 ∧ p.2.decls.length + bsz p.2.blocks + p.1.length ≤ n := by
  unfold lineD at h
  split at h
  · cases h
  · cases h
  · rename_i t r bs any hl
    obtain ⟨l1, l2, l3⟩ := labels_w _ _ _ _ (Nat.le_refl _) hs hu.i hl
    simp only [List.length_cons] at l1 l2 l3
    split at h
    · cases h
      exact ⟨l1, ⟨hu.d, l2⟩, by simp only [List.length_cons]; omega⟩
    · split at h
      · split at h
        · cases h
        · rename_i us bs2 hi
          obtain ⟨i1, i2, i3⟩ := instr_w l1 l2 hi
          obtain ⟨e1, e2⟩ := end_w h
          rw [e1, e2]
          exact ⟨i1, ⟨hu.d, i2⟩, by simp only [List.length_cons] at i3 ⊢; omega⟩
      · split at h
        · cases h
        · split at h
          · split at h
            · cases h
            · rename_i x us hx
              obtain ⟨rfl, _, _⟩ := nameT_ok hx
              obtain ⟨e1, e2⟩ := end_w h
              rw [e1, e2]
              refine ⟨l1.tail.tail, ⟨hu.d, bkw_snoc l2 (by simp)⟩, ?_⟩
              simp only [bsz_app, bsz, List.length_nil, List.length_cons] at l3 ⊢
              omega
          · split at h
            · cases h
            · rename_i us ds hd
              obtain ⟨d1, d2, d3⟩ := decl_w _ _ _ l1.tail hu.d hd
              obtain ⟨e1, e2⟩ := end_w h
              rw [e1, e2]
              exact ⟨d1, ⟨d2, l2⟩, by simp only at d3 ⊢; omega⟩
theorem lines_w : ∀ (fuel : Nat) (ts : List Tok) (u : UnD) {v : UnD} {n : Nat}, TokN ts → UnW u → u.decls.length + bsz u.blocks + ts.length ≤ n → linesD fuel ts u = .ok v → UnW v ∧ v.decls.length + bsz v.blocks ≤ n
  | 0, ts, u, v, n, hs, hu, hn, h => by unfold linesD at h; cases h; exact ⟨hu, by omega⟩
  | fuel + 1, ts, u, v, n, hs, hu, hn, h => by
    unfold linesD at h
    split at h
    · cases h
    · rename_i t r w hl
      obtain ⟨l1, l2, l3⟩ := line_w hs hu hn hl
      simp only [List.length_cons] at l1 l2 l3
      split at h
      · exact lines_w fuel r w l1.tail l2 (by omega) h
      · cases h; exact ⟨l2, by omega⟩
    · rename_i w hl
      obtain ⟨l1, l2, l3⟩ := line_w hs hu hn hl
      cases h
      exact ⟨l2, by simp only [List.length_nil] at l3; omega⟩
/-- What is read is small. -/
theorem unitT_w {ts : List Tok} {u : UnD} (hs : TokN ts) (h : unitT ts = .ok u) : UnW u ∧ u.decls.length + bsz u.blocks ≤ ts.length :=
  lines_w _ _ ⟨[], []⟩ hs ⟨by simp, by simp⟩ (by simp [bsz]) h
theorem bsz_len : ∀ (bs : List BkD), bs.length ≤ bsz bs ∧ ∀ b ∈ bs, b.items.length ≤ bsz bs
  | [] => ⟨by simp [bsz], by simp⟩
  | b :: bs => by
    obtain ⟨h1, h2⟩ := bsz_len bs
    refine ⟨by simp only [List.length_cons, bsz]; omega, fun x hx => ?_⟩
    rcases List.mem_cons.1 hx with rfl | hx
    · simp only [bsz]; omega
    · have := h2 x hx; simp only [bsz]; omega
end Go.AB
