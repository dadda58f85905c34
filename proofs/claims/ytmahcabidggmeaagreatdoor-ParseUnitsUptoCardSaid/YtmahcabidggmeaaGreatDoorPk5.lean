/- Joined by join.py out of Vpa, Vpf, Vpb. -/
import Derived.Test.YtmahcabidggmeaaGreatDoorChecked
import Derived.Test.YtmahcabidggmeaaGreatDoorPk4
import Derived.Test.YtmahcabidggmeaaGreatDoorRows
import Derived.Deep.QuietTactic
import Derived.BigQuiet
import Derived.Deep.LoopGhost
import Derived.Deep.DeepCutAuto
import Derived.Laws.Tables
import Derived.Test.YtmahcabidggmeaaGreatDoorPk2
import Derived.Lib.Strings
set_option linter.unusedSimpArgs false
set_option linter.unusedVariables false
set_option linter.unusedSectionVars false

/- The reader of units: what holds between its steps. -/
set_option linter.unusedVariables false
set_option linter.unusedSectionVars false
set_option linter.unusedSimpArgs false
namespace Go.AB
open Go.RowKit
theorem flat_put {α : Type} {f : α → List Value} {k : Nat} (hf : ∀ x, (f x).length = k) : ∀ (l : List α) (i : Nat) (hi : i < l.length) (y : α) (j : Nat) (hj : j < k) (u : Value) (hy : f y = (f l[i]).set j u), (l.flatMap f).set (i * k + j) u = (l.set i y).flatMap f
  | [], i, hi, _, _, _, _, _ => by simp at hi
  | x :: l, 0, hi, y, j, hj, u, hy => by
    simp only [List.getElem_cons_zero] at hy
    rw [List.flatMap_cons, List.set_cons_zero, List.flatMap_cons, List.set_append_left _ _ (by rw [hf]; omega), hy]
    congr 2
    omega
  | x :: l, i + 1, hi, y, j, hj, u, hy => by
    have h := flat_put hf l i (by simpa using hi) y j hj u (by simpa using hy)
    rw [List.flatMap_cons, List.set_cons_succ, List.flatMap_cons, List.set_append_right _ _ (by rw [hf, Nat.add_mul]; omega), hf, show (i + 1) * k + j - k = i * k + j from by rw [Nat.add_mul]; omega, h]
theorem Row.atf {α : Type} {f : α → List Value} {k : Nat} (hf : ∀ x, (f x).length = k) {w : World} {e g n : Nat} {v : Value} {xs : List α} (h : Row w e k v (some g) n (xs.flatMap f)) (hn : xs.length = n) {i : Nat} (hi : i < xs.length) {j : Nat} (hj : j < k) :
    w.cell? ⟨g, i * k + j, none⟩ = some ((f xs[i]).getD j undef) := by
  have h1 := (Row.cellk h).1 (i * k + j) (by
    subst hn
    have h2 : (i + 1) * k ≤ xs.length * k := Nat.mul_le_mul_right k (by omega)
    rw [Nat.add_mul] at h2
    omega)
  rw [h1, flat_get hf xs i j hi hj]
theorem View.struct (w : World) (cs : List Value) (t : TypeId) {k : Nat} (hk : cs.length = k) : View (w.alloc (.cells cs.toArray t)) k (.slice (some ⟨w.heap.size, 0, none⟩) 1 1) 1 cs := by
  refine ⟨by omega, by simp [maxLen], _, _, rfl, Nat.le_refl _, by simp [maxLen], (fun h => by cases h), fun h0 => ⟨_, _, rfl, fun j hj => ?_⟩⟩
  have hj' : j < cs.length := by omega
  rw [blk_cell (blk_alloc_new w _)]
  simp [List.getD, hj']
theorem View.structAt (w : World) (cs : List Value) (t : TypeId) {k b : Nat} (hb : w.heap.size = b) (hk : cs.length = k) : View (w.alloc (.cells cs.toArray t)) k (.slice (some ⟨b, 0, none⟩) 1 1) 1 cs := by
  subst hb
  exact View.struct w cs t hk
/-- An element of a list of structs is written. -/
theorem Hp.putf {α : Type} {f : α → List Value} {k : Nat} (hf : ∀ x, (f x).length = k) {S0 : List Nat} {w0 w : World} {I : List It} (h : Hp S0 w0 w I) (m : Nat) {e n g : Nat} {v : Value} {xs : List α} (hi : I[m]? = some (.row e k v (some g) n (xs.flatMap f))) {i : Nat} (hx : i < xs.length) (y : α) {j : Nat} (hj : j < k) {u : Value} (hy : f y = (f xs[i]).set j u) {I' : List It} (hI : I.set m (.row e k v (some g) n ((xs.set i y).flatMap f)) = I') : Hp S0 w0 (w.setCell ⟨g, i * k + j, none⟩ u) I' := by
  refine h.puti m hi (i * k + j) u ?_
  rw [← hI, flat_put hf xs i hx y j hj u hy]

/-- The last token is the stop. -/
def End7 (ts : List Tok) : Prop := ∃ t, ts.getLast? = some t ∧ t.kind = 7
theorem End7.ne {ts : List Tok} (h : End7 ts) : ts ≠ [] := by obtain ⟨t, h1, _⟩ := h; intro e; rw [e] at h1; cases h1
theorem End7.tail {t : Tok} {r : List Tok} (h : End7 (t :: r)) (hk : t.kind ≠ 7) : End7 r := by
  obtain ⟨x, h1, h2⟩ := h
  cases r with
  | nil => simp only [List.getLast?_singleton, Option.some.injEq] at h1; subst h1; exact absurd h2 hk
  | cons y r => exact ⟨x, by rw [← h1]; simp [List.getLast?_cons_cons], h2⟩
theorem End7.two {t : Tok} {r : List Tok} (h : End7 (t :: r)) (hk : t.kind ≠ 7) : ∃ c r', r = c :: r' := by
  have := (h.tail hk).ne
  cases r with
  | nil => exact absurd rfl this
  | cons y r => exact ⟨y, r, rfl⟩

/-- A block that is being read: its Items are a list in memory of its own. -/
structure BlO where
  b : BkD
  ao : Option Addr
  cap : Nat
  r : Option Nat
def BlO.v (x : BlO) : Value := .slice x.ao x.b.items.length x.cap
def blC (x : BlO) : List Value := [.string x.b.name, x.v, .int .i64 x.b.l, .int .i64 x.b.c]
theorem blC_len (x : BlO) : (blC x).length = 4 := rfl
def tkC (x : Tok) : List Value := [.int .i64 x.kind, .string ⟨x.text.toArray⟩, .int .i64 x.num, .int .i64 x.line, .int .i64 x.col]
theorem tkC_len (x : Tok) : (tkC x).length = 5 := rfl
theorem one_itm (x : ItD) : ∀ u ∈ itC x, u.oneCell' = true := by
  intro u hx
  simp only [itC, List.mem_cons, List.not_mem_nil, or_false] at hx
  rcases hx with rfl | rfl | rfl | rfl | rfl | rfl | rfl | rfl | rfl | rfl <;> rfl
theorem one_dcl (x : DcD) : ∀ u ∈ dcC x, u.oneCell' = true := by
  intro u hx
  simp only [dcC, List.mem_cons, List.not_mem_nil, or_false] at hx
  rcases hx with rfl | rfl | rfl | rfl | rfl <;> rfl
/-- Where the lists lie. -/
structure RQ where
  tb : Nat
  off : Nat
  tc : Nat
  a0 : Option Addr
  c0 : Nat
  r0 : Option Nat
  a1 : Option Addr
  c1 : Nat
  r1 : Option Nat
  bs : List BlO
def RQ.bks (q : RQ) : List BkD := q.bs.map BlO.b
def RQ.next (q : RQ) : RQ := { q with off := q.off + 5, tc := q.tc - 1 }
theorem RQ.next_bks (q : RQ) : q.next.bks = q.bks := rfl
/-- What is read, or what is wrong. -/
def OutP {α : Type} (bad : Flt → Ending → World → Prop) (x : Except Flt α) (good : α → Ending → World → Prop) (e : Ending) (w : World) : Prop := match x with
  | .error f => bad f e w
  | .ok a => good a e w
end Go.AB
namespace Go.Proofs.YtmahcabidggmeaaGreatDoor
open Go.RowKit Go.AB
set_option linter.unusedSimpArgs false
set_option linter.unusedVariables false
set_option linter.unusedSectionVars false

theorem info_itm : (Tryz.prog.info? 53).map (fun i => (i.zero, i.size, i.bytes)) = some (some (.agg #[.int .i64 0, .int .i64 0, .int .i64 0, .int .i64 0, .int .i64 0, .string ⟨#[]⟩, .int .i64 0, .int .i64 0, .int .i64 0, .int .i64 0]), 10, 88) := by kernel_rfl
theorem elem_itm : ElemOk Tryz.prog 48 53 10 88 := .of Tryz.underlying48 info_itm rfl (by decide)
theorem info_dcl : (Tryz.prog.info? 47).map (fun i => (i.zero, i.size, i.bytes)) = some (some (.agg #[.int .i64 0, .string ⟨#[]⟩, .int .i64 0, .int .i64 0, .int .i64 0]), 5, 48) := by kernel_rfl
theorem elem_dcl : ElemOk Tryz.prog 22 47 5 48 := .of Tryz.underlying22 info_dcl rfl (by decide)
theorem info_blk : (Tryz.prog.info? 50).map (fun i => (i.zero, i.size, i.bytes)) = some (some (.agg #[.string ⟨#[]⟩, .slice none 0 0, .int .i64 0, .int .i64 0]), 4, 56) := by kernel_rfl
theorem elem_blk : ElemOk Tryz.prog 23 50 4 56 := .of Tryz.underlying23 info_blk rfl (by decide)

/-- What is thrown where a token may not stand. -/
def wrongs (f : Flt) : List PanicEntry := [{ v := .iface 65 (.agg #[.int .i64 f.code, .int .i64 f.l, .int .i64 f.c]), recovered := false }]
abbrev gaveUp (f : Flt) : Ending := .panicked (wrongs f)
def badP (w0 : World) (f : Flt) (e : Ending) (w : World) : Prop := e = gaveUp f ∧ Chg [] w0 w
def itRow (x : BlO) : It := .row 53 10 x.v x.r x.b.items.length (x.b.items.flatMap itC)
def rsBox (b n d : Nat) (q : RQ) : It := .box b (.cells #[.slice (some ⟨q.tb, q.off, none⟩) n q.tc, .slice q.a0 d q.c0, .slice q.a1 q.bs.length q.c1] 69 (0, 0))
def rsDecls (ds : List DcD) (q : RQ) : It := .row 47 5 (.slice q.a0 ds.length q.c0) q.r0 ds.length (ds.flatMap dcC)
def rsBlocks (q : RQ) : It := .row 50 4 (.slice q.a1 q.bs.length q.c1) q.r1 q.bs.length (q.bs.flatMap blC)
def rsI (b n : Nat) (ds : List DcD) (q : RQ) : List It := rsBox b n ds.length q :: rsDecls ds q :: rsBlocks q :: q.bs.map itRow
/-- A reader: box b, made behind the world w0; the tokens that stand there, the declarations and blocks so far; m: at most so many of each. -/
structure RS (w0 w : World) (b : Nat) (ts : List Tok) (ds : List DcD) (q : RQ) (m : Nat) (X : List It) : Prop where
  hp : Hp [] w0 w (rsI b ts.length ds q ++ X)
  tok : Lst tkC 5 w0 (.slice (some ⟨q.tb, q.off, none⟩) ts.length q.tc) ts
  e7 : End7 ts
  ld : ds.length + ts.length ≤ m
  lb : q.bs.length + ts.length ≤ m
  li : ∀ x ∈ q.bs, x.b.items.length + ts.length ≤ m
  sm : m ≤ 2097152
  tx : ∀ t ∈ ts, t.text.length ≤ 1048576
section
variable {w0 w w' : World} {b : Nat} {t : Tok} {ts r : List Tok} {ds : List DcD} {q : RQ} {m : Nat} {X : List It}
theorem RS.same (h : RS w0 w b ts ds q m X) (hc : Chg [] w w') : RS w0 w' b ts ds q m X := ⟨h.hp.same hc, h.tok, h.e7, h.ld, h.lb, h.li, h.sm, h.tx⟩
theorem RS.blk (h : RS w0 w b ts ds q m X) : w.heap[b]? = some (.cells #[.slice (some ⟨q.tb, q.off, none⟩) ts.length q.tc, .slice q.a0 ds.length q.c0, .slice q.a1 q.bs.length q.c1] 69 (0, 0)) := h.hp.get (i := 0) rfl
theorem RS.c0 (h : RS w0 w b ts ds q m X) : w.cell? ⟨b, 0, none⟩ = some (.slice (some ⟨q.tb, q.off, none⟩) ts.length q.tc) := blk_cell h.blk 0
theorem RS.c1 (h : RS w0 w b ts ds q m X) : w.cell? ⟨b, 1, none⟩ = some (.slice q.a0 ds.length q.c0) := blk_cell h.blk 1
theorem RS.c2 (h : RS w0 w b ts ds q m X) : w.cell? ⟨b, 2, none⟩ = some (.slice q.a1 q.bs.length q.c1) := blk_cell h.blk 2
theorem RS.fr (h : RS w0 w b ts ds q m X) (i : Nat) : w.frozen? ⟨b, i, none⟩ = false := blk_free h.blk i
theorem RS.lt (h : RS w0 w b ts ds q m X) : b < w.heap.size := blk_lt h.blk
theorem RS.tk (h : RS w0 w b ts ds q m X) {i : Nat} {x : Tok} (hi : ts[i]? = some x) {j : Nat} (hj : j < 5) : w.cell? ⟨q.tb, q.off + i * 5 + j, none⟩ = some ((tkC x).getD j undef) := by
  obtain ⟨hlt, rfl⟩ := List.getElem?_eq_some_iff.1 hi
  obtain ⟨b', off, he, hc⟩ := (h.tok.keep h.hp.chg).at tkC_len hlt (by omega)
  simp only [Option.some.injEq, Addr.mk.injEq, and_true] at he
  obtain ⟨h1, h2⟩ := he
  rw [h1, h2]
  exact hc j hj
theorem RS.len (h : RS w0 w b ts ds q m X) : ts.length ≤ q.tc ∧ q.tc ≤ maxLen ∧ ts.length ≤ 2097152 ∧ 0 < ts.length := by
  obtain ⟨ao, cap, hv, h1, h2, _⟩ := h.tok.len
  simp only [Value.slice.injEq] at hv
  have h3 := h.ld
  have h4 := h.sm
  have := List.length_pos_iff.2 h.e7.ne
  exact ⟨by omega, by omega, by omega, this⟩
/-- The head token's cells. -/
theorem RS.head (h : RS w0 w b (t :: r) ds q m X) : w.cell? ⟨q.tb, q.off, none⟩ = some (.int .i64 t.kind) ∧ w.cell? ⟨q.tb, q.off + 1, none⟩ = some (.string ⟨t.text.toArray⟩) ∧ w.cell? ⟨q.tb, q.off + 2, none⟩ = some (.int .i64 t.num) ∧
    w.cell? ⟨q.tb, q.off + 3, none⟩ = some (.int .i64 t.line) ∧ w.cell? ⟨q.tb, q.off + 4, none⟩ = some (.int .i64 t.col) := by
  have g := fun j (hj : j < 5) => h.tk (i := 0) (x := t) rfl hj
  simp only [Nat.zero_mul, Nat.add_zero] at g
  exact ⟨g 0 (by omega), g 1 (by omega), g 2 (by omega), g 3 (by omega), g 4 (by omega)⟩
/-- One token on. -/
theorem RS.next (h : RS w0 w b (t :: r) ds q m X) (hk : t.kind ≠ 7) {W : World} (hc : Chg [b] w W) (hW : W.heap[b]? = some (.cells #[.slice (some ⟨q.tb, q.off + 5, none⟩) r.length (q.tc - 1), .slice q.a0 ds.length q.c0, .slice q.a1 q.bs.length q.c1] 69 (0, 0))) : RS w0 W b r ds q.next (m - 1) X ∧ 0 < m := by
  have hl := h.len
  have h1 := h.ld
  have h2 := h.lb
  have h3 := h.li
  simp only [List.length_cons] at hl h1 h2 h3
  refine ⟨⟨h.hp.set (i := 0) (x := rsBox b (t :: r).length ds.length q) rfl (rsBox b r.length ds.length q.next) hc (fun g hg => by simp only [List.mem_singleton] at hg; subst hg; rfl) hW (fun g hg => .inl hg) rfl, ?_, h.e7.tail hk, by omega, by show q.bs.length + _ ≤ _; omega, fun x hx => by have := h3 x hx; omega, by have := h.sm; omega, fun x hx => h.tx x (List.mem_cons_of_mem _ hx)⟩, by omega⟩
  have h0 := List.length_pos_iff.2 (h.e7.tail hk).ne
  obtain ⟨g1, g2, ao, cap, hv, g3, g4, g5, g6⟩ := h.tok
  simp only [Value.slice.injEq] at hv
  obtain ⟨rfl, hl2, rfl⟩ := hv
  obtain ⟨bb, off, he, hc⟩ := g6 (by simp)
  simp only [Option.some.injEq, Addr.mk.injEq, and_true] at he
  obtain ⟨rfl, rfl⟩ := he
  refine ⟨?_, ?_, some ⟨q.tb, q.off + 5, none⟩, q.tc - 1, rfl, ?_, ?_, (fun h => by cases h), fun hp => ⟨_, _, rfl, fun j hj => ?_⟩⟩
  · rw [flat_len tkC_len]
  · simp only [List.length_cons] at g2; omega
  · simp only [List.length_cons] at g3; omega
  · omega
  · have := hc (j + 5) (by simp only [List.length_cons]; omega)
    rw [show q.off + 5 + j = q.off + (j + 5) from by omega, this, List.flatMap_cons]
    simp only [List.getD]
    rw [List.getElem?_append_right (by rw [tkC_len]; omega), tkC_len, Nat.add_sub_cancel]
/-- A declaration joins. -/
theorem RS.decl {w2 : World} {d : DcD} {ao : Option Addr} {cap : Nat} {r0 : Option Nat} (h : RS w0 w b ts ds q m X) {w1 : World} (hc1 : Chg [] w w1) (hr : Row w2 47 5 (.slice ao (ds.length + 1) cap) r0 (ds.length + 1) (ds.flatMap dcC ++ dcC d)) (hg : Grew w1 w2 q.r0 r0) (hm : m < 2097152) :
    RS w0 (w2.setCell ⟨b, 1, none⟩ (.slice ao (ds.length + 1) cap)) b ts (ds ++ [d]) { q with a0 := ao, c0 := cap, r0 := r0 } (m + 1) X := by
  have e : ds.flatMap dcC ++ dcC d = (ds ++ [d]).flatMap dcC := by simp
  have e2 : ds.length + 1 = (ds ++ [d]).length := by simp
  have h1 := h.ld
  have h2 := h.lb
  rw [e, e2] at hr
  rw [e2]
  refine ⟨(h.hp.grow 1 rfl hc1 hr hg.chg hg.fresh rfl).put 0 rfl 1 _ rfl, h.tok, h.e7, by simp; omega, by show q.bs.length + _ ≤ _; omega, fun x hx => by have := h.li x hx; omega, by omega, h.tx⟩
theorem perm5 {A B0 B1 B2 : It} {M X : List It} : (A :: B0 :: B1 :: B2 :: (M ++ X)).Perm (B0 :: B1 :: B2 :: (M ++ [A] ++ X)) := by
  have := (List.perm_middle (a := A) (l₁ := B0 :: B1 :: B2 :: M) (l₂ := X)).symm
  simpa using this
/-- A block joins. -/
theorem RS.block {w2 : World} {k : BkD} {ao : Option Addr} {cap : Nat} {r1 : Option Nat} (h : RS w0 w b ts ds q m X) (hk : k.items = []) {w1 : World} (hc1 : Chg [] w w1) (hr : Row w2 50 4 (.slice ao (q.bs.length + 1) cap) r1 (q.bs.length + 1) (q.bs.flatMap blC ++ [.string k.name, .slice none 0 0, .int .i64 k.l, .int .i64 k.c])) (hg : Grew w1 w2 q.r1 r1) (hm : m < 2097152) :
    RS w0 (w2.setCell ⟨b, 2, none⟩ (.slice ao (q.bs.length + 1) cap)) b ts ds { q with a1 := ao, c1 := cap, r1 := r1, bs := q.bs ++ [⟨k, none, 0, none⟩] } (m + 1) X := by
  have e : q.bs.flatMap blC ++ [.string k.name, .slice none 0 0, .int .i64 k.l, .int .i64 k.c] = (q.bs ++ [(⟨k, none, 0, none⟩ : BlO)]).flatMap blC := by simp [blC, BlO.v, hk]
  have e2 : q.bs.length + 1 = (q.bs ++ [(⟨k, none, 0, none⟩ : BlO)]).length := by simp
  have h1 := h.ld
  have h2 := h.lb
  have h3 := List.length_pos_iff.2 h.e7.ne
  rw [e, e2] at hr
  rw [e2]
  refine ⟨?_, h.tok, h.e7, by omega, by simp; omega, fun x hx => ?_, by omega, h.tx⟩
  · have g1 := fun u => (h.hp.grow 2 rfl hc1 hr hg.chg hg.fresh rfl).put 0 rfl 2 u rfl
    have g2 := (Hp.nil (g1 (.slice ao (q.bs ++ [(⟨k, none, 0, none⟩ : BlO)]).length cap)) 53 10).perm (perm5 (M := q.bs.map itRow) (X := X))
    have e4 : rsI b ts.length ds { q with a1 := ao, c1 := cap, r1 := r1, bs := q.bs ++ [⟨k, none, 0, none⟩] } ++ X = rsBox b ts.length ds.length { q with a1 := ao, c1 := cap, r1 := r1, bs := q.bs ++ [⟨k, none, 0, none⟩] } :: rsDecls ds { q with a1 := ao, c1 := cap, r1 := r1, bs := q.bs ++ [⟨k, none, 0, none⟩] } :: rsBlocks { q with a1 := ao, c1 := cap, r1 := r1, bs := q.bs ++ [⟨k, none, 0, none⟩] } :: (q.bs.map itRow ++ [itRow ⟨k, none, 0, none⟩] ++ X) := by
      unfold rsI
      simp only [List.map_append, List.map_cons, List.map_nil, List.cons_append]
    have e5 : itRow ⟨k, none, 0, none⟩ = .row 53 10 (.slice none 0 0) none 0 [] := by simp [itRow, BlO.v, hk]
    rw [e4, e5]
    exact g2
  · rcases List.mem_append.1 hx with hx | hx
    · have := h.li x hx; omega
    · simp only [List.mem_singleton] at hx; subst hx; simp [hk]; omega
/-- The last block. -/
theorem RS.last (h : RS w0 w b ts ds q m X) {init : List BlO} {x : BlO} (hq : q.bs = init ++ [x]) : ∃ g, q.r1 = some g ∧ q.a1 = some ⟨g, 0, none⟩ ∧ w.cell? ⟨g, init.length * 4 + 1, none⟩ = some x.v ∧ w.frozen? ⟨g, init.length * 4 + 1, none⟩ = false ∧ Row w 53 10 x.v x.r x.b.items.length (x.b.items.flatMap itC) ∧ g ≠ b ∧ x.r ≠ some g := by
  have hr : Row w 50 4 (.slice q.a1 q.bs.length q.c1) q.r1 q.bs.length (q.bs.flatMap blC) := h.hp.rowAt (i := 2) rfl
  have hix : (rsI b ts.length ds q ++ X)[3 + init.length]? = some (itRow x) := by
    unfold rsI
    rw [hq]
    rw [show 3 + init.length = (((init.length + 1) + 1) + 1) from by omega]
    simp
  rcases hr.form with ⟨_, h2, _⟩ | ⟨g, cap', cur, hv, hrg, hnc, hcm, hg, hcs, ht⟩
  · rw [hq] at h2; simp at h2
  · simp only [Value.slice.injEq, true_and] at hv
    rw [hrg] at hr
    have hat := Row.atf blC_len hr rfl (i := init.length) (by rw [hq]; simp) (j := 1) (by omega)
    refine ⟨g, hrg, hv.1, ?_, (Row.cellk hr).2.1 _, h.hp.rowAt hix, ?_, ?_⟩
    · rw [hat]
      simp [hq, blC, List.getD]
    · intro e
      exact h.hp.ne (i := 2) (j := 0) (x := rsBlocks q) (y := rsBox b ts.length ds.length q) rfl rfl (by omega) (g := g) hrg (by rw [e]; rfl)
    · intro e
      exact h.hp.ne (i := 2) (j := 3 + init.length) (x := rsBlocks q) (y := itRow x) rfl hix (by omega) (g := g) hrg e
/-- An Item joins the last block. -/
theorem RS.item {w2 : World} {init : List BlO} {x : BlO} {it : ItD} {ao : Option Addr} {cap : Nat} {r' : Option Nat} {g : Nat} (h : RS w0 w b ts ds q m X) (hq : q.bs = init ++ [x]) (hgr : q.r1 = some g) {w1 : World} (hc1 : Chg [] w w1)
    (hr : Row w2 53 10 (.slice ao (x.b.items.length + 1) cap) r' (x.b.items.length + 1) (x.b.items.flatMap itC ++ itC it)) (hg : Grew w1 w2 x.r r') (hm : m < 2097152) :
    RS w0 (w2.setCell ⟨g, init.length * 4 + 1, none⟩ (.slice ao (x.b.items.length + 1) cap)) b ts ds { q with bs := init ++ [⟨⟨x.b.name, x.b.items ++ [it], x.b.l, x.b.c⟩, ao, cap, r'⟩] } (m + 1) X := by
  have e : x.b.items.flatMap itC ++ itC it = (x.b.items ++ [it]).flatMap itC := by simp
  have e2 : x.b.items.length + 1 = (x.b.items ++ [it]).length := by simp
  have h1 := h.ld
  have h2 := h.lb
  have hlb : q.bs.length = init.length + 1 := by rw [hq]; simp
  have hix : (rsI b ts.length ds q ++ X)[3 + init.length]? = some (itRow x) := by
    unfold rsI
    rw [hq]
    rw [show 3 + init.length = (((init.length + 1) + 1) + 1) from by omega]
    simp
  rw [e, e2] at hr
  rw [e2]
  obtain ⟨y, hy⟩ : ∃ y : BlO, y = ⟨⟨x.b.name, x.b.items ++ [it], x.b.l, x.b.c⟩, ao, cap, r'⟩ := ⟨_, rfl⟩
  rw [← hy]
  refine ⟨?_, h.tok, h.e7, by omega, by simp; omega, fun z hz => ?_, by omega, h.tx⟩
  · have g1 := h.hp.grow (3 + init.length) hix hc1 hr hg.chg hg.fresh rfl
    have hbl : q.bs.flatMap blC = (init ++ [x]).flatMap blC := by rw [hq]
    have g2 := g1.putf blC_len 2 (xs := init ++ [x]) (e := 50) (n := q.bs.length) (g := g) (v := .slice q.a1 q.bs.length q.c1) (by
        rw [List.getElem?_set_ne (by omega)]
        show some (rsBlocks q) = _
        unfold rsBlocks
        rw [hgr, hbl]) (i := init.length) (by simp) y (j := 1) (by omega) (u := .slice ao (x.b.items ++ [it]).length cap) (by subst hy; simp [blC, BlO.v]) rfl
    refine g2.perm (List.Perm.of_eq ?_)
    unfold rsI
    rw [show 3 + init.length = (((init.length + 1) + 1) + 1) from by omega]
    simp only [List.cons_append, List.set_cons_succ, List.set_cons_zero, List.map_append, List.map_cons, List.map_nil]
    refine List.cons_eq_cons.2 ⟨?_, List.cons_eq_cons.2 ⟨rfl, List.cons_eq_cons.2 ⟨?_, ?_⟩⟩⟩
    · unfold rsBox
      simp only [hlb, List.length_append, List.length_cons, List.length_nil, Nat.zero_add]
    · unfold rsBlocks
      simp only [hlb, hgr, List.length_append, List.length_cons, List.length_nil, Nat.zero_add]
      congr 2
      simp
    · rw [hq]
      simp only [List.map_append, List.map_cons, List.map_nil]
      rw [List.append_assoc, List.set_append_right _ _ (by simp)]
      simp only [List.length_map, Nat.sub_self, List.cons_append, List.nil_append, List.set_cons_zero, List.append_assoc]
      subst hy
      rfl
  · rcases List.mem_append.1 hz with hz | hz
    · have := h.li z (by rw [hq]; exact List.mem_append_left _ hz); omega
    · simp only [List.mem_singleton] at hz
      subst hz
      subst hy
      have := h.li x (by rw [hq]; simp)
      simp only [List.length_append, List.length_cons, List.length_nil]
      omega
/-- One of the foreign things is another now. -/
theorem RS.setX (h : RS w0 w b ts ds q m X) {j : Nat} {x : It} (hj : X[j]? = some x) (y : It) {S : List Nat} (hc : Chg S w w') (hS : ∀ g ∈ S, x.blk = some g) (hy : y.ok w') (hyb : ∀ g, y.blk = some g → x.blk = some g ∨ w.heap.size ≤ g) {X' : List It} (hX : X.set j y = X') : RS w0 w' b ts ds q m X' := by
  subst hX
  refine ⟨?_, h.tok, h.e7, h.ld, h.lb, h.li, h.sm, h.tx⟩
  refine h.hp.set (i := (rsI b ts.length ds q).length + j) (x := x) (by rw [List.getElem?_append_right (by omega), Nat.add_sub_cancel_left]; exact hj) y hc hS hy hyb ?_
  rw [List.set_append_right _ _ (by omega), Nat.add_sub_cancel_left]
theorem RS.getX (h : RS w0 w b ts ds q m X) {j : Nat} {x : It} (hj : X[j]? = some x) : x.ok w := h.hp.ok x (List.mem_append_right _ (List.mem_of_getElem? hj))
theorem RS.putX (h : RS w0 w b ts ds q m X) (j : Nat) {a : Nat} {vs : Array Value} {T : TypeId} (hj : X[j]? = some (.box a (.cells vs T (0, 0)))) (f : Nat) (u : Value) {X' : List It} (hX : X.set j (.box a (.cells (vs.setIfInBounds f u) T (0, 0))) = X') : RS w0 (w.setCell ⟨a, f, none⟩ u) b ts ds q m X' :=
  h.setX hj (.box a (.cells (vs.setIfInBounds f u) T (0, 0))) ((Chg.refl [a] w).setCell (p := ⟨a, f, none⟩) (.inl (by simp)) u) (fun g hg => by simp only [List.mem_singleton] at hg; subst hg; rfl) (blk_set (h.getX hj) f u) (fun g hg => .inl hg) hX
theorem RS.box (h : RS w0 w b ts ds q m X) (o : Obj) : RS w0 (w.alloc o) b ts ds q m (.box w.heap.size o :: X) :=
  ⟨(h.hp.box o).perm (List.perm_middle).symm, h.tok, h.e7, h.ld, h.lb, h.li, h.sm, h.tx⟩
theorem RS.subX (h : RS w0 w b ts ds q m X) {X' : List It} (hs : List.Sublist X' X) : RS w0 w b ts ds q m X' := ⟨h.hp.sub (List.Sublist.append (List.Sublist.refl _) hs), h.tok, h.e7, h.ld, h.lb, h.li, h.sm, h.tx⟩
/-- A foreign box is none of the reader's. -/
theorem RS.neX (h : RS w0 w b ts ds q m X) {j : Nat} {x : It} (hj : X[j]? = some x) {g : Nat} (hg : x.blk = some g) : g ≠ b := by
  intro e
  subst e
  exact h.hp.ne (i := 0) (j := (rsI g ts.length ds q).length + j) (x := rsBox g ts.length ds.length q) (y := x) rfl (by rw [List.getElem?_append_right (by omega), Nat.add_sub_cancel_left]; exact hj) (by unfold rsI; simp only [List.length_cons]; omega) rfl hg
end
end Go.Proofs.YtmahcabidggmeaaGreatDoor

/- Walks of the parser: an operation's word and form. (Printed by gen_pform.py.) -/
set_option linter.unusedVariables false
set_option linter.unusedSectionVars false
set_option linter.unusedSimpArgs false
namespace Go.Proofs.YtmahcabidggmeaaGreatDoor
open Go.RowKit Go.AB
def FormP (op : Int) (w : World) (e : Ending) (w' : World) : Prop := e = .returned (.tuple #[.string (bA (wordAt op)), .string (bA (formAt op))]) ∧ Chg [] w w'
def wordsA : Array Value := ((⟨#[]⟩ : ByteArray) :: opTab.map (fun p => bA p.1)).map Value.string |>.toArray
/-- The table of words is laid. -/
theorem wpList_words {P : Program} {ops : Array Oper} {rest : List Oper} {o : Oper} {a : Act} {Q : Exit → Act → World → Prop} (w : World) (hgd : o.guard = none) (T : TypeId) (x y : Operand) (ho : o.op = .store T x y) (hx : a.eval x = .pointer (some ⟨w.heap.size, 0, none⟩)) (hy : a.eval y = .agg wordsA)
    (hi : (P.info? T).map (·.size) = some wordsA.size) (old : Array Value) (hold : old.size = wordsA.size)
    (h : ∀ W, Chg [] w W → (∀ i : Nat, W.cell? ⟨w.heap.size, i, none⟩ = wordsA[i]?) → wpList P ops Q rest (a.put o.dst undef) W) : wpList P ops Q (o :: rest) a (w.alloc (.cells old T)) := by
  refine wpList_store_row hgd T x y ho w.heap.size wordsA hx hy T old (heap_alloc_new w _) hi hold (by decide +kernel) ?_
  refine h _ ?_ (fun i => cell_setRow_same _ _ _ old wordsA T (0, 0) (heap_alloc_new w _))
  have h1 := (Chg.refl [] w).alloc (.cells old T)
  refine h1.trans (T := [w.heap.size]) ⟨rfl, rfl, rfl, by simp, fun k _ hk => setRow_other _ _ _ _ (by simpa using hk)⟩ (fun z hz => by simp only [List.mem_singleton] at hz; subst hz; exact .inr (Nat.le_refl _))
set_option maxHeartbeats 16000000 in
set_option maxRecDepth 100000 in
theorem form_out (op : Int) (h : op < 1 ∨ 20 < op) (w : World) : Calls Tryz.prog 72 #[.int .i64 op] w (FormP op w) := by
  rcases h with h1 | h2
  · have e1 : bA (wordAt op) = ⟨#[]⟩ := by unfold wordAt; rw [if_pos h1]; rfl
    have e2 : bA (formAt op) = ⟨#[]⟩ := by unfold formAt; rw [if_pos h1]; rfl
    unfold FormP
    rw [e1, e2]
    go_enter Tryz.func72, Tryz.ntmps72
    go_wp2_with (refine wpList_words w rfl 139 (.tmp 4) (.tmp 6) rfl rfl rfl (by kernel_rfl) _ rfl (fun W hC hcl => ?_))
    go_ret2
    exact ⟨rfl, hC⟩
  · have h1 : ¬ op < 1 := by omega
    have e0 : ¬ (op - 1).toNat < 20 := by omega
    have e1 : bA (wordAt op) = ⟨#[]⟩ := by
      unfold wordAt
      rw [if_neg h1, List.getElem?_eq_none (by show 20 ≤ _; omega)]
      rfl
    have e2 : bA (formAt op) = ⟨#[]⟩ := by
      unfold formAt
      rw [if_neg h1, List.getElem?_eq_none (by show 20 ≤ _; omega)]
      rfl
    unfold FormP
    rw [e1, e2]
    go_enter Tryz.func72, Tryz.ntmps72
    go_wp2_with (refine wpList_words w rfl 139 (.tmp 4) (.tmp 6) rfl rfl rfl (by kernel_rfl) _ rfl (fun W hC hcl => ?_))
    go_ret2
    exact ⟨rfl, hC⟩
set_option maxHeartbeats 16000000 in
set_option maxRecDepth 100000 in
theorem form_1 (w : World) : Calls Tryz.prog 72 #[.int .i64 1] w (FormP 1 w) := by
  go_enter Tryz.func72, Tryz.ntmps72
  go_wp2_with (refine wpList_words w rfl 139 (.tmp 4) (.tmp 6) rfl rfl rfl (by kernel_rfl) _ rfl (fun W hC hcl => ?_); have hw : W.cell? ⟨w.heap.size, 1, none⟩ = some (.string (bA (wordAt 1))) := hcl 1; clear hcl)
  go_ret2
  exact ⟨rfl, hC⟩
set_option maxHeartbeats 16000000 in
set_option maxRecDepth 100000 in
theorem form_2 (w : World) : Calls Tryz.prog 72 #[.int .i64 2] w (FormP 2 w) := by
  go_enter Tryz.func72, Tryz.ntmps72
  go_wp2_with (refine wpList_words w rfl 139 (.tmp 4) (.tmp 6) rfl rfl rfl (by kernel_rfl) _ rfl (fun W hC hcl => ?_); have hw : W.cell? ⟨w.heap.size, 2, none⟩ = some (.string (bA (wordAt 2))) := hcl 2; clear hcl)
  go_ret2
  exact ⟨rfl, hC⟩
set_option maxHeartbeats 16000000 in
set_option maxRecDepth 100000 in
theorem form_3 (w : World) : Calls Tryz.prog 72 #[.int .i64 3] w (FormP 3 w) := by
  go_enter Tryz.func72, Tryz.ntmps72
  go_wp2_with (refine wpList_words w rfl 139 (.tmp 4) (.tmp 6) rfl rfl rfl (by kernel_rfl) _ rfl (fun W hC hcl => ?_); have hw : W.cell? ⟨w.heap.size, 3, none⟩ = some (.string (bA (wordAt 3))) := hcl 3; clear hcl)
  go_ret2
  exact ⟨rfl, hC⟩
set_option maxHeartbeats 16000000 in
set_option maxRecDepth 100000 in
theorem form_4 (w : World) : Calls Tryz.prog 72 #[.int .i64 4] w (FormP 4 w) := by
  go_enter Tryz.func72, Tryz.ntmps72
  go_wp2_with (refine wpList_words w rfl 139 (.tmp 4) (.tmp 6) rfl rfl rfl (by kernel_rfl) _ rfl (fun W hC hcl => ?_); have hw : W.cell? ⟨w.heap.size, 4, none⟩ = some (.string (bA (wordAt 4))) := hcl 4; clear hcl)
  go_ret2
  exact ⟨rfl, hC⟩
set_option maxHeartbeats 16000000 in
set_option maxRecDepth 100000 in
theorem form_5 (w : World) : Calls Tryz.prog 72 #[.int .i64 5] w (FormP 5 w) := by
  go_enter Tryz.func72, Tryz.ntmps72
  go_wp2_with (refine wpList_words w rfl 139 (.tmp 4) (.tmp 6) rfl rfl rfl (by kernel_rfl) _ rfl (fun W hC hcl => ?_); have hw : W.cell? ⟨w.heap.size, 5, none⟩ = some (.string (bA (wordAt 5))) := hcl 5; clear hcl)
  go_ret2
  exact ⟨rfl, hC⟩
set_option maxHeartbeats 16000000 in
set_option maxRecDepth 100000 in
theorem form_6 (w : World) : Calls Tryz.prog 72 #[.int .i64 6] w (FormP 6 w) := by
  go_enter Tryz.func72, Tryz.ntmps72
  go_wp2_with (refine wpList_words w rfl 139 (.tmp 4) (.tmp 6) rfl rfl rfl (by kernel_rfl) _ rfl (fun W hC hcl => ?_); have hw : W.cell? ⟨w.heap.size, 6, none⟩ = some (.string (bA (wordAt 6))) := hcl 6; clear hcl)
  go_ret2
  exact ⟨rfl, hC⟩
set_option maxHeartbeats 16000000 in
set_option maxRecDepth 100000 in
theorem form_7 (w : World) : Calls Tryz.prog 72 #[.int .i64 7] w (FormP 7 w) := by
  go_enter Tryz.func72, Tryz.ntmps72
  go_wp2_with (refine wpList_words w rfl 139 (.tmp 4) (.tmp 6) rfl rfl rfl (by kernel_rfl) _ rfl (fun W hC hcl => ?_); have hw : W.cell? ⟨w.heap.size, 7, none⟩ = some (.string (bA (wordAt 7))) := hcl 7; clear hcl)
  go_ret2
  exact ⟨rfl, hC⟩
set_option maxHeartbeats 16000000 in
set_option maxRecDepth 100000 in
theorem form_8 (w : World) : Calls Tryz.prog 72 #[.int .i64 8] w (FormP 8 w) := by
  go_enter Tryz.func72, Tryz.ntmps72
  go_wp2_with (refine wpList_words w rfl 139 (.tmp 4) (.tmp 6) rfl rfl rfl (by kernel_rfl) _ rfl (fun W hC hcl => ?_); have hw : W.cell? ⟨w.heap.size, 8, none⟩ = some (.string (bA (wordAt 8))) := hcl 8; clear hcl)
  go_ret2
  exact ⟨rfl, hC⟩
set_option maxHeartbeats 16000000 in
set_option maxRecDepth 100000 in
theorem form_9 (w : World) : Calls Tryz.prog 72 #[.int .i64 9] w (FormP 9 w) := by
  go_enter Tryz.func72, Tryz.ntmps72
  go_wp2_with (refine wpList_words w rfl 139 (.tmp 4) (.tmp 6) rfl rfl rfl (by kernel_rfl) _ rfl (fun W hC hcl => ?_); have hw : W.cell? ⟨w.heap.size, 9, none⟩ = some (.string (bA (wordAt 9))) := hcl 9; clear hcl)
  go_ret2
  exact ⟨rfl, hC⟩
set_option maxHeartbeats 16000000 in
set_option maxRecDepth 100000 in
theorem form_10 (w : World) : Calls Tryz.prog 72 #[.int .i64 10] w (FormP 10 w) := by
  go_enter Tryz.func72, Tryz.ntmps72
  go_wp2_with (refine wpList_words w rfl 139 (.tmp 4) (.tmp 6) rfl rfl rfl (by kernel_rfl) _ rfl (fun W hC hcl => ?_); have hw : W.cell? ⟨w.heap.size, 10, none⟩ = some (.string (bA (wordAt 10))) := hcl 10; clear hcl)
  go_ret2
  exact ⟨rfl, hC⟩
set_option maxHeartbeats 16000000 in
set_option maxRecDepth 100000 in
theorem form_11 (w : World) : Calls Tryz.prog 72 #[.int .i64 11] w (FormP 11 w) := by
  go_enter Tryz.func72, Tryz.ntmps72
  go_wp2_with (refine wpList_words w rfl 139 (.tmp 4) (.tmp 6) rfl rfl rfl (by kernel_rfl) _ rfl (fun W hC hcl => ?_); have hw : W.cell? ⟨w.heap.size, 11, none⟩ = some (.string (bA (wordAt 11))) := hcl 11; clear hcl)
  go_ret2
  exact ⟨rfl, hC⟩
set_option maxHeartbeats 16000000 in
set_option maxRecDepth 100000 in
theorem form_12 (w : World) : Calls Tryz.prog 72 #[.int .i64 12] w (FormP 12 w) := by
  go_enter Tryz.func72, Tryz.ntmps72
  go_wp2_with (refine wpList_words w rfl 139 (.tmp 4) (.tmp 6) rfl rfl rfl (by kernel_rfl) _ rfl (fun W hC hcl => ?_); have hw : W.cell? ⟨w.heap.size, 12, none⟩ = some (.string (bA (wordAt 12))) := hcl 12; clear hcl)
  go_ret2
  exact ⟨rfl, hC⟩
set_option maxHeartbeats 16000000 in
set_option maxRecDepth 100000 in
theorem form_13 (w : World) : Calls Tryz.prog 72 #[.int .i64 13] w (FormP 13 w) := by
  go_enter Tryz.func72, Tryz.ntmps72
  go_wp2_with (refine wpList_words w rfl 139 (.tmp 4) (.tmp 6) rfl rfl rfl (by kernel_rfl) _ rfl (fun W hC hcl => ?_); have hw : W.cell? ⟨w.heap.size, 13, none⟩ = some (.string (bA (wordAt 13))) := hcl 13; clear hcl)
  go_ret2
  exact ⟨rfl, hC⟩
set_option maxHeartbeats 16000000 in
set_option maxRecDepth 100000 in
theorem form_14 (w : World) : Calls Tryz.prog 72 #[.int .i64 14] w (FormP 14 w) := by
  go_enter Tryz.func72, Tryz.ntmps72
  go_wp2_with (refine wpList_words w rfl 139 (.tmp 4) (.tmp 6) rfl rfl rfl (by kernel_rfl) _ rfl (fun W hC hcl => ?_); have hw : W.cell? ⟨w.heap.size, 14, none⟩ = some (.string (bA (wordAt 14))) := hcl 14; clear hcl)
  go_ret2
  exact ⟨rfl, hC⟩
set_option maxHeartbeats 16000000 in
set_option maxRecDepth 100000 in
theorem form_15 (w : World) : Calls Tryz.prog 72 #[.int .i64 15] w (FormP 15 w) := by
  go_enter Tryz.func72, Tryz.ntmps72
  go_wp2_with (refine wpList_words w rfl 139 (.tmp 4) (.tmp 6) rfl rfl rfl (by kernel_rfl) _ rfl (fun W hC hcl => ?_); have hw : W.cell? ⟨w.heap.size, 15, none⟩ = some (.string (bA (wordAt 15))) := hcl 15; clear hcl)
  go_ret2
  exact ⟨rfl, hC⟩
set_option maxHeartbeats 16000000 in
set_option maxRecDepth 100000 in
theorem form_16 (w : World) : Calls Tryz.prog 72 #[.int .i64 16] w (FormP 16 w) := by
  go_enter Tryz.func72, Tryz.ntmps72
  go_wp2_with (refine wpList_words w rfl 139 (.tmp 4) (.tmp 6) rfl rfl rfl (by kernel_rfl) _ rfl (fun W hC hcl => ?_); have hw : W.cell? ⟨w.heap.size, 16, none⟩ = some (.string (bA (wordAt 16))) := hcl 16; clear hcl)
  go_ret2
  exact ⟨rfl, hC⟩
set_option maxHeartbeats 16000000 in
set_option maxRecDepth 100000 in
theorem form_17 (w : World) : Calls Tryz.prog 72 #[.int .i64 17] w (FormP 17 w) := by
  go_enter Tryz.func72, Tryz.ntmps72
  go_wp2_with (refine wpList_words w rfl 139 (.tmp 4) (.tmp 6) rfl rfl rfl (by kernel_rfl) _ rfl (fun W hC hcl => ?_); have hw : W.cell? ⟨w.heap.size, 17, none⟩ = some (.string (bA (wordAt 17))) := hcl 17; clear hcl)
  go_ret2
  exact ⟨rfl, hC⟩
set_option maxHeartbeats 16000000 in
set_option maxRecDepth 100000 in
theorem form_18 (w : World) : Calls Tryz.prog 72 #[.int .i64 18] w (FormP 18 w) := by
  go_enter Tryz.func72, Tryz.ntmps72
  go_wp2_with (refine wpList_words w rfl 139 (.tmp 4) (.tmp 6) rfl rfl rfl (by kernel_rfl) _ rfl (fun W hC hcl => ?_); have hw : W.cell? ⟨w.heap.size, 18, none⟩ = some (.string (bA (wordAt 18))) := hcl 18; clear hcl)
  go_ret2
  exact ⟨rfl, hC⟩
set_option maxHeartbeats 16000000 in
set_option maxRecDepth 100000 in
theorem form_19 (w : World) : Calls Tryz.prog 72 #[.int .i64 19] w (FormP 19 w) := by
  go_enter Tryz.func72, Tryz.ntmps72
  go_wp2_with (refine wpList_words w rfl 139 (.tmp 4) (.tmp 6) rfl rfl rfl (by kernel_rfl) _ rfl (fun W hC hcl => ?_); have hw : W.cell? ⟨w.heap.size, 19, none⟩ = some (.string (bA (wordAt 19))) := hcl 19; clear hcl)
  go_ret2
  exact ⟨rfl, hC⟩
set_option maxHeartbeats 16000000 in
set_option maxRecDepth 100000 in
theorem form_20 (w : World) : Calls Tryz.prog 72 #[.int .i64 20] w (FormP 20 w) := by
  go_enter Tryz.func72, Tryz.ntmps72
  go_wp2_with (refine wpList_words w rfl 139 (.tmp 4) (.tmp 6) rfl rfl rfl (by kernel_rfl) _ rfl (fun W hC hcl => ?_); have hw : W.cell? ⟨w.heap.size, 20, none⟩ = some (.string (bA (wordAt 20))) := hcl 20; clear hcl)
  go_ret2
  exact ⟨rfl, hC⟩
theorem form_calls (op : Int) (w : World) : Calls Tryz.prog 72 #[.int .i64 op] w (FormP op w) := by
  by_cases h : op < 1 ∨ 20 < op
  · exact form_out op h w
  have hcs : op = 1 ∨ op = 2 ∨ op = 3 ∨ op = 4 ∨ op = 5 ∨ op = 6 ∨ op = 7 ∨ op = 8 ∨ op = 9 ∨ op = 10 ∨ op = 11 ∨ op = 12 ∨ op = 13 ∨ op = 14 ∨ op = 15 ∨ op = 16 ∨ op = 17 ∨ op = 18 ∨ op = 19 ∨ op = 20 := by omega
  rcases hcs with rfl | rfl | rfl | rfl | rfl | rfl | rfl | rfl | rfl | rfl | rfl | rfl | rfl | rfl | rfl | rfl | rfl | rfl | rfl | rfl
  · exact form_1 w
  · exact form_2 w
  · exact form_3 w
  · exact form_4 w
  · exact form_5 w
  · exact form_6 w
  · exact form_7 w
  · exact form_8 w
  · exact form_9 w
  · exact form_10 w
  · exact form_11 w
  · exact form_12 w
  · exact form_13 w
  · exact form_14 w
  · exact form_15 w
  · exact form_16 w
  · exact form_17 w
  · exact form_18 w
  · exact form_19 w
  · exact form_20 w
end Go.Proofs.YtmahcabidggmeaaGreatDoor

/- Walks of the parser: an operation's word and form; which operation a word is. -/
set_option linter.unusedVariables false
set_option linter.unusedSectionVars false
set_option linter.unusedSimpArgs false
namespace Go.AB
open Go.RowKit
theorem opL_word : ∀ i : Nat, i < 20 → opL (wordAt ((i : Int) + 1)) = i + 1 := by decide +kernel
theorem word_ne : ∀ i : Nat, i < 20 → wordAt ((i : Int) + 1) ≠ [] := by decide +kernel
theorem idx_none {l : List (List UInt8)} {s : List UInt8} (h : ∀ x ∈ l, x ≠ s) : idxOf l s = 0 := by
  have g : ∀ (l : List (List UInt8)) (i : Nat), (∀ x ∈ l, x ≠ s) → idxOf.go s l i = 0 := by
    intro l
    induction l with
    | nil => intro i _; rfl
    | cons x r ih =>
      intro i h
      unfold idxOf.go
      rw [if_neg (h x (List.mem_cons_self ..))]
      exact ih _ fun y hy => h y (List.mem_cons_of_mem _ hy)
  exact g l 1 h
theorem opL_none {s : List UInt8} (h : ∀ i : Nat, i < 20 → wordAt ((i : Int) + 1) ≠ s) : opL s = 0 := by
  refine idx_none fun x hx => ?_
  obtain ⟨i, hi, rfl⟩ := List.mem_iff_getElem.1 hx
  have hl : i < 20 := by simpa [opTab] using hi
  have h2 := h i hl
  intro e
  apply h2
  rw [← e]
  unfold wordAt
  rw [if_neg (by omega), show ((i : Int) + 1 - 1).toNat = i from by omega]
  simp only [List.getElem_map]
  rw [List.getElem?_eq_getElem (by simpa [opTab] using hl)]
  rfl
theorem bA_eq {s : ByteArray} {l : List UInt8} (h : s.data.toList = l) : s = bA l := by
  subst h
  cases s with | mk d => simp [bA]
theorem bA_toList (l : List UInt8) : (bA l).toList = l := by rw [Lib.toList_data]; rfl
theorem beq_bA (a b : List UInt8) : ((bA a).toList == (bA b).toList) = decide (a = b) := by
  rw [bA_toList, bA_toList]
  by_cases h : a = b
  · subst h; simp
  · simp [h]
end Go.AB
namespace Go.Proofs.YtmahcabidggmeaaGreatDoor
open Go.RowKit Go.AB
set_option linter.unusedSimpArgs false
set_option linter.unusedVariables false
set_option linter.unusedSectionVars false

set_option maxHeartbeats 4000000 in
set_option maxRecDepth 100000 in
theorem op_calls (s : ByteArray) (w : World) : Calls Tryz.prog 42 #[.string s] w fun e w' => e = .returned (.int .i64 (opL s.data.toList)) ∧ Chg [] w w' := by
  have HF := hid fun op W => form_calls op W
  obtain ⟨L, hL⟩ : ∃ L, s.data.toList = L := ⟨_, rfl⟩
  obtain rfl := bA_eq hL
  rw [hL]
  clear hL
  go_enter Tryz.func42, Tryz.ntmps42
  go_wp2
  go_loopw [3] (fun vi wr => ∃ k : Nat, k ≤ 20 ∧ vi = .int .i64 ((k : Int) + 1) ∧ Chg [] w wr ∧ Hid (∀ i : Nat, i < k → wordAt ((i : Int) + 1) ≠ L)) (fun vi _ => 21 - (intOf vi).toNat)
  case atStart => exact ⟨0, by omega, rfl, Chg.refl _ _, hid (fun i hi => by omega)⟩
  case round =>
    obtain ⟨k, hk, rfl, hcr, HN⟩ := hrel
    by_cases hlt : k < 20
    · by_cases he : wordAt ((k : Int) + 1) = L
      · have HO : Hid (opL L = k + 1) := hid (by rw [← he]; exact opL_word k hlt)
        have hb : ((bA (wordAt ((k : Int) + 1))).toList == (bA L).toList) = true := by rw [beq_bA]; exact decide_eq_true he
        have HCR := hid hcr
        clear he hcr
        go_wp2_with (go_at_call 72; refine (HF.out _ _).mono ?_; rintro e w' ⟨rfl, hc⟩)
        go_ret
        exact ⟨by rw [HO.out]; rfl, HCR.out.trans' hc⟩
      · have hb : ((bA (wordAt ((k : Int) + 1))).toList == (bA L).toList) = false := by rw [beq_bA]; exact decide_eq_false he
        have HN2 : Hid (∀ i : Nat, i < k + 1 → wordAt ((i : Int) + 1) ≠ L) := hid (fun i hi => by
          by_cases e : i = k
          · subst e; exact he
          · exact HN.out i (by omega))
        have HCR := hid hcr
        clear he hcr
        go_wp2_with (go_at_call 72; refine (HF.out _ _).mono ?_; rintro e w' ⟨rfl, hc⟩)
        go_roundw
        case rel => exact ⟨k + 1, by omega, by go_num, HCR.out.trans' hc, HN2⟩
        case measure => simp [intOf]; omega
    · obtain rfl : k = 20 := by omega
      have HO : Hid (opL L = 0) := hid (opL_none HN.out)
      have HCR := hid hcr
      clear hcr
      go_wp2
      go_ret
      exact ⟨by rw [HO.out]; rfl, HCR.out⟩
end Go.Proofs.YtmahcabidggmeaaGreatDoor
