/- Walks of the laws' own: a list is held, and what must stand in it. -/
import Derived.Test.YtdakcphkaljghaaOwn
import Derived.Test.YtdakcphkaljghaaWb
import Derived.Test.YtdakcphkaljghaaRows
import Derived.Deep.RegionLaw
namespace Go.Proofs.Ytdakcphkaljghaa
open Go.RowKit Go.AB
set_option linter.unusedSimpArgs false
set_option linter.unusedVariables false

/-- A list that is held (its bytes l, its block r), and what must stand in it (in a block q of its own). -/
structure Ent where
  ao : Option Addr
  cap : Nat
  r : Option Nat
  l : List UInt8
  wo : Option Addr
  wc : Nat
  q : Option Nat
def Ent.v (e : Ent) : Value := .slice e.ao e.l.length e.cap
def Ent.wv (e : Ent) : Value := .slice e.wo e.l.length e.wc
def Ent.own (e : Ent) : Own := ⟨e.v, e.r, e.l.length, e.l.map B⟩

structure Bk (w : World) (b : Nat) (es : List Ent) (rl rw : Option Nat) (al aw : Option Addr) (cl cw : Nat) : Prop where
  blk : w.heap[b]? = some (.cells #[.slice al es.length cl, .slice aw es.length cw, .slice none 0 0] 31 (0, 0))
  rowL : Row w 25 1 (.slice al es.length cl) rl es.length (es.map Ent.v)
  rowW : Row w 25 1 (.slice aw es.length cw) rw es.length (es.map Ent.wv)
  lists : Owns w 5 1 (es.map Ent.own)
  wants : ∀ e, e ∈ es → Row w 5 1 e.wv e.q e.l.length (e.l.map B)
  m1 : rl ≠ some b
  m2 : rw ≠ some b
  m3 : ∀ g, rl = some g → rw ≠ some g
  dl : ∀ e, e ∈ es → ∀ g, e.r = some g → g ≠ b ∧ rl ≠ some g ∧ rw ≠ some g
  dw : ∀ e, e ∈ es → ∀ g, e.q = some g → g ≠ b ∧ rl ≠ some g ∧ rw ≠ some g
  dq : ∀ e, e ∈ es → ∀ f, f ∈ es → ∀ g, e.r = some g → f.q ≠ some g
/-- The blocks of the book. -/
def bkBlocks (b : Nat) (es : List Ent) (rl rw : Option Nat) : List Nat := b :: (rl.toList ++ rw.toList ++ es.flatMap fun e => e.r.toList ++ e.q.toList)
theorem bk_mem {b : Nat} {es : List Ent} {rl rw : Option Nat} {g : Nat} : g ∈ bkBlocks b es rl rw ↔ g = b ∨ rl = some g ∨ rw = some g ∨ (∃ e, e ∈ es ∧ (e.r = some g ∨ e.q = some g)) := by
  unfold bkBlocks
  simp only [List.mem_cons, List.mem_append, Option.mem_toList, List.mem_flatMap, or_assoc]
section
variable {w w' : World} {b : Nat} {es : List Ent} {rl rw : Option Nat} {al aw : Option Addr} {cl cw : Nat}
theorem Bk.keep (h : Bk w b es rl rw al aw cl cw) {S : List Nat} (hc : Chg S w w') (hS : ∀ g, g ∈ S → g ∉ bkBlocks b es rl rw) : Bk w' b es rl rw al aw cl cw := by
  have hno : ∀ g, g ∈ bkBlocks b es rl rw → g ∉ S := fun g h1 h2 => hS g h2 h1
  refine ⟨hc.heap h.blk (hno b (bk_mem.2 (.inl rfl))), h.rowL.keep hc (fun g hg => hno g (bk_mem.2 (.inr (.inl hg)))), h.rowW.keep hc (fun g hg => hno g (bk_mem.2 (.inr (.inr (.inl hg))))), h.lists.keep hc (fun i hi g hg => ?_), fun e he => (h.wants e he).keep hc (fun g hg => hno g (bk_mem.2 (.inr (.inr (.inr ⟨e, he, .inr hg⟩))))), h.m1, h.m2, h.m3, h.dl, h.dw, h.dq⟩
  have hi' : i < es.length := by simpa using hi
  simp only [List.getElem_map, Ent.own] at hg
  exact hno g (bk_mem.2 (.inr (.inr (.inr ⟨es[i], List.getElem_mem hi', .inl hg⟩))))
theorem Bk.lt (h : Bk w b es rl rw al aw cl cw) : ∀ g, g ∈ bkBlocks b es rl rw → g < w.heap.size := by
  intro g hg
  rcases bk_mem.1 hg with rfl | h1 | h1 | ⟨e, he, h1 | h1⟩
  · exact blk_lt h.blk
  · exact h.rowL.lt g h1
  · exact h.rowW.lt g h1
  · obtain ⟨i, hi, rfl⟩ := List.mem_iff_getElem.1 he
    have := (h.lists.row i (by simpa using hi)).lt g
    simp only [List.getElem_map, Ent.own] at this
    exact this h1
  · exact (h.wants e he).lt g h1
theorem Bk.c0 (h : Bk w b es rl rw al aw cl cw) : w.cell? ⟨b, 0, none⟩ = some (.slice al es.length cl) := by rw [blk_cell h.blk]; rfl
theorem Bk.c1 (h : Bk w b es rl rw al aw cl cw) : w.cell? ⟨b, 1, none⟩ = some (.slice aw es.length cw) := by rw [blk_cell h.blk]; rfl
theorem Bk.c2 (h : Bk w b es rl rw al aw cl cw) : w.cell? ⟨b, 2, none⟩ = some (.slice none 0 0) := by rw [blk_cell h.blk]; rfl
theorem Bk.fr (h : Bk w b es rl rw al aw cl cw) (i : Nat) : w.frozen? ⟨b, i, none⟩ = false := blk_free h.blk i
end

theorem info_bytes : (Try.prog.info? 25).map (fun i => (i.zero, i.size, i.bytes)) = some (some (.slice none 0 0), 1, 24) := by kernel_rfl
theorem elem_bytes : ElemOk Try.prog 29 25 1 24 := .of Try.underlying29 info_bytes rfl (by decide)

/-- Behind the keeping: the list is in the book, its want in a block of its own. -/
def KeepPost (w : World) (b : Nat) (es : List Ent) (rl rw : Option Nat) (ao : Option Addr) (cap : Nat) (r : Option Nat) (l : List UInt8) (e : Ending) (w' : World) : Prop :=
  e = .returned (.tuple #[]) ∧ ∃ wo wc q rl' rw' al' aw' cl' cw', Bk w' b (es ++ [⟨ao, cap, r, l, wo, wc, q⟩]) rl' rw' al' aw' cl' cw' ∧ Chg (b :: (rl.toList ++ rw.toList)) w w' ∧ Fresh w rl rl' ∧ Fresh w rw rw' ∧ Fresh w none q

theorem Bk.add {w w' : World} {b : Nat} {es : List Ent} {rl rw rl' rw' q r : Option Nat} {al aw al' aw' ao wo : Option Addr} {cl cw cl' cw' cap wc : Nat} {l : List UInt8} (h : Bk w b es rl rw al aw cl cw)
    (hr : Row w 5 1 (.slice ao l.length cap) r l.length (l.map B)) (hrb : ∀ g, r = some g → g ∉ bkBlocks b es rl rw)
    (hblk : w'.heap[b]? = some (.cells #[.slice al' (es.length + 1) cl', .slice aw' (es.length + 1) cw', .slice none 0 0] 31 (0, 0)))
    (hL : Row w' 25 1 (.slice al' (es.length + 1) cl') rl' (es.length + 1) (es.map Ent.v ++ [.slice ao l.length cap])) (hW : Row w' 25 1 (.slice aw' (es.length + 1) cw') rw' (es.length + 1) (es.map Ent.wv ++ [.slice wo l.length wc]))
    (hq : Row w' 5 1 (.slice wo l.length wc) q l.length (l.map B)) (hc : Chg (b :: (rl.toList ++ rw.toList)) w w')
    (f1 : Fresh w rl rl') (f2 : Fresh w rw rw') (f3 : Fresh w none q) (n1 : ∀ g, rl' = some g → rw' ≠ some g) (n2 : ∀ g, q = some g → rl' ≠ some g ∧ rw' ≠ some g) :
    Bk w' b (es ++ [⟨ao, cap, r, l, wo, wc, q⟩]) rl' rw' al' aw' cl' cw' := by
  have hlt := h.lt
  have hold : ∀ g, g ∈ bkBlocks b es rl rw → g ≠ b → rl ≠ some g → rw ≠ some g → g ∉ b :: (rl.toList ++ rw.toList) := fun g hg h1 h2 h3 hm => by
    simp only [List.mem_cons, List.mem_append, Option.mem_toList] at hm
    rcases hm with h4 | h4 | h4
    · exact h1 h4
    · exact h2 h4
    · exact h3 h4
  have hrno : ∀ g, r = some g → g ≠ b ∧ rl ≠ some g ∧ rw ≠ some g ∧ ∀ e, e ∈ es → e.r ≠ some g ∧ e.q ≠ some g := fun g hg => by
    have h1 := fun h2 => hrb g hg (bk_mem.2 h2)
    exact ⟨fun e => h1 (.inl e), fun e => h1 (.inr (.inl e)), fun e => h1 (.inr (.inr (.inl e))), fun e he => ⟨fun h2 => h1 (.inr (.inr (.inr ⟨e, he, .inl h2⟩))), fun h2 => h1 (.inr (.inr (.inr ⟨e, he, .inr h2⟩)))⟩⟩
  have hrlt : ∀ g, r = some g → g < w.heap.size := hr.lt
  have hbl := blk_lt h.blk
  have hln : (es ++ [(⟨ao, cap, r, l, wo, wc, q⟩ : Ent)]).length = es.length + 1 := by simp
  have new1 : ∀ g, g < w.heap.size → rl ≠ some g → rl' ≠ some g := fun g h1 h2 h3 => by rcases f1 g h3 with h4 | h4; exact h2 h4; omega
  have new2 : ∀ g, g < w.heap.size → rw ≠ some g → rw' ≠ some g := fun g h1 h2 h3 => by rcases f2 g h3 with h4 | h4; exact h2 h4; omega
  have newq : ∀ g, q = some g → w.heap.size ≤ g := fun g h1 => (f3 g h1).resolve_left (by simp)
  refine ⟨by rw [hln]; exact hblk, by rw [hln, List.map_append]; exact hL, by rw [hln, List.map_append]; exact hW, ?_, ?_, new1 b hbl h.m1, new2 b hbl h.m2, n1, ?_, ?_, ?_⟩
  · rw [List.map_append]
    refine Owns.snoc (h.lists.keep hc (fun i hi g hg => ?_)) (o := Ent.own ⟨ao, cap, r, l, wo, wc, q⟩) (hr.keep hc (fun g hg => ?_)) (fun i hi g hg hg2 => ?_)
    · have hi' : i < es.length := by simpa using hi
      simp only [List.getElem_map, Ent.own] at hg
      have hm := List.getElem_mem hi'
      have hd := h.dl _ hm g hg
      exact hold g (bk_mem.2 (.inr (.inr (.inr ⟨_, hm, .inl hg⟩)))) hd.1 hd.2.1 hd.2.2
    · have h1 := hrno g hg
      intro hm
      simp only [List.mem_cons, List.mem_append, Option.mem_toList] at hm
      rcases hm with h4 | h4 | h4
      · exact h1.1 h4
      · exact h1.2.1 h4
      · exact h1.2.2.1 h4
    · have hi' : i < es.length := by simpa using hi
      simp only [List.getElem_map, Ent.own] at hg hg2
      exact ((hrno g hg2).2.2.2 _ (List.getElem_mem hi')).1 hg
  · intro e he
    rcases List.mem_append.1 he with he | he
    · refine (h.wants e he).keep hc (fun g hg => ?_)
      have hd := h.dw e he g hg
      exact hold g (bk_mem.2 (.inr (.inr (.inr ⟨_, he, .inr hg⟩)))) hd.1 hd.2.1 hd.2.2
    · rw [List.mem_singleton.1 he]; exact hq
  · intro e he g hg
    rcases List.mem_append.1 he with he | he
    · have hd := h.dl e he g hg
      have hl2 := hlt g (bk_mem.2 (.inr (.inr (.inr ⟨_, he, .inl hg⟩))))
      exact ⟨hd.1, new1 g hl2 hd.2.1, new2 g hl2 hd.2.2⟩
    · rw [List.mem_singleton.1 he] at hg
      have h1 := hrno g hg
      exact ⟨h1.1, new1 g (hrlt g hg) h1.2.1, new2 g (hrlt g hg) h1.2.2.1⟩
  · intro e he g hg
    rcases List.mem_append.1 he with he | he
    · have hd := h.dw e he g hg
      have hl2 := hlt g (bk_mem.2 (.inr (.inr (.inr ⟨_, he, .inr hg⟩))))
      exact ⟨hd.1, new1 g hl2 hd.2.1, new2 g hl2 hd.2.2⟩
    · rw [List.mem_singleton.1 he] at hg
      have h1 := newq g hg
      exact ⟨by omega, (n2 g hg).1, (n2 g hg).2⟩
  · intro e he f hf g hg hg2
    rcases List.mem_append.1 he with he | he <;> rcases List.mem_append.1 hf with hf | hf
    · exact h.dq e he f hf g hg hg2
    · rw [List.mem_singleton.1 hf] at hg2
      have := hlt g (bk_mem.2 (.inr (.inr (.inr ⟨_, he, .inl hg⟩))))
      have := newq g hg2
      omega
    · rw [List.mem_singleton.1 he] at hg
      exact ((hrno g hg).2.2.2 f hf).2 hg2
    · rw [List.mem_singleton.1 he] at hg
      rw [List.mem_singleton.1 hf] at hg2
      have := hrlt g hg
      have := newq g hg2
      omega

section
variable {w : World} {b : Nat} {es : List Ent} {rl rw : Option Nat} {al aw : Option Addr} {cl cw : Nat} (h : Bk w b es rl rw al aw cl cw) (hn : es.length ≤ 16777216)
  {ao : Option Addr} {cap : Nat} {r : Option Nat} {l : List UInt8} (hr : Row w 5 1 (.slice ao l.length cap) r l.length (l.map B)) (hrb : ∀ g, r = some g → g ∉ bkBlocks b es rl rw)
  {wo0 : Option Addr} {wc0 : Nat} (hw : Bytes w (.slice wo0 l.length wc0) l) (hw2 : ∀ g, (Value.slice wo0 l.length wc0).ownBlock = some g → g ≠ b ∧ rl ≠ some g ∧ rw ≠ some g) (hl : l.length ≤ 1099511627776)
include h hn hr hrb hw hw2 hl

set_option maxHeartbeats 2000000 in
set_option maxRecDepth 100000 in
theorem keeps_calls : Calls Try.prog 15 #[.pointer (some ⟨b, 0, none⟩), .slice ao l.length cap, .slice wo0 l.length wc0] w (KeepPost w b es rl rw ao cap r l) := by
  have x0 := h.c0
  have xf := h.fr
  have hrow := fun o => h.rowL.keep ((Chg.refl [] w).alloc o) (by simp)
  go_enter Try.func15, Try.ntmps15
  go_wp2_with (at_builtin; refine wpList_grew rfl _ _ 29 rfl elem_bytes rfl (hrow _) rfl (View.one _ _ _) (by simp [Value.oneCell']) (by unfold maxLen; omega) (by omega) (fun ao' cap' r' w2 hr2 hg2 => halt (fun X hX => ?_)))
  rw [hX.out]; clear hX
  have hc1 : Chg rl.toList w w2 := ((Chg.refl [] w).alloc _).nil.trans' hg2.chg
  have hblk2 := hc1.heap h.blk (by have := h.m1; simpa using this)
  have y0 := (blk_cell hblk2 0).trans rfl
  have yf := fun i => blk_free hblk2 i
  go_wp2_with fail
  obtain ⟨w2', hw2'⟩ : ∃ w', w2.setCell ⟨b, 0, none⟩ (.slice ao' (es.length + 1) cap') = w' := ⟨_, rfl⟩
  have hcb : Chg [b] w2 w2' := by rw [← hw2']; exact (Chg.refl [b] w2).setCell (p := ⟨b, 0, none⟩) (.inl (by simp)) _
  have hblk3 : w2'.heap[b]? = some (.cells #[.slice ao' (es.length + 1) cap', .slice aw es.length cw, .slice none 0 0] 31 (0, 0)) := by rw [← hw2', blk_set hblk2]; rfl
  have hc2 : Chg (b :: rl.toList) w w2' := (hc1.mono (fun x hx => .inl (List.mem_cons_of_mem _ hx))).trans hcb (fun x hx => .inl (by simp at hx; simp [hx]))
  have hne2 : r' ≠ some b := fun e => by
    rcases hg2.fresh b e with h3 | h3
    · exact h.m1 h3
    · have := blk_lt h.blk; simp at h3; omega
  have hrL := hr2.keep hcb (fun g hg hm => hne2 (by simp at hm; rw [hg, hm]))
  have hno : ∀ g, g ≠ b → rl ≠ some g → g ∉ b :: rl.toList := fun g h1 h2 hm => by
    rcases List.mem_cons.1 hm with h3 | h3
    · exact h1 h3
    · exact h2 (by simpa using h3)
  have hrW := h.rowW.keep hc2 (fun g hg => hno g (fun e => h.m2 (by rw [hg, e])) (fun e => h.m3 g e hg))
  have hwv : View w2' 1 (.slice wo0 l.length wc0) l.length (l.map B) := View.keep hw hc2 (fun g hg => hno g (hw2 g hg).1 (hw2 g hg).2.1)
  have y1 : w2'.cell? ⟨b, 1, none⟩ = some (.slice aw es.length cw) := (blk_cell hblk3 1).trans rfl
  have yf3 := fun i => blk_free hblk3 i
  have hwvd : View w2'.drew 1 (.slice wo0 l.length wc0) l.length (l.map B) := View.keep hwv (Chg.of_drewN [] w2' 1) (by simp)
  have hfr := hg2.fresh
  rw [hw2']
  clear y0 yf xf x0 hrow hr2 hwv hblk2 hw2'
  go_region_law (first
    | (refine step_grew rfl _ _ 25 rfl elem_u8 rfl (Row.nil _ _ _) rfl hwvd (B_one _) (by unfold maxLen; omega) (by omega) (fun ao3 cap3 r3 w3 hr3 hg3 => ?_); have hc3 : Chg [] w2' w3 := (Chg.of_drewN [] w2' 1).trans' hg3.chg; have z1 := hc3.cell y1 (by simp); have z1a := fun o => (hc3.alloc o).cell y1 (by simp); have hrW3 := fun o => hrW.keep (hc3.alloc o) (by simp))
    | (refine step_grew rfl _ _ 29 rfl elem_bytes rfl (hrW3 _) rfl (View.one _ _ _) (by simp [Value.oneCell']) (by unfold maxLen; omega) (by omega) (fun ao4 cap4 r4 w4 hr4 hg4 => ?_); have hc4 := (hc3.alloc _).nil.trans' hg4.chg; have hblk4 := hc4.heap hblk3 (by have := h.m2; simpa using this); have u1 := (blk_cell hblk4 1).trans rfl; have uf := fun i => blk_free hblk4 i))
  all_goals
    go_end0
    simp only [Nat.zero_add, List.nil_append] at hr3
    have hq0 : ∀ g, r3 = some g → w2'.heap.size ≤ g := fun g hg => by have := (hg3.fresh g hg).resolve_left (by simp); exact this
    have hq1 : ∀ g, r3 = some g → g < w3.heap.size := hr3.lt
    have hs3 := hc3.size
    have hrl2 : ∀ g, r' = some g → g < w2'.heap.size := hrL.lt
    have hs2 := hc2.size
    have hrwlt := h.rowW.lt
    have hf4 := hg4.fresh
    have f4 : ∀ g, r4 = some g → rw = some g ∨ w3.heap.size < g := fun g hg => (hf4 g hg).imp id (fun h => by simp at h; omega)
    have f1 : Fresh w rl r' := hfr.mono (by simp)
    have f2 : Fresh w rw r4 := fun g hg => (f4 g hg).imp id (fun h => by omega)
    have f3 : Fresh w none r3 := fun g hg => .inr (by have := hq0 g hg; omega)
    have n1 : ∀ g, r' = some g → r4 ≠ some g := fun g hg hg2 => by
      have h1 := hrl2 g hg
      rcases f4 g hg2 with h2 | h2
      · rcases f1 g hg with h3 | h3
        · exact h.m3 g h3 h2
        · have := hrwlt g h2; omega
      · omega
    have n2 : ∀ g, r3 = some g → r' ≠ some g ∧ r4 ≠ some g := fun g hg => by
      have h1 := hq0 g hg
      have h2 := hq1 g hg
      refine ⟨fun h3 => by have := hrl2 g h3; omega, fun h3 => ?_⟩
      rcases f4 g h3 with h4 | h4
      · have := hrwlt g h4; omega
      · omega
    have hcz : Chg [b] w4 (w4.setCell ⟨b, 1, none⟩ (.slice ao4 (es.length + 1) cap4)) := (Chg.refl [b] w4).setCell (p := ⟨b, 1, none⟩) (.inl (by simp)) _
    have hc34 : Chg rw.toList w2' w4 := (hc3.alloc _).nil.trans' hg4.chg
    have hrb4 : r4 ≠ some b := fun e => by
      rcases f2 b e with h3 | h3
      · exact h.m2 h3
      · have := blk_lt h.blk; omega
    have hbk : (w4.setCell ⟨b, 1, none⟩ (.slice ao4 (es.length + 1) cap4)).heap[b]? = some (.cells #[.slice ao' (es.length + 1) cap', .slice ao4 (es.length + 1) cap4, .slice none 0 0] 31 (0, 0)) := by rw [blk_set hblk4]; rfl
    have hLf := (hrL.keep hc34 (fun g hg hm => by have hm2 : rw = some g := (by simpa using hm); rcases f1 g hg with h3 | h3; exact h.m3 g h3 hm2; have := hrwlt g hm2; omega)).keep hcz (fun g hg hm => hne2 (by simp at hm; rw [hg, hm]))
    have hWf := hr4.keep hcz (fun g hg hm => hrb4 (by simp at hm; rw [hg, hm]))
    have hqf := (hr3.keep (((Chg.refl [] w3).alloc _).nil.trans' hg4.chg) (fun g hg hm => by have hm2 : rw = some g := (by simpa using hm); have := hq0 g hg; have := hrwlt g hm2; omega)).keep hcz (fun g hg hm => by simp at hm; have := hq0 g hg; have := blk_lt h.blk; omega)
    have hcw : Chg (b :: (rl.toList ++ rw.toList)) w (w4.setCell ⟨b, 1, none⟩ (.slice ao4 (es.length + 1) cap4)) :=
      ((hc2.mono (fun x hx => .inl (by simp at hx ⊢; rcases hx with h | h; exact .inl h; exact .inr (.inl h)))).trans hc34 (fun x hx => .inl (by simp at hx ⊢; exact .inr (.inr hx)))).trans hcz (fun x hx => .inl (by simp at hx; simp [hx]))
    exact ⟨rfl, ao3, cap3, r3, r', r4, ao', ao4, cap', cap4, Bk.add h hr hrb hbk hLf hWf hqf hcw f1 f2 f3 n1 n2, hcw, f1, f2, f3⟩
end
end Go.Proofs.Ytdakcphkaljghaa
