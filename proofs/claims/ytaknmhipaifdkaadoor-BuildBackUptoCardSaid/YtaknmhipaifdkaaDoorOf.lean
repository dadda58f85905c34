/- Walks of the builder: a declaration is laid down. -/
import Derived.Test.YtaknmhipaifdkaaDoorOe
set_option linter.unusedVariables false
set_option linter.unusedSectionVars false
namespace Go.Proofs.YtaknmhipaifdkaaDoor
open Go.RowKit Go.AB
set_option linter.unusedSimpArgs false
set_option linter.unusedVariables false
set_option linter.unusedSectionVars false

theorem info_var : (Tryd.prog.info? 61).map (fun i => (i.zero, i.size, i.bytes)) = some (some (.agg #[.string ⟨#[]⟩, .int .i64 0]), 2, 24) := by kernel_rfl
theorem elem_var : ElemOk Tryd.prog 27 61 2 24 := .of Tryd.underlying27 info_var rfl (by decide)
theorem info_bar : (Tryd.prog.info? 74).map (fun i => (i.zero, i.size, i.bytes)) = some (some (.agg #[.string ⟨#[]⟩, .int .i64 0]), 2, 24) := by kernel_rfl
theorem elem_bar : ElemOk Tryd.prog 29 74 2 24 := .of Tryd.underlying29 info_bar rfl (by decide)
theorem info_str : (Tryd.prog.info? 9).map (fun i => (i.zero, i.size, i.bytes)) = some (some (.string ⟨#[]⟩), 1, 16) := by kernel_rfl
theorem elem_str : ElemOk Tryd.prog 28 9 1 16 := .of Tryd.underlying28 info_str rfl (by decide)

/-- Where the four lists of a program that is being built lie. -/
structure Q4 where
  a0 : Option Addr
  c0 : Nat
  r0 : Option Nat
  a1 : Option Addr
  c1 : Nat
  r1 : Option Nat
  a2 : Option Addr
  c2 : Nat
  r2 : Option Nat
  a3 : Option Addr
  c3 : Nat
  r3 : Option Nat
def row0 (p : PrgD) (q : Q4) : It := .row 61 2 (.slice q.a0 p.vars.length q.c0) q.r0 p.vars.length (p.vars.flatMap varC)
def row1 (p : PrgD) (q : Q4) : It := .row 61 2 (.slice q.a1 p.vols.length q.c1) q.r1 p.vols.length (p.vols.flatMap varC)
def row2 (p : PrgD) (q : Q4) : It := .row 9 1 (.slice q.a2 p.locks.length q.c2) q.r2 p.locks.length (p.locks.flatMap strC)
def row3 (p : PrgD) (q : Q4) : It := .row 74 2 (.slice q.a3 p.bars.length q.c3) q.r3 p.bars.length (p.bars.flatMap varC)
/-- A program that is being built, and the builder. -/
structure PS (w0 w : World) (P b bk bc : Nat) (st : Nms) (all : Nat) (p : PrgD) (q : Q4) : Prop where
  hp : Hp [P, b, bk, bc] w0 w [row0 p q, row1 p q, row2 p q, row3 p q]
  box : w.heap[P]? = some (.cells #[.slice q.a0 p.vars.length q.c0, .slice q.a1 p.vols.length q.c1, .slice q.a2 p.locks.length q.c2, .slice q.a3 p.bars.length q.c3, .slice none 0 0] 32 (0, 0))
  bs : BS w b bk bc st all
  ne : P ≠ b ∧ P ≠ bk ∧ P ≠ bc
  thr : p.thrs = []
section
variable {w0 w w1 w2 : World} {P b bk bc : Nat} {st : Nms} {all : Nat} {p : PrgD} {q : Q4}
theorem PS.same (h : PS w0 w P b bk bc st all p q) (hc : Chg [] w w1) : PS w0 w1 P b bk bc st all p q :=
  ⟨h.hp.same hc, hc.heap h.box (by simp), h.bs.keep hc (by simp) (by simp) (by simp), h.ne, h.thr⟩
theorem PS.decl (h : PS w0 w P b bk bc st all p q) {st' : Nms} (hb : BS w1 b bk bc st' all) (hc : Chg [bk, bc] w w1) : PS w0 w1 P b bk bc st' all p q :=
  ⟨h.hp.step (hc.mono (fun x hx => .inl (by simp at hx ⊢; omega))), hc.heap h.box (by have := h.ne; simp; omega), hb, h.ne, h.thr⟩
theorem PS.far (h : PS w0 w P b bk bc st all p q) {x : It} (hx : x ∈ [row0 p q, row1 p q, row2 p q, row3 p q]) {g : Nat} (hg : x.blk = some g) : g ≠ P ∧ g ≠ b ∧ g ≠ bk ∧ g ≠ bc := by
  have h1 := h.hp.out hx hg
  simp only [List.mem_cons, List.not_mem_nil, or_false, not_or] at h1
  exact h1
/-- One list has grown, and is told in the program's box. -/
theorem PS.grown (h : PS w0 w P b bk bc st all p q) (i : Nat) {e k n : Nat} {v : Value} {r : Option Nat} {xs : List Value} (hi : [row0 p q, row1 p q, row2 p q, row3 p q][i]? = some (.row e k v r n xs)) (hc1 : Chg [] w w1) {e' k' n' : Nat} {v' : Value} {r' : Option Nat} {xs' : List Value}
    (hr : Row w2 e' k' v' r' n' xs') (hg : Grew w1 w2 r r') {p' : PrgD} {q' : Q4} (hI : [row0 p q, row1 p q, row2 p q, row3 p q].set i (.row e' k' v' r' n' xs') = [row0 p' q', row1 p' q', row2 p' q', row3 p' q'])
    (hb : (#[.slice q.a0 p.vars.length q.c0, .slice q.a1 p.vols.length q.c1, .slice q.a2 p.locks.length q.c2, .slice q.a3 p.bars.length q.c3, .slice none 0 0] : Array Value).setIfInBounds i v' = #[.slice q'.a0 p'.vars.length q'.c0, .slice q'.a1 p'.vols.length q'.c1, .slice q'.a2 p'.locks.length q'.c2, .slice q'.a3 p'.bars.length q'.c3, .slice none 0 0]) (ht : p'.thrs = []) :
    PS w0 (w2.setCell ⟨P, i, none⟩ v') P b bk bc st all p' q' := by
  have hfar : ∀ g, g ∈ r.toList → g ≠ P ∧ g ≠ b ∧ g ≠ bk ∧ g ≠ bc := fun g hg' => h.far (List.mem_of_getElem? hi) (by simpa [It.blk] using hg')
  have hset : Chg [P] w2 (w2.setCell ⟨P, i, none⟩ v') := (Chg.refl [P] w2).setCell (p := ⟨P, i, none⟩) (.inl (by simp)) _
  have hc2 := hg.chg
  have hne := h.ne
  refine ⟨(h.hp.grow i hi hc1 hr hc2 hg.fresh hI).step (hset.mono (fun x hx => .inl (by simp at hx; simp [hx]))), ?_, ?_, h.ne, ht⟩
  · have := blk_set (hc2.heap (hc1.heap h.box (by simp)) (fun hm => (hfar _ hm).1 rfl)) i v'
    rw [hb] at this
    exact this
  · exact ((h.bs.keep hc1 (by simp) (by simp) (by simp)).keep hc2 (fun hm => (hfar _ hm).2.1 rfl) (fun hm => (hfar _ hm).2.2.1 rfl) (fun hm => (hfar _ hm).2.2.2 rfl)).keep hset (by simp; omega) (by simp; omega) (by simp; omega)
end
/-- What declaration answers. -/
def DnP (w0 w : World) (P b bk bc : Nat) (all : Nat) (d : Except Flt (Nms × PrgD)) (e : Ending) (w' : World) : Prop :=
  (∃ f, d = .error f ∧ e = refused f ∧ Chg [] w w') ∨ (∃ st' p' q', d = .ok (st', p') ∧ e = .returned (.tuple #[]) ∧ PS w0 w' P b bk bc st' all p' q')

set_option maxHeartbeats 8000000 in
set_option maxRecDepth 100000 in
theorem declaration_calls {w0 w : World} {P b bk bc : Nat} {st : Nms} {all : Nat} {p : PrgD} {q : Q4} (h : PS w0 w P b bk bc st all p q) (d : DcD) (hs : d.name.size ≤ 4294967296) (hst : st.length ≤ 1073741824)
    (hl : p.vars.length ≤ 16777216 ∧ p.vols.length ≤ 16777216 ∧ p.locks.length ≤ 16777216 ∧ p.bars.length ≤ 16777216) :
    Calls Tryd.prog 26 #[.pointer (some ⟨b, 0, none⟩), .pointer (some ⟨P, 0, none⟩), .agg (dcC d).toArray] w (DnP w0 w P b bk bc all (declnD st p d)) := by
  obtain ⟨kd, nm, vl, l, c⟩ := d
  show Calls Tryd.prog 26 #[.pointer (some ⟨b, 0, none⟩), .pointer (some ⟨P, 0, none⟩), .agg #[.int .i64 kd, .string nm, .int .i64 vl, .int .i64 l, .int .i64 c]] w _
  obtain ⟨D, hD⟩ : ∃ D, declnD st p ⟨kd, nm, vl, l, c⟩ = D := ⟨_, rfl⟩
  rw [hD]
  unfold declnD at hD
  simp only at hD
  have hc0 := (Chg.refl [] w).alloc (.cells #[.int .i64 kd, .string nm, .int .i64 vl, .int .i64 l, .int .i64 c] 72)
  have h1 := h.same hc0
  by_cases h3 : kd = 3 ∧ vl ≠ 0
  · rw [if_pos h3] at hD
    have HD := hid hD
    have g1 : (kd == 3) = true := by simp [h3.1]
    have g2 : (vl != 0) = true := by simp [h3.2]
    clear hD h3
    go_enter Tryd.func26, Tryd.ntmps26
    go_wp2_with (go_at_call 35; refine (refuse_calls _ _ _ _).mono ?_; rintro e w' ⟨rfl, hcr⟩)
    exact ⟨rfl, .inl ⟨_, HD.out.symm, rfl, hc0.trans' hcr⟩⟩
  · rw [if_neg h3] at hD
    obtain ⟨hl0, hl1, hl2, hl3⟩ := hl
    have g1 : (kd == 3) = false ∨ ((kd == 3) = true ∧ (vl != 0) = false) := by
      simp only [beq_eq_false_iff_ne, ne_eq, beq_iff_eq, bne_eq_false_iff_eq]
      omega
    by_cases hk1 : kd = 1
    · rw [if_pos (by omega)] at hD
      have HDC := hid (declare_calls nm hs kd 4096 l c hst _ h1.bs)
      obtain ⟨E, hE⟩ : ∃ E, declD st nm kd 4096 l c = E := ⟨_, rfl⟩
      rw [hE] at hD HDC
      subst hk1
      have HD := hid hD
      clear hD hE g1 h3
      go_enter Tryd.func26, Tryd.ntmps26
      go_wp2_with (go_at_call 27; refine halt (fun X hX => ?_))
      rw [hX.out]; clear hX
      refine HDC.out.mono ?_
      rintro e w2 (⟨f, rfl, rfl, hc2⟩ | ⟨st', rfl, rfl, hb2, hc2⟩)
      · go_wp2
        exact ⟨rfl, .inl ⟨_, HD.out.symm, rfl, hc0.trans' hc2⟩⟩
      · have hS2 := h1.decl hb2 hc2
        have hbd := hc2.heap (heap_alloc_new w (.cells #[.int .i64 1, .string nm, .int .i64 vl, .int .i64 l, .int .i64 c] 72)) (by have h1 := h.bs.kn.lt; have h2 := h.bs.ct.lt; simp; omega)
        have d1 : w2.cell? ⟨w.heap.size, 1, none⟩ = some (.string nm) := blk_cell hbd 1
        have d2 : w2.cell? ⟨w.heap.size, 2, none⟩ = some (.int .i64 vl) := blk_cell hbd 2
        have p0 : w2.cell? ⟨P, 0, none⟩ = some (.slice q.a0 p.vars.length q.c0) := blk_cell hS2.box 0
        have p0a : ∀ o, (w2.alloc o).cell? ⟨P, 0, none⟩ = some (.slice q.a0 p.vars.length q.c0) := fun o => blk_cell (blk_alloc_old hS2.box o) 0
        go_wp2
        go_region_law (first
          | (refine step_grew rfl _ _ 27 rfl elem_var rfl (Row.keep (S := []) (hS2.hp.rowAt (i := 0) rfl) (by repeat (first | with_reducible exact Chg.refl _ _ | with_reducible exact Chg.refl _ _ | with_reducible refine Chg.setCell ?_ (by first | exact .inr (Nat.le_refl _) | (refine .inr ?_; first | omega | (simp; done) | (simp; omega)) | (refine .inl ?_; simp; done)) _ | with_reducible refine Chg.drewN ?_ _ | with_reducible refine Chg.drew ?_ | with_reducible refine Chg.alloc ?_ _)) (by simp)) rfl (View.struct _ [.string nm, .int .i64 vl] 61 rfl) (by simp [Value.oneCell']) (by unfold maxLen; omega) (by omega) (fun ao' cap' r' w5 hr5 hg5 => ?_); have hbx5 := hg5.chg.heap ((show Chg [] w2 _ from (by repeat (first | with_reducible exact Chg.refl _ _ | with_reducible exact Chg.refl _ _ | with_reducible refine Chg.setCell ?_ (by first | exact .inr (Nat.le_refl _) | (refine .inr ?_; first | omega | (simp; done) | (simp; omega)) | (refine .inl ?_; simp; done)) _ | with_reducible refine Chg.drewN ?_ _ | with_reducible refine Chg.drew ?_ | with_reducible refine Chg.alloc ?_ _))).heap hS2.box (by simp)) (fun hm => (hS2.far (x := row0 p q) (by simp) (by simpa [row0, It.blk] using hm)).1 rfl); have p5 : w5.cell? ⟨P, 0, none⟩ = some (.slice q.a0 p.vars.length q.c0) := blk_cell hbx5 0; have f5 := blk_free hbx5 0))
        all_goals
          go_end0
          refine .inr ⟨st', { p with vars := p.vars ++ [⟨nm, vl⟩] }, { q with a0 := ao', c0 := cap', r0 := r' }, HD.out.symm.trans (by simp [dcPut]), rfl, ?_⟩
          exact hS2.grown 0 rfl (by repeat (first | with_reducible exact Chg.refl _ _ | with_reducible exact Chg.refl _ _ | with_reducible refine Chg.setCell ?_ (by first | exact .inr (Nat.le_refl _) | (refine .inr ?_; first | omega | (simp; done) | (simp; omega)) | (refine .inl ?_; simp; done)) _ | with_reducible refine Chg.drewN ?_ _ | with_reducible refine Chg.drew ?_ | with_reducible refine Chg.alloc ?_ _)) hr5 hg5 (by simp [row0, row1, row2, row3, varC, strC]) (by simp) h.thr
    by_cases hk2 : kd = 2
    · rw [if_pos (by omega)] at hD
      have HDC := hid (declare_calls nm hs kd 4096 l c hst _ h1.bs)
      obtain ⟨E, hE⟩ : ∃ E, declD st nm kd 4096 l c = E := ⟨_, rfl⟩
      rw [hE] at hD HDC
      subst hk2
      have HD := hid hD
      clear hD hE g1 h3
      go_enter Tryd.func26, Tryd.ntmps26
      go_wp2_with (go_at_call 27; refine halt (fun X hX => ?_))
      rw [hX.out]; clear hX
      refine HDC.out.mono ?_
      rintro e w2 (⟨f, rfl, rfl, hc2⟩ | ⟨st', rfl, rfl, hb2, hc2⟩)
      · go_wp2
        exact ⟨rfl, .inl ⟨_, HD.out.symm, rfl, hc0.trans' hc2⟩⟩
      · have hS2 := h1.decl hb2 hc2
        have hbd := hc2.heap (heap_alloc_new w (.cells #[.int .i64 2, .string nm, .int .i64 vl, .int .i64 l, .int .i64 c] 72)) (by have h1 := h.bs.kn.lt; have h2 := h.bs.ct.lt; simp; omega)
        have d1 : w2.cell? ⟨w.heap.size, 1, none⟩ = some (.string nm) := blk_cell hbd 1
        have d2 : w2.cell? ⟨w.heap.size, 2, none⟩ = some (.int .i64 vl) := blk_cell hbd 2
        have p0 : w2.cell? ⟨P, 1, none⟩ = some (.slice q.a1 p.vols.length q.c1) := blk_cell hS2.box 1
        have p0a : ∀ o, (w2.alloc o).cell? ⟨P, 1, none⟩ = some (.slice q.a1 p.vols.length q.c1) := fun o => blk_cell (blk_alloc_old hS2.box o) 1
        go_wp2
        go_region_law (first
          | (refine step_grew rfl _ _ 27 rfl elem_var rfl (Row.keep (S := []) (hS2.hp.rowAt (i := 1) rfl) (by repeat (first | with_reducible exact Chg.refl _ _ | with_reducible exact Chg.refl _ _ | with_reducible refine Chg.setCell ?_ (by first | exact .inr (Nat.le_refl _) | (refine .inr ?_; first | omega | (simp; done) | (simp; omega)) | (refine .inl ?_; simp; done)) _ | with_reducible refine Chg.drewN ?_ _ | with_reducible refine Chg.drew ?_ | with_reducible refine Chg.alloc ?_ _)) (by simp)) rfl (View.struct _ [.string nm, .int .i64 vl] 61 rfl) (by simp [Value.oneCell']) (by unfold maxLen; omega) (by omega) (fun ao' cap' r' w5 hr5 hg5 => ?_); have hbx5 := hg5.chg.heap ((show Chg [] w2 _ from (by repeat (first | with_reducible exact Chg.refl _ _ | with_reducible exact Chg.refl _ _ | with_reducible refine Chg.setCell ?_ (by first | exact .inr (Nat.le_refl _) | (refine .inr ?_; first | omega | (simp; done) | (simp; omega)) | (refine .inl ?_; simp; done)) _ | with_reducible refine Chg.drewN ?_ _ | with_reducible refine Chg.drew ?_ | with_reducible refine Chg.alloc ?_ _))).heap hS2.box (by simp)) (fun hm => (hS2.far (x := row1 p q) (by simp) (by simpa [row1, It.blk] using hm)).1 rfl); have p5 : w5.cell? ⟨P, 1, none⟩ = some (.slice q.a1 p.vols.length q.c1) := blk_cell hbx5 1; have f5 := blk_free hbx5 1))
        all_goals
          go_end0
          refine .inr ⟨st', { p with vols := p.vols ++ [⟨nm, vl⟩] }, { q with a1 := ao', c1 := cap', r1 := r' }, HD.out.symm.trans (by simp [dcPut]), rfl, ?_⟩
          exact hS2.grown 1 rfl (by repeat (first | with_reducible exact Chg.refl _ _ | with_reducible exact Chg.refl _ _ | with_reducible refine Chg.setCell ?_ (by first | exact .inr (Nat.le_refl _) | (refine .inr ?_; first | omega | (simp; done) | (simp; omega)) | (refine .inl ?_; simp; done)) _ | with_reducible refine Chg.drewN ?_ _ | with_reducible refine Chg.drew ?_ | with_reducible refine Chg.alloc ?_ _)) hr5 hg5 (by simp [row0, row1, row2, row3, varC, strC]) (by simp) h.thr
    by_cases hk3 : kd = 3
    · rw [if_pos (by omega)] at hD
      have HDC := hid (declare_calls nm hs kd 4096 l c hst _ h1.bs)
      obtain ⟨E, hE⟩ : ∃ E, declD st nm kd 4096 l c = E := ⟨_, rfl⟩
      rw [hE] at hD HDC
      subst hk3
      have g2 : (vl != 0) = false := by simp; omega
      have HD := hid hD
      clear hD hE g1 h3
      go_enter Tryd.func26, Tryd.ntmps26
      go_wp2_with (go_at_call 27; refine halt (fun X hX => ?_))
      rw [hX.out]; clear hX
      refine HDC.out.mono ?_
      rintro e w2 (⟨f, rfl, rfl, hc2⟩ | ⟨st', rfl, rfl, hb2, hc2⟩)
      · go_wp2
        exact ⟨rfl, .inl ⟨_, HD.out.symm, rfl, hc0.trans' hc2⟩⟩
      · have hS2 := h1.decl hb2 hc2
        have hbd := hc2.heap (heap_alloc_new w (.cells #[.int .i64 3, .string nm, .int .i64 vl, .int .i64 l, .int .i64 c] 72)) (by have h1 := h.bs.kn.lt; have h2 := h.bs.ct.lt; simp; omega)
        have d1 : w2.cell? ⟨w.heap.size, 1, none⟩ = some (.string nm) := blk_cell hbd 1
        have d2 : w2.cell? ⟨w.heap.size, 2, none⟩ = some (.int .i64 vl) := blk_cell hbd 2
        have p0 : w2.cell? ⟨P, 2, none⟩ = some (.slice q.a2 p.locks.length q.c2) := blk_cell hS2.box 2
        have p0a : ∀ o, (w2.alloc o).cell? ⟨P, 2, none⟩ = some (.slice q.a2 p.locks.length q.c2) := fun o => blk_cell (blk_alloc_old hS2.box o) 2
        go_wp2
        go_region_law (first
          | (refine step_grew rfl _ _ 28 rfl elem_str rfl (Row.keep (S := []) (hS2.hp.rowAt (i := 2) rfl) (by repeat (first | with_reducible exact Chg.refl _ _ | with_reducible exact Chg.refl _ _ | with_reducible refine Chg.setCell ?_ (by first | exact .inr (Nat.le_refl _) | (refine .inr ?_; first | omega | (simp; done) | (simp; omega)) | (refine .inl ?_; simp; done)) _ | with_reducible refine Chg.drewN ?_ _ | with_reducible refine Chg.drew ?_ | with_reducible refine Chg.alloc ?_ _)) (by simp)) rfl (View.one _ _ _) (by simp [Value.oneCell']) (by unfold maxLen; omega) (by omega) (fun ao' cap' r' w5 hr5 hg5 => ?_); have hbx5 := hg5.chg.heap ((show Chg [] w2 _ from (by repeat (first | with_reducible exact Chg.refl _ _ | with_reducible exact Chg.refl _ _ | with_reducible refine Chg.setCell ?_ (by first | exact .inr (Nat.le_refl _) | (refine .inr ?_; first | omega | (simp; done) | (simp; omega)) | (refine .inl ?_; simp; done)) _ | with_reducible refine Chg.drewN ?_ _ | with_reducible refine Chg.drew ?_ | with_reducible refine Chg.alloc ?_ _))).heap hS2.box (by simp)) (fun hm => (hS2.far (x := row2 p q) (by simp) (by simpa [row2, It.blk] using hm)).1 rfl); have p5 : w5.cell? ⟨P, 2, none⟩ = some (.slice q.a2 p.locks.length q.c2) := blk_cell hbx5 2; have f5 := blk_free hbx5 2))
        all_goals
          go_end0
          refine .inr ⟨st', { p with locks := p.locks ++ [nm] }, { q with a2 := ao', c2 := cap', r2 := r' }, HD.out.symm.trans (by simp [dcPut]), rfl, ?_⟩
          exact hS2.grown 2 rfl (by repeat (first | with_reducible exact Chg.refl _ _ | with_reducible exact Chg.refl _ _ | with_reducible refine Chg.setCell ?_ (by first | exact .inr (Nat.le_refl _) | (refine .inr ?_; first | omega | (simp; done) | (simp; omega)) | (refine .inl ?_; simp; done)) _ | with_reducible refine Chg.drewN ?_ _ | with_reducible refine Chg.drew ?_ | with_reducible refine Chg.alloc ?_ _)) hr5 hg5 (by simp [row0, row1, row2, row3, varC, strC]) (by simp) h.thr
    by_cases hk4 : kd = 4
    · rw [if_pos (by omega)] at hD
      have HDC := hid (declare_calls nm hs kd 4096 l c hst _ h1.bs)
      obtain ⟨E, hE⟩ : ∃ E, declD st nm kd 4096 l c = E := ⟨_, rfl⟩
      rw [hE] at hD HDC
      subst hk4
      have HD := hid hD
      clear hD hE g1 h3
      go_enter Tryd.func26, Tryd.ntmps26
      go_wp2_with (go_at_call 27; refine halt (fun X hX => ?_))
      rw [hX.out]; clear hX
      refine HDC.out.mono ?_
      rintro e w2 (⟨f, rfl, rfl, hc2⟩ | ⟨st', rfl, rfl, hb2, hc2⟩)
      · go_wp2
        exact ⟨rfl, .inl ⟨_, HD.out.symm, rfl, hc0.trans' hc2⟩⟩
      · have hS2 := h1.decl hb2 hc2
        have hbd := hc2.heap (heap_alloc_new w (.cells #[.int .i64 4, .string nm, .int .i64 vl, .int .i64 l, .int .i64 c] 72)) (by have h1 := h.bs.kn.lt; have h2 := h.bs.ct.lt; simp; omega)
        have d1 : w2.cell? ⟨w.heap.size, 1, none⟩ = some (.string nm) := blk_cell hbd 1
        have d2 : w2.cell? ⟨w.heap.size, 2, none⟩ = some (.int .i64 vl) := blk_cell hbd 2
        have p0 : w2.cell? ⟨P, 3, none⟩ = some (.slice q.a3 p.bars.length q.c3) := blk_cell hS2.box 3
        have p0a : ∀ o, (w2.alloc o).cell? ⟨P, 3, none⟩ = some (.slice q.a3 p.bars.length q.c3) := fun o => blk_cell (blk_alloc_old hS2.box o) 3
        go_wp2
        go_region_law (first
          | (refine step_grew rfl _ _ 29 rfl elem_bar rfl (Row.keep (S := []) (hS2.hp.rowAt (i := 3) rfl) (by repeat (first | with_reducible exact Chg.refl _ _ | with_reducible exact Chg.refl _ _ | with_reducible refine Chg.setCell ?_ (by first | exact .inr (Nat.le_refl _) | (refine .inr ?_; first | omega | (simp; done) | (simp; omega)) | (refine .inl ?_; simp; done)) _ | with_reducible refine Chg.drewN ?_ _ | with_reducible refine Chg.drew ?_ | with_reducible refine Chg.alloc ?_ _)) (by simp)) rfl (View.struct _ [.string nm, .int .i64 vl] 74 rfl) (by simp [Value.oneCell']) (by unfold maxLen; omega) (by omega) (fun ao' cap' r' w5 hr5 hg5 => ?_); have hbx5 := hg5.chg.heap ((show Chg [] w2 _ from (by repeat (first | with_reducible exact Chg.refl _ _ | with_reducible exact Chg.refl _ _ | with_reducible refine Chg.setCell ?_ (by first | exact .inr (Nat.le_refl _) | (refine .inr ?_; first | omega | (simp; done) | (simp; omega)) | (refine .inl ?_; simp; done)) _ | with_reducible refine Chg.drewN ?_ _ | with_reducible refine Chg.drew ?_ | with_reducible refine Chg.alloc ?_ _))).heap hS2.box (by simp)) (fun hm => (hS2.far (x := row3 p q) (by simp) (by simpa [row3, It.blk] using hm)).1 rfl); have p5 : w5.cell? ⟨P, 3, none⟩ = some (.slice q.a3 p.bars.length q.c3) := blk_cell hbx5 3; have f5 := blk_free hbx5 3))
        all_goals
          go_end0
          refine .inr ⟨st', { p with bars := p.bars ++ [⟨nm, vl⟩] }, { q with a3 := ao', c3 := cap', r3 := r' }, HD.out.symm.trans (by simp [dcPut]), rfl, ?_⟩
          exact hS2.grown 3 rfl (by repeat (first | with_reducible exact Chg.refl _ _ | with_reducible exact Chg.refl _ _ | with_reducible refine Chg.setCell ?_ (by first | exact .inr (Nat.le_refl _) | (refine .inr ?_; first | omega | (simp; done) | (simp; omega)) | (refine .inl ?_; simp; done)) _ | with_reducible refine Chg.drewN ?_ _ | with_reducible refine Chg.drew ?_ | with_reducible refine Chg.alloc ?_ _)) hr5 hg5 (by simp [row0, row1, row2, row3, varC, strC]) (by simp) h.thr
    rw [if_neg (by omega)] at hD
    have HD := hid hD
    have k1 : (kd == 1) = false := by simp [hk1]
    have k2 : (kd == 2) = false := by simp [hk2]
    have k3 : (kd == 3) = false := by simp [hk3]
    have k4 : (kd == 4) = false := by simp [hk4]
    clear hD h3 g1
    go_enter Tryd.func26, Tryd.ntmps26
    go_wp2_with (go_at_call 35; refine (refuse_calls _ _ _ _).mono ?_; rintro e w' ⟨rfl, hcr⟩)
    exact ⟨rfl, .inl ⟨_, HD.out.symm, rfl, hc0.trans' hcr⟩⟩
end Go.Proofs.YtaknmhipaifdkaaDoor
