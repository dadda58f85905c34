/- Joined by join.py out of Vua, Vub, Vuc, Vud, Vue. -/
import Derived.Test.YtmahcabidggmeaaGreatDoorVsz
import Derived.BigQuiet
import Derived.Deep.RegionHeld
import Derived.Test.YtmahcabidggmeaaGreatDoorVpi
import Derived.Deep.CutBlock
import Derived.Deep.LoopGhost
set_option linter.unusedSimpArgs false
set_option linter.unusedVariables false
set_option linter.unusedSectionVars false

/- The reference's reader: its state; ok, ends. -/
set_option linter.unusedVariables false
set_option linter.unusedSectionVars false
set_option linter.unusedSimpArgs false
namespace Go.Proofs.YtmahcabidggmeaaGreatDoor
open Go.RowKit Go.AB
set_option linter.unusedSimpArgs false
set_option linter.unusedVariables false
set_option linter.unusedSectionVars false

def ryBox (b N k d : Nat) (q : RQ) (f : Flt) : It := .box b (.cells #[.slice (some ⟨q.tb, q.off, none⟩) N q.tc, .int .i64 k, .slice q.a0 d q.c0, .slice q.a1 q.bs.length q.c1, .int .i64 f.code, .int .i64 f.l, .int .i64 f.c] 60 (0, 0))
def ryI (b N k : Nat) (ds : List DcD) (q : RQ) (f : Flt) : List It := ryBox b N k ds.length q f :: rsDecls ds q :: rsBlocks q :: q.bs.map itRow
/-- The reference's reader: box b; the tokens, the one that stands there, the lists so far, the fault (code 0: none). -/
structure RY (w0 w : World) (b : Nat) (all : List Tok) (k : Nat) (ds : List DcD) (q : RQ) (m : Nat) (f : Flt) (X : List It) : Prop where
  hp : Hp [] w0 w (ryI b all.length k ds q f ++ X)
  tok : Lst tkC 5 w0 (.slice (some ⟨q.tb, q.off, none⟩) all.length q.tc) all
  e7 : End7 (all.drop k)
  ld : ds.length + (all.length - k) ≤ m
  lb : q.bs.length + (all.length - k) ≤ m
  li : ∀ x ∈ q.bs, x.b.items.length + (all.length - k) ≤ m
  sm : all.length ≤ 2097152 ∧ m ≤ 2097152
  tx : ∀ t ∈ all, t.text.length ≤ 1048576
section
variable {w0 w w' : World} {b k : Nat} {t : Tok} {all : List Tok} {ds : List DcD} {q : RQ} {m : Nat} {f : Flt} {X : List It}
theorem RY.same (h : RY w0 w b all k ds q m f X) (hc : Chg [] w w') : RY w0 w' b all k ds q m f X := ⟨h.hp.same hc, h.tok, h.e7, h.ld, h.lb, h.li, h.sm, h.tx⟩
theorem RY.blk (h : RY w0 w b all k ds q m f X) : w.heap[b]? = some (.cells #[.slice (some ⟨q.tb, q.off, none⟩) all.length q.tc, .int .i64 k, .slice q.a0 ds.length q.c0, .slice q.a1 q.bs.length q.c1, .int .i64 f.code, .int .i64 f.l, .int .i64 f.c] 60 (0, 0)) := h.hp.get (i := 0) rfl
theorem RY.c0 (h : RY w0 w b all k ds q m f X) : w.cell? ⟨b, 0, none⟩ = some (.slice (some ⟨q.tb, q.off, none⟩) all.length q.tc) := blk_cell h.blk 0
theorem RY.c1 (h : RY w0 w b all k ds q m f X) : w.cell? ⟨b, 1, none⟩ = some (.int .i64 k) := blk_cell h.blk 1
theorem RY.c2 (h : RY w0 w b all k ds q m f X) : w.cell? ⟨b, 2, none⟩ = some (.slice q.a0 ds.length q.c0) := blk_cell h.blk 2
theorem RY.c3 (h : RY w0 w b all k ds q m f X) : w.cell? ⟨b, 3, none⟩ = some (.slice q.a1 q.bs.length q.c1) := blk_cell h.blk 3
theorem RY.c4 (h : RY w0 w b all k ds q m f X) : w.cell? ⟨b, 4, none⟩ = some (.int .i64 f.code) := blk_cell h.blk 4
theorem RY.c5 (h : RY w0 w b all k ds q m f X) : w.cell? ⟨b, 5, none⟩ = some (.int .i64 f.l) := blk_cell h.blk 5
theorem RY.c6 (h : RY w0 w b all k ds q m f X) : w.cell? ⟨b, 6, none⟩ = some (.int .i64 f.c) := blk_cell h.blk 6
theorem RY.fr (h : RY w0 w b all k ds q m f X) (i : Nat) : w.frozen? ⟨b, i, none⟩ = false := blk_free h.blk i
theorem RY.lt (h : RY w0 w b all k ds q m f X) : k < all.length := by
  have := h.e7.ne
  rcases Nat.lt_or_ge k all.length with h1 | h1
  · exact h1
  · exact absurd (List.drop_of_length_le h1) this
theorem RY.tk (h : RY w0 w b all k ds q m f X) {i : Nat} {x : Tok} (hi : all[i]? = some x) {j : Nat} (hj : j < 5) : w.cell? ⟨q.tb, q.off + i * 5 + j, none⟩ = some ((tkC x).getD j undef) := by
  obtain ⟨hlt, rfl⟩ := List.getElem?_eq_some_iff.1 hi
  obtain ⟨b', off, he, hc⟩ := (h.tok.keep h.hp.chg).at tkC_len hlt (by omega)
  simp only [Option.some.injEq, Addr.mk.injEq, and_true] at he
  obtain ⟨h1, h2⟩ := he
  rw [h1, h2]
  exact hc j hj
theorem RY.head (h : RY w0 w b all k ds q m f X) (hi : all[k]? = some t) : w.cell? ⟨q.tb, q.off + k * 5, none⟩ = some (.int .i64 t.kind) ∧ w.cell? ⟨q.tb, q.off + k * 5 + 1, none⟩ = some (.string ⟨t.text.toArray⟩) ∧ w.cell? ⟨q.tb, q.off + k * 5 + 2, none⟩ = some (.int .i64 t.num) ∧ w.cell? ⟨q.tb, q.off + k * 5 + 3, none⟩ = some (.int .i64 t.line) ∧ w.cell? ⟨q.tb, q.off + k * 5 + 4, none⟩ = some (.int .i64 t.col) :=
  ⟨h.tk hi (j := 0) (by omega), h.tk hi (j := 1) (by omega), h.tk hi (j := 2) (by omega), h.tk hi (j := 3) (by omega), h.tk hi (j := 4) (by omega)⟩

set_option maxHeartbeats 16000000 in
set_option maxRecDepth 100000 in
theorem y_ok_calls (h : RY w0 w b all k ds q m f X) : Calls Tryz.prog 17 #[.pointer (some ⟨b, 0, none⟩)] w fun e w' => e = .returned (.bool (f.code == 0)) ∧ w = w' := by
  have h4 := h.c4
  obtain ⟨cd, hcd⟩ : ∃ c, f.code = c := ⟨_, rfl⟩
  rw [hcd] at h4 ⊢
  clear h hcd
  go_enter Tryz.func17, Tryz.ntmps17
  go_wp2
  go_ret
  exact ⟨rfl, rfl⟩
set_option maxHeartbeats 16000000 in
set_option maxRecDepth 100000 in
theorem y_ends_calls (h : RY w0 w b all k ds q m f X) (hi : all[k]? = some t) : Calls Tryz.prog 32 #[.pointer (some ⟨b, 0, none⟩)] w fun e w' => e = .returned (.bool (endsB t)) ∧ Chg [] w w' := by
  have h0 := h.c0
  have h1 := h.c1
  have ht := (h.head hi).1
  have hk := h.lt
  have hsm := h.sm.1
  have hki : (k : Int) < (all.length : Int) := by omega
  obtain ⟨N, hN⟩ : ∃ N, all.length = N := ⟨_, rfl⟩
  rw [hN] at h0 hk hki hsm
  have e6 : ((t.kind : Int) == 6) = decide (t.kind = 6) := by rw [Bool.eq_iff_iff]; simp; omega
  have e7 : ((t.kind : Int) == 7) = decide (t.kind = 7) := by rw [Bool.eq_iff_iff]; simp; omega
  have hE : endsB t = (decide (t.kind = 6) || decide (t.kind = 7)) := by unfold endsB; exact Bool.decide_or _ _
  rw [hE]
  obtain ⟨K, hK⟩ : ∃ K : Int, (t.kind : Int) = K := ⟨_, rfl⟩
  rw [hK] at ht e6 e7
  rw [← e6, ← e7]
  clear hK e6 e7 hE h hi hN
  go_enter Tryz.func32, Tryz.ntmps32
  go_upto_region 1 with fail
  go_quiet (fail)
  by_cases h6 : K = 6
  · subst h6
    go_wp2
    go_ret
    exact ⟨rfl, (Chg.refl [] w).drewN _⟩
  · have e6 : (K == 6) = false := by simpa using h6
    go_wp2
    go_ret
    exact ⟨ret_bool (by simp [e6]), (Chg.refl [] w).drewN _⟩
theorem RY.fault (h : RY w0 w b all k ds q m f X) (g : Flt) : RY w0 (((w.setCell ⟨b, 4, none⟩ (.int .i64 g.code)).setCell ⟨b, 5, none⟩ (.int .i64 g.l)).setCell ⟨b, 6, none⟩ (.int .i64 g.c)) b all k ds q m g X := by
  have h1 := ((h.hp.put 0 rfl 4 (.int .i64 g.code) rfl).put 0 rfl 5 (.int .i64 g.l) rfl).put 0 rfl 6 (.int .i64 g.c) rfl
  exact ⟨h1, h.tok, h.e7, h.ld, h.lb, h.li, h.sm, h.tx⟩
set_option maxHeartbeats 16000000 in
set_option maxRecDepth 100000 in
theorem y_fails_calls (h : RY w0 w b all k ds q m f X) (hi : all[k]? = some t) (hf : f.code = 0) (c : Int) : Calls Tryz.prog 37 #[.pointer (some ⟨b, 0, none⟩), .int .i64 c] w fun e w' => e = .returned (.tuple #[]) ∧ RY w0 w' b all k ds q m (fltAt c t) X := by
  have h0 := h.c0
  have h1 := h.c1
  have h4 := h.c4
  have h5c := h.c5
  have h6c := h.c6
  rw [hf] at h4
  obtain ⟨_, _, _, h3, h5⟩ := h.head hi
  have hk := h.lt
  have hsm := h.sm.1
  have hfr := h.fr
  have hki : (k : Int) < (all.length : Int) := by omega
  have HF := hid (h.fault (fltAt c t))
  obtain ⟨N, hN⟩ : ∃ N, all.length = N := ⟨_, rfl⟩
  rw [hN] at h0 hk hki hsm
  clear h hi hf hN
  go_enter Tryz.func37, Tryz.ntmps37
  go_upto_region 1 with fail
  go_region
  go_wp2
  go_end0
  exact ⟨rfl, HF.out.same (Chg.refl [] _).drew⟩
set_option maxHeartbeats 16000000 in
set_option maxRecDepth 100000 in
theorem y_free_no (h : RY w0 w b all k ds q m f X) (hi : all[k]? = some t) (h1 : t.kind ≠ 1) : Calls Tryz.prog 59 #[.pointer (some ⟨b, 0, none⟩)] w fun e w' => e = .returned (.bool (freeB t)) ∧ Chg [] w w' := by
  have h0 := h.c0
  have hc1 := h.c1
  have ht := (h.head hi).1
  have hk := h.lt
  have hsm := h.sm.1
  have hki : (k : Int) < (all.length : Int) := by omega
  obtain ⟨N, hN⟩ : ∃ N, all.length = N := ⟨_, rfl⟩
  rw [hN] at h0 hk hki hsm
  have hE : freeB t = false := by simp [freeB, h1]
  have e1 : ((t.kind : Int) == 1) = false := by simp; omega
  rw [hE]
  clear hE h1 h hi hN
  go_enter Tryz.func59, Tryz.ntmps59
  go_upto_region 1 with fail
  go_quiet (fail)
  go_wp2
  go_ret
  exact ⟨ret_bool (by simp [e1]), (Chg.refl [] w).drewN _⟩
end
end Go.Proofs.YtmahcabidggmeaaGreatDoor

/- The reference's reader: its state's laws. -/
set_option linter.unusedVariables false
set_option linter.unusedSectionVars false
set_option linter.unusedSimpArgs false
namespace Go.AB
open Go.RowKit
theorem drop_head {α : Type} {all : List α} {k : Nat} {t : α} {r : List α} (h : all.drop k = t :: r) : all[k]? = some t ∧ all.drop (k + 1) = r := by
  have hlt : k < all.length := by
    rcases Nat.lt_or_ge k all.length with h1 | h1
    · exact h1
    · rw [List.drop_of_length_le h1] at h; cases h
  rw [List.drop_eq_getElem_cons hlt] at h
  simp only [List.cons.injEq] at h
  exact ⟨by rw [List.getElem?_eq_getElem hlt, h.1], h.2⟩
theorem drop_cons {α : Type} {all : List α} {k : Nat} {t : α} (h : all[k]? = some t) : all.drop k = t :: all.drop (k + 1) := by
  obtain ⟨hlt, hx⟩ := List.getElem?_eq_some_iff.1 h
  rw [List.drop_eq_getElem_cons hlt, hx]
end Go.AB
namespace Go.Proofs.YtmahcabidggmeaaGreatDoor
open Go.RowKit Go.AB
set_option linter.unusedSimpArgs false
set_option linter.unusedVariables false
set_option linter.unusedSectionVars false

section
variable {w0 w w' : World} {b k : Nat} {t : Tok} {all r : List Tok} {ds : List DcD} {q : RQ} {m : Nat} {f : Flt} {X : List It}
theorem RY.blt (h : RY w0 w b all k ds q m f X) : b < w.heap.size := blk_lt h.blk
theorem RY.cons (h : RY w0 w b all k ds q m f X) : ∃ t, all[k]? = some t ∧ all.drop k = t :: all.drop (k + 1) := by
  refine ⟨all[k]'h.lt, List.getElem?_eq_getElem h.lt, ?_⟩
  exact List.drop_eq_getElem_cons h.lt
/-- One token on. -/
theorem RY.next (h : RY w0 w b all k ds q m f X) (hi : all[k]? = some t) (h7 : t.kind ≠ 7) {z : Int} (hz : z = (k : Int) + 1) : RY w0 (w.setCell ⟨b, 1, none⟩ (.int .i64 z)) b all (k + 1) ds q (m - 1) f X ∧ 0 < m := by
  have hd := drop_cons hi
  have hlt := h.lt
  have h1 := h.ld
  have h2 := h.lb
  have h3 := h.li
  have h4 := h.sm
  have h5 := h.e7
  rw [hd] at h5
  refine ⟨⟨?_, h.tok, h5.tail h7, by omega, by omega, fun x hx => by have := h3 x hx; omega, ⟨h4.1, by omega⟩, h.tx⟩, by omega⟩
  have e : z = ((k + 1 : Nat) : Int) := by omega
  rw [e]
  exact h.hp.put 0 rfl 1 _ rfl
theorem RY.mono {m' : Nat} (h : RY w0 w b all k ds q m f X) (hm : m ≤ m') (hs : m' ≤ 2097152) : RY w0 w b all k ds q m' f X :=
  ⟨h.hp, h.tok, h.e7, by have := h.ld; omega, by have := h.lb; omega, fun x hx => by have := h.li x hx; omega, ⟨h.sm.1, hs⟩, h.tx⟩
/-- A declaration joins. -/
theorem RY.decl {w2 : World} {d : DcD} {ao : Option Addr} {cap : Nat} {r0 : Option Nat} (h : RY w0 w b all k ds q m f X) {w1 : World} (hc1 : Chg [] w w1) (hr : Row w2 47 5 (.slice ao (ds.length + 1) cap) r0 (ds.length + 1) (ds.flatMap dcC ++ dcC d)) (hg : Grew w1 w2 q.r0 r0) (hm : m < 2097152) :
    RY w0 (w2.setCell ⟨b, 2, none⟩ (.slice ao (ds.length + 1) cap)) b all k (ds ++ [d]) { q with a0 := ao, c0 := cap, r0 := r0 } (m + 1) f X := by
  have e : ds.flatMap dcC ++ dcC d = (ds ++ [d]).flatMap dcC := by simp
  have e2 : ds.length + 1 = (ds ++ [d]).length := by simp
  have h1 := h.ld
  have h2 := h.lb
  have h4 := h.sm
  rw [e, e2] at hr
  rw [e2]
  refine ⟨(h.hp.grow 1 rfl hc1 hr hg.chg hg.fresh rfl).put 0 rfl 2 _ rfl, h.tok, h.e7, by simp; omega, by show q.bs.length + _ ≤ _; omega, fun x hx => by have := h.li x hx; omega, ⟨h4.1, by omega⟩, h.tx⟩
/-- A block joins. -/
theorem RY.block {w2 : World} {kk : BkD} {ao : Option Addr} {cap : Nat} {r1 : Option Nat} (h : RY w0 w b all k ds q m f X) (hk : kk.items = []) {w1 : World} (hc1 : Chg [] w w1) (hr : Row w2 50 4 (.slice ao (q.bs.length + 1) cap) r1 (q.bs.length + 1) (q.bs.flatMap blC ++ [.string kk.name, .slice none 0 0, .int .i64 kk.l, .int .i64 kk.c])) (hg : Grew w1 w2 q.r1 r1) (hm : m < 2097152) :
    RY w0 (w2.setCell ⟨b, 3, none⟩ (.slice ao (q.bs.length + 1) cap)) b all k ds { q with a1 := ao, c1 := cap, r1 := r1, bs := q.bs ++ [⟨kk, none, 0, none⟩] } (m + 1) f X := by
  have e : q.bs.flatMap blC ++ [.string kk.name, .slice none 0 0, .int .i64 kk.l, .int .i64 kk.c] = (q.bs ++ [(⟨kk, none, 0, none⟩ : BlO)]).flatMap blC := by simp [blC, BlO.v, hk]
  have e2 : q.bs.length + 1 = (q.bs ++ [(⟨kk, none, 0, none⟩ : BlO)]).length := by simp
  have h1 := h.ld
  have h2 := h.lb
  have h3 := h.lt
  have h4 := h.sm
  rw [e, e2] at hr
  rw [e2]
  refine ⟨?_, h.tok, h.e7, by omega, by simp; omega, fun x hx => ?_, ⟨h4.1, by omega⟩, h.tx⟩
  · have g1 := fun u => (h.hp.grow 2 rfl hc1 hr hg.chg hg.fresh rfl).put 0 rfl 3 u rfl
    have g2 := (Hp.nil (g1 (.slice ao (q.bs ++ [(⟨kk, none, 0, none⟩ : BlO)]).length cap)) 53 10).perm (perm5 (M := q.bs.map itRow) (X := X))
    have e4 : ryI b all.length k ds { q with a1 := ao, c1 := cap, r1 := r1, bs := q.bs ++ [⟨kk, none, 0, none⟩] } f ++ X = ryBox b all.length k ds.length { q with a1 := ao, c1 := cap, r1 := r1, bs := q.bs ++ [⟨kk, none, 0, none⟩] } f :: rsDecls ds { q with a1 := ao, c1 := cap, r1 := r1, bs := q.bs ++ [⟨kk, none, 0, none⟩] } :: rsBlocks { q with a1 := ao, c1 := cap, r1 := r1, bs := q.bs ++ [⟨kk, none, 0, none⟩] } :: (q.bs.map itRow ++ [itRow ⟨kk, none, 0, none⟩] ++ X) := by
      unfold ryI
      simp only [List.map_append, List.map_cons, List.map_nil, List.cons_append]
    have e5 : itRow ⟨kk, none, 0, none⟩ = .row 53 10 (.slice none 0 0) none 0 [] := by simp [itRow, BlO.v, hk]
    rw [e4, e5]
    exact g2
  · rcases List.mem_append.1 hx with hx | hx
    · have := h.li x hx; omega
    · simp only [List.mem_singleton] at hx; subst hx; simp [hk]; omega
theorem RY.ix (q : RQ) {init : List BlO} {x : BlO} (hq : q.bs = init ++ [x]) : (ryI b all.length k ds q f ++ X)[3 + init.length]? = some (itRow x) := by
  unfold ryI
  rw [hq]
  rw [show 3 + init.length = (((init.length + 1) + 1) + 1) from by omega]
  simp
/-- The last block. -/
theorem RY.last (h : RY w0 w b all k ds q m f X) {init : List BlO} {x : BlO} (hq : q.bs = init ++ [x]) : ∃ g, q.r1 = some g ∧ q.a1 = some ⟨g, 0, none⟩ ∧ w.cell? ⟨g, init.length * 4 + 1, none⟩ = some x.v ∧ w.frozen? ⟨g, init.length * 4 + 1, none⟩ = false ∧ Row w 53 10 x.v x.r x.b.items.length (x.b.items.flatMap itC) ∧ g ≠ b ∧ x.r ≠ some g := by
  have hr : Row w 50 4 (.slice q.a1 q.bs.length q.c1) q.r1 q.bs.length (q.bs.flatMap blC) := h.hp.rowAt (i := 2) rfl
  have hix : (ryI b all.length k ds q f ++ X)[3 + init.length]? = some (itRow x) := RY.ix q hq
  rcases hr.form with ⟨_, h2, _⟩ | ⟨g, cap', cur, hv, hrg, hnc, hcm, hg, hcs, ht⟩
  · rw [hq] at h2; simp at h2
  · simp only [Value.slice.injEq, true_and] at hv
    rw [hrg] at hr
    have hat := Row.atf blC_len hr rfl (i := init.length) (by rw [hq]; simp) (j := 1) (by omega)
    refine ⟨g, hrg, hv.1, ?_, (Row.cellk hr).2.1 _, h.hp.rowAt hix, ?_, ?_⟩
    · rw [hat]
      simp [hq, blC, List.getD]
    · intro e
      exact h.hp.ne (i := 2) (j := 0) (x := rsBlocks q) (y := ryBox b all.length k ds.length q f) rfl rfl (by omega) (g := g) hrg (by rw [e]; rfl)
    · intro e
      exact h.hp.ne (i := 2) (j := 3 + init.length) (x := rsBlocks q) (y := itRow x) rfl hix (by omega) (g := g) hrg e
/-- An Item joins the last block. -/
theorem RY.item {w2 : World} {init : List BlO} {x : BlO} {it : ItD} {ao : Option Addr} {cap : Nat} {r' : Option Nat} {g : Nat} (h : RY w0 w b all k ds q m f X) (hq : q.bs = init ++ [x]) (hgr : q.r1 = some g) {w1 : World} (hc1 : Chg [] w w1)
    (hr : Row w2 53 10 (.slice ao (x.b.items.length + 1) cap) r' (x.b.items.length + 1) (x.b.items.flatMap itC ++ itC it)) (hg : Grew w1 w2 x.r r') (hm : m < 2097152) :
    RY w0 (w2.setCell ⟨g, init.length * 4 + 1, none⟩ (.slice ao (x.b.items.length + 1) cap)) b all k ds { q with bs := init ++ [⟨⟨x.b.name, x.b.items ++ [it], x.b.l, x.b.c⟩, ao, cap, r'⟩] } (m + 1) f X := by
  have e : x.b.items.flatMap itC ++ itC it = (x.b.items ++ [it]).flatMap itC := by simp
  have e2 : x.b.items.length + 1 = (x.b.items ++ [it]).length := by simp
  have h1 := h.ld
  have h2 := h.lb
  have h4 := h.sm
  have hlb : q.bs.length = init.length + 1 := by rw [hq]; simp
  have hix : (ryI b all.length k ds q f ++ X)[3 + init.length]? = some (itRow x) := RY.ix q hq
  rw [e, e2] at hr
  rw [e2]
  obtain ⟨y, hy⟩ : ∃ y : BlO, y = ⟨⟨x.b.name, x.b.items ++ [it], x.b.l, x.b.c⟩, ao, cap, r'⟩ := ⟨_, rfl⟩
  rw [← hy]
  refine ⟨?_, h.tok, h.e7, by omega, by simp; omega, fun z hz => ?_, ⟨h4.1, by omega⟩, h.tx⟩
  · have g1 := h.hp.grow (3 + init.length) hix hc1 hr hg.chg hg.fresh rfl
    have hbl : q.bs.flatMap blC = (init ++ [x]).flatMap blC := by rw [hq]
    have g2 := g1.putf blC_len 2 (xs := init ++ [x]) (e := 50) (n := q.bs.length) (g := g) (v := .slice q.a1 q.bs.length q.c1) (by
        rw [List.getElem?_set_ne (by omega)]
        show some (rsBlocks q) = _
        unfold rsBlocks
        rw [hgr, hbl]) (i := init.length) (by simp) y (j := 1) (by omega) (u := .slice ao (x.b.items ++ [it]).length cap) (by subst hy; simp [blC, BlO.v]) rfl
    refine g2.perm (List.Perm.of_eq ?_)
    unfold ryI
    rw [show 3 + init.length = (((init.length + 1) + 1) + 1) from by omega]
    simp only [List.cons_append, List.set_cons_succ, List.set_cons_zero, List.map_append, List.map_cons, List.map_nil]
    refine List.cons_eq_cons.2 ⟨?_, List.cons_eq_cons.2 ⟨rfl, List.cons_eq_cons.2 ⟨?_, ?_⟩⟩⟩
    · unfold ryBox
      simp only [hlb, List.length_append, List.length_cons, List.length_nil, Nat.zero_add]
    · unfold rsBlocks
      simp only [hlb, hgr, List.length_append, List.length_cons, List.length_nil, Nat.zero_add]
      congr 2
      simp
    · rw [hq]
      simp only [List.map_append, List.map_cons, List.map_nil]
      rw [List.append_assoc, List.set_append_right _ _ (by simp)]
      simp only [List.length_map, Nat.sub_self, List.cons_append, List.nil_append, List.set_cons_zero, List.append_assoc]
      subst hy
      rfl
  · rcases List.mem_append.1 hz with hz | hz
    · have := h.li z (by rw [hq]; exact List.mem_append_left _ hz); omega
    · simp only [List.mem_singleton] at hz
      subst hz
      subst hy
      have := h.li x (by rw [hq]; simp)
      simp only [List.length_append, List.length_cons, List.length_nil]
      omega
/-- One of the foreign things is another now. -/
theorem RY.setX (h : RY w0 w b all k ds q m f X) {j : Nat} {x : It} (hj : X[j]? = some x) (y : It) {S : List Nat} (hc : Chg S w w') (hS : ∀ g ∈ S, x.blk = some g) (hy : y.ok w') (hyb : ∀ g, y.blk = some g → x.blk = some g ∨ w.heap.size ≤ g) {X' : List It} (hX : X.set j y = X') : RY w0 w' b all k ds q m f X' := by
  subst hX
  refine ⟨?_, h.tok, h.e7, h.ld, h.lb, h.li, h.sm, h.tx⟩
  refine h.hp.set (i := (ryI b all.length k ds q f).length + j) (x := x) (by rw [List.getElem?_append_right (by omega), Nat.add_sub_cancel_left]; exact hj) y hc hS hy hyb ?_
  rw [List.set_append_right _ _ (by omega), Nat.add_sub_cancel_left]
theorem RY.getX (h : RY w0 w b all k ds q m f X) {j : Nat} {x : It} (hj : X[j]? = some x) : x.ok w := h.hp.ok x (List.mem_append_right _ (List.mem_of_getElem? hj))
theorem RY.putX (h : RY w0 w b all k ds q m f X) (j : Nat) {a : Nat} {vs : Array Value} {T : TypeId} (hj : X[j]? = some (.box a (.cells vs T (0, 0)))) (i : Nat) (u : Value) {X' : List It} (hX : X.set j (.box a (.cells (vs.setIfInBounds i u) T (0, 0))) = X') : RY w0 (w.setCell ⟨a, i, none⟩ u) b all k ds q m f X' :=
  h.setX hj (.box a (.cells (vs.setIfInBounds i u) T (0, 0))) ((Chg.refl [a] w).setCell (p := ⟨a, i, none⟩) (.inl (by simp)) u) (fun g hg => by simp only [List.mem_singleton] at hg; subst hg; rfl) (blk_set (h.getX hj) i u) (fun g hg => .inl hg) hX
theorem RY.box (h : RY w0 w b all k ds q m f X) (o : Obj) : RY w0 (w.alloc o) b all k ds q m f (.box w.heap.size o :: X) :=
  ⟨(h.hp.box o).perm (List.perm_middle).symm, h.tok, h.e7, h.ld, h.lb, h.li, h.sm, h.tx⟩
theorem RY.subX (h : RY w0 w b all k ds q m f X) {X' : List It} (hs : List.Sublist X' X) : RY w0 w b all k ds q m f X' := ⟨h.hp.sub (List.Sublist.append (List.Sublist.refl _) hs), h.tok, h.e7, h.ld, h.lb, h.li, h.sm, h.tx⟩
/-- A foreign box is none of the reader's. -/
theorem RY.neX (h : RY w0 w b all k ds q m f X) {j : Nat} {x : It} (hj : X[j]? = some x) {g : Nat} (hg : x.blk = some g) : g ≠ b := by
  intro e
  subst e
  exact h.hp.ne (i := 0) (j := (ryI g all.length k ds q f).length + j) (x := ryBox g all.length k ds.length q f) (y := x) rfl (by rw [List.getElem?_append_right (by omega), Nat.add_sub_cancel_left]; exact hj) (by unfold ryI; simp only [List.length_cons]; omega) rfl hg
/-- A fault is set: whatever stands there. -/
def YBad (w0 : World) (b : Nat) (all : List Tok) (X : List It) (f : Flt) (w : World) : Prop := f.code ≠ 0 ∧ ∃ k ds q m, RY w0 w b all k ds q m f X
theorem YBad.same (h : YBad w0 b all X f w) (hc : Chg [] w w') : YBad w0 b all X f w' := by
  obtain ⟨h0, k, ds, q, m, h1⟩ := h
  exact ⟨h0, k, ds, q, m, h1.same hc⟩
end
end Go.Proofs.YtmahcabidggmeaaGreatDoor

/- The reference's reader: free, mark, number, reg, name. (Printed by gen_ysmall.py.) -/
set_option linter.unusedVariables false
set_option linter.unusedSectionVars false
set_option linter.unusedSimpArgs false
namespace Go.AB
open Go.RowKit
/-- One step of the reader whose fault stays: f ahead of it, f' behind it. -/
def Stp {α : Type} (f : Flt) (x : Except Flt α) (f' : Flt) (P : α → Prop) : Prop := (f.code ≠ 0 ∧ f' = f) ∨ (f.code = 0 ∧ x = .error f') ∨ (f.code = 0 ∧ f' = f ∧ ∃ a, x = .ok a ∧ P a)
def regT : List Tok → Except Flt (Int × List Tok)
  | [] => .error noTok
  | t :: r => if t.kind = 1 ∧ 0 ≤ regL t.text then .ok (regL t.text, r) else .error (fltAt 82 t)
theorem c4_keep {a b : World} {p q x y : Addr} {v1 v2 v3 v4 : Value} (hc : Chg [] a b) (h : a.cell? p = some v1 ∧ a.cell? q = some v2 ∧ a.cell? x = some v3 ∧ a.cell? y = some v4) : b.cell? p = some v1 ∧ b.cell? q = some v2 ∧ b.cell? x = some v3 ∧ b.cell? y = some v4 :=
  ⟨hc.cell h.1 (by simp), hc.cell h.2.1 (by simp), hc.cell h.2.2.1 (by simp), hc.cell h.2.2.2 (by simp)⟩
end Go.AB
namespace Go.Proofs.YtmahcabidggmeaaGreatDoor
open Go.RowKit Go.AB
set_option linter.unusedSimpArgs false
set_option linter.unusedVariables false
set_option linter.unusedSectionVars false

section
variable {w0 w w' : World} {b k : Nat} {t : Tok} {all r : List Tok} {ds : List DcD} {q : RQ} {m : Nat} {f : Flt} {X : List It}
theorem RY.ttx (h : RY w0 w b all k ds q m f X) (hi : all[k]? = some t) : t.text.length ≤ 1048576 := h.tx t (List.mem_of_getElem? hi)
theorem y_ok_no (h : RY w0 w b all k ds q m f X) (hf : f.code ≠ 0) : Calls Tryz.prog 17 #[.pointer (some ⟨b, 0, none⟩)] w fun e w' => e = .returned (.bool false) ∧ w = w' := by
  have h1 := y_ok_calls h
  rw [show (f.code == 0) = false from by simpa using hf] at h1
  exact h1
theorem y_ok_yes (h : RY w0 w b all k ds q m f X) (hf : f.code = 0) : Calls Tryz.prog 17 #[.pointer (some ⟨b, 0, none⟩)] w fun e w' => e = .returned (.bool true) ∧ w = w' := by
  have h1 := y_ok_calls h
  rw [show (f.code == 0) = true from by simpa using hf] at h1
  exact h1
set_option maxHeartbeats 16000000 in
set_option maxRecDepth 100000 in
theorem y_free_calls (h : RY w0 w b all k ds q m f X) (hi : all[k]? = some t) (hv : VarsP w0) : Calls Tryz.prog 59 #[.pointer (some ⟨b, 0, none⟩)] w fun e w' => e = .returned (.bool (freeB t)) ∧ Chg [] w w' := by
  by_cases h1 : t.kind = 1
  · have h0 := h.c0
    have hc1 := h.c1
    obtain ⟨ht, hx, _⟩ := h.head hi
    have hk := h.lt
    have hsm := h.sm.1
    have hki : (k : Int) < (all.length : Int) := by omega
    have HW := hid fun W (hc : Chg [] w W) => r_word_calls (bA t.text) W (hv.keep (h.hp.chg.trans' hc))
    obtain ⟨N, hN⟩ : ∃ N, all.length = N := ⟨_, rfl⟩
    rw [hN] at h0 hk hki hsm
    have hx' : w.cell? ⟨q.tb, q.off + k * 5 + 1, none⟩ = some (.string (bA t.text)) := hx
    have hE : freeB t = !wordL t.text := by simp [freeB, h1]
    have e1 : ((t.kind : Int) == 1) = true := by simp; omega
    rw [hE]
    have HWL : (bA t.text).data.toList = t.text := rfl
    rw [HWL] at HW
    clear hE h1 h hi hN hx HWL hv
    go_enter Tryz.func59, Tryz.ntmps59
    go_upto_region 1 with fail
    (refine wp_region_held_drew (S := (fun w' => w'.cell? ⟨b, 0, none⟩ = some (.slice (some ⟨q.tb, q.off, none⟩) N q.tc) ∧ w'.cell? ⟨b, 1, none⟩ = some (.int .i64 k) ∧ w'.cell? ⟨q.tb, q.off + k * 5, none⟩ = some (.int .i64 t.kind) ∧ w'.cell? ⟨q.tb, q.off + k * 5 + 1, none⟩ = some (.string (bA t.text)))) (by kernel_rfl) (by exact ⟨h0, hc1, ht, hx'⟩) (fun hHeld => ?_); (refine wpAnyH_take (i := 0) (v := ?_) rfl (by kernel_rfl) (by kernel_rfl) (by kernel_rfl) (fun _ _ _ h => h) (Or.inl ⟨by rfl, ?_⟩) (by assumption) ?_; rotate_left 1; (focus (intro w hSw; (try dsimp only at hSw); go_simp; (try with_reducible rfl))); (try simp only [List.getElem_toArray, List.getElem_cons_zero, List.getElem_cons_succ, Act.put, List.setIfInBounds_toArray, List.set_cons_zero, List.set_cons_succ])); (refine wpAnyH_take (i := 1) (v := ?_) rfl (by kernel_rfl) (by kernel_rfl) (by kernel_rfl) (fun _ _ _ h => h) (Or.inl ⟨by rfl, ?_⟩) (by assumption) ?_; rotate_left 1; (focus (intro w hSw; (try dsimp only at hSw); go_simp; (try with_reducible rfl))); (try simp only [List.getElem_toArray, List.getElem_cons_zero, List.getElem_cons_succ, Act.put, List.setIfInBounds_toArray, List.set_cons_zero, List.set_cons_succ])); (refine wpAnyH_take (i := 2) (v := ?_) rfl (by kernel_rfl) (by kernel_rfl) (by kernel_rfl) (fun _ _ _ h => h) (Or.inl ⟨by rfl, ?_⟩) (by assumption) ?_; rotate_left 1; (focus (intro w hSw; (try dsimp only at hSw); go_simp; (try with_reducible rfl))); (try simp only [List.getElem_toArray, List.getElem_cons_zero, List.getElem_cons_succ, Act.put, List.setIfInBounds_toArray, List.set_cons_zero, List.set_cons_succ])); (refine wpAnyH_take (i := 3) (v := ?_) rfl (by kernel_rfl) (by kernel_rfl) (by kernel_rfl) (fun _ _ _ h => h) (Or.inl ⟨by rfl, ?_⟩) (by assumption) ?_; rotate_left 1; (focus (intro w hSw; (try dsimp only at hSw); go_simp; (try with_reducible rfl))); (try simp only [List.getElem_toArray, List.getElem_cons_zero, List.getElem_cons_succ, Act.put, List.setIfInBounds_toArray, List.set_cons_zero, List.set_cons_succ])); (refine wpAnyH_take (i := 4) (v := ?_) rfl (by kernel_rfl) (by kernel_rfl) (by kernel_rfl) (fun _ _ _ h => h) (Or.inl ⟨by rfl, ?_⟩) (by assumption) ?_; rotate_left 1; (focus (intro w hSw; (try dsimp only at hSw); go_simp; (try with_reducible rfl))); (try simp only [List.getElem_toArray, List.getElem_cons_zero, List.getElem_cons_succ, Act.put, List.setIfInBounds_toArray, List.set_cons_zero, List.set_cons_succ])); (refine wpAnyH_take (i := 5) (v := ?_) rfl (by kernel_rfl) (by kernel_rfl) (by kernel_rfl) (fun _ _ _ h => h) (Or.inl ⟨by rfl, ?_⟩) (by assumption) ?_; rotate_left 1; (focus (intro w hSw; (try dsimp only at hSw); go_simp; (try with_reducible rfl))); (try simp only [List.getElem_toArray, List.getElem_cons_zero, List.getElem_cons_succ, Act.put, List.setIfInBounds_toArray, List.set_cons_zero, List.set_cons_succ])); (refine wpAnyH_take (i := 6) (v := ?_) rfl (by kernel_rfl) (by kernel_rfl) (by kernel_rfl) (fun _ _ _ h => h) (Or.inl ⟨by rfl, ?_⟩) (by assumption) ?_; rotate_left 1; (focus (intro w hSw; (try dsimp only at hSw); go_simp; (try with_reducible rfl))); (try simp only [List.getElem_toArray, List.getElem_cons_zero, List.getElem_cons_succ, Act.put, List.setIfInBounds_toArray, List.set_cons_zero, List.set_cons_succ])); (refine wpAnyH_take (i := 7) (v := ?_) rfl (by kernel_rfl) (by kernel_rfl) (by kernel_rfl) (fun _ _ _ h => h) (Or.inl ⟨by rfl, ?_⟩) (by assumption) ?_; rotate_left 1; (focus (intro w hSw; (try dsimp only at hSw); go_simp; (try with_reducible rfl))); (try simp only [List.getElem_toArray, List.getElem_cons_zero, List.getElem_cons_succ, Act.put, List.setIfInBounds_toArray, List.set_cons_zero, List.set_cons_succ])); (refine wpAnyH_take (i := 8) (v := ?_) rfl (by kernel_rfl) (by kernel_rfl) (by kernel_rfl) (fun _ _ _ h => h) (Or.inl ⟨by rfl, ?_⟩) (by assumption) ?_; rotate_left 1; (focus (intro w hSw; (try dsimp only at hSw); go_simp; (try with_reducible rfl))); (try simp only [List.getElem_toArray, List.getElem_cons_zero, List.getElem_cons_succ, Act.put, List.setIfInBounds_toArray, List.set_cons_zero, List.set_cons_succ])); (refine wpAnyH_take (i := 9) (v := ?_) rfl (by kernel_rfl) (by kernel_rfl) (by kernel_rfl) (fun _ _ _ h => h) (Or.inl ⟨by rfl, ?_⟩) (by assumption) ?_; rotate_left 1; (focus (intro w hSw; (try dsimp only at hSw); go_simp; (try with_reducible rfl))); (try simp only [List.getElem_toArray, List.getElem_cons_zero, List.getElem_cons_succ, Act.put, List.setIfInBounds_toArray, List.set_cons_zero, List.set_cons_succ])); (refine wpAnyH_take (i := 10) (v := ?_) rfl (by kernel_rfl) (by kernel_rfl) (by kernel_rfl) (fun _ _ _ h => h) (Or.inl ⟨by rfl, ?_⟩) (by assumption) ?_; rotate_left 1; (focus (intro w hSw; (try dsimp only at hSw); go_simp; (try with_reducible rfl))); (try simp only [List.getElem_toArray, List.getElem_cons_zero, List.getElem_cons_succ, Act.put, List.setIfInBounds_toArray, List.set_cons_zero, List.set_cons_succ])); (refine wpAnyH_take (i := 11) (v := ?_) rfl (by kernel_rfl) (by kernel_rfl) (by kernel_rfl) (fun _ _ _ h => h) (Or.inl ⟨by rfl, ?_⟩) (by assumption) ?_; rotate_left 1; (focus (intro w hSw; (try dsimp only at hSw); go_simp; (try with_reducible rfl))); (try simp only [List.getElem_toArray, List.getElem_cons_zero, List.getElem_cons_succ, Act.put, List.setIfInBounds_toArray, List.set_cons_zero, List.set_cons_succ])); (refine wpAnyH_take (i := 12) (v := ?_) rfl (by kernel_rfl) (by kernel_rfl) (by kernel_rfl) (fun _ _ _ h => h) (Or.inl ⟨by rfl, ?_⟩) (by assumption) ?_; rotate_left 1; (focus (intro w hSw; (try dsimp only at hSw); go_simp; (try with_reducible rfl))); (try simp only [List.getElem_toArray, List.getElem_cons_zero, List.getElem_cons_succ, Act.put, List.setIfInBounds_toArray, List.set_cons_zero, List.set_cons_succ])); (refine wpAnyH_take (i := 13) (v := ?_) rfl (by kernel_rfl) (by kernel_rfl) (by kernel_rfl) (fun _ _ _ h => h) (Or.inl ⟨by rfl, ?_⟩) (by assumption) ?_; rotate_left 1; (focus (intro w hSw; (try dsimp only at hSw); go_simp; (try with_reducible rfl))); (try simp only [List.getElem_toArray, List.getElem_cons_zero, List.getElem_cons_succ, Act.put, List.setIfInBounds_toArray, List.set_cons_zero, List.set_cons_succ])); (refine wpAnyH_take (i := 14) (v := ?_) rfl (by kernel_rfl) (by kernel_rfl) (by kernel_rfl) (fun _ _ _ h => h) (Or.inl ⟨by rfl, ?_⟩) (by assumption) ?_; rotate_left 1; (focus (intro w hSw; (try dsimp only at hSw); go_simp; (try with_reducible rfl))); (try simp only [List.getElem_toArray, List.getElem_cons_zero, List.getElem_cons_succ, Act.put, List.setIfInBounds_toArray, List.set_cons_zero, List.set_cons_succ])); (refine wpAnyH_take (i := 15) (v := ?_) rfl (by kernel_rfl) (by kernel_rfl) (by kernel_rfl) (fun _ _ _ h => h) (Or.inl ⟨by rfl, ?_⟩) (by assumption) ?_; rotate_left 1; (focus (intro w hSw; (try dsimp only at hSw); go_simp; (try with_reducible rfl))); (try simp only [List.getElem_toArray, List.getElem_cons_zero, List.getElem_cons_succ, Act.put, List.setIfInBounds_toArray, List.set_cons_zero, List.set_cons_succ])); (refine wpAnyH_take (i := 16) (v := ?_) rfl (by kernel_rfl) (by kernel_rfl) (by kernel_rfl) (fun _ _ _ h => h) (Or.inl ⟨by rfl, ?_⟩) (by assumption) ?_; rotate_left 1; (focus (intro w hSw; (try dsimp only at hSw); go_simp; (try with_reducible rfl))); (try simp only [List.getElem_toArray, List.getElem_cons_zero, List.getElem_cons_succ, Act.put, List.setIfInBounds_toArray, List.set_cons_zero, List.set_cons_succ])); (refine wpAnyH_take (i := 17) (v := ?_) rfl (by kernel_rfl) (by kernel_rfl) (by kernel_rfl) (fun _ _ _ h => h) (Or.inl ⟨by rfl, ?_⟩) (by assumption) ?_; rotate_left 1; (focus (intro w hSw; (try dsimp only at hSw); go_simp; (try with_reducible rfl))); (try simp only [List.getElem_toArray, List.getElem_cons_zero, List.getElem_cons_succ, Act.put, List.setIfInBounds_toArray, List.set_cons_zero, List.set_cons_succ])); (refine wpAnyH_take (i := 18) (v := ?_) rfl (by kernel_rfl) (by kernel_rfl) (by kernel_rfl) (fun _ _ _ h => h) (Or.inl ⟨by rfl, ?_⟩) (by assumption) ?_; rotate_left 1; (focus (intro w hSw; (try dsimp only at hSw); go_simp; (try with_reducible rfl))); (try simp only [List.getElem_toArray, List.getElem_cons_zero, List.getElem_cons_succ, Act.put, List.setIfInBounds_toArray, List.set_cons_zero, List.set_cons_succ])); (refine wpAnyH_take (i := 19) (v := ?_) rfl (by kernel_rfl) (by kernel_rfl) (by kernel_rfl) (fun _ _ _ h => h) (Or.inl ⟨by rfl, ?_⟩) (by assumption) ?_; rotate_left 1; (focus (intro w hSw; (try dsimp only at hSw); go_simp; (try with_reducible rfl))); (try simp only [List.getElem_toArray, List.getElem_cons_zero, List.getElem_cons_succ, Act.put, List.setIfInBounds_toArray, List.set_cons_zero, List.set_cons_succ])); (refine wpAnyH_take (i := 20) (v := ?_) rfl (by kernel_rfl) (by kernel_rfl) (by kernel_rfl) (fun _ _ _ h => h) (Or.inl ⟨by rfl, ?_⟩) (by assumption) ?_; rotate_left 1; (focus (intro w hSw; (try dsimp only at hSw); go_simp; (try with_reducible rfl))); (try simp only [List.getElem_toArray, List.getElem_cons_zero, List.getElem_cons_succ, Act.put, List.setIfInBounds_toArray, List.set_cons_zero, List.set_cons_succ])); (refine wpAnyH_take (i := 21) (v := ?_) rfl (by kernel_rfl) (by kernel_rfl) (by kernel_rfl) (fun _ _ _ h => h) (Or.inl ⟨by rfl, ?_⟩) (by assumption) ?_; rotate_left 1; (focus (intro w hSw; (try dsimp only at hSw); go_simp; (try with_reducible rfl))); (try simp only [List.getElem_toArray, List.getElem_cons_zero, List.getElem_cons_succ, Act.put, List.setIfInBounds_toArray, List.set_cons_zero, List.set_cons_succ])); (refine wpAnyH_take (i := 22) (v := ?_) rfl (by kernel_rfl) (by kernel_rfl) (by kernel_rfl) (fun _ _ _ h => h) (Or.inl ⟨by rfl, ?_⟩) (by assumption) ?_; rotate_left 1; (focus (intro w hSw; (try dsimp only at hSw); go_simp; (try with_reducible rfl))); (try simp only [List.getElem_toArray, List.getElem_cons_zero, List.getElem_cons_succ, Act.put, List.setIfInBounds_toArray, List.set_cons_zero, List.set_cons_succ])); (refine wpAnyH_take (i := 23) (v := ?_) rfl (by kernel_rfl) (by kernel_rfl) (by kernel_rfl) (fun _ _ _ h => h) (Or.inl ⟨by rfl, ?_⟩) (by assumption) ?_; rotate_left 1; (focus (intro w hSw; (try dsimp only at hSw); go_simp; (try with_reducible rfl))); (try simp only [List.getElem_toArray, List.getElem_cons_zero, List.getElem_cons_succ, Act.put, List.setIfInBounds_toArray, List.set_cons_zero, List.set_cons_succ])); (refine wpAnyH_ready (rs := [24]) (by kernel_rfl) (by simp) ?_; refine AllReadyH.cons rfl (fun K hK => ?_) AllReadyH.nil; go_simp; go_at_call 82; refine (HW.out _ (Chg.refl [] w).drew).mono ?_; rintro e w1 ⟨rfl, hc1'⟩; (refine hK.out _ _ (by exact (c4_keep hc1' hHeld)) (fun hHeld => ?_); clear hK K; (try simp only [List.getElem_toArray, List.getElem_cons_zero, List.getElem_cons_succ, Act.put, List.setIfInBounds_toArray, List.set_cons_zero, List.set_cons_succ]))); (refine wpAnyH_take (i := 25) (v := ?_) rfl (by kernel_rfl) (by kernel_rfl) (by kernel_rfl) (fun _ _ _ h => h) (Or.inl ⟨by rfl, ?_⟩) (by assumption) ?_; rotate_left 1; (focus (intro w hSw; (try dsimp only at hSw); go_simp; (try with_reducible rfl))); (try simp only [List.getElem_toArray, List.getElem_cons_zero, List.getElem_cons_succ, Act.put, List.setIfInBounds_toArray, List.set_cons_zero, List.set_cons_succ])); (refine wpAnyH_take (i := 26) (v := ?_) rfl (by kernel_rfl) (by kernel_rfl) (by kernel_rfl) (fun _ _ _ h => h) (Or.inl ⟨by rfl, ?_⟩) (by assumption) ?_; rotate_left 1; (focus (intro w hSw; (try dsimp only at hSw); go_simp; (try with_reducible rfl))); (try simp only [List.getElem_toArray, List.getElem_cons_zero, List.getElem_cons_succ, Act.put, List.setIfInBounds_toArray, List.set_cons_zero, List.set_cons_succ])); (refine wpAnyH_take (i := 27) (v := ?_) rfl (by kernel_rfl) (by kernel_rfl) (by kernel_rfl) (fun _ _ _ h => h) (Or.inl ⟨by rfl, ?_⟩) (by assumption) ?_; rotate_left 1; (focus (intro w hSw; (try dsimp only at hSw); go_simp; (try with_reducible rfl))); (try simp only [List.getElem_toArray, List.getElem_cons_zero, List.getElem_cons_succ, Act.put, List.setIfInBounds_toArray, List.set_cons_zero, List.set_cons_succ])); refine wpAnyH_done (by kernel_rfl) ?_ _)
    go_wp2
    go_ret
    exact ⟨ret_bool (by simp [e1]), (Chg.refl [] w).drew.trans' hc1'⟩
  · exact y_free_no h hi h1
def YMarkP (w0 w : World) (b : Nat) (all : List Tok) (k : Nat) (ds : List DcD) (q : RQ) (m : Nat) (f : Flt) (X : List It) (c : Nat) (e : Ending) (w' : World) : Prop :=
  ∃ (k' m' : Nat) (f' : Flt), e = .returned (.tuple #[]) ∧ RY w0 w' b all k' ds q m' f' X ∧ m' ≤ m ∧ Stp f (takeK c (all.drop k)) f' (fun p => all.drop k' = p.2 ∧ m' + 1 ≤ m)
def YNumberP (w0 w : World) (b : Nat) (all : List Tok) (k : Nat) (ds : List DcD) (q : RQ) (m : Nat) (f : Flt) (X : List It)  (e : Ending) (w' : World) : Prop :=
  ∃ (n : Int) (k' m' : Nat) (f' : Flt), e = .returned (.int .i64 n) ∧ RY w0 w' b all k' ds q m' f' X ∧ m' ≤ m ∧ Stp f (takeK 2 (all.drop k)) f' (fun p => all.drop k' = p.2 ∧ m' + 1 ≤ m ∧ n = p.1.num)
def YRegP (w0 w : World) (b : Nat) (all : List Tok) (k : Nat) (ds : List DcD) (q : RQ) (m : Nat) (f : Flt) (X : List It)  (e : Ending) (w' : World) : Prop :=
  ∃ (n : Int) (k' m' : Nat) (f' : Flt), e = .returned (.int .i64 n) ∧ RY w0 w' b all k' ds q m' f' X ∧ m' ≤ m ∧ Stp f (regT (all.drop k)) f' (fun p => all.drop k' = p.2 ∧ m' + 1 ≤ m ∧ n = p.1)
def YNameP (w0 w : World) (b : Nat) (all : List Tok) (k : Nat) (ds : List DcD) (q : RQ) (m : Nat) (f : Flt) (X : List It)  (e : Ending) (w' : World) : Prop :=
  ∃ (s : ByteArray) (k' m' : Nat) (f' : Flt), e = .returned (.string s) ∧ RY w0 w' b all k' ds q m' f' X ∧ m' ≤ m ∧ Stp f (nameT (all.drop k)) f' (fun p => all.drop k' = p.2 ∧ m' + 1 ≤ m ∧ s = bA p.1.text ∧ freeB p.1 = true)
set_option maxHeartbeats 16000000 in
set_option maxRecDepth 100000 in
theorem y_mark_calls (h : RY w0 w b all k ds q m f X) (c : Nat) (h7 : c ≠ 7) : Calls Tryz.prog 62 #[.pointer (some ⟨b, 0, none⟩), .int .i64 (c : Int)] w (YMarkP w0 w b all k ds q m f X c) := by
  obtain ⟨t, hi, hd⟩ := h.cons
  by_cases hf : f.code = 0
  · have HOK := hid (y_ok_yes h hf)
    have h0 := h.c0
    have hc1 := h.c1
    have hk := h.lt
    have hsm := h.sm.1
    have hfr := h.fr
    have hki : (k : Int) < (all.length : Int) := by omega
    have HFL := hid fun (W : World) (hc : Chg [] w W) (c : Int) => y_fails_calls (h.same hc) hi hf c
    obtain ⟨N, hN⟩ : ∃ N, all.length = N := ⟨_, rfl⟩
    have hh := h.head hi
    rw [hN] at h0 hk hki hsm
    have HD := hid hd
    have HF0 := hid hf
    have htk : takeK c (all.drop k) = if t.kind = c then .ok (t, all.drop (k + 1)) else .error (fltAt 82 t) := by rw [hd]; rfl
    have hkc := hh.1
    by_cases hkd : t.kind = c
    · rw [if_pos hkd] at htk
      have e1 : ((t.kind : Int) != (c : Int)) = false := by simp; omega
      have hm := (h.next hi (by omega) rfl).2
      have HN := hid fun z (hz : z = (k : Int) + 1) W (hc : Chg [] w W) => (h.same hc).next hi (by omega) hz
      have HTK := hid htk
      obtain ⟨tk, htk0⟩ : ∃ tk : Int, (t.kind : Int) = tk := ⟨_, rfl⟩
      obtain ⟨ci, hci⟩ : ∃ ci : Int, (c : Int) = ci := ⟨_, rfl⟩
      rw [htk0] at hkc e1
      rw [hci] at e1 ⊢
      clear h hi hd hf hh htk hkd hN HFL htk0 hci
      go_enter Tryz.func62, Tryz.ntmps62
      go_upto_region 1 with (go_at_call 17; refine HOK.out.mono ?_; rintro e w1 ⟨rfl, rfl⟩)
      go_quiet (fail)
      go_wp2
      go_end0
      exact ⟨k + 1, m - 1, f, rfl, (HN.out _ rfl _ (Chg.of_drewN [] w _)).1, by omega, .inr (.inr ⟨HF0.out, rfl, _, HTK.out, rfl, by omega⟩)⟩
    · rw [if_neg hkd] at htk
      have e1 : ((t.kind : Int) != (c : Int)) = true := by simp; omega
      have HTK := hid htk
      obtain ⟨tk, htk0⟩ : ∃ tk : Int, (t.kind : Int) = tk := ⟨_, rfl⟩
      obtain ⟨ci, hci⟩ : ∃ ci : Int, (c : Int) = ci := ⟨_, rfl⟩
      rw [htk0] at hkc e1
      rw [hci] at e1 ⊢
      clear h hi hd hf hh htk hkd hN htk0 hci
      go_enter Tryz.func62, Tryz.ntmps62
      go_upto_region 1 with (go_at_call 17; refine HOK.out.mono ?_; rintro e w1 ⟨rfl, rfl⟩)
      go_quiet (fail)
      go_wp2_with (go_at_call 37; refine (HFL.out _ (Chg.of_drewN [] w _) 82).mono ?_; rintro e w2 ⟨rfl, h2⟩)
      go_end0
      exact ⟨k, m, _, rfl, h2, Nat.le_refl _, .inr (.inl ⟨HF0.out, HTK.out⟩)⟩
  · have HOK := hid (y_ok_no h hf)
    have H := hid h
    have HF0 := hid hf
    clear h hi hd hf
    go_enter Tryz.func62, Tryz.ntmps62
    go_wp2_with (go_at_call 17; refine HOK.out.mono ?_; rintro e w1 ⟨rfl, rfl⟩)
    go_end0
    exact ⟨k, m, f, rfl, H.out, Nat.le_refl _, .inl ⟨HF0.out, rfl⟩⟩
theorem RY.prev (h : RY w0 w b all (k + 1) ds q m f X) (hi : all[k]? = some t) : w.cell? ⟨q.tb, q.off + k * 5 + 2, none⟩ = some (.int .i64 t.num) := h.tk hi (j := 2) (by omega)
set_option maxHeartbeats 16000000 in
set_option maxRecDepth 100000 in
theorem y_number_calls (h : RY w0 w b all k ds q m f X) : Calls Tryz.prog 64 #[.pointer (some ⟨b, 0, none⟩)] w (YNumberP w0 w b all k ds q m f X) := by
  obtain ⟨t, hi, hd⟩ := h.cons
  by_cases hf : f.code = 0
  · have HOK := hid (y_ok_yes h hf)
    have h0 := h.c0
    have hc1 := h.c1
    have hk := h.lt
    have hsm := h.sm.1
    have hfr := h.fr
    have hki : (k : Int) < (all.length : Int) := by omega
    have HFL := hid fun (W : World) (hc : Chg [] w W) (c : Int) => y_fails_calls (h.same hc) hi hf c
    obtain ⟨N, hN⟩ : ∃ N, all.length = N := ⟨_, rfl⟩
    have hh := h.head hi
    rw [hN] at h0 hk hki hsm
    have HD := hid hd
    have HF0 := hid hf
    have htk : takeK 2 (all.drop k) = if t.kind = 2 then .ok (t, all.drop (k + 1)) else .error (fltAt 82 t) := by rw [hd]; rfl
    have hkc := hh.1
    by_cases hkd : t.kind = 2
    · rw [if_pos hkd] at htk
      have e1 : ((t.kind : Int) != 2) = false := by simp; omega
      have hm := (h.next hi (by omega) rfl).2
      have HN := hid fun z (hz : z = (k : Int) + 1) W (hc : Chg [] w W) => (h.same hc).next hi (by omega) hz
      have HI := hid hi
      have HTK := hid htk
      have hnm := hh.2.2.1
      obtain ⟨tk, htk0⟩ : ∃ tk : Int, (t.kind : Int) = tk := ⟨_, rfl⟩
      rw [htk0] at hkc e1
      have htb := World.block_lt_of_cell? _ _ hnm
      have hbt : q.tb ≠ b := fun e => by have := h.hp.lo _ (List.mem_append_left _ (List.mem_cons_self ..)) b rfl; have h9 := h.tok.keep (Chg.refl _ _); obtain ⟨b9, o9, e9, c9⟩ := h9.at tkC_len (i := k) h.lt (by omega); have := World.block_lt_of_cell? _ _ (c9 0 (by omega)); simp only [Option.some.injEq, Addr.mk.injEq, and_true] at e9 this; omega
      clear h hi hd hf hh htk hkd hN HFL htk0
      go_enter Tryz.func64, Tryz.ntmps64
      go_upto_region 3 with (go_at_call 17; refine HOK.out.mono ?_; rintro e w1 ⟨rfl, rfl⟩)
      go_quiet (fail)
      go_upto_region 7 with fail
      go_quiet (fail)
      go_wp2
      go_ret
      exact ⟨t.num, k + 1, m - 1, f, rfl, (HN.out _ rfl _ (Chg.of_drewN [] w _)).1.same (Chg.of_drewN [] _ _), by omega, .inr (.inr ⟨HF0.out, rfl, _, HTK.out, rfl, by omega, rfl⟩)⟩
    · rw [if_neg hkd] at htk
      have e1 : ((t.kind : Int) != 2) = true := by simp; omega
      have HTK := hid htk
      obtain ⟨tk, htk0⟩ : ∃ tk : Int, (t.kind : Int) = tk := ⟨_, rfl⟩
      rw [htk0] at hkc e1
      clear h hi hd hf hh htk hkd hN htk0
      go_enter Tryz.func64, Tryz.ntmps64
      go_upto_region 3 with (go_at_call 17; refine HOK.out.mono ?_; rintro e w1 ⟨rfl, rfl⟩)
      go_quiet (fail)
      go_wp2_with (go_at_call 37; refine (HFL.out _ (Chg.of_drewN [] w _) 82).mono ?_; rintro e w2 ⟨rfl, h2⟩)
      go_ret
      exact ⟨0, k, m, _, rfl, h2, Nat.le_refl _, .inr (.inl ⟨HF0.out, HTK.out⟩)⟩
  · have HOK := hid (y_ok_no h hf)
    have H := hid h
    have HF0 := hid hf
    clear h hi hd hf
    go_enter Tryz.func64, Tryz.ntmps64
    go_wp2_with (go_at_call 17; refine HOK.out.mono ?_; rintro e w1 ⟨rfl, rfl⟩)
    go_ret
    exact ⟨0, k, m, f, rfl, H.out, Nat.le_refl _, .inl ⟨HF0.out, rfl⟩⟩
set_option maxHeartbeats 16000000 in
set_option maxRecDepth 100000 in
theorem y_name_calls (h : RY w0 w b all k ds q m f X) (hv : VarsP w0) : Calls Tryz.prog 65 #[.pointer (some ⟨b, 0, none⟩)] w (YNameP w0 w b all k ds q m f X) := by
  obtain ⟨t, hi, hd⟩ := h.cons
  by_cases hf : f.code = 0
  · have HOK := hid (y_ok_yes h hf)
    have h0 := h.c0
    have hc1 := h.c1
    have hk := h.lt
    have hsm := h.sm.1
    have hfr := h.fr
    have hki : (k : Int) < (all.length : Int) := by omega
    have HFL := hid fun (W : World) (hc : Chg [] w W) (c : Int) => y_fails_calls (h.same hc) hi hf c
    obtain ⟨N, hN⟩ : ∃ N, all.length = N := ⟨_, rfl⟩
    have hh := h.head hi
    rw [hN] at h0 hk hki hsm
    have HD := hid hd
    have HF0 := hid hf
    have htx := h.ttx hi
    have HFR := hid fun W (hc : Chg [] w W) => y_free_calls (h.same hc) hi hv
    have htk : nameT (all.drop k) = if freeB t = false then .error (fltAt 82 t) else if 24 < t.text.length then .error (fltAt 84 t) else .ok (t, all.drop (k + 1)) := by rw [hd]; rfl
    have hx' : w.cell? ⟨q.tb, q.off + k * 5 + 1, none⟩ = some (.string (bA t.text)) := hh.2.1
    cases hfb : freeB t with
    | false =>
      rw [if_pos hfb] at htk
      rw [hfb] at HFR
      have HTK := hid htk
      clear h hi hd hf hh htk hN hfb
      go_enter Tryz.func65, Tryz.ntmps65
      go_wp2_with (first
        | (go_at_call 17; refine HOK.out.mono ?_; rintro e w1 ⟨rfl, rfl⟩)
        | (go_at_call 59; refine (HFR.out _ (Chg.refl _ _)).mono ?_; rintro e w2 ⟨rfl, hc2⟩)
        | (go_at_call 37; refine (HFL.out _ hc2 82).mono ?_; rintro e w3 ⟨rfl, h3⟩))
      go_ret
      exact ⟨_, k, m, _, rfl, h3, Nat.le_refl _, .inr (.inl ⟨HF0.out, HTK.out⟩)⟩
    | true =>
      have hfk := free_kind hfb
      rw [if_neg (by rw [hfb]; simp)] at htk
      rw [hfb] at HFR
      have hsz : (bA t.text).size = t.text.length := bA_size _
      have HT : Hid (∀ W, Chg [] w W → W.cell? ⟨b, 0, none⟩ = some (.slice (some ⟨q.tb, q.off, none⟩) N q.tc) ∧ W.cell? ⟨b, 1, none⟩ = some (.int .i64 k) ∧ W.cell? ⟨q.tb, q.off + k * 5 + 1, none⟩ = some (.string (bA t.text)) ∧ W.frozen? ⟨b, 1, none⟩ = false) := hid (fun W hc => ⟨hc.cell h0 (by simp), hc.cell hc1 (by simp), hc.cell hx' (by simp), (h.same hc).fr 1⟩)
      by_cases hl : 24 < t.text.length
      · rw [if_pos hl] at htk
        have hg : decide ((24 : Int) < ((bA t.text).size : Int)) = true := decide_eq_true (by rw [hsz]; omega)
        have HTK := hid htk
        clear h hi hd hf hh htk hN hfb hl hsz h0 hc1 hx' hfr
        go_enter Tryz.func65, Tryz.ntmps65
        go_upto_region 6 with (first
          | (go_at_call 17; refine HOK.out.mono ?_; rintro e w1 ⟨rfl, rfl⟩)
          | (go_at_call 59; refine (HFR.out _ (Chg.refl _ _)).mono ?_; rintro e w2 ⟨rfl, hc2⟩; obtain ⟨u0, u1, u2, u3⟩ := HT.out _ hc2))
        go_quiet (fail)
        go_wp2_with (go_at_call 37; refine (HFL.out _ (hc2.trans' (Chg.of_drewN [] _ _)) 84).mono ?_; rintro e w3 ⟨rfl, h3⟩)
        go_ret
        exact ⟨_, k, m, _, rfl, h3, Nat.le_refl _, .inr (.inl ⟨HF0.out, HTK.out⟩)⟩
      · rw [if_neg hl] at htk
        have hg : decide ((24 : Int) < ((bA t.text).size : Int)) = false := decide_eq_false (by rw [hsz]; omega)
        have HTK := hid htk
        have hm := (h.next hi (by omega) rfl).2
        have HN := hid fun z (hz : z = (k : Int) + 1) W (hc : Chg [] w W) => (h.same hc).next hi (by omega) hz
        have HB := hid hfb
        clear h hi hd hf hh htk hN hfb hl hsz h0 hc1 hx' hfr HFL hfk
        go_enter Tryz.func65, Tryz.ntmps65
        go_upto_region 6 with (first
          | (go_at_call 17; refine HOK.out.mono ?_; rintro e w1 ⟨rfl, rfl⟩)
          | (go_at_call 59; refine (HFR.out _ (Chg.refl _ _)).mono ?_; rintro e w2 ⟨rfl, hc2⟩; obtain ⟨u0, u1, u2, u3⟩ := HT.out _ hc2))
        go_quiet (fail)
        go_wp2
        go_ret
        exact ⟨bA t.text, k + 1, m - 1, f, rfl, (HN.out _ rfl _ (hc2.trans' (Chg.of_drewN [] _ _))).1, by omega, .inr (.inr ⟨HF0.out, rfl, _, HTK.out, rfl, by omega, rfl, HB.out⟩)⟩
  · have HOK := hid (y_ok_no h hf)
    have H := hid h
    have HF0 := hid hf
    clear h hi hd hf
    go_enter Tryz.func65, Tryz.ntmps65
    go_wp2_with (go_at_call 17; refine HOK.out.mono ?_; rintro e w1 ⟨rfl, rfl⟩)
    go_ret
    exact ⟨_, k, m, f, rfl, H.out, Nat.le_refl _, .inl ⟨HF0.out, rfl⟩⟩
set_option maxHeartbeats 16000000 in
set_option maxRecDepth 100000 in
theorem y_reg_calls (h : RY w0 w b all k ds q m f X) (hv : VarsP w0) : Calls Tryz.prog 63 #[.pointer (some ⟨b, 0, none⟩)] w (YRegP w0 w b all k ds q m f X) := by
  obtain ⟨t, hi, hd⟩ := h.cons
  by_cases hf : f.code = 0
  · have HOK := hid (y_ok_yes h hf)
    have h0 := h.c0
    have hc1 := h.c1
    have hk := h.lt
    have hsm := h.sm.1
    have hfr := h.fr
    have hki : (k : Int) < (all.length : Int) := by omega
    have HFL := hid fun (W : World) (hc : Chg [] w W) (c : Int) => y_fails_calls (h.same hc) hi hf c
    obtain ⟨N, hN⟩ : ∃ N, all.length = N := ⟨_, rfl⟩
    have hh := h.head hi
    rw [hN] at h0 hk hki hsm
    have HD := hid hd
    have HF0 := hid hf
    have htx := h.ttx hi
    have hkc := hh.1
    have hx' : w.cell? ⟨q.tb, q.off + k * 5 + 1, none⟩ = some (.string (bA t.text)) := hh.2.1
    have HR := hid fun W (hc : Chg [] w W) => r_register_calls (bA t.text) W (hv.keep (h.hp.chg.trans' hc))
    have HRL : (bA t.text).data.toList = t.text := rfl
    rw [HRL] at HR
    have htk : regT (all.drop k) = if t.kind = 1 ∧ 0 ≤ regL t.text then .ok (regL t.text, all.drop (k + 1)) else .error (fltAt 82 t) := by rw [hd]; rfl
    by_cases hkd : t.kind = 1
    · have e1 : ((t.kind : Int) == 1) = true := by simp; omega
      obtain ⟨n, hn⟩ : ∃ n, regL t.text = n := ⟨_, rfl⟩
      rw [hn] at htk HR
      obtain ⟨tk, htk0⟩ : ∃ tk : Int, (t.kind : Int) = tk := ⟨_, rfl⟩
      rw [htk0] at hkc e1
      by_cases h2 : 0 ≤ n
      · rw [if_pos ⟨hkd, h2⟩] at htk
        have g1 : decide (n < 0) = false := decide_eq_false (by omega)
        have HTK := hid htk
        have hm := (h.next hi (by omega) rfl).2
        have HN := hid fun z (hz : z = (k : Int) + 1) W (hc : Chg [] w W) => (h.same hc).next hi (by omega) hz
        have HT : Hid (∀ W, Chg [] w W → W.cell? ⟨b, 1, none⟩ = some (.int .i64 k) ∧ W.frozen? ⟨b, 1, none⟩ = false) := hid (fun W hc => ⟨hc.cell hc1 (by simp), (h.same hc).fr 1⟩)
        clear h hi hd hf hh htk hN hkd htk0 hn h2 hfr HFL HRL
        go_enter Tryz.func63, Tryz.ntmps63
        go_upto_region 4 with (go_at_call 17; refine HOK.out.mono ?_; rintro e w1 ⟨rfl, rfl⟩)
        go_quiet (fail)
        go_upto_region 5 with fail
        (refine wp_region_held_drew (S := (fun w' => w'.cell? ⟨b, 0, none⟩ = some (.slice (some ⟨q.tb, q.off, none⟩) N q.tc) ∧ w'.cell? ⟨b, 1, none⟩ = some (.int .i64 k) ∧ w'.cell? ⟨q.tb, q.off + k * 5 + 1, none⟩ = some (.string (bA t.text)))) (by kernel_rfl) (by exact ⟨(Chg.refl [] w).drewN _ |>.drew |>.cell h0 (by simp), (Chg.refl [] w).drewN _ |>.drew |>.cell hc1 (by simp), (Chg.refl [] w).drewN _ |>.drew |>.cell hx' (by simp)⟩) (fun hHeld => ?_); (refine wpAnyH_take (i := 0) (v := ?_) rfl (by kernel_rfl) (by kernel_rfl) (by kernel_rfl) (fun _ _ _ h => h) (Or.inl ⟨by rfl, ?_⟩) (by assumption) ?_; rotate_left 1; (focus (intro w hSw; (try dsimp only at hSw); go_simp; (try with_reducible rfl))); (try simp only [List.getElem_toArray, List.getElem_cons_zero, List.getElem_cons_succ, Act.put, List.setIfInBounds_toArray, List.set_cons_zero, List.set_cons_succ])); (refine wpAnyH_take (i := 1) (v := ?_) rfl (by kernel_rfl) (by kernel_rfl) (by kernel_rfl) (fun _ _ _ h => h) (Or.inl ⟨by rfl, ?_⟩) (by assumption) ?_; rotate_left 1; (focus (intro w hSw; (try dsimp only at hSw); go_simp; (try with_reducible rfl))); (try simp only [List.getElem_toArray, List.getElem_cons_zero, List.getElem_cons_succ, Act.put, List.setIfInBounds_toArray, List.set_cons_zero, List.set_cons_succ])); (refine wpAnyH_take (i := 2) (v := ?_) rfl (by kernel_rfl) (by kernel_rfl) (by kernel_rfl) (fun _ _ _ h => h) (Or.inl ⟨by rfl, ?_⟩) (by assumption) ?_; rotate_left 1; (focus (intro w hSw; (try dsimp only at hSw); go_simp; (try with_reducible rfl))); (try simp only [List.getElem_toArray, List.getElem_cons_zero, List.getElem_cons_succ, Act.put, List.setIfInBounds_toArray, List.set_cons_zero, List.set_cons_succ])); (refine wpAnyH_take (i := 3) (v := ?_) rfl (by kernel_rfl) (by kernel_rfl) (by kernel_rfl) (fun _ _ _ h => h) (Or.inl ⟨by rfl, ?_⟩) (by assumption) ?_; rotate_left 1; (focus (intro w hSw; (try dsimp only at hSw); go_simp; (try with_reducible rfl))); (try simp only [List.getElem_toArray, List.getElem_cons_zero, List.getElem_cons_succ, Act.put, List.setIfInBounds_toArray, List.set_cons_zero, List.set_cons_succ])); (refine wpAnyH_take (i := 4) (v := ?_) rfl (by kernel_rfl) (by kernel_rfl) (by kernel_rfl) (fun _ _ _ h => h) (Or.inl ⟨by rfl, ?_⟩) (by assumption) ?_; rotate_left 1; (focus (intro w hSw; (try dsimp only at hSw); go_simp; (try with_reducible rfl))); (try simp only [List.getElem_toArray, List.getElem_cons_zero, List.getElem_cons_succ, Act.put, List.setIfInBounds_toArray, List.set_cons_zero, List.set_cons_succ])); (refine wpAnyH_take (i := 5) (v := ?_) rfl (by kernel_rfl) (by kernel_rfl) (by kernel_rfl) (fun _ _ _ h => h) (Or.inl ⟨by rfl, ?_⟩) (by assumption) ?_; rotate_left 1; (focus (intro w hSw; (try dsimp only at hSw); go_simp; (try with_reducible rfl))); (try simp only [List.getElem_toArray, List.getElem_cons_zero, List.getElem_cons_succ, Act.put, List.setIfInBounds_toArray, List.set_cons_zero, List.set_cons_succ])); (refine wpAnyH_take (i := 6) (v := ?_) rfl (by kernel_rfl) (by kernel_rfl) (by kernel_rfl) (fun _ _ _ h => h) (Or.inl ⟨by rfl, ?_⟩) (by assumption) ?_; rotate_left 1; (focus (intro w hSw; (try dsimp only at hSw); go_simp; (try with_reducible rfl))); (try simp only [List.getElem_toArray, List.getElem_cons_zero, List.getElem_cons_succ, Act.put, List.setIfInBounds_toArray, List.set_cons_zero, List.set_cons_succ])); (refine wpAnyH_take (i := 7) (v := ?_) rfl (by kernel_rfl) (by kernel_rfl) (by kernel_rfl) (fun _ _ _ h => h) (Or.inl ⟨by rfl, ?_⟩) (by assumption) ?_; rotate_left 1; (focus (intro w hSw; (try dsimp only at hSw); go_simp; (try with_reducible rfl))); (try simp only [List.getElem_toArray, List.getElem_cons_zero, List.getElem_cons_succ, Act.put, List.setIfInBounds_toArray, List.set_cons_zero, List.set_cons_succ])); (refine wpAnyH_take (i := 8) (v := ?_) rfl (by kernel_rfl) (by kernel_rfl) (by kernel_rfl) (fun _ _ _ h => h) (Or.inl ⟨by rfl, ?_⟩) (by assumption) ?_; rotate_left 1; (focus (intro w hSw; (try dsimp only at hSw); go_simp; (try with_reducible rfl))); (try simp only [List.getElem_toArray, List.getElem_cons_zero, List.getElem_cons_succ, Act.put, List.setIfInBounds_toArray, List.set_cons_zero, List.set_cons_succ])); (refine wpAnyH_take (i := 9) (v := ?_) rfl (by kernel_rfl) (by kernel_rfl) (by kernel_rfl) (fun _ _ _ h => h) (Or.inl ⟨by rfl, ?_⟩) (by assumption) ?_; rotate_left 1; (focus (intro w hSw; (try dsimp only at hSw); go_simp; (try with_reducible rfl))); (try simp only [List.getElem_toArray, List.getElem_cons_zero, List.getElem_cons_succ, Act.put, List.setIfInBounds_toArray, List.set_cons_zero, List.set_cons_succ])); (refine wpAnyH_take (i := 10) (v := ?_) rfl (by kernel_rfl) (by kernel_rfl) (by kernel_rfl) (fun _ _ _ h => h) (Or.inl ⟨by rfl, ?_⟩) (by assumption) ?_; rotate_left 1; (focus (intro w hSw; (try dsimp only at hSw); go_simp; (try with_reducible rfl))); (try simp only [List.getElem_toArray, List.getElem_cons_zero, List.getElem_cons_succ, Act.put, List.setIfInBounds_toArray, List.set_cons_zero, List.set_cons_succ])); (refine wpAnyH_ready (rs := [11]) (by kernel_rfl) (by simp) ?_; refine AllReadyH.cons rfl (fun K hK => ?_) AllReadyH.nil; go_simp; go_at_call 90; refine (HR.out _ ((Chg.refl [] w).drewN _ |>.drew)).mono ?_; rintro e w1 ⟨rfl, hc3⟩; (refine hK.out _ _ (by exact ⟨hc3.cell hHeld.1 (by simp), hc3.cell hHeld.2.1 (by simp), hc3.cell hHeld.2.2 (by simp)⟩) (fun hHeld => ?_); clear hK K; (try simp only [List.getElem_toArray, List.getElem_cons_zero, List.getElem_cons_succ, Act.put, List.setIfInBounds_toArray, List.set_cons_zero, List.set_cons_succ]))); (refine wpAnyH_take (i := 12) (v := ?_) rfl (by kernel_rfl) (by kernel_rfl) (by kernel_rfl) (fun _ _ _ h => h) (Or.inl ⟨by rfl, ?_⟩) (by assumption) ?_; rotate_left 1; (focus (intro w hSw; (try dsimp only at hSw); go_simp; (try with_reducible rfl))); (try simp only [List.getElem_toArray, List.getElem_cons_zero, List.getElem_cons_succ, Act.put, List.setIfInBounds_toArray, List.set_cons_zero, List.set_cons_succ])); refine wpAnyH_done (by kernel_rfl) ?_ _)
        obtain ⟨v1, v2⟩ := HT.out _ (((Chg.refl [] w).drewN _ |>.drew).trans' hc3)
        go_wp2
        go_ret
        obtain ⟨h2, _⟩ := HN.out _ rfl _ (((Chg.refl [] w).drewN _ |>.drew).trans' hc3)
        exact ⟨n, k + 1, m - 1, f, rfl, h2, by omega, .inr (.inr ⟨HF0.out, rfl, _, HTK.out, rfl, by omega, rfl⟩)⟩
      · rw [if_neg (fun e => h2 e.2)] at htk
        have g1 : decide (n < 0) = true := decide_eq_true (by omega)
        have HTK := hid htk
        clear h hi hd hf hh htk hN hkd htk0 hn h2 hfr HRL
        go_enter Tryz.func63, Tryz.ntmps63
        go_upto_region 4 with (go_at_call 17; refine HOK.out.mono ?_; rintro e w1 ⟨rfl, rfl⟩)
        go_quiet (fail)
        go_upto_region 5 with fail
        (refine wp_region_held_drew (S := (fun w' => w'.cell? ⟨b, 0, none⟩ = some (.slice (some ⟨q.tb, q.off, none⟩) N q.tc) ∧ w'.cell? ⟨b, 1, none⟩ = some (.int .i64 k) ∧ w'.cell? ⟨q.tb, q.off + k * 5 + 1, none⟩ = some (.string (bA t.text)))) (by kernel_rfl) (by exact ⟨(Chg.refl [] w).drewN _ |>.drew |>.cell h0 (by simp), (Chg.refl [] w).drewN _ |>.drew |>.cell hc1 (by simp), (Chg.refl [] w).drewN _ |>.drew |>.cell hx' (by simp)⟩) (fun hHeld => ?_); (refine wpAnyH_take (i := 0) (v := ?_) rfl (by kernel_rfl) (by kernel_rfl) (by kernel_rfl) (fun _ _ _ h => h) (Or.inl ⟨by rfl, ?_⟩) (by assumption) ?_; rotate_left 1; (focus (intro w hSw; (try dsimp only at hSw); go_simp; (try with_reducible rfl))); (try simp only [List.getElem_toArray, List.getElem_cons_zero, List.getElem_cons_succ, Act.put, List.setIfInBounds_toArray, List.set_cons_zero, List.set_cons_succ])); (refine wpAnyH_take (i := 1) (v := ?_) rfl (by kernel_rfl) (by kernel_rfl) (by kernel_rfl) (fun _ _ _ h => h) (Or.inl ⟨by rfl, ?_⟩) (by assumption) ?_; rotate_left 1; (focus (intro w hSw; (try dsimp only at hSw); go_simp; (try with_reducible rfl))); (try simp only [List.getElem_toArray, List.getElem_cons_zero, List.getElem_cons_succ, Act.put, List.setIfInBounds_toArray, List.set_cons_zero, List.set_cons_succ])); (refine wpAnyH_take (i := 2) (v := ?_) rfl (by kernel_rfl) (by kernel_rfl) (by kernel_rfl) (fun _ _ _ h => h) (Or.inl ⟨by rfl, ?_⟩) (by assumption) ?_; rotate_left 1; (focus (intro w hSw; (try dsimp only at hSw); go_simp; (try with_reducible rfl))); (try simp only [List.getElem_toArray, List.getElem_cons_zero, List.getElem_cons_succ, Act.put, List.setIfInBounds_toArray, List.set_cons_zero, List.set_cons_succ])); (refine wpAnyH_take (i := 3) (v := ?_) rfl (by kernel_rfl) (by kernel_rfl) (by kernel_rfl) (fun _ _ _ h => h) (Or.inl ⟨by rfl, ?_⟩) (by assumption) ?_; rotate_left 1; (focus (intro w hSw; (try dsimp only at hSw); go_simp; (try with_reducible rfl))); (try simp only [List.getElem_toArray, List.getElem_cons_zero, List.getElem_cons_succ, Act.put, List.setIfInBounds_toArray, List.set_cons_zero, List.set_cons_succ])); (refine wpAnyH_take (i := 4) (v := ?_) rfl (by kernel_rfl) (by kernel_rfl) (by kernel_rfl) (fun _ _ _ h => h) (Or.inl ⟨by rfl, ?_⟩) (by assumption) ?_; rotate_left 1; (focus (intro w hSw; (try dsimp only at hSw); go_simp; (try with_reducible rfl))); (try simp only [List.getElem_toArray, List.getElem_cons_zero, List.getElem_cons_succ, Act.put, List.setIfInBounds_toArray, List.set_cons_zero, List.set_cons_succ])); (refine wpAnyH_take (i := 5) (v := ?_) rfl (by kernel_rfl) (by kernel_rfl) (by kernel_rfl) (fun _ _ _ h => h) (Or.inl ⟨by rfl, ?_⟩) (by assumption) ?_; rotate_left 1; (focus (intro w hSw; (try dsimp only at hSw); go_simp; (try with_reducible rfl))); (try simp only [List.getElem_toArray, List.getElem_cons_zero, List.getElem_cons_succ, Act.put, List.setIfInBounds_toArray, List.set_cons_zero, List.set_cons_succ])); (refine wpAnyH_take (i := 6) (v := ?_) rfl (by kernel_rfl) (by kernel_rfl) (by kernel_rfl) (fun _ _ _ h => h) (Or.inl ⟨by rfl, ?_⟩) (by assumption) ?_; rotate_left 1; (focus (intro w hSw; (try dsimp only at hSw); go_simp; (try with_reducible rfl))); (try simp only [List.getElem_toArray, List.getElem_cons_zero, List.getElem_cons_succ, Act.put, List.setIfInBounds_toArray, List.set_cons_zero, List.set_cons_succ])); (refine wpAnyH_take (i := 7) (v := ?_) rfl (by kernel_rfl) (by kernel_rfl) (by kernel_rfl) (fun _ _ _ h => h) (Or.inl ⟨by rfl, ?_⟩) (by assumption) ?_; rotate_left 1; (focus (intro w hSw; (try dsimp only at hSw); go_simp; (try with_reducible rfl))); (try simp only [List.getElem_toArray, List.getElem_cons_zero, List.getElem_cons_succ, Act.put, List.setIfInBounds_toArray, List.set_cons_zero, List.set_cons_succ])); (refine wpAnyH_take (i := 8) (v := ?_) rfl (by kernel_rfl) (by kernel_rfl) (by kernel_rfl) (fun _ _ _ h => h) (Or.inl ⟨by rfl, ?_⟩) (by assumption) ?_; rotate_left 1; (focus (intro w hSw; (try dsimp only at hSw); go_simp; (try with_reducible rfl))); (try simp only [List.getElem_toArray, List.getElem_cons_zero, List.getElem_cons_succ, Act.put, List.setIfInBounds_toArray, List.set_cons_zero, List.set_cons_succ])); (refine wpAnyH_take (i := 9) (v := ?_) rfl (by kernel_rfl) (by kernel_rfl) (by kernel_rfl) (fun _ _ _ h => h) (Or.inl ⟨by rfl, ?_⟩) (by assumption) ?_; rotate_left 1; (focus (intro w hSw; (try dsimp only at hSw); go_simp; (try with_reducible rfl))); (try simp only [List.getElem_toArray, List.getElem_cons_zero, List.getElem_cons_succ, Act.put, List.setIfInBounds_toArray, List.set_cons_zero, List.set_cons_succ])); (refine wpAnyH_take (i := 10) (v := ?_) rfl (by kernel_rfl) (by kernel_rfl) (by kernel_rfl) (fun _ _ _ h => h) (Or.inl ⟨by rfl, ?_⟩) (by assumption) ?_; rotate_left 1; (focus (intro w hSw; (try dsimp only at hSw); go_simp; (try with_reducible rfl))); (try simp only [List.getElem_toArray, List.getElem_cons_zero, List.getElem_cons_succ, Act.put, List.setIfInBounds_toArray, List.set_cons_zero, List.set_cons_succ])); (refine wpAnyH_ready (rs := [11]) (by kernel_rfl) (by simp) ?_; refine AllReadyH.cons rfl (fun K hK => ?_) AllReadyH.nil; go_simp; go_at_call 90; refine (HR.out _ ((Chg.refl [] w).drewN _ |>.drew)).mono ?_; rintro e w1 ⟨rfl, hc3⟩; (refine hK.out _ _ (by exact ⟨hc3.cell hHeld.1 (by simp), hc3.cell hHeld.2.1 (by simp), hc3.cell hHeld.2.2 (by simp)⟩) (fun hHeld => ?_); clear hK K; (try simp only [List.getElem_toArray, List.getElem_cons_zero, List.getElem_cons_succ, Act.put, List.setIfInBounds_toArray, List.set_cons_zero, List.set_cons_succ]))); (refine wpAnyH_take (i := 12) (v := ?_) rfl (by kernel_rfl) (by kernel_rfl) (by kernel_rfl) (fun _ _ _ h => h) (Or.inl ⟨by rfl, ?_⟩) (by assumption) ?_; rotate_left 1; (focus (intro w hSw; (try dsimp only at hSw); go_simp; (try with_reducible rfl))); (try simp only [List.getElem_toArray, List.getElem_cons_zero, List.getElem_cons_succ, Act.put, List.setIfInBounds_toArray, List.set_cons_zero, List.set_cons_succ])); refine wpAnyH_done (by kernel_rfl) ?_ _)
        go_wp2_with (go_at_call 37; refine (HFL.out _ (((Chg.refl [] w).drewN _ |>.drew).trans' hc3) 82).mono ?_; rintro e w2 ⟨rfl, h2⟩)
        go_ret
        exact ⟨0, k, m, _, rfl, h2, Nat.le_refl _, .inr (.inl ⟨HF0.out, HTK.out⟩)⟩
    · rw [if_neg (fun e => hkd e.1)] at htk
      have e1 : ((t.kind : Int) == 1) = false := by simp; omega
      have HTK := hid htk
      obtain ⟨tk, htk0⟩ : ∃ tk : Int, (t.kind : Int) = tk := ⟨_, rfl⟩
      rw [htk0] at hkc e1
      clear h hi hd hf hh htk hN hkd htk0 hfr HR HRL
      go_enter Tryz.func63, Tryz.ntmps63
      go_upto_region 4 with (go_at_call 17; refine HOK.out.mono ?_; rintro e w1 ⟨rfl, rfl⟩)
      go_quiet (fail)
      go_wp2_with (go_at_call 37; refine (HFL.out _ (Chg.of_drewN [] w _) 82).mono ?_; rintro e w2 ⟨rfl, h2⟩)
      go_ret
      exact ⟨0, k, m, _, rfl, h2, Nat.le_refl _, .inr (.inl ⟨HF0.out, HTK.out⟩)⟩
  · have HOK := hid (y_ok_no h hf)
    have H := hid h
    have HF0 := hid hf
    clear h hi hd hf
    go_enter Tryz.func63, Tryz.ntmps63
    go_wp2_with (go_at_call 17; refine HOK.out.mono ?_; rintro e w1 ⟨rfl, rfl⟩)
    go_ret
    exact ⟨0, k, m, f, rfl, H.out, Nat.le_refl _, .inl ⟨HF0.out, rfl⟩⟩
end
end Go.Proofs.YtmahcabidggmeaaGreatDoor

/- The reference's reader: put. -/
set_option linter.unusedVariables false
set_option linter.unusedSectionVars false
set_option linter.unusedSimpArgs false
namespace Go.Proofs.YtmahcabidggmeaaGreatDoor
open Go.RowKit Go.AB
set_option linter.unusedSimpArgs false
set_option linter.unusedVariables false
set_option linter.unusedSectionVars false

section
variable {w0 w w' : World} {b k : Nat} {t : Tok} {all r : List Tok} {ds : List DcD} {q : RQ} {m : Nat} {f : Flt} {X : List It}
theorem yitem_more {w4 w41 w5 : World} {q4 : RQ} {m4 g L nn cap5 : Nat} {init : List BlO} {xb : BkD} {xa ao5 : Option Addr} {xc : Nat} {xr r5 : Option Nat} {I : List Value} {it : ItD} (h4 : RY w0 w4 b all k ds q4 m4 f X) (hq : q4.bs = init ++ [⟨xb, xa, xc, xr⟩]) (hg : q4.r1 = some g) (hm : m4 < m) (hm0 : m ≤ 2097152)
    (hL : xb.items.length = L) (hI : xb.items.flatMap itC = I) (hnn : init.length = nn) (hc1 : Chg [] w4 w41) (hr5 : Row w5 53 10 (.slice ao5 (L + 1) cap5) r5 (L + 1) (I ++ itC it)) (hg5 : Grew w41 w5 xr r5) :
    ∃ q'' : RQ, RY w0 (w5.setCell ⟨g, nn * 4 + 1, none⟩ (.slice ao5 (L + 1) cap5)) b all k ds q'' m f X ∧ q''.bks = putLast it q4.bks := by
  subst hL
  subst hI
  subst hnn
  have h6 := h4.item (init := init) (x := ⟨xb, xa, xc, xr⟩) (it := it) hq hg hc1 hr5 hg5 (by omega)
  refine ⟨_, h6.mono (by omega) hm0, ?_⟩
  unfold RQ.bks
  rw [hq]
  simp only [List.map_append, List.map_cons, List.map_nil]
  rw [putLast_snoc]
def YPutP (w0 : World) (b : Nat) (all : List Tok) (k : Nat) (ds : List DcD) (q : RQ) (m : Nat) (f : Flt) (X : List It) (it : ItD) (e : Ending) (w' : World) : Prop :=
  e = .returned (.tuple #[]) ∧ ∃ q'' : RQ, RY w0 w' b all k ds q'' (m + 1) f X ∧ q''.bks = putLast it q.bks
set_option maxHeartbeats 16000000 in
set_option maxRecDepth 100000 in
theorem y_put_calls (h : RY w0 w b all k ds q m f X) (hq : q.bks ≠ []) (hm : m < 2097152) (it : ItD) : Calls Tryz.prog 60 #[.pointer (some ⟨b, 0, none⟩), .agg (itC it).toArray] w (YPutP w0 b all k ds q m f X it) := by
  obtain ⟨init, x, hqi⟩ := RS.snoc q hq
  obtain ⟨op, ia, ib, ic, iN, inm, ip1, ip2, iq1, iq2⟩ := it
  have hbx := h.box (.cells #[.int .i64 op, .int .i64 ia, .int .i64 ib, .int .i64 ic, .int .i64 iN, .string inm, .int .i64 ip1, .int .i64 ip2, .int .i64 iq1, .int .i64 iq2] 53)
  obtain ⟨wA, hwA⟩ : ∃ wA, w.alloc (.cells #[.int .i64 op, .int .i64 ia, .int .i64 ib, .int .i64 ic, .int .i64 iN, .string inm, .int .i64 ip1, .int .i64 ip2, .int .i64 iq1, .int .i64 iq2] 53) = wA := ⟨_, rfl⟩
  obtain ⟨P, hP⟩ : ∃ P, w.heap.size = P := ⟨_, rfl⟩
  rw [hwA, hP] at hbx
  obtain ⟨g, hg, ha, hp0, hpf, hrow, hgb, hxr⟩ := hbx.last hqi
  have bx := hbx.getX (j := 0) rfl
  have x0 : wA.cell? ⟨P, 0, none⟩ = some (.int .i64 op) := blk_cell bx 0
  have x1 : wA.cell? ⟨P, 1, none⟩ = some (.int .i64 ia) := blk_cell bx 1
  have x2 : wA.cell? ⟨P, 2, none⟩ = some (.int .i64 ib) := blk_cell bx 2
  have x3 : wA.cell? ⟨P, 3, none⟩ = some (.int .i64 ic) := blk_cell bx 3
  have x4 : wA.cell? ⟨P, 4, none⟩ = some (.int .i64 iN) := blk_cell bx 4
  have x5 : wA.cell? ⟨P, 5, none⟩ = some (.string inm) := blk_cell bx 5
  have x6 : wA.cell? ⟨P, 6, none⟩ = some (.int .i64 ip1) := blk_cell bx 6
  have x7 : wA.cell? ⟨P, 7, none⟩ = some (.int .i64 ip2) := blk_cell bx 7
  have x8 : wA.cell? ⟨P, 8, none⟩ = some (.int .i64 iq1) := blk_cell bx 8
  have x9 : wA.cell? ⟨P, 9, none⟩ = some (.int .i64 iq2) := blk_cell bx 9
  have c3 := hbx.c3
  have hl : q.bs.length = init.length + 1 := by rw [hqi]; simp
  have hsm := hbx.lb
  have hm2 := hbx.sm.2
  rw [hl] at hsm
  rw [hl, ha] at c3
  have hPb : P ≠ b := hbx.neX (j := 0) rfl (g := P) rfl
  have hPg : P ≠ g := by
    intro e
    exact hbx.hp.ne (i := 2) (j := (ryI b all.length k ds q f).length + 0) (x := rsBlocks q) (y := .box P _) rfl (by rw [List.getElem?_append_right (by omega), Nat.add_sub_cancel_left]; rfl) (by unfold ryI; simp only [List.length_cons]; omega) (g := g) hg (by rw [← e]; rfl)
  have HRX : Hid (P ∉ x.r.toList) := hid (fun hm => by
    have hix : (ryI b all.length k ds q f ++ .box P (.cells #[.int .i64 op, .int .i64 ia, .int .i64 ib, .int .i64 ic, .int .i64 iN, .string inm, .int .i64 ip1, .int .i64 ip2, .int .i64 iq1, .int .i64 iq2] 53 (0, 0)) :: X)[3 + init.length]? = some (itRow x) := RY.ix q hqi
    exact hbx.hp.ne (i := 3 + init.length) (j := (ryI b all.length k ds q f).length + 0) hix (by rw [List.getElem?_append_right (by omega), Nat.add_sub_cancel_left]; rfl) (by unfold ryI; rw [hqi]; simp; omega) (g := P) (by simpa [itRow, It.blk] using hm) rfl)
  have HRB : Hid (b ∉ x.r.toList) := hid (fun hm => by
    have hix : (ryI b all.length k ds q f ++ .box P (.cells #[.int .i64 op, .int .i64 ia, .int .i64 ib, .int .i64 ic, .int .i64 iN, .string inm, .int .i64 ip1, .int .i64 ip2, .int .i64 iq1, .int .i64 iq2] 53 (0, 0)) :: X)[3 + init.length]? = some (itRow x) := RY.ix q hqi
    exact hbx.hp.ne (i := 3 + init.length) (j := 0) (x := itRow x) (y := ryBox b all.length k ds.length q f) hix rfl (by omega) (g := b) (by simpa [itRow, It.blk] using hm) rfl)
  have hitl := hbx.li x (by rw [hqi]; simp)
  obtain ⟨xb, xa, xc, xr⟩ := x
  simp only [BlO.v] at hp0 hrow hxr hitl HRX HRB
  obtain ⟨L, hL⟩ : ∃ L, xb.items.length = L := ⟨_, rfl⟩
  obtain ⟨I, hI⟩ : ∃ I, xb.items.flatMap itC = I := ⟨_, rfl⟩
  obtain ⟨nn, hnn⟩ : ∃ nn, init.length = nn := ⟨_, rfl⟩
  rw [hL, hI] at hrow
  rw [hL] at hp0 hitl
  rw [hnn] at hp0 hpf c3 hsm
  have hitl2 : L ≤ 2097152 := by omega
  have hglt := World.block_lt_of_cell? _ _ hp0
  simp only at hglt
  have p0d : ∀ o, (wA.drew.alloc o).cell? ⟨g, nn * 4 + 1, none⟩ = some (.slice xa L xc) := fun o => (((Chg.refl [] wA).drew).alloc o).cell hp0 (by simp)
  have HH := hid (And.intro hbx (And.intro hrow (And.intro hL (And.intro hI (And.intro hnn (And.intro hqi (And.intro hg hm)))))))
  have HXR := hid hxr
  have i1 : (0 : Int) ≤ (nn : Int) := by omega
  have i2 : (nn : Int) < ((nn + 1 : Nat) : Int) := by omega
  have i3 : (nn : Int) < (nn : Int) + 1 := by omega
  have i4 : wrap64 (nn : Int) = (nn : Int) := by unfold wrap64; omega
  clear hbx hrow hL hI hnn hxr hqi hg ha bx hitl hm hq h hl hm2
  show Calls Tryz.prog 60 #[.pointer (some ⟨b, 0, none⟩), .agg #[.int .i64 op, .int .i64 ia, .int .i64 ib, .int .i64 ic, .int .i64 iN, .string inm, .int .i64 ip1, .int .i64 ip2, .int .i64 iq1, .int .i64 iq2]] w _
  go_enter Tryz.func60, Tryz.ntmps60
  go_upto_region 1 with fail
  try rw [hwA]
  try rw [hP]
  clear hwA hP
  go_upto_region 2 with fail
  (refine wp_region_held_drew (S := (fun w' => w'.cell? ⟨b, 3, none⟩ = some (.slice (some ⟨g, 0, none⟩) (nn + 1) q.c1) ∧ w'.cell? ⟨P, 0, none⟩ = some (.int .i64 op) ∧ w'.cell? ⟨P, 1, none⟩ = some (.int .i64 ia) ∧ w'.cell? ⟨P, 2, none⟩ = some (.int .i64 ib) ∧ w'.cell? ⟨P, 3, none⟩ = some (.int .i64 ic) ∧ w'.cell? ⟨P, 4, none⟩ = some (.int .i64 iN) ∧ w'.cell? ⟨P, 5, none⟩ = some (.string inm) ∧ w'.cell? ⟨P, 6, none⟩ = some (.int .i64 ip1) ∧ w'.cell? ⟨P, 7, none⟩ = some (.int .i64 ip2) ∧ w'.cell? ⟨P, 8, none⟩ = some (.int .i64 iq1) ∧ w'.cell? ⟨P, 9, none⟩ = some (.int .i64 iq2))) (by kernel_rfl) (by exact ⟨c3, x0, x1, x2, x3, x4, x5, x6, x7, x8, x9⟩) (fun hHeld => ?_); (refine wpAnyH_take (i := 0) (v := ?_) rfl (by kernel_rfl) (by kernel_rfl) (by kernel_rfl) (fun _ _ _ h => h) (Or.inl ⟨by rfl, ?_⟩) (by assumption) ?_; rotate_left 1; (focus (intro w hSw; (try dsimp only at hSw); go_simp; (try with_reducible rfl))); (try simp only [List.getElem_toArray, List.getElem_cons_zero, List.getElem_cons_succ, Act.put, List.setIfInBounds_toArray, List.set_cons_zero, List.set_cons_succ])); (refine wpAnyH_take (i := 1) (v := ?_) rfl (by kernel_rfl) (by kernel_rfl) (by kernel_rfl) (fun _ _ _ h => h) (Or.inl ⟨by rfl, ?_⟩) (by assumption) ?_; rotate_left 1; (focus (intro w hSw; (try dsimp only at hSw); go_simp; (try with_reducible rfl))); (try simp only [List.getElem_toArray, List.getElem_cons_zero, List.getElem_cons_succ, Act.put, List.setIfInBounds_toArray, List.set_cons_zero, List.set_cons_succ])); (refine wpAnyH_take (i := 2) (v := ?_) rfl (by kernel_rfl) (by kernel_rfl) (by kernel_rfl) (fun _ _ _ h => h) (Or.inl ⟨by rfl, ?_⟩) (by assumption) ?_; rotate_left 1; (focus (intro w hSw; (try dsimp only at hSw); go_simp; (try with_reducible rfl))); (try simp only [List.getElem_toArray, List.getElem_cons_zero, List.getElem_cons_succ, Act.put, List.setIfInBounds_toArray, List.set_cons_zero, List.set_cons_succ])); (refine wpAnyH_take (i := 3) (v := ?_) rfl (by kernel_rfl) (by kernel_rfl) (by kernel_rfl) (fun _ _ _ h => h) (Or.inl ⟨by rfl, ?_⟩) (by assumption) ?_; rotate_left 1; (focus (intro w hSw; (try dsimp only at hSw); go_simp; (try with_reducible rfl))); (try simp only [List.getElem_toArray, List.getElem_cons_zero, List.getElem_cons_succ, Act.put, List.setIfInBounds_toArray, List.set_cons_zero, List.set_cons_succ])); (refine wpAnyH_take (i := 4) (v := ?_) rfl (by kernel_rfl) (by kernel_rfl) (by kernel_rfl) (fun _ _ _ h => h) (Or.inl ⟨by rfl, ?_⟩) (by assumption) ?_; rotate_left 1; (focus (intro w hSw; (try dsimp only at hSw); go_simp; (try with_reducible rfl))); (try simp only [List.getElem_toArray, List.getElem_cons_zero, List.getElem_cons_succ, Act.put, List.setIfInBounds_toArray, List.set_cons_zero, List.set_cons_succ])); (refine wpAnyH_take (i := 5) (v := ?_) rfl (by kernel_rfl) (by kernel_rfl) (by kernel_rfl) (fun _ _ _ h => h) (Or.inl ⟨by rfl, ?_⟩) (by assumption) ?_; rotate_left 1; (focus (intro w hSw; (try dsimp only at hSw); go_simp; (try with_reducible rfl))); (try simp only [List.getElem_toArray, List.getElem_cons_zero, List.getElem_cons_succ, Act.put, List.setIfInBounds_toArray, List.set_cons_zero, List.set_cons_succ])); (refine wpAnyH_take (i := 6) (v := ?_) rfl (by kernel_rfl) (by kernel_rfl) (by kernel_rfl) (fun _ _ _ h => h) (Or.inl ⟨by rfl, ?_⟩) (by assumption) ?_; rotate_left 1; (focus (intro w hSw; (try dsimp only at hSw); go_simp; (try with_reducible rfl))); (try simp only [List.getElem_toArray, List.getElem_cons_zero, List.getElem_cons_succ, Act.put, List.setIfInBounds_toArray, List.set_cons_zero, List.set_cons_succ])); (refine wpAnyH_take (i := 7) (v := ?_) rfl (by kernel_rfl) (by kernel_rfl) (by kernel_rfl) (fun _ _ _ h => h) (Or.inl ⟨by rfl, ?_⟩) (by assumption) ?_; rotate_left 1; (focus (intro w hSw; (try dsimp only at hSw); go_simp; (try with_reducible rfl))); (try simp only [List.getElem_toArray, List.getElem_cons_zero, List.getElem_cons_succ, Act.put, List.setIfInBounds_toArray, List.set_cons_zero, List.set_cons_succ])); (refine wpAnyH_take (i := 8) (v := ?_) rfl (by kernel_rfl) (by kernel_rfl) (by kernel_rfl) (fun _ _ _ h => h) (Or.inl ⟨by rfl, ?_⟩) (by assumption) ?_; rotate_left 1; (focus (intro w hSw; (try dsimp only at hSw); go_simp; (try with_reducible rfl))); (try simp only [List.getElem_toArray, List.getElem_cons_zero, List.getElem_cons_succ, Act.put, List.setIfInBounds_toArray, List.set_cons_zero, List.set_cons_succ])); (refine wpAnyH_take (i := 9) (v := ?_) rfl (by kernel_rfl) (by kernel_rfl) (by kernel_rfl) (fun _ _ _ h => h) (Or.inl ⟨by rfl, ?_⟩) (by assumption) ?_; rotate_left 1; (focus (intro w hSw; (try dsimp only at hSw); go_simp; (try with_reducible rfl))); (try simp only [List.getElem_toArray, List.getElem_cons_zero, List.getElem_cons_succ, Act.put, List.setIfInBounds_toArray, List.set_cons_zero, List.set_cons_succ])); (refine wpAnyH_take (i := 10) (v := ?_) rfl (by kernel_rfl) (by kernel_rfl) (by kernel_rfl) (fun _ _ _ h => h) (Or.inl ⟨by rfl, ?_⟩) (by assumption) ?_; rotate_left 1; (focus (intro w hSw; (try dsimp only at hSw); go_simp; (try with_reducible rfl))); (try simp only [List.getElem_toArray, List.getElem_cons_zero, List.getElem_cons_succ, Act.put, List.setIfInBounds_toArray, List.set_cons_zero, List.set_cons_succ])); (refine wpAnyH_take (i := 11) (v := ?_) rfl (by kernel_rfl) (by kernel_rfl) (by kernel_rfl) (fun _ _ _ h => h) (Or.inl ⟨by rfl, ?_⟩) (by assumption) ?_; rotate_left 1; (focus (intro w hSw; (try dsimp only at hSw); go_simp; (try with_reducible rfl))); (try simp only [List.getElem_toArray, List.getElem_cons_zero, List.getElem_cons_succ, Act.put, List.setIfInBounds_toArray, List.set_cons_zero, List.set_cons_succ])); (refine wpAnyH_take (i := 12) (v := ?_) rfl (by kernel_rfl) (by kernel_rfl) (by kernel_rfl) (fun _ _ _ h => h) (Or.inl ⟨by rfl, ?_⟩) (by assumption) ?_; rotate_left 1; (focus (intro w hSw; (try dsimp only at hSw); go_simp; (try with_reducible rfl))); (try simp only [List.getElem_toArray, List.getElem_cons_zero, List.getElem_cons_succ, Act.put, List.setIfInBounds_toArray, List.set_cons_zero, List.set_cons_succ])); (refine wpAnyH_take (i := 13) (v := ?_) rfl (by kernel_rfl) (by kernel_rfl) (by kernel_rfl) (fun _ _ _ h => h) (Or.inl ⟨by rfl, ?_⟩) (by assumption) ?_; rotate_left 1; (focus (intro w hSw; (try dsimp only at hSw); go_simp; (try with_reducible rfl))); (try simp only [List.getElem_toArray, List.getElem_cons_zero, List.getElem_cons_succ, Act.put, List.setIfInBounds_toArray, List.set_cons_zero, List.set_cons_succ])); (refine wpAnyH_take (i := 15) (v := ?_) rfl (by kernel_rfl) (by kernel_rfl) (by kernel_rfl) (fun _ _ _ h => h) (Or.inl ⟨by rfl, ?_⟩) (by assumption) ?_; rotate_left 1; (focus (intro w hSw; (try dsimp only at hSw); go_simp; (try with_reducible rfl))); (try simp only [List.getElem_toArray, List.getElem_cons_zero, List.getElem_cons_succ, Act.put, List.setIfInBounds_toArray, List.set_cons_zero, List.set_cons_succ])); (refine wpAnyH_ready (rs := [14, 16]) (by kernel_rfl) (by simp) ?_; refine AllReadyH.cons rfl (fun K hK => ?_) (AllReadyH.cons rfl (fun K hK => ?_) AllReadyH.nil)); (focus (go_simp; (refine hK.out _ _ (by exact hHeld) (fun hHeld => ?_); clear hK K; (try simp only [List.getElem_toArray, List.getElem_cons_zero, List.getElem_cons_succ, Act.put, List.setIfInBounds_toArray, List.set_cons_zero, List.set_cons_succ])); (refine wpAnyH_ready (rs := [16]) (by kernel_rfl) (by simp) ?_; refine AllReadyH.cons rfl (fun K hK => ?_) AllReadyH.nil; go_simp; (refine hK.out _ _ (by exact ⟨((Chg.refl [] _).alloc _).cell hHeld.1 (by simp), t10_keep ((Chg.refl [] _).alloc _) (by simp) hHeld.2⟩) (fun hHeld => ?_); clear hK K; (try simp only [List.getElem_toArray, List.getElem_cons_zero, List.getElem_cons_succ, Act.put, List.setIfInBounds_toArray, List.set_cons_zero, List.set_cons_succ]))))); rotate_left 1; (focus (go_simp; (refine hK.out _ _ (by exact ⟨((Chg.refl [] _).alloc _).cell hHeld.1 (by simp), t10_keep ((Chg.refl [] _).alloc _) (by simp) hHeld.2⟩) (fun hHeld => ?_); clear hK K; (try simp only [List.getElem_toArray, List.getElem_cons_zero, List.getElem_cons_succ, Act.put, List.setIfInBounds_toArray, List.set_cons_zero, List.set_cons_succ])); (refine wpAnyH_ready (rs := [14]) (by kernel_rfl) (by simp) ?_; refine AllReadyH.cons rfl (fun K hK => ?_) AllReadyH.nil; go_simp; (refine hK.out _ _ (by exact hHeld) (fun hHeld => ?_); clear hK K; (try simp only [List.getElem_toArray, List.getElem_cons_zero, List.getElem_cons_succ, Act.put, List.setIfInBounds_toArray, List.set_cons_zero, List.set_cons_succ]))))); (all_goals ((refine wpAnyH_ready (rs := [17]) (by kernel_rfl) (by simp) ?_; refine AllReadyH.cons rfl (fun K hK => ?_) AllReadyH.nil; refine step_grew rfl _ _ 48 rfl elem_itm rfl (HH.out.2.1.keep (((Chg.refl [] wA).drew).alloc _) (by simp)) rfl (View.structAt wA.drew [.int .i64 op, .int .i64 ia, .int .i64 ib, .int .i64 ic, .int .i64 iN, .string inm, .int .i64 ip1, .int .i64 ip2, .int .i64 iq1, .int .i64 iq2] 53 rfl rfl) (by simp [Value.oneCell']) (by unfold maxLen; omega) (by omega) (fun ao5 cap5 r5 w5 hr5 hg5 => ?_); (refine hK.out _ _ (by exact ⟨hg5.chg.cell hHeld.1 HRB.out, t10_keep hg5.chg HRX.out hHeld.2⟩) (fun hHeld => ?_); clear hK K; (try simp only [List.getElem_toArray, List.getElem_cons_zero, List.getElem_cons_succ, Act.put, List.setIfInBounds_toArray, List.set_cons_zero, List.set_cons_succ]))); (refine wpAnyH_take (i := 18) (v := ?_) rfl (by kernel_rfl) (by kernel_rfl) (by kernel_rfl) (fun _ _ _ h => h) (Or.inl ⟨by rfl, ?_⟩) (by assumption) ?_; rotate_left 1; (focus (intro w hSw; (try dsimp only at hSw); go_simp; (try with_reducible rfl))); (try simp only [List.getElem_toArray, List.getElem_cons_zero, List.getElem_cons_succ, Act.put, List.setIfInBounds_toArray, List.set_cons_zero, List.set_cons_succ])); (refine wpAnyH_take (i := 19) (v := ?_) rfl (by kernel_rfl) (by kernel_rfl) (by kernel_rfl) (fun _ _ _ h => h) (Or.inl ⟨by rfl, ?_⟩) (by assumption) ?_; rotate_left 1; (focus (intro w hSw; (try dsimp only at hSw); go_simp; (try with_reducible rfl))); (try simp only [List.getElem_toArray, List.getElem_cons_zero, List.getElem_cons_succ, Act.put, List.setIfInBounds_toArray, List.set_cons_zero, List.set_cons_succ])); (refine wpAnyH_ready (rs := [20]) (by kernel_rfl) (by simp) ?_; refine AllReadyH.cons rfl (fun K hK => ?_) AllReadyH.nil; go_simp; (have p5 : w5.cell? ⟨g, nn * 4 + 1, none⟩ = some (.slice xa L xc) := hg5.chg.cell (p0d _) (fun hm => HXR.out (by simpa using hm)); have f5 : w5.frozen? ⟨g, nn * 4 + 1, none⟩ = false := hg5.chg.free (p0d _) ((((Chg.refl [] wA).drew).alloc _).free hp0 hpf (by simp)) (fun hm => HXR.out (by simpa using hm)); go_simp); (refine hK.out _ _ (by exact ⟨((Chg.refl [g] w5).setCell (p := ⟨g, nn * 4 + 1, none⟩) (.inl (by simp)) _).cell hHeld.1 (by simp; omega), t10_keep ((Chg.refl [g] w5).setCell (p := ⟨g, nn * 4 + 1, none⟩) (.inl (by simp)) _) (by simp; omega) hHeld.2⟩) (fun hHeld => ?_); clear hK K; (try simp only [List.getElem_toArray, List.getElem_cons_zero, List.getElem_cons_succ, Act.put, List.setIfInBounds_toArray, List.set_cons_zero, List.set_cons_succ]))); refine wpAnyH_done (by kernel_rfl) ?_ _)))
  all_goals
    go_wp2_with fail
    go_end0
    obtain ⟨q'', hz1, hz2⟩ := yitem_more (m := m + 1) HH.out.1 HH.out.2.2.2.2.2.1 HH.out.2.2.2.2.2.2.1 (by omega) (by have := HH.out.2.2.2.2.2.2.2; omega) HH.out.2.2.1 HH.out.2.2.2.1 HH.out.2.2.2.2.1 (((Chg.refl [] wA).drew).alloc _) (it := ⟨op, ia, ib, ic, iN, inm, ip1, ip2, iq1, iq2⟩) hr5 hg5
    exact ⟨rfl, q'', hz1.subX (.cons _ (.refl _)), hz2⟩
end
end Go.Proofs.YtmahcabidggmeaaGreatDoor

/- The reference's reader: labels. (Printed by gen_ylabels.py.) -/
set_option linter.unusedVariables false
set_option linter.unusedSectionVars false
set_option linter.unusedSimpArgs false
namespace Go.Proofs.YtmahcabidggmeaaGreatDoor
open Go.RowKit Go.AB
set_option linter.unusedSimpArgs false
set_option linter.unusedVariables false
set_option linter.unusedSectionVars false

section
variable {w0 w w' : World} {b k : Nat} {t c : Tok} {all r : List Tok} {ds : List DcD} {q : RQ} {m : Nat} {f : Flt} {X : List It}
theorem RY.two (h : RY w0 w b all k ds q m f X) (hi : all[k]? = some t) (h7 : t.kind ≠ 7) : ∃ c, all[k + 1]? = some c ∧ all.drop k = t :: c :: all.drop (k + 2) := by
  have hd := drop_cons hi
  have h5 := h.e7
  rw [hd] at h5
  obtain ⟨c, r', hr⟩ := h5.two h7
  obtain ⟨h1, h2⟩ := drop_head hr
  refine ⟨c, h1, ?_⟩
  rw [hd, hr, ← h2]
theorem RY.next2 (h : RY w0 w b all k ds q m f X) (hi : all[k]? = some t) (h7 : t.kind ≠ 7) (hi2 : all[k + 1]? = some c) (h72 : c.kind ≠ 7) {z : Int} (hz : z = (k : Int) + 2) : RY w0 (w.setCell ⟨b, 1, none⟩ (.int .i64 z)) b all (k + 2) ds q (m - 2) f X ∧ 1 < m := by
  have hd := drop_cons hi
  have hd2 := drop_cons hi2
  obtain ⟨hlt2, _⟩ := List.getElem?_eq_some_iff.1 hi2
  have h1 := h.ld
  have h2 := h.lb
  have h3 := h.li
  have h4 := h.sm
  have h5 := h.e7
  rw [hd] at h5
  have h6 := h5.tail h7
  rw [hd2] at h6
  refine ⟨⟨?_, h.tok, h6.tail h72, by omega, by omega, fun x hx => by have := h3 x hx; omega, ⟨h4.1, by omega⟩, h.tx⟩, by omega⟩
  have e : z = ((k + 2 : Nat) : Int) := by omega
  rw [e]
  exact h.hp.put 0 rfl 1 _ rfl
theorem RY.put5 {p : Nat} {a0 a1 a2 a3 a4 : Value} {T : TypeId} (h : RY w0 w b all k ds q m f (.box p (.cells #[a0, a1, a2, a3, a4] T (0, 0)) :: X)) (v0 v1 v2 v3 v4 : Value) :
    RY w0 (((((w.setCell ⟨p, 0, none⟩ v0).setCell ⟨p, 1, none⟩ v1).setCell ⟨p, 2, none⟩ v2).setCell ⟨p, 3, none⟩ v3).setCell ⟨p, 4, none⟩ v4) b all k ds q m f (.box p (.cells #[v0, v1, v2, v3, v4] T (0, 0)) :: X) :=
  ((((h.putX 0 rfl 0 v0 rfl).putX 0 rfl 1 v1 rfl).putX 0 rfl 2 v2 rfl).putX 0 rfl 3 v3 rfl).putX 0 rfl 4 v4 rfl
theorem RY.head_at (h : RY w0 w b all k ds q m f X) {i : Nat} (hi : all[i]? = some t) : w.cell? ⟨q.tb, q.off + i * 5, none⟩ = some (.int .i64 t.kind) ∧ w.cell? ⟨q.tb, q.off + i * 5 + 1, none⟩ = some (.string (bA t.text)) ∧ w.cell? ⟨q.tb, q.off + i * 5 + 2, none⟩ = some (.int .i64 t.num) ∧ w.cell? ⟨q.tb, q.off + i * 5 + 3, none⟩ = some (.int .i64 t.line) ∧ w.cell? ⟨q.tb, q.off + i * 5 + 4, none⟩ = some (.int .i64 t.col) :=
  ⟨h.tk hi (j := 0) (by omega), h.tk hi (j := 1) (by omega), h.tk hi (j := 2) (by omega), h.tk hi (j := 3) (by omega), h.tk hi (j := 4) (by omega)⟩
def YLabP (w0 : World) (b : Nat) (all : List Tok) (ds : List DcD) (m : Nat) (f : Flt) (X : List It) (G : Except Flt (List Tok × List BkD × Bool)) (e : Ending) (w' : World) : Prop :=
  ∃ (n : Nat) (k' : Nat) (q' : RQ) (m' : Nat) (f' : Flt), e = .returned (.int .i64 n) ∧ RY w0 w' b all k' ds q' m' f' X ∧ m' ≤ m ∧ (G = .error f' ∨ (f' = f ∧ ∃ any, G = .ok (all.drop k', q'.bks, any) ∧ (n = 0 ↔ any = false)))
set_option maxHeartbeats 32000000 in
set_option maxRecDepth 100000 in
theorem y_labels_calls (h : RY w0 w b all k ds q m f X) (hf : f.code = 0) (hm : m < 2097152) (hv : VarsP w0) : Calls Tryz.prog 31 #[.pointer (some ⟨b, 0, none⟩)] w (YLabP w0 b all ds m f X (labelsD (all.drop k) q.bks false)) := by
  obtain ⟨G, hG⟩ : ∃ G, labelsD (all.drop k) q.bks false = G := ⟨_, rfl⟩
  rw [hG]
  have HV := hid hv
  have HF0 := hid hf
  have H0 := hid (And.intro h hG)
  obtain ⟨N, hN⟩ : ∃ N, all.length = N := ⟨_, rfl⟩
  have HN0 := hid hN
  have HMX := hid hm
  have hsmN : N ≤ 2097152 := by rw [← hN]; exact h.sm.1
  have hkN : k < N := by rw [← hN]; exact h.lt
  clear h hG hN hf hv hm
  go_enter Tryz.func31, Tryz.ntmps31
  go_wp2
  go_loopg [3] (N - k) (fun gk va wr => ∃ (k' n : Nat) (q' : RQ) (m' : Nat) (any : Bool), va = .int .i64 n ∧ Hid (gk = N - k') ∧ Hid (m' ≤ m ∧ n ≤ k' ∧ (n = 0 ↔ any = false) ∧ RY w0 wr b all k' ds q' m' f X ∧ labelsD (all.drop k') q'.bks any = G))
  case atStart => exact ⟨k, 0, q, m, false, rfl, hid rfl, hid ⟨Nat.le_refl _, Nat.zero_le _, by simp, H0.out⟩⟩
  case round =>
    obtain ⟨k', n, q', m', any, rfl, HG, HR⟩ := hrel
    obtain ⟨hmm, hnk, hna, hr, hlab⟩ := HR.out
    obtain ⟨t, hi, hd⟩ := hr.cons
    have hlt := hr.lt
    rw [HN0.out] at hlt
    have HS := hid fun W (hc : Chg [] wr W) => hr.same hc
    have HOK := hid fun W (hc : Chg [] wr W) => y_ok_yes (hr.same hc) HF0.out
    have HFR := hid fun W (hc : Chg [] wr W) => y_free_calls (hr.same hc) hi HV.out
    have hc0 := hr.c0
    have hc1 := hr.c1
    rw [HN0.out] at hc0
    have HM := hid (And.intro hmm (And.intro hnk hna))
    cases hfb : freeB t with
    | false =>
      rw [hfb] at HFR
      rw [hd, labels_no hfb, ← hd] at hlab
      have HL := hid hlab
      clear hlab hfb hi hd hr HR hmm hnk hna
      go_upto_region 2 with fail
      (refine wp_region_held_drew (S := (fun w' => w'.cell? ⟨b, 0, none⟩ = some (.slice (some ⟨q'.tb, q'.off, none⟩) N q'.tc) ∧ w'.cell? ⟨b, 1, none⟩ = some (.int .i64 k'))) (by kernel_rfl) (by exact ⟨hc0, hc1⟩) (fun hHeld => ?_); (refine wpAnyH_take (i := 0) (v := ?_) rfl (by kernel_rfl) (by kernel_rfl) (by kernel_rfl) (fun _ _ _ h => h) (Or.inl ⟨by rfl, ?_⟩) (by assumption) ?_; rotate_left 1; (focus (intro w hSw; (try dsimp only at hSw); go_simp; (try with_reducible rfl))); (try simp only [List.getElem_toArray, List.getElem_cons_zero, List.getElem_cons_succ, Act.put, List.setIfInBounds_toArray, List.set_cons_zero, List.set_cons_succ])); (refine wpAnyH_ready (rs := [1]) (by kernel_rfl) (by simp) ?_; refine AllReadyH.cons rfl (fun K hK => ?_) AllReadyH.nil; go_simp; go_at_call 17; refine (HOK.out _ (Chg.refl [] wr).drew).mono ?_; rintro e w1 ⟨rfl, rfl⟩; (refine hK.out _ _ (by exact hHeld) (fun hHeld => ?_); clear hK K; (try simp only [List.getElem_toArray, List.getElem_cons_zero, List.getElem_cons_succ, Act.put, List.setIfInBounds_toArray, List.set_cons_zero, List.set_cons_succ]))); (refine wpAnyH_take (i := 2) (v := ?_) rfl (by kernel_rfl) (by kernel_rfl) (by kernel_rfl) (fun _ _ _ h => h) (Or.inl ⟨by rfl, ?_⟩) (by assumption) ?_; rotate_left 1; (focus (intro w hSw; (try dsimp only at hSw); go_simp; (try with_reducible rfl))); (try simp only [List.getElem_toArray, List.getElem_cons_zero, List.getElem_cons_succ, Act.put, List.setIfInBounds_toArray, List.set_cons_zero, List.set_cons_succ])); (refine wpAnyH_take (i := 3) (v := ?_) rfl (by kernel_rfl) (by kernel_rfl) (by kernel_rfl) (fun _ _ _ h => h) (Or.inl ⟨by rfl, ?_⟩) (by assumption) ?_; rotate_left 1; (focus (intro w hSw; (try dsimp only at hSw); go_simp; (try with_reducible rfl))); (try simp only [List.getElem_toArray, List.getElem_cons_zero, List.getElem_cons_succ, Act.put, List.setIfInBounds_toArray, List.set_cons_zero, List.set_cons_succ])); (refine wpAnyH_ready (rs := [4]) (by kernel_rfl) (by simp) ?_; refine AllReadyH.cons rfl (fun K hK => ?_) AllReadyH.nil; go_simp; go_at_call 59; refine (HFR.out _ (Chg.refl [] wr).drew).mono ?_; rintro e w2 ⟨rfl, hc2⟩; (refine hK.out _ _ (by exact ⟨hc2.cell hHeld.1 (by simp), hc2.cell hHeld.2 (by simp)⟩) (fun hHeld => ?_); clear hK K; (try simp only [List.getElem_toArray, List.getElem_cons_zero, List.getElem_cons_succ, Act.put, List.setIfInBounds_toArray, List.set_cons_zero, List.set_cons_succ]))); (refine wpAnyH_take (i := 5) (v := ?_) rfl (by kernel_rfl) (by kernel_rfl) (by kernel_rfl) (fun _ _ _ h => h) (Or.inl ⟨by rfl, ?_⟩) (by assumption) ?_; rotate_left 1; (focus (intro w hSw; (try dsimp only at hSw); go_simp; (try with_reducible rfl))); (try simp only [List.getElem_toArray, List.getElem_cons_zero, List.getElem_cons_succ, Act.put, List.setIfInBounds_toArray, List.set_cons_zero, List.set_cons_succ])); (refine wpAnyH_take (i := 6) (v := ?_) rfl (by kernel_rfl) (by kernel_rfl) (by kernel_rfl) (fun _ _ _ h => h) (Or.inl ⟨by rfl, ?_⟩) (by assumption) ?_; rotate_left 1; (focus (intro w hSw; (try dsimp only at hSw); go_simp; (try with_reducible rfl))); (try simp only [List.getElem_toArray, List.getElem_cons_zero, List.getElem_cons_succ, Act.put, List.setIfInBounds_toArray, List.set_cons_zero, List.set_cons_succ])); (refine wpAnyH_take (i := 7) (v := undef) rfl (by kernel_rfl) (by kernel_rfl) (by kernel_rfl) (fun _ _ _ h => h) (Or.inr ⟨by rfl, rfl⟩) (by assumption) ?_; (try simp only [List.getElem_toArray, List.getElem_cons_zero, List.getElem_cons_succ, Act.put, List.setIfInBounds_toArray, List.set_cons_zero, List.set_cons_succ])); (refine wpAnyH_take (i := 8) (v := undef) rfl (by kernel_rfl) (by kernel_rfl) (by kernel_rfl) (fun _ _ _ h => h) (Or.inr ⟨by rfl, rfl⟩) (by assumption) ?_; (try simp only [List.getElem_toArray, List.getElem_cons_zero, List.getElem_cons_succ, Act.put, List.setIfInBounds_toArray, List.set_cons_zero, List.set_cons_succ])); (refine wpAnyH_take (i := 9) (v := undef) rfl (by kernel_rfl) (by kernel_rfl) (by kernel_rfl) (fun _ _ _ h => h) (Or.inr ⟨by rfl, rfl⟩) (by assumption) ?_; (try simp only [List.getElem_toArray, List.getElem_cons_zero, List.getElem_cons_succ, Act.put, List.setIfInBounds_toArray, List.set_cons_zero, List.set_cons_succ])); (refine wpAnyH_take (i := 10) (v := undef) rfl (by kernel_rfl) (by kernel_rfl) (by kernel_rfl) (fun _ _ _ h => h) (Or.inr ⟨by rfl, rfl⟩) (by assumption) ?_; (try simp only [List.getElem_toArray, List.getElem_cons_zero, List.getElem_cons_succ, Act.put, List.setIfInBounds_toArray, List.set_cons_zero, List.set_cons_succ])); (refine wpAnyH_take (i := 11) (v := undef) rfl (by kernel_rfl) (by kernel_rfl) (by kernel_rfl) (fun _ _ _ h => h) (Or.inr ⟨by rfl, rfl⟩) (by assumption) ?_; (try simp only [List.getElem_toArray, List.getElem_cons_zero, List.getElem_cons_succ, Act.put, List.setIfInBounds_toArray, List.set_cons_zero, List.set_cons_succ])); (refine wpAnyH_take (i := 12) (v := undef) rfl (by kernel_rfl) (by kernel_rfl) (by kernel_rfl) (fun _ _ _ h => h) (Or.inr ⟨by rfl, rfl⟩) (by assumption) ?_; (try simp only [List.getElem_toArray, List.getElem_cons_zero, List.getElem_cons_succ, Act.put, List.setIfInBounds_toArray, List.set_cons_zero, List.set_cons_succ])); (refine wpAnyH_take (i := 13) (v := undef) rfl (by kernel_rfl) (by kernel_rfl) (by kernel_rfl) (fun _ _ _ h => h) (Or.inr ⟨by rfl, rfl⟩) (by assumption) ?_; (try simp only [List.getElem_toArray, List.getElem_cons_zero, List.getElem_cons_succ, Act.put, List.setIfInBounds_toArray, List.set_cons_zero, List.set_cons_succ])); (refine wpAnyH_take (i := 14) (v := undef) rfl (by kernel_rfl) (by kernel_rfl) (by kernel_rfl) (fun _ _ _ h => h) (Or.inr ⟨by rfl, rfl⟩) (by assumption) ?_; (try simp only [List.getElem_toArray, List.getElem_cons_zero, List.getElem_cons_succ, Act.put, List.setIfInBounds_toArray, List.set_cons_zero, List.set_cons_succ])); (refine wpAnyH_take (i := 15) (v := undef) rfl (by kernel_rfl) (by kernel_rfl) (by kernel_rfl) (fun _ _ _ h => h) (Or.inr ⟨by rfl, rfl⟩) (by assumption) ?_; (try simp only [List.getElem_toArray, List.getElem_cons_zero, List.getElem_cons_succ, Act.put, List.setIfInBounds_toArray, List.set_cons_zero, List.set_cons_succ])); (refine wpAnyH_take (i := 16) (v := undef) rfl (by kernel_rfl) (by kernel_rfl) (by kernel_rfl) (fun _ _ _ h => h) (Or.inr ⟨by rfl, rfl⟩) (by assumption) ?_; (try simp only [List.getElem_toArray, List.getElem_cons_zero, List.getElem_cons_succ, Act.put, List.setIfInBounds_toArray, List.set_cons_zero, List.set_cons_succ])); (refine wpAnyH_take (i := 17) (v := undef) rfl (by kernel_rfl) (by kernel_rfl) (by kernel_rfl) (fun _ _ _ h => h) (Or.inr ⟨by rfl, rfl⟩) (by assumption) ?_; (try simp only [List.getElem_toArray, List.getElem_cons_zero, List.getElem_cons_succ, Act.put, List.setIfInBounds_toArray, List.set_cons_zero, List.set_cons_succ])); (refine wpAnyH_take (i := 18) (v := undef) rfl (by kernel_rfl) (by kernel_rfl) (by kernel_rfl) (fun _ _ _ h => h) (Or.inr ⟨by rfl, rfl⟩) (by assumption) ?_; (try simp only [List.getElem_toArray, List.getElem_cons_zero, List.getElem_cons_succ, Act.put, List.setIfInBounds_toArray, List.set_cons_zero, List.set_cons_succ])); (refine wpAnyH_take (i := 19) (v := undef) rfl (by kernel_rfl) (by kernel_rfl) (by kernel_rfl) (fun _ _ _ h => h) (Or.inr ⟨by rfl, rfl⟩) (by assumption) ?_; (try simp only [List.getElem_toArray, List.getElem_cons_zero, List.getElem_cons_succ, Act.put, List.setIfInBounds_toArray, List.set_cons_zero, List.set_cons_succ])); (refine wpAnyH_take (i := 20) (v := ?_) rfl (by kernel_rfl) (by kernel_rfl) (by kernel_rfl) (fun _ _ _ h => h) (Or.inl ⟨by rfl, ?_⟩) (by assumption) ?_; rotate_left 1; (focus (intro w hSw; (try dsimp only at hSw); go_simp; (try with_reducible rfl))); (try simp only [List.getElem_toArray, List.getElem_cons_zero, List.getElem_cons_succ, Act.put, List.setIfInBounds_toArray, List.set_cons_zero, List.set_cons_succ])); refine wpAnyH_done (by kernel_rfl) ?_ _)
      go_wp2_with fail
      go_ret
      exact ⟨n, k', q', m', f, rfl, HS.out _ ((Chg.refl [] wr).drew.trans' hc2), HM.out.1, .inr ⟨rfl, any, HL.out.symm, HM.out.2.2⟩⟩
    | true =>
      have hfk := free_kind hfb
      obtain ⟨c, hi2, hd2⟩ := hr.two hi hfk.2
      have hlt2 : k' + 1 < N := by
        obtain ⟨h1, _⟩ := List.getElem?_eq_some_iff.1 hi2
        rw [← HN0.out]; exact h1
      have hi1 : (k' : Int) + 1 < (N : Int) := by omega
      have hi0 : (k' : Int) < (N : Int) := by omega
      have hw1 : IntKind.i64.wrap ((k' : Int) + 1) = (k' : Int) + 1 := by rw [IntKind.wrap_i64]; omega
      have hw0 : (0 : Int) ≤ (k' : Int) + 1 := by omega
      have hw2 : ((k' : Int) + 1).toNat = k' + 1 := by omega
      have hck : wr.cell? ⟨q'.tb, q'.off + (k' + 1) * 5, none⟩ = some (.int .i64 c.kind) := (hr.head_at hi2).1
      rw [hfb] at HFR
      obtain ⟨ck, hckk⟩ : ∃ ck : Int, (c.kind : Int) = ck := ⟨_, rfl⟩
      rw [hckk] at hck
      have hc3 := hr.c3
      have HT : Hid (∀ W, Chg [] wr W → W.cell? ⟨b, 0, none⟩ = some (.slice (some ⟨q'.tb, q'.off, none⟩) N q'.tc) ∧ W.cell? ⟨b, 1, none⟩ = some (.int .i64 k') ∧ W.cell? ⟨b, 3, none⟩ = some (.slice q'.a1 q'.bs.length q'.c1) ∧ W.cell? ⟨q'.tb, q'.off + k' * 5, none⟩ = some (.int .i64 t.kind) ∧ W.cell? ⟨q'.tb, q'.off + k' * 5 + 1, none⟩ = some (.string (bA t.text)) ∧ W.cell? ⟨q'.tb, q'.off + k' * 5 + 2, none⟩ = some (.int .i64 t.num) ∧ W.cell? ⟨q'.tb, q'.off + k' * 5 + 3, none⟩ = some (.int .i64 t.line) ∧ W.cell? ⟨q'.tb, q'.off + k' * 5 + 4, none⟩ = some (.int .i64 t.col)) := hid (fun W hc => by
        obtain ⟨g0, g1, g2, g3, g4⟩ := (hr.same hc).head_at hi
        exact ⟨hc.cell hc0 (by simp), hc.cell hc1 (by simp), hc.cell hc3 (by simp), g0, g1, g2, g3, g4⟩)
      have HR2 := hid hr
      have HI0 := hid (And.intro hi (And.intro hi2 hfk))
      have HCK := hid hckk
      have HLB := hid (And.intro hd2 hlab)
      have HFB := hid hfb
      clear hlab hfb hi hi2 hd hd2 hr HR hmm hnk hna hckk hfk hc3
      go_upto_region 2 with fail
      (refine wp_region_held_drew (S := (fun w' => w'.cell? ⟨b, 0, none⟩ = some (.slice (some ⟨q'.tb, q'.off, none⟩) N q'.tc) ∧ w'.cell? ⟨b, 1, none⟩ = some (.int .i64 k') ∧ w'.cell? ⟨q'.tb, q'.off + (k' + 1) * 5, none⟩ = some (.int .i64 ck))) (by kernel_rfl) (by exact ⟨hc0, hc1, hck⟩) (fun hHeld => ?_); (refine wpAnyH_take (i := 0) (v := ?_) rfl (by kernel_rfl) (by kernel_rfl) (by kernel_rfl) (fun _ _ _ h => h) (Or.inl ⟨by rfl, ?_⟩) (by assumption) ?_; rotate_left 1; (focus (intro w hSw; (try dsimp only at hSw); go_simp; (try with_reducible rfl))); (try simp only [List.getElem_toArray, List.getElem_cons_zero, List.getElem_cons_succ, Act.put, List.setIfInBounds_toArray, List.set_cons_zero, List.set_cons_succ])); (refine wpAnyH_ready (rs := [1]) (by kernel_rfl) (by simp) ?_; refine AllReadyH.cons rfl (fun K hK => ?_) AllReadyH.nil; go_simp; go_at_call 17; refine (HOK.out _ (Chg.refl [] wr).drew).mono ?_; rintro e w1 ⟨rfl, rfl⟩; (refine hK.out _ _ (by exact hHeld) (fun hHeld => ?_); clear hK K; (try simp only [List.getElem_toArray, List.getElem_cons_zero, List.getElem_cons_succ, Act.put, List.setIfInBounds_toArray, List.set_cons_zero, List.set_cons_succ]))); (refine wpAnyH_take (i := 2) (v := ?_) rfl (by kernel_rfl) (by kernel_rfl) (by kernel_rfl) (fun _ _ _ h => h) (Or.inl ⟨by rfl, ?_⟩) (by assumption) ?_; rotate_left 1; (focus (intro w hSw; (try dsimp only at hSw); go_simp; (try with_reducible rfl))); (try simp only [List.getElem_toArray, List.getElem_cons_zero, List.getElem_cons_succ, Act.put, List.setIfInBounds_toArray, List.set_cons_zero, List.set_cons_succ])); (refine wpAnyH_take (i := 3) (v := ?_) rfl (by kernel_rfl) (by kernel_rfl) (by kernel_rfl) (fun _ _ _ h => h) (Or.inl ⟨by rfl, ?_⟩) (by assumption) ?_; rotate_left 1; (focus (intro w hSw; (try dsimp only at hSw); go_simp; (try with_reducible rfl))); (try simp only [List.getElem_toArray, List.getElem_cons_zero, List.getElem_cons_succ, Act.put, List.setIfInBounds_toArray, List.set_cons_zero, List.set_cons_succ])); (refine wpAnyH_ready (rs := [4]) (by kernel_rfl) (by simp) ?_; refine AllReadyH.cons rfl (fun K hK => ?_) AllReadyH.nil; go_simp; go_at_call 59; refine (HFR.out _ (Chg.refl [] wr).drew).mono ?_; rintro e w2 ⟨rfl, hc2⟩; (refine hK.out _ _ (by exact ⟨hc2.cell hHeld.1 (by simp), hc2.cell hHeld.2.1 (by simp), hc2.cell hHeld.2.2 (by simp)⟩) (fun hHeld => ?_); clear hK K; (try simp only [List.getElem_toArray, List.getElem_cons_zero, List.getElem_cons_succ, Act.put, List.setIfInBounds_toArray, List.set_cons_zero, List.set_cons_succ]))); (refine wpAnyH_take (i := 5) (v := ?_) rfl (by kernel_rfl) (by kernel_rfl) (by kernel_rfl) (fun _ _ _ h => h) (Or.inl ⟨by rfl, ?_⟩) (by assumption) ?_; rotate_left 1; (focus (intro w hSw; (try dsimp only at hSw); go_simp; (try with_reducible rfl))); (try simp only [List.getElem_toArray, List.getElem_cons_zero, List.getElem_cons_succ, Act.put, List.setIfInBounds_toArray, List.set_cons_zero, List.set_cons_succ])); (refine wpAnyH_take (i := 6) (v := ?_) rfl (by kernel_rfl) (by kernel_rfl) (by kernel_rfl) (fun _ _ _ h => h) (Or.inl ⟨by rfl, ?_⟩) (by assumption) ?_; rotate_left 1; (focus (intro w hSw; (try dsimp only at hSw); go_simp; (try with_reducible rfl))); (try simp only [List.getElem_toArray, List.getElem_cons_zero, List.getElem_cons_succ, Act.put, List.setIfInBounds_toArray, List.set_cons_zero, List.set_cons_succ])); (refine wpAnyH_take (i := 7) (v := ?_) rfl (by kernel_rfl) (by kernel_rfl) (by kernel_rfl) (fun _ _ _ h => h) (Or.inl ⟨by rfl, ?_⟩) (by assumption) ?_; rotate_left 1; (focus (intro w hSw; (try dsimp only at hSw); go_simp; (try with_reducible rfl))); (try simp only [List.getElem_toArray, List.getElem_cons_zero, List.getElem_cons_succ, Act.put, List.setIfInBounds_toArray, List.set_cons_zero, List.set_cons_succ])); (refine wpAnyH_take (i := 8) (v := ?_) rfl (by kernel_rfl) (by kernel_rfl) (by kernel_rfl) (fun _ _ _ h => h) (Or.inl ⟨by rfl, ?_⟩) (by assumption) ?_; rotate_left 1; (focus (intro w hSw; (try dsimp only at hSw); go_simp; (try with_reducible rfl))); (try simp only [List.getElem_toArray, List.getElem_cons_zero, List.getElem_cons_succ, Act.put, List.setIfInBounds_toArray, List.set_cons_zero, List.set_cons_succ])); (refine wpAnyH_take (i := 9) (v := ?_) rfl (by kernel_rfl) (by kernel_rfl) (by kernel_rfl) (fun _ _ _ h => h) (Or.inl ⟨by rfl, ?_⟩) (by assumption) ?_; rotate_left 1; (focus (intro w hSw; (try dsimp only at hSw); go_simp; (try with_reducible rfl))); (try simp only [List.getElem_toArray, List.getElem_cons_zero, List.getElem_cons_succ, Act.put, List.setIfInBounds_toArray, List.set_cons_zero, List.set_cons_succ])); (refine wpAnyH_take (i := 10) (v := ?_) rfl (by kernel_rfl) (by kernel_rfl) (by kernel_rfl) (fun _ _ _ h => h) (Or.inl ⟨by rfl, ?_⟩) (by assumption) ?_; rotate_left 1; (focus (intro w hSw; (try dsimp only at hSw); go_simp; (try with_reducible rfl))); (try simp only [List.getElem_toArray, List.getElem_cons_zero, List.getElem_cons_succ, Act.put, List.setIfInBounds_toArray, List.set_cons_zero, List.set_cons_succ])); (refine wpAnyH_take (i := 11) (v := ?_) rfl (by kernel_rfl) (by kernel_rfl) (by kernel_rfl) (fun _ _ _ h => h) (Or.inl ⟨by rfl, ?_⟩) (by assumption) ?_; rotate_left 1; (focus (intro w hSw; (try dsimp only at hSw); go_simp; (try with_reducible rfl))); (try simp only [List.getElem_toArray, List.getElem_cons_zero, List.getElem_cons_succ, Act.put, List.setIfInBounds_toArray, List.set_cons_zero, List.set_cons_succ])); (refine wpAnyH_take (i := 12) (v := ?_) rfl (by kernel_rfl) (by kernel_rfl) (by kernel_rfl) (fun _ _ _ h => h) (Or.inl ⟨by rfl, ?_⟩) (by assumption) ?_; rotate_left 1; (focus (intro w hSw; (try dsimp only at hSw); go_simp; (try with_reducible rfl))); (try simp only [List.getElem_toArray, List.getElem_cons_zero, List.getElem_cons_succ, Act.put, List.setIfInBounds_toArray, List.set_cons_zero, List.set_cons_succ])); (refine wpAnyH_take (i := 13) (v := ?_) rfl (by kernel_rfl) (by kernel_rfl) (by kernel_rfl) (fun _ _ _ h => h) (Or.inl ⟨by rfl, ?_⟩) (by assumption) ?_; rotate_left 1; (focus (intro w hSw; (try dsimp only at hSw); go_simp; (try with_reducible rfl))); (try simp only [List.getElem_toArray, List.getElem_cons_zero, List.getElem_cons_succ, Act.put, List.setIfInBounds_toArray, List.set_cons_zero, List.set_cons_succ])); (refine wpAnyH_take (i := 14) (v := ?_) rfl (by kernel_rfl) (by kernel_rfl) (by kernel_rfl) (fun _ _ _ h => h) (Or.inl ⟨by rfl, ?_⟩) (by assumption) ?_; rotate_left 1; (focus (intro w hSw; (try dsimp only at hSw); go_simp; (try with_reducible rfl))); (try simp only [List.getElem_toArray, List.getElem_cons_zero, List.getElem_cons_succ, Act.put, List.setIfInBounds_toArray, List.set_cons_zero, List.set_cons_succ])); (refine wpAnyH_take (i := 15) (v := ?_) rfl (by kernel_rfl) (by kernel_rfl) (by kernel_rfl) (fun _ _ _ h => h) (Or.inl ⟨by rfl, ?_⟩) (by assumption) ?_; rotate_left 1; (focus (intro w hSw; (try dsimp only at hSw); go_simp; (try with_reducible rfl))); (try simp only [List.getElem_toArray, List.getElem_cons_zero, List.getElem_cons_succ, Act.put, List.setIfInBounds_toArray, List.set_cons_zero, List.set_cons_succ])); (refine wpAnyH_take (i := 16) (v := ?_) rfl (by kernel_rfl) (by kernel_rfl) (by kernel_rfl) (fun _ _ _ h => h) (Or.inl ⟨by rfl, ?_⟩) (by assumption) ?_; rotate_left 1; (focus (intro w hSw; (try dsimp only at hSw); go_simp; (try with_reducible rfl))); (try simp only [List.getElem_toArray, List.getElem_cons_zero, List.getElem_cons_succ, Act.put, List.setIfInBounds_toArray, List.set_cons_zero, List.set_cons_succ])); (refine wpAnyH_take (i := 17) (v := ?_) rfl (by kernel_rfl) (by kernel_rfl) (by kernel_rfl) (fun _ _ _ h => h) (Or.inl ⟨by rfl, ?_⟩) (by assumption) ?_; rotate_left 1; (focus (intro w hSw; (try dsimp only at hSw); go_simp; (try with_reducible rfl))); (try simp only [List.getElem_toArray, List.getElem_cons_zero, List.getElem_cons_succ, Act.put, List.setIfInBounds_toArray, List.set_cons_zero, List.set_cons_succ])); (refine wpAnyH_take (i := 18) (v := ?_) rfl (by kernel_rfl) (by kernel_rfl) (by kernel_rfl) (fun _ _ _ h => h) (Or.inl ⟨by rfl, ?_⟩) (by assumption) ?_; rotate_left 1; (focus (intro w hSw; (try dsimp only at hSw); go_simp; (try with_reducible rfl))); (try simp only [List.getElem_toArray, List.getElem_cons_zero, List.getElem_cons_succ, Act.put, List.setIfInBounds_toArray, List.set_cons_zero, List.set_cons_succ])); (refine wpAnyH_take (i := 19) (v := ?_) rfl (by kernel_rfl) (by kernel_rfl) (by kernel_rfl) (fun _ _ _ h => h) (Or.inl ⟨by rfl, ?_⟩) (by assumption) ?_; rotate_left 1; (focus (intro w hSw; (try dsimp only at hSw); go_simp; (try with_reducible rfl))); (try simp only [List.getElem_toArray, List.getElem_cons_zero, List.getElem_cons_succ, Act.put, List.setIfInBounds_toArray, List.set_cons_zero, List.set_cons_succ])); (refine wpAnyH_take (i := 20) (v := ?_) rfl (by kernel_rfl) (by kernel_rfl) (by kernel_rfl) (fun _ _ _ h => h) (Or.inl ⟨by rfl, ?_⟩) (by assumption) ?_; rotate_left 1; (focus (intro w hSw; (try dsimp only at hSw); go_simp; (try with_reducible rfl))); (try simp only [List.getElem_toArray, List.getElem_cons_zero, List.getElem_cons_succ, Act.put, List.setIfInBounds_toArray, List.set_cons_zero, List.set_cons_succ])); refine wpAnyH_done (by kernel_rfl) ?_ _)
      by_cases h4 : c.kind = 4
      · have e4 : (ck == 4) = true := by rw [← HCK.out]; simp; omega
        have HI := hid (And.intro HI0.out.1 (And.intro HI0.out.2.1 (And.intro HI0.out.2.2 h4)))
        clear h4
        have hcx := (Chg.refl [] wr).drew.trans' hc2
        obtain ⟨v0, v1, v3, g0, g1, g2, g3, g4⟩ := HT.out _ hcx
        have a0 : ∀ o, (w2.alloc o).cell? ⟨b, 0, none⟩ = some (.slice (some ⟨q'.tb, q'.off, none⟩) N q'.tc) := fun o => (HT.out _ (hcx.alloc o)).1
        have a1 : ∀ o, (w2.alloc o).cell? ⟨b, 1, none⟩ = some (.int .i64 k') := fun o => (HT.out _ (hcx.alloc o)).2.1
        have a2 : ∀ o, (w2.alloc o).cell? ⟨q'.tb, q'.off + k' * 5, none⟩ = some (.int .i64 t.kind) := fun o => (HT.out _ (hcx.alloc o)).2.2.2.1
        have a3 : ∀ o, (w2.alloc o).cell? ⟨q'.tb, q'.off + k' * 5 + 1, none⟩ = some (.string (bA t.text)) := fun o => (HT.out _ (hcx.alloc o)).2.2.2.2.1
        have a4 : ∀ o, (w2.alloc o).cell? ⟨q'.tb, q'.off + k' * 5 + 2, none⟩ = some (.int .i64 t.num) := fun o => (HT.out _ (hcx.alloc o)).2.2.2.2.2.1
        have a5 : ∀ o, (w2.alloc o).cell? ⟨q'.tb, q'.off + k' * 5 + 3, none⟩ = some (.int .i64 t.line) := fun o => (HT.out _ (hcx.alloc o)).2.2.2.2.2.2.1
        have a6 : ∀ o, (w2.alloc o).cell? ⟨q'.tb, q'.off + k' * 5 + 4, none⟩ = some (.int .i64 t.col) := fun o => (HT.out _ (hcx.alloc o)).2.2.2.2.2.2.2
        clear hc0 hc1 hck hw0 hw1 hw2
        go_upto_region 3 with fail
        go_region
        have hb0 := ((HS.out _ hcx).box (.cells #[.int .i64 t.kind, .string (bA t.text), .int .i64 t.num, .int .i64 t.line, .int .i64 t.col] 63)).same (Chg.refl [] _).drew
        have hcB : Chg [] wr (w2.alloc (.cells #[.int .i64 t.kind, .string (bA t.text), .int .i64 t.num, .int .i64 t.line, .int .i64 t.col] 63)).drew := (hcx.alloc _).drew
        obtain ⟨wB, hwB⟩ : ∃ wB, (w2.alloc (.cells #[.int .i64 t.kind, .string (bA t.text), .int .i64 t.num, .int .i64 t.line, .int .i64 t.col] 63)).drew = wB := ⟨_, rfl⟩
        obtain ⟨P, hP⟩ : ∃ P, w2.heap.size = P := ⟨_, rfl⟩
        rw [hwB, hP] at hb0
        rw [hwB] at hcB ⊢
        rw [hP]
        clear hwB hP a0 a1 a2 a3 a4 a5 a6 v0 v1 v3 g0 g1 g2 g3 g4 HOK HFR hHeld hc2 hcx
        have bx := hb0.getX (j := 0) rfl
        have x1 : wB.cell? ⟨P, 1, none⟩ = some (.string (bA t.text)) := blk_cell bx 1
        have x3 : wB.cell? ⟨P, 3, none⟩ = some (.int .i64 t.line) := blk_cell bx 3
        have x4 : wB.cell? ⟨P, 4, none⟩ = some (.int .i64 t.col) := blk_cell bx 4
        have c3 := hb0.c3
        have hbsl : q'.bs.length ≤ 2097152 := by have := hb0.lb; have := hb0.sm; omega
        have hsz : (bA t.text).size = t.text.length := bA_size _
        have HB := hid hb0
        clear bx hb0
        by_cases hb : q'.bks = []
        · have hq : Hid (G = .error (fltAt 81 t)) := hid (by rw [← HLB.out.2, HLB.out.1]; exact labels_stray HFB.out HI.out.2.2.2 hb)
          have hqb : q'.bs = [] := List.map_eq_nil_iff.1 hb
          rw [hqb, List.length_nil] at c3
          clear hqb hb hsz
          go_wp2_with (go_at_call 37; refine (y_fails_calls HB.out HI.out.1 HF0.out 81).mono ?_; rintro e w4 ⟨rfl, h4⟩)
          go_ret
          exact ⟨n, k', q', m', _, rfl, h4.subX (.cons _ (.refl _)), HM.out.1, .inl hq.out⟩
        · have hbl : q'.bs ≠ [] := fun e => hb (by unfold RQ.bks; rw [e]; rfl)
          have hbp := List.length_pos_iff.2 hbl
          obtain ⟨B, hB⟩ : ∃ B, q'.bs.length = B := ⟨_, rfl⟩
          rw [hB] at c3 hbp hbsl
          have hB0 : ((B : Int) == 0) = false := by simp; omega
          have hB1 : (B == 0) = false := by simp; omega
          have hB2 : ¬ B = 0 := by omega
          by_cases hl : 24 < t.text.length
          · have hg : decide ((24 : Int) < ((bA t.text).size : Int)) = true := decide_eq_true (by rw [hsz]; omega)
            have hq : Hid (G = .error (fltAt 84 t)) := hid (by rw [← HLB.out.2, HLB.out.1]; exact labels_long HFB.out HI.out.2.2.2 hb hl)
            clear hbl hb hsz hl hB
            go_wp2_with (go_at_call 37; refine (y_fails_calls HB.out HI.out.1 HF0.out 84).mono ?_; rintro e w4 ⟨rfl, h4⟩)
            go_ret
            exact ⟨n, k', q', m', _, rfl, h4.subX (.cons _ (.refl _)), HM.out.1, .inl hq.out⟩
          · have hg : decide ((24 : Int) < ((bA t.text).size : Int)) = false := decide_eq_false (by rw [hsz]; omega)
            have hq : Hid (labelsD (all.drop (k' + 2)) (putLast (labelI t) q'.bks) true = G) := hid (by rw [← HLB.out.2, HLB.out.1]; exact (labels_more HFB.out HI.out.2.2.2 hb hl).symm)
            have hm1 := HMX.out
            have HP := hid (show Calls Tryz.prog 60 #[.pointer (some ⟨b, 0, none⟩), .agg #[.int .i64 0, .int .i64 0, .int .i64 0, .int .i64 0, .int .i64 0, .string (bA t.text), .int .i64 t.line, .int .i64 t.col, .int .i64 t.line, .int .i64 t.col]] wB (YPutP w0 b all k' ds q' m' f (.box P (.cells #[.int .i64 t.kind, .string (bA t.text), .int .i64 t.num, .int .i64 t.line, .int .i64 t.col] 63 (0, 0)) :: X) (labelI t)) from y_put_calls HB.out hb (by have := HM.out.1; omega) (labelI t))
            clear hbl hb hsz hl hB
            go_wp2_with (go_at_call 60; refine HP.out.mono ?_; rintro e w4 ⟨rfl, q'', h4, h5⟩; have u1 := h4.c1; have uf := h4.fr 1; have H4 := hid (And.intro h4 h5); clear h4 h5)
            obtain ⟨h6, h7⟩ := H4.out.1.next2 HI.out.1 HI.out.2.2.1.2 HI.out.2.1 (by have := HI.out.2.2.2; omega) (z := (k' : Int) + 2) rfl
            go_roundg (gk - 2)
            case measure => have := HG.out; omega
            case rel =>
              have hn1 := HM.out.2.1
              have hw9 : wrap64 ((n : Int) + 1) = ((n + 1 : Nat) : Int) := by rw [IntWalk.wrap64_in _ (by omega)]; omega
              refine ⟨k' + 2, n + 1, q'', m' + 1 - 2, true, by first | (rw [hw9]; done) | (rw [hw9]) | go_num, hid (by have := HG.out; omega), hid ⟨by have := HM.out.1; omega, by have := HM.out.2.1; omega, by simp, h6.subX (.cons _ (.refl _)), ?_⟩⟩
              rw [H4.out.2]
              exact hq.out
      · have e4 : (ck == 4) = false := by rw [← HCK.out]; simp; omega
        have HL := hid (show labelsD (all.drop k') q'.bks any = .ok (all.drop k', q'.bks, any) from by rw [HLB.out.1]; exact labels_end h4)
        clear h4
        go_wp2_with fail
        go_ret
        exact ⟨n, k', q', m', f, rfl, HS.out _ ((Chg.refl [] wr).drew.trans' hc2), HM.out.1, .inr ⟨rfl, any, by rw [← HLB.out.2]; exact HL.out, HM.out.2.2⟩⟩
end
end Go.Proofs.YtmahcabidggmeaaGreatDoor
