/- Walks of the lexer: Tokens. -/
import Derived.Test.YtmahcabidggmeaaGreatDoorAf
import Derived.Laws.StructEq
set_option linter.unusedVariables false
set_option linter.unusedSectionVars false
set_option linter.unusedSimpArgs false
namespace Go.Proofs.YtmahcabidggmeaaGreatDoor
open Go.RowKit Go.AB
set_option linter.unusedSimpArgs false
set_option linter.unusedVariables false
set_option linter.unusedSectionVars false

/-- The tokens, or the fault and none. -/
def tokensB (L : List UInt8) : List Tok × (Nat × Nat × Nat) := if (scanD L 1 1).2.1 = 0 then (scanD L 1 1).1 |> fun l => (l, (0, 0, 0)) else ([], (scanD L 1 1).2)
/-- A list of tokens in new memory, and a fault. -/
def NewT (w : World) (p : List Tok × (Nat × Nat × Nat)) (e : Ending) (w' : World) : Prop :=
  ∃ ts ao cap r, e = .returned (.tuple #[.slice ao ts.length cap, .agg #[.int .i64 p.2.1, .int .i64 p.2.2.1, .int .i64 p.2.2.2]]) ∧ Row w' 63 5 (.slice ao ts.length cap) r ts.length (ts.flatMap tokC) ∧ Fresh w none r ∧ Chg [] w w' ∧ Hid (ts = p.1)

theorem scanD_fault0 (L : List UInt8) : (scanD L 1 1).2.1 = 0 → (scanD L 1 1).2 = (0, 0, 0) := by
  intro h
  rcases scan_end (L.length + 1) L 1 1 (by omega) with ⟨h1, _⟩ | ⟨h1, _⟩
  · exact absurd h h1
  · exact h1

theorem newT_mk {w w2 w3 : World} {p : List Tok × (Nat × Nat × Nat)} {ts : List Tok} {f0 f1 f2 c cap : Nat} {r : Option Nat} {ao : Option Addr} (hp : p = (ts, (f0, f1, f2))) (hcol : Col w2 c r ts.length (ts.flatMap tokC) ao cap) (hf : ∀ g, r = some g → w.heap.size + 2 ≤ g) (h2 : Chg [] w w2) (h3 : Chg [w.heap.size] w2 w3)
    {X Y Z : Int} (hX : X = f0) (hY : Y = f1) (hZ : Z = f2) : NewT w p (.returned (.tuple #[.slice ao ts.length cap, .agg #[.int .i64 X, .int .i64 Y, .int .i64 Z]])) w3 := by
  subst hp hX hY hZ
  exact ⟨ts, ao, cap, r, rfl, hcol.row.keep h3 (fun g hg hm => by have := hf g hg; simp at hm; omega), fun g hg => .inr (by have := hf g hg; omega), h2.trans h3 (fun x hx => .inr (by simp at hx; omega)), hid rfl⟩
theorem newT_no {w w2 w3 : World} {p : List Tok × (Nat × Nat × Nat)} {f0 f1 f2 : Nat} (hp : p = ([], (f0, f1, f2))) (h2 : Chg [] w w2) (h3 : Chg [w.heap.size] w2 w3)
    {X Y Z : Int} (hX : X = f0) (hY : Y = f1) (hZ : Z = f2) : NewT w p (.returned (.tuple #[.slice none 0 0, .agg #[.int .i64 X, .int .i64 Y, .int .i64 Z]])) w3 := by
  subst hp hX hY hZ
  exact ⟨[], none, 0, none, rfl, Row.nil _ _ _, Fresh.refl _ _, h2.trans h3 (fun x hx => .inr (by simp at hx; omega)), hid rfl⟩

set_option maxHeartbeats 2000000 in
set_option maxRecDepth 100000 in
theorem tokens_calls {s : ByteArray} (w : World) (hs : s.size ≤ 1048576) (L : List UInt8) (hL : Hid (s.data.toList = L)) : Calls Tryz.prog 18 #[.string s] w (NewT w (tokensB L)) := by
  have hca : Chg [] w ((w.alloc (.cells #[.int .i64 0, .int .i64 0, .int .i64 0] 30)).alloc (.cells #[.slice none 0 0] 55)) := ((Chg.refl [] w).alloc _).alloc _
  have hcol : Col ((w.alloc (.cells #[.int .i64 0, .int .i64 0, .int .i64 0] 30)).alloc (.cells #[.slice none 0 0] 55)) (w.heap.size + 1) none 0 [] none 0 :=
    ⟨by rw [show w.heap.size + 1 = (w.alloc (.cells #[.int .i64 0, .int .i64 0, .int .i64 0] 30)).heap.size from by simp]; exact heap_alloc_new _ _, Row.nil _ _ _, by simp⟩
  have HE := hid (each_calls hcol hs L hL)
  have h0 := scanD_fault0 L
  obtain ⟨ts, p0, p1, p2, hp⟩ : ∃ ts p0 p1 p2, scanD L 1 1 = (ts, (p0, p1, p2)) := ⟨_, _, _, _, rfl⟩
  have hT : tokensB L = if p0 = 0 then (ts, (0, 0, 0)) else ([], (p0, p1, p2)) := by unfold tokensB; rw [hp]
  rw [hp] at HE h0
  have hres0 : ((w.alloc (.cells #[.int .i64 0, .int .i64 0, .int .i64 0] 30)).alloc (.cells #[.slice none 0 0] 55)).heap[w.heap.size]? = some (.cells #[.int .i64 0, .int .i64 0, .int .i64 0] 30 (0, 0)) := blk_alloc_old (heap_alloc_new w _) _
  by_cases hz : p0 = 0
  · rw [if_pos hz] at hT
    have h1 := h0 hz
    simp only [Prod.mk.injEq] at h1
    obtain ⟨rfl, rfl, rfl⟩ := h1
    have HT := hid hT
    clear hT hz h0 hp hcol
    go_enter Tryz.func18, Tryz.ntmps18
    go_wp2_with (go_at_call 38; refine HE.out.mono ?_; rintro e w2 ⟨r, ao, cap, hcol2, rfl, hc2, hf2⟩; refine halt (fun X hX => ?_))
    rw [hX.out]; clear hX
    have hsz : w.heap.size + 2 ≤ w2.heap.size := by have := hc2.size; simp at this; omega
    have hres := hc2.heap hres0 (by simp)
    have z0 := fun o => (blk_cell (blk_alloc_old hres o) 0).trans rfl
    have z1 := fun o => (blk_cell (blk_alloc_old hres o) 1).trans rfl
    have z2 := fun o => (blk_cell (blk_alloc_old hres o) 2).trans rfl
    have zf := fun o i => blk_free (blk_alloc_old hres o) i
    have n1 : w.heap.size ≠ w2.heap.size := by omega
    have n2 : w2.heap.size ≠ w.heap.size := by omega
    have n3 : w.heap.size ≠ w.heap.size + 1 := by omega
    have n4 : w.heap.size + 1 ≠ w.heap.size := by omega
    have hcl := fun o => (hcol2.keep ((Chg.refl [] w2).alloc o) (by simp) (by simp)).cell
    have hc2n : Chg [w.heap.size] w w2 := hca.nil.trans hc2 (fun x hx => .inr (by simp at hx; omega))
    have hc2e : Chg [] w w2 := hca.trans hc2 (fun x hx => .inr (by simp at hx; omega))
    have hfr : ∀ g, r = some g → w.heap.size + 2 ≤ g := fun g hg => by have := (hf2 g hg).resolve_left (by simp); simpa using this
    go_wp2
    go_region
    go_wp2
    exact bodyPost_ret (v := .tuple #[.slice ao ts.length cap, .agg #[.int .i64 0, .int .i64 0, .int .i64 0]]) (by simp [results, Tryz.results18, go_sem, z0, z1, z2]) rfl (newT_mk HT.out hcol2 hfr hc2e (by repeat (first | with_reducible exact Chg.refl _ _ | with_reducible exact Chg.refl _ _ | with_reducible refine Chg.setCell ?_ (by first | exact .inr (Nat.le_refl _) | (refine .inr ?_; first | omega | (simp; done) | (simp; omega)) | (refine .inl ?_; simp; done)) _ | with_reducible refine Chg.drewN ?_ _ | with_reducible refine Chg.drew ?_ | with_reducible refine Chg.alloc ?_ _)) rfl rfl rfl)
  · rw [if_neg hz] at hT
    have HT := hid hT
    have g1 : ((p0 : Int) != 0) = true := by simp; omega
    have g2 : ((p0 : Int) == 0) = false := by simp; omega
    clear hT hz h0 hp hcol
    go_enter Tryz.func18, Tryz.ntmps18
    go_wp2_with (go_at_call 38; refine HE.out.mono ?_; rintro e w2 ⟨r, ao, cap, hcol2, rfl, hc2, hf2⟩; refine halt (fun X hX => ?_))
    rw [hX.out]; clear hX
    have hsz : w.heap.size + 2 ≤ w2.heap.size := by have := hc2.size; simp at this; omega
    have hres := hc2.heap hres0 (by simp)
    have z0 := fun o => (blk_cell (blk_alloc_old hres o) 0).trans rfl
    have z1 := fun o => (blk_cell (blk_alloc_old hres o) 1).trans rfl
    have z2 := fun o => (blk_cell (blk_alloc_old hres o) 2).trans rfl
    have zf := fun o i => blk_free (blk_alloc_old hres o) i
    have n1 : w.heap.size ≠ w2.heap.size := by omega
    have n2 : w2.heap.size ≠ w.heap.size := by omega
    have hc2e : Chg [] w w2 := hca.trans hc2 (fun x hx => .inr (by simp at hx; omega))
    go_wp2
    go_region
    go_wp2
    exact bodyPost_ret (v := .tuple #[.slice none 0 0, .agg #[.int .i64 p0, .int .i64 p1, .int .i64 p2]]) (by simp [results, Tryz.results18, go_sem, z0, z1, z2]) rfl (newT_no HT.out hc2e (by repeat (first | with_reducible exact Chg.refl _ _ | with_reducible exact Chg.refl _ _ | with_reducible refine Chg.setCell ?_ (by first | exact .inr (Nat.le_refl _) | (refine .inr ?_; first | omega | (simp; done) | (simp; omega)) | (refine .inl ?_; simp; done)) _ | with_reducible refine Chg.drewN ?_ _ | with_reducible refine Chg.drew ?_ | with_reducible refine Chg.alloc ?_ _)) rfl rfl rfl)
end Go.Proofs.YtmahcabidggmeaaGreatDoor
