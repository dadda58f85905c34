/- Walks of the lexer's reference: Tokens. -/
import Derived.Test.YtppijmpdoejdmaaCe
namespace Go.Proofs.Ytppijmpdoejdmaa
open Go.RowKit Go.AB
set_option linter.unusedSimpArgs false
set_option linter.unusedVariables false
set_option linter.unusedSectionVars false

theorem NewT.push {w w' w2 : World} {p : List Tok × (Nat × Nat × Nat)} {ts : List Tok} {cap : Nat} {r : Option Nat} {ao : Option Addr} (h : Row w' 38 5 (.slice ao ts.length cap) r ts.length (ts.flatMap tokC)) (hf : Fresh (w.alloc (.cells #[.int .i64 0, .int .i64 0, .int .i64 0] 28)) none r) (hc : Chg [] (w.alloc (.cells #[.int .i64 0, .int .i64 0, .int .i64 0] 28)) w')
    (h2 : Chg [w.heap.size] w' w2) {f0 f1 f2 : Nat} (hp : p = (ts, (f0, f1, f2))) {X Y Z : Int} (hX : X = f0) (hY : Y = f1) (hZ : Z = f2) : NewT w p (.returned (.tuple #[.slice ao ts.length cap, .agg #[.int .i64 X, .int .i64 Y, .int .i64 Z]])) w2 := by
  subst hp hX hY hZ
  have hfr : ∀ g, r = some g → w.heap.size + 1 ≤ g := fun g hg => by have := (hf g hg).resolve_left (by simp); simpa using this
  exact ⟨ts, ao, cap, r, rfl, h.keep h2 (fun g hg hm => by have := hfr g hg; simp at hm; omega), fun g hg => .inr (by have := hfr g hg; omega), (((Chg.refl [] w).alloc _).trans' hc).trans h2 (fun x hx => .inr (by simp at hx; omega)), hid rfl⟩
theorem NewT.none {w w' w2 : World} {p : List Tok × (Nat × Nat × Nat)} (hc : Chg [] (w.alloc (.cells #[.int .i64 0, .int .i64 0, .int .i64 0] 28)) w')
    (h2 : Chg [w.heap.size] w' w2) {f0 f1 f2 : Nat} (hp : p = ([], (f0, f1, f2))) {X Y Z : Int} (hX : X = f0) (hY : Y = f1) (hZ : Z = f2) : NewT w p (.returned (.tuple #[.slice none 0 0, .agg #[.int .i64 X, .int .i64 Y, .int .i64 Z]])) w2 := by
  subst hp hX hY hZ
  exact ⟨[], .none, 0, .none, rfl, Row.nil _ _ _, Fresh.refl _ _, (((Chg.refl [] w).alloc _).trans' hc).trans h2 (fun x hx => .inr (by simp at hx; omega)), hid rfl⟩

set_option maxHeartbeats 2000000 in
set_option maxRecDepth 100000 in
theorem r_tokens_calls {s : ByteArray} (w : World) (hs : s.size ≤ 1048576) (L : List UInt8) (hL : Hid (s.data.toList = L)) : Calls Try.prog 10 #[.string s] w (NewT w (tokensB L)) := by
  have HE := hid (r_part_calls hs L hL)
  have h0 := scanD_fault0 L
  obtain ⟨ts, p0, p1, p2, hp⟩ : ∃ ts p0 p1 p2, scanD L 1 1 = (ts, (p0, p1, p2)) := ⟨_, _, _, _, rfl⟩
  have hT : tokensB L = if p0 = 0 then (ts, (0, 0, 0)) else ([], (p0, p1, p2)) := by unfold tokensB; rw [hp]
  rw [hp] at HE h0
  have hres0 := blk_alloc_new w (.cells #[.int .i64 0, .int .i64 0, .int .i64 0] 28)
  by_cases hz : p0 = 0
  · rw [if_pos hz] at hT
    have h1 := h0 hz
    simp only [Prod.mk.injEq] at h1
    obtain ⟨rfl, rfl, rfl⟩ := h1
    have HT := hid hT
    clear hT hz h0 hp
    go_enter Try.func10, Try.ntmps10
    go_wp2_with (go_at_call 18; refine (HE.out _).mono ?_; rintro e w2 ⟨ts2, ao, cap, r, rfl, hr2, hf2, hc2, HL⟩; refine halt (fun X hX => ?_))
    rw [hX.out]; clear hX
    have hts : ts2 = ts := HL.out
    subst hts
    have hres := hc2.heap hres0 (by simp)
    have hsz := blk_lt hres
    have z0 := fun o => (blk_cell (blk_alloc_old hres o) 0).trans rfl
    have z1 := fun o => (blk_cell (blk_alloc_old hres o) 1).trans rfl
    have z2 := fun o => (blk_cell (blk_alloc_old hres o) 2).trans rfl
    have zf := fun o i => blk_free (blk_alloc_old hres o) i
    have hc2n : Chg [w.heap.size] w2 w2 := Chg.refl _ _
    clear hres hsz HL
    go_wp2
    go_region
    go_wp2
    exact bodyPost_ret (v := .tuple #[.slice ao ts2.length cap, .agg #[.int .i64 0, .int .i64 0, .int .i64 0]]) (by simp [results, Try.results10, go_sem, z0, z1, z2]) rfl (NewT.push hr2 hf2 hc2 (by repeat (first | with_reducible exact Chg.refl _ _ | with_reducible exact hc2n | with_reducible refine Chg.setCell ?_ (by first | exact .inr (Nat.le_refl _) | (refine .inr ?_; first | omega | (simp; done) | (simp; omega)) | (refine .inl ?_; simp; done)) _ | with_reducible refine Chg.drewN ?_ _ | with_reducible refine Chg.drew ?_ | with_reducible refine Chg.alloc ?_ _)) HT.out rfl rfl rfl)
  · rw [if_neg hz] at hT
    have HT := hid hT
    have g1 : ((p0 : Int) != 0) = true := by simp; omega
    have g2 : ((p0 : Int) == 0) = false := by simp; omega
    clear hT hz h0 hp
    go_enter Try.func10, Try.ntmps10
    go_wp2_with (go_at_call 18; refine (HE.out _).mono ?_; rintro e w2 ⟨ts2, ao, cap, r, rfl, hr2, hf2, hc2, HL⟩; refine halt (fun X hX => ?_))
    rw [hX.out]; clear hX
    have hres := hc2.heap hres0 (by simp)
    have z0 := fun o => (blk_cell (blk_alloc_old hres o) 0).trans rfl
    have z1 := fun o => (blk_cell (blk_alloc_old hres o) 1).trans rfl
    have z2 := fun o => (blk_cell (blk_alloc_old hres o) 2).trans rfl
    have zf := fun o i => blk_free (blk_alloc_old hres o) i
    have hc2n : Chg [w.heap.size] w2 w2 := Chg.refl _ _
    clear hres HL
    go_wp2
    go_region
    go_wp2
    exact bodyPost_ret (v := .tuple #[.slice none 0 0, .agg #[.int .i64 p0, .int .i64 p1, .int .i64 p2]]) (by simp [results, Try.results10, go_sem, z0, z1, z2]) rfl (NewT.none hc2 (by repeat (first | with_reducible exact Chg.refl _ _ | with_reducible exact hc2n | with_reducible refine Chg.setCell ?_ (by first | exact .inr (Nat.le_refl _) | (refine .inr ?_; first | omega | (simp; done) | (simp; omega)) | (refine .inl ?_; simp; done)) _ | with_reducible refine Chg.drewN ?_ _ | with_reducible refine Chg.drew ?_ | with_reducible refine Chg.alloc ?_ _)) HT.out rfl rfl rfl)
end Go.Proofs.Ytppijmpdoejdmaa
