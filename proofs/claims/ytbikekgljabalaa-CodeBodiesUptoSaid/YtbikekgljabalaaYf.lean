/- The document's Decode, of a right frame. -/
import Derived.Test.YtbikekgljabalaaYe
import Derived.Test.YtbikekgljabalaaVd
import Derived.Test.YtbikekgljabalaaUf
namespace Go.Proofs.Ytbikekgljabalaa
open Go.RowKit Go.AB
set_option linter.unusedSimpArgs false
set_option linter.unusedVariables false
set_option linter.unusedSectionVars false

theorem take_none {l : List UInt8} (hl : l.length ≤ 16777216) {x : PrgD} {s : RS} (hq : qPrg l ⟨0, 0, 0⟩ = (x, s)) (hb : (decide (rEnd l s = 0) && prgB x) = false) : dBody l = none := by
  rcases h : dBody l with _ | p
  · rfl
  · obtain ⟨h1, h2, h3⟩ := (dBody_iff (L := l) (by omega) p).1 h
    have hp := qPrg_bwd (L := l) (by omega) h1 h2 h3
    rw [hq] at hp
    simp only [Prod.mk.injEq] at hp
    obtain ⟨rfl, rfl⟩ := hp
    rw [h1] at hb
    simp [rEnd] at hb
theorem take_true {l : List UInt8} (hl : l.length ≤ 16777216) {x : PrgD} {s : RS} (hq : qPrg l ⟨0, 0, 0⟩ = (x, s)) (hb : (decide (rEnd l s = 0) && prgB x) = true) : prgB x = true ∧ Wf64 x ∧ (bodyL x = l → dBody l = some x) ∧ (bodyL x ≠ l → dBody l = none) := by
  simp only [Bool.and_eq_true, decide_eq_true_eq] at hb
  have hw := q_wf l ⟨0, 0, 0⟩
  rw [hq] at hw
  refine ⟨hb.2, hw, fun he => (dBody_iff (L := l) (by omega) x).2 ⟨hb.2, hw, he.symm⟩, fun hne => ?_⟩
  rcases h : dBody l with _ | p
  · rfl
  · obtain ⟨h1, h2, h3⟩ := (dBody_iff (L := l) (by omega) p).1 h
    have hp := qPrg_bwd (L := l) (by omega) h1 h2 h3
    rw [hq] at hp
    simp only [Prod.mk.injEq] at hp
    obtain ⟨rfl, rfl⟩ := hp
    exact absurd h3.symm hne
section
variable {w : World}
set_option maxHeartbeats 8000000 in
set_option maxRecDepth 100000 in
theorem q_decode_kind (v : Value) (L : List UInt8) (hv : Bytes w v L) (hl : L.length ≤ 16777216) {k : UInt8} {body : List UInt8} (ho : openB L = (k, body, 0)) (hk : k ≠ 1) :
    Calls Try.prog 20 #[v] w fun e w' => e = .returned (.tuple #[.agg #[.slice none 0 0, .slice none 0 0, .slice none 0 0, .slice none 0 0, .slice none 0 0], .int .i64 100]) ∧ Chg [] w w' := by
  have hop := fun u (hu : Chg [] w u) => q_open_calls v L u (hv.keep hu (by simp)) hl
  rw [ho] at hop
  have HO := hid hop
  have hkn : (k.toNat : Int) ≠ 1 := fun h => hk (UInt8.toNat_inj.1 (by have : k.toNat = 1 := by omega
                                                                       exact this))
  obtain ⟨kn, hkk⟩ : ∃ x : Int, (k.toNat : Int) = x := ⟨_, rfl⟩
  rw [hkk] at hkn
  have zk : (kn != 1) = true := by simp [hkn]
  have zk2 : (kn == 1) = false := by simp [hkn]
  have hca := (Chg.refl [] w).alloc (.cells #[.slice none 0 0, .slice none 0 0, .slice none 0 0, .slice none 0 0, .slice none 0 0] 28)
  have HRES := hid (heap_alloc_new w (.cells #[.slice none 0 0, .slice none 0 0, .slice none 0 0, .slice none 0 0, .slice none 0 0] 28))
  clear hop ho
  go_enter Try.func20, Try.ntmps20
  go_upto_region 2 with (go_at_call 55; refine (HO.out _ hca).mono ?_; rintro e w1 ⟨l', ao, cap, r, rfl, hr1, hf1, hc1, HL1⟩; simp only [hkk])
  have hb := hc1.heap HRES.out (by simp)
  have r0 := (blk_cell hb 0).trans (rfl : _ = some (Value.slice none 0 0))
  have r1 := (blk_cell hb 1).trans (rfl : _ = some (Value.slice none 0 0))
  have r2 := (blk_cell hb 2).trans (rfl : _ = some (Value.slice none 0 0))
  have r3 := (blk_cell hb 3).trans (rfl : _ = some (Value.slice none 0 0))
  have r4 := (blk_cell hb 4).trans (rfl : _ = some (Value.slice none 0 0))
  have f0 := blk_free hb 0
  have f1 := blk_free hb 1
  have f2 := blk_free hb 2
  have f3 := blk_free hb 3
  have f4 := blk_free hb 4
  go_wp2_with fail
  have hcW := (Chg.setCell (Chg.setCell (Chg.setCell (Chg.setCell (Chg.setCell (Chg.refl [w.heap.size] w1) (p := ⟨w.heap.size, 0, none⟩) (.inl (by simp)) (.slice none 0 0)) (p := ⟨w.heap.size, 1, none⟩) (.inl (by simp)) (.slice none 0 0)) (p := ⟨w.heap.size, 2, none⟩) (.inl (by simp)) (.slice none 0 0)) (p := ⟨w.heap.size, 3, none⟩) (.inl (by simp)) (.slice none 0 0)) (p := ⟨w.heap.size, 4, none⟩) (.inl (by simp)) (.slice none 0 0))
  have hbW := (blk_set (blk_set (blk_set (blk_set (blk_set hb 0 (.slice none 0 0)) 1 (.slice none 0 0)) 2 (.slice none 0 0)) 3 (.slice none 0 0)) 4 (.slice none 0 0))
  obtain ⟨wf, hwf⟩ : ∃ x : World, (((((w1.setCell ⟨w.heap.size, 0, none⟩ (.slice none 0 0)).setCell ⟨w.heap.size, 1, none⟩ (.slice none 0 0)).setCell ⟨w.heap.size, 2, none⟩ (.slice none 0 0)).setCell ⟨w.heap.size, 3, none⟩ (.slice none 0 0)).setCell ⟨w.heap.size, 4, none⟩ (.slice none 0 0)) = x := ⟨_, rfl⟩
  rw [hwf] at hcW hbW ⊢
  have c0 := (blk_cell hbW 0).trans (rfl : _ = some (Value.slice none 0 0))
  have c1 := (blk_cell hbW 1).trans (rfl : _ = some (Value.slice none 0 0))
  have c2 := (blk_cell hbW 2).trans (rfl : _ = some (Value.slice none 0 0))
  have c3 := (blk_cell hbW 3).trans (rfl : _ = some (Value.slice none 0 0))
  have c4 := (blk_cell hbW 4).trans (rfl : _ = some (Value.slice none 0 0))
  exact bodyPost_ret (v := .tuple #[.agg #[.slice none 0 0, .slice none 0 0, .slice none 0 0, .slice none 0 0, .slice none 0 0], .int .i64 100]) (by simp [results, Try.results20, go_sem, c0, c1, c2, c3, c4]) rfl ⟨rfl, (hca.trans' hc1).trans hcW (fun y hy => .inr (by simp only [List.mem_singleton] at hy; omega))⟩
end
/-- take, its answer spelled out. -/
theorem take_shape {w : World} (l0 : List UInt8) (hl0 : l0.length ≤ 16777216) {vb : Value} (hv : Bytes w vb l0) :
    Calls Try.prog 56 #[vb] w fun e w' => ∃ (x : PrgD) (s : RS) (a0 a1 a2 a3 a4 : Option Addr) (n0 n1 n2 n3 n4 k0 k1 k2 k3 k4 : Nat) (q : Bool), Hid (qPrg l0 ⟨0, 0, 0⟩ = (x, s) ∧ (decide (rEnd l0 s = 0) && prgB x) = q) ∧
      e = .returned (.tuple #[.agg #[.slice a0 n0 k0, .slice a1 n1 k1, .slice a2 n2 k2, .slice a3 n3 k3, .slice a4 n4 k4], .bool q]) ∧ (∀ (S : List Nat) u, (∀ g ∈ S, g < w.heap.size) → Chg S w' u → PrgV u (.agg #[.slice a0 n0 k0, .slice a1 n1 k1, .slice a2 n2 k2, .slice a3 n3 k3, .slice a4 n4 k4]) x) ∧ Chg [] w w' := by
  refine (q_take l0 hl0 hv).mono fun e w' h => ?_
  obtain ⟨x, s, v, HX, he, hv, hc⟩ := h
  obtain ⟨a0, a1, a2, a3, a4, k0, k1, k2, k3, k4, rfl⟩ := prgV_shape (hv [] w' (by simp) (Chg.refl _ _))
  exact ⟨x, s, a0, a1, a2, a3, a4, _, _, _, _, _, k0, k1, k2, k3, k4, _, hid ⟨HX.out, rfl⟩, he, hv, hc⟩
section
variable {w : World}
set_option maxHeartbeats 8000000 in
set_option maxRecDepth 100000 in
theorem q_decode_one (v : Value) (L : List UInt8) (hv : Bytes w v L) (hl : L.length ≤ 16777216) {body : List UInt8} (ho : openB L = (1, body, 0)) (hbl : body.length ≤ 16777216) :
    Calls Try.prog 20 #[v] w fun e w' => (dBody body = none ∧ e = .returned (.tuple #[.agg #[.slice none 0 0, .slice none 0 0, .slice none 0 0, .slice none 0 0, .slice none 0 0], .int .i64 101]) ∧ Chg [] w w') ∨
      ∃ (x : PrgD) (a0 a1 a2 a3 a4 : Option Addr) (n0 n1 n2 n3 n4 k0 k1 k2 k3 k4 : Nat), dBody body = some x ∧ e = .returned (.tuple #[.agg #[.slice a0 n0 k0, .slice a1 n1 k1, .slice a2 n2 k2, .slice a3 n3 k3, .slice a4 n4 k4], .int .i64 0]) ∧ PrgV w' (.agg #[.slice a0 n0 k0, .slice a1 n1 k1, .slice a2 n2 k2, .slice a3 n3 k3, .slice a4 n4 k4]) x ∧ Chg [] w w' := by
  have hop := fun u (hu : Chg [] w u) => q_open_calls v L u (hv.keep hu (by simp)) hl
  rw [ho] at hop
  have hk1 : ((1 : UInt8).toNat : Int) = 1 := rfl
  have HO := hid hop
  have hca := (Chg.refl [] w).alloc (.cells #[.slice none 0 0, .slice none 0 0, .slice none 0 0, .slice none 0 0, .slice none 0 0] 28)
  have HRES := hid (heap_alloc_new w (.cells #[.slice none 0 0, .slice none 0 0, .slice none 0 0, .slice none 0 0, .slice none 0 0] 28))
  clear hop ho
  go_enter Try.func20, Try.ntmps20
  go_upto_region 7 with (first
    | (go_at_call 55; refine (HO.out _ hca).mono ?_; rintro e w1 ⟨l', ao, cap, r, rfl, hr1, hf1, hc1, HL1⟩; (try simp only [hk1]); have hlb : l'.length ≤ 16777216 := (by rw [HL1.out]; exact hbl))
    | (go_at_call 56; refine (take_shape l' hlb hr1.view).mono ?_; rintro e w2 ⟨x, s, a0, a1, a2, a3, a4, n0, n1, n2, n3, n4, k0, k1, k2, k3, k4, q, HX, rfl, hv2, hc2⟩))
  have hc12 := hca.trans' (hc1.trans' hc2)
  have hcB := hc12.alloc (.cells #[.slice a0 n0 k0, .slice a1 n1 k1, .slice a2 n2 k2, .slice a3 n3 k3, .slice a4 n4 k4] 28)
  have hb2 : w2.heap[w.heap.size]? = _ := (hc1.trans' hc2).heap HRES.out (by simp)
  have hsz : w.heap.size < w2.heap.size := blk_lt hb2
  have hbB := blk_alloc_old hb2 (.cells #[.slice a0 n0 k0, .slice a1 n1 k1, .slice a2 n2 k2, .slice a3 n3 k3, .slice a4 n4 k4] 28)
  have hxB := heap_alloc_new w2 (.cells #[.slice a0 n0 k0, .slice a1 n1 k1, .slice a2 n2 k2, .slice a3 n3 k3, .slice a4 n4 k4] 28)
  have hc2b := (Chg.refl [] w2).alloc (.cells #[.slice a0 n0 k0, .slice a1 n1 k1, .slice a2 n2 k2, .slice a3 n3 k3, .slice a4 n4 k4] 28)
  have hw1 : w.heap.size < w1.heap.size := by have := hc1.size; simp only [World.size_alloc] at this; omega
  obtain ⟨xb, hxb⟩ : ∃ y, w2.heap.size = y := ⟨_, rfl⟩
  rw [hxb] at hxB hsz ⊢
  obtain ⟨wB, hwB⟩ : ∃ y : World, w2.alloc (.cells #[.slice a0 n0 k0, .slice a1 n1 k1, .slice a2 n2 k2, .slice a3 n3 k3, .slice a4 n4 k4] 28) = y := ⟨_, rfl⟩
  rw [hwB] at hcB hbB hxB hc2b ⊢
  have HV2 : Hid (∀ u, Chg [] wB u → PrgV u (.agg #[.slice a0 n0 k0, .slice a1 n1 k1, .slice a2 n2 k2, .slice a3 n3 k3, .slice a4 n4 k4]) x) := hid fun u hu => hv2 [] u (by simp) (hc2b.trans' hu)
  have HVX : Hid (∀ u, Chg [w.heap.size] wB u → PrgV u (.agg #[.slice a0 n0 k0, .slice a1 n1 k1, .slice a2 n2 k2, .slice a3 n3 k3, .slice a4 n4 k4]) x) := hid fun u hu => hv2 [w.heap.size] u (by simp only [List.mem_singleton]; rintro g rfl; exact hw1) (hc2b.nil.trans' hu)
  have HCB := hid hcB
  have HBB := hid hbB
  have HXB := hid hxB
  have HR1 := hid (fun u (hu : Chg [] w2 u) => View.keep hr1.view (hc2.trans' hu) (by simp))
  have HC2B := hid hc2b
  clear hxb hwB hr1 hf1 hc1 hc2 hv2 hc12 hcB hbB hxB hc2b hb2 hw1 HO HRES
  cases q
  · have hdn := take_none hlb HX.out.1 HX.out.2
    rw [HL1.out] at hdn
    have HDN := hid hdn
    clear hdn HX
    have hb := HBB.out
    have r0 := (blk_cell hb 0).trans (rfl : _ = some (Value.slice none 0 0))
    have f0 := blk_free hb 0
    have r1 := (blk_cell hb 1).trans (rfl : _ = some (Value.slice none 0 0))
    have f1 := blk_free hb 1
    have r2 := (blk_cell hb 2).trans (rfl : _ = some (Value.slice none 0 0))
    have f2 := blk_free hb 2
    have r3 := (blk_cell hb 3).trans (rfl : _ = some (Value.slice none 0 0))
    have f3 := blk_free hb 3
    have r4 := (blk_cell hb 4).trans (rfl : _ = some (Value.slice none 0 0))
    have f4 := blk_free hb 4
    go_wp2_with fail
    have hcW := (Chg.setCell (Chg.setCell (Chg.setCell (Chg.setCell (Chg.setCell (Chg.refl [w.heap.size] wB) (p := ⟨w.heap.size, 0, none⟩) (.inl (by simp)) (.slice none 0 0)) (p := ⟨w.heap.size, 1, none⟩) (.inl (by simp)) (.slice none 0 0)) (p := ⟨w.heap.size, 2, none⟩) (.inl (by simp)) (.slice none 0 0)) (p := ⟨w.heap.size, 3, none⟩) (.inl (by simp)) (.slice none 0 0)) (p := ⟨w.heap.size, 4, none⟩) (.inl (by simp)) (.slice none 0 0))
    have hbW := (blk_set (blk_set (blk_set (blk_set (blk_set hb 0 (.slice none 0 0)) 1 (.slice none 0 0)) 2 (.slice none 0 0)) 3 (.slice none 0 0)) 4 (.slice none 0 0))
    obtain ⟨wf, hwf⟩ : ∃ x : World, (((((wB.setCell ⟨w.heap.size, 0, none⟩ (.slice none 0 0)).setCell ⟨w.heap.size, 1, none⟩ (.slice none 0 0)).setCell ⟨w.heap.size, 2, none⟩ (.slice none 0 0)).setCell ⟨w.heap.size, 3, none⟩ (.slice none 0 0)).setCell ⟨w.heap.size, 4, none⟩ (.slice none 0 0)) = x := ⟨_, rfl⟩
    rw [hwf] at hcW hbW ⊢
    have c0 := (blk_cell hbW 0).trans (rfl : _ = some (Value.slice none 0 0))
    have c1 := (blk_cell hbW 1).trans (rfl : _ = some (Value.slice none 0 0))
    have c2 := (blk_cell hbW 2).trans (rfl : _ = some (Value.slice none 0 0))
    have c3 := (blk_cell hbW 3).trans (rfl : _ = some (Value.slice none 0 0))
    have c4 := (blk_cell hbW 4).trans (rfl : _ = some (Value.slice none 0 0))
    exact bodyPost_ret (v := .tuple #[.agg #[.slice none 0 0, .slice none 0 0, .slice none 0 0, .slice none 0 0, .slice none 0 0], .int .i64 101]) (by simp [results, Try.results20, go_sem, c0, c1, c2, c3, c4]) rfl (.inl ⟨HDN.out, rfl, HCB.out.trans hcW (fun y hy => .inr (by simp only [List.mem_singleton] at hy; omega))⟩)
  · obtain ⟨hg, hw64, he1, he2⟩ := take_true hlb HX.out.1 HX.out.2
    have HBD := hid (fun u (hu : Chg [] wB u) => q_body x hw64 hg u (HV2.out u hu))
    have HE := hid (And.intro he1 he2)
    clear he1 he2 hg hw64 HX
    have x0 := (blk_cell HXB.out 0).trans (rfl : _ = some (Value.slice a0 n0 k0))
    have x1 := (blk_cell HXB.out 1).trans (rfl : _ = some (Value.slice a1 n1 k1))
    have x2 := (blk_cell HXB.out 2).trans (rfl : _ = some (Value.slice a2 n2 k2))
    have x3 := (blk_cell HXB.out 3).trans (rfl : _ = some (Value.slice a3 n3 k3))
    have x4 := (blk_cell HXB.out 4).trans (rfl : _ = some (Value.slice a4 n4 k4))
    go_upto_region 10 with (go_at_call 25; refine (HBD.out _ (Chg.refl _ _)).mono ?_; rintro e w3 ⟨l3, ao3, cap3, r3, rfl, hr3, hf3, hc3, HL3⟩)
    have hcv1 := run_conv_view Try.underlying29 Try.underlying5 Try.underlying9 hr3.view w3 rfl
    have hcv2 := run_conv_view Try.underlying29 Try.underlying5 Try.underlying9 (HR1.out _ (HC2B.out.trans' hc3)) w3 rfl
    have hb := hc3.heap HBB.out (by simp)
    have hx := hc3.heap HXB.out (by simp)
    have hC3 := HCB.out.trans' hc3
    have HC3 := hid hC3
    have HV3 := hid (fun u (hu : Chg [w.heap.size] w3 u) => HVX.out u (hc3.nil.trans' hu))
    clear x0 x1 x2 x3 x4 hr3 hf3 HBD hC3
    have r0 := (blk_cell hb 0).trans (rfl : _ = some (Value.slice none 0 0))
    have f0 := blk_free hb 0
    have r1 := (blk_cell hb 1).trans (rfl : _ = some (Value.slice none 0 0))
    have f1 := blk_free hb 1
    have r2 := (blk_cell hb 2).trans (rfl : _ = some (Value.slice none 0 0))
    have f2 := blk_free hb 2
    have r3 := (blk_cell hb 3).trans (rfl : _ = some (Value.slice none 0 0))
    have f3 := blk_free hb 3
    have r4 := (blk_cell hb 4).trans (rfl : _ = some (Value.slice none 0 0))
    have f4 := blk_free hb 4
    by_cases hll : l3 = l'
    · have hdn := HE.out.1 (HL3.out.symm.trans hll)
      rw [HL1.out] at hdn
      have HDN := hid hdn
      have x0 := (blk_cell hx 0).trans (rfl : _ = some (Value.slice a0 n0 k0))
      have x1 := (blk_cell hx 1).trans (rfl : _ = some (Value.slice a1 n1 k1))
      have x2 := (blk_cell hx 2).trans (rfl : _ = some (Value.slice a2 n2 k2))
      have x3 := (blk_cell hx 3).trans (rfl : _ = some (Value.slice a3 n3 k3))
      have x4 := (blk_cell hx 4).trans (rfl : _ = some (Value.slice a4 n4 k4))
      have hne1 : xb ≠ w.heap.size := by omega
      have hne2 := Ne.symm hne1
      clear HL1 HL3 HE hdn hc3 hx
      subst hll
      go_wp2_with fail
      have hcW := (Chg.setCell (Chg.setCell (Chg.setCell (Chg.setCell (Chg.setCell (Chg.refl [w.heap.size] w3) (p := ⟨w.heap.size, 0, none⟩) (.inl (by simp)) (.slice a0 n0 k0)) (p := ⟨w.heap.size, 1, none⟩) (.inl (by simp)) (.slice a1 n1 k1)) (p := ⟨w.heap.size, 2, none⟩) (.inl (by simp)) (.slice a2 n2 k2)) (p := ⟨w.heap.size, 3, none⟩) (.inl (by simp)) (.slice a3 n3 k3)) (p := ⟨w.heap.size, 4, none⟩) (.inl (by simp)) (.slice a4 n4 k4))
      have hbW := (blk_set (blk_set (blk_set (blk_set (blk_set hb 0 (.slice a0 n0 k0)) 1 (.slice a1 n1 k1)) 2 (.slice a2 n2 k2)) 3 (.slice a3 n3 k3)) 4 (.slice a4 n4 k4))
      obtain ⟨wf, hwf⟩ : ∃ x : World, (((((w3.setCell ⟨w.heap.size, 0, none⟩ (.slice a0 n0 k0)).setCell ⟨w.heap.size, 1, none⟩ (.slice a1 n1 k1)).setCell ⟨w.heap.size, 2, none⟩ (.slice a2 n2 k2)).setCell ⟨w.heap.size, 3, none⟩ (.slice a3 n3 k3)).setCell ⟨w.heap.size, 4, none⟩ (.slice a4 n4 k4)) = x := ⟨_, rfl⟩
      rw [hwf] at hcW hbW ⊢
      have c0 := (blk_cell hbW 0).trans (rfl : _ = some (Value.slice a0 n0 k0))
      have c1 := (blk_cell hbW 1).trans (rfl : _ = some (Value.slice a1 n1 k1))
      have c2 := (blk_cell hbW 2).trans (rfl : _ = some (Value.slice a2 n2 k2))
      have c3 := (blk_cell hbW 3).trans (rfl : _ = some (Value.slice a3 n3 k3))
      have c4 := (blk_cell hbW 4).trans (rfl : _ = some (Value.slice a4 n4 k4))
      exact bodyPost_ret (v := .tuple #[.agg #[.slice a0 n0 k0, .slice a1 n1 k1, .slice a2 n2 k2, .slice a3 n3 k3, .slice a4 n4 k4], .int .i64 0]) (by simp [results, Try.results20, go_sem, c0, c1, c2, c3, c4]) rfl (.inr ⟨x, a0, a1, a2, a3, a4, n0, n1, n2, n3, n4, k0, k1, k2, k3, k4, HDN.out, rfl, HV3.out _ hcW, HC3.out.trans hcW (fun y hy => .inr (by simp only [List.mem_singleton] at hy; omega))⟩)
    · have hdn := HE.out.2 (by rw [← HL3.out]; exact hll)
      rw [HL1.out] at hdn
      have HDN := hid hdn
      have hns : (l3 == l') = false := by simpa using hll
      have hns2 : (!(l3 == l')) = true := by rw [hns]; rfl
      clear HL1 HL3 HE hdn hc3 hx hll
      go_wp2_with fail
      have hcW := (Chg.setCell (Chg.setCell (Chg.setCell (Chg.setCell (Chg.setCell (Chg.refl [w.heap.size] w3) (p := ⟨w.heap.size, 0, none⟩) (.inl (by simp)) (.slice none 0 0)) (p := ⟨w.heap.size, 1, none⟩) (.inl (by simp)) (.slice none 0 0)) (p := ⟨w.heap.size, 2, none⟩) (.inl (by simp)) (.slice none 0 0)) (p := ⟨w.heap.size, 3, none⟩) (.inl (by simp)) (.slice none 0 0)) (p := ⟨w.heap.size, 4, none⟩) (.inl (by simp)) (.slice none 0 0))
      have hbW := (blk_set (blk_set (blk_set (blk_set (blk_set hb 0 (.slice none 0 0)) 1 (.slice none 0 0)) 2 (.slice none 0 0)) 3 (.slice none 0 0)) 4 (.slice none 0 0))
      obtain ⟨wf, hwf⟩ : ∃ x : World, (((((w3.setCell ⟨w.heap.size, 0, none⟩ (.slice none 0 0)).setCell ⟨w.heap.size, 1, none⟩ (.slice none 0 0)).setCell ⟨w.heap.size, 2, none⟩ (.slice none 0 0)).setCell ⟨w.heap.size, 3, none⟩ (.slice none 0 0)).setCell ⟨w.heap.size, 4, none⟩ (.slice none 0 0)) = x := ⟨_, rfl⟩
      rw [hwf] at hcW hbW ⊢
      have c0 := (blk_cell hbW 0).trans (rfl : _ = some (Value.slice none 0 0))
      have c1 := (blk_cell hbW 1).trans (rfl : _ = some (Value.slice none 0 0))
      have c2 := (blk_cell hbW 2).trans (rfl : _ = some (Value.slice none 0 0))
      have c3 := (blk_cell hbW 3).trans (rfl : _ = some (Value.slice none 0 0))
      have c4 := (blk_cell hbW 4).trans (rfl : _ = some (Value.slice none 0 0))
      exact bodyPost_ret (v := .tuple #[.agg #[.slice none 0 0, .slice none 0 0, .slice none 0 0, .slice none 0 0, .slice none 0 0], .int .i64 101]) (by simp [results, Try.results20, go_sem, c0, c1, c2, c3, c4]) rfl (.inl ⟨HDN.out, rfl, HC3.out.trans hcW (fun y hy => .inr (by simp only [List.mem_singleton] at hy; omega))⟩)
end
end Go.Proofs.Ytbikekgljabalaa
