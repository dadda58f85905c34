/- Walks of the reference: units compared (Same). In work: not built to the end. -/
import Derived.Test.YtmahcabidggmeaaGreatDoorVwz
set_option linter.unusedVariables false
set_option linter.unusedSectionVars false
set_option linter.unusedSimpArgs false
namespace Go.Proofs.YtmahcabidggmeaaGreatDoor
open Go.RowKit Go.AB

theorem und_itm : Tryz.prog.underlying 53 = some (.struct (Tryz.prog.fieldsOf 53)) := by kernel_rfl
theorem und_dcl : Tryz.prog.underlying 47 = some (.struct (Tryz.prog.fieldsOf 47)) := by kernel_rfl
theorem und_plq : Tryz.prog.underlying 28 = some (.struct (Tryz.prog.fieldsOf 28)) := by kernel_rfl
theorem std_plq : Tryz.prog.stoodInHeld 28 = false := by kernel_rfl
theorem guard_itm (u : World) (x y : Operand) (xs ys : Array Value) : (eqGuard .neq 53 x y (.agg xs) (.agg ys)).run Tryz.prog u = .ok () u := run_eqGuard_agg u .neq 53 x y xs ys (by kernel_rfl)
theorem guard_dcl (u : World) (x y : Operand) (xs ys : Array Value) : (eqGuard .neq 47 x y (.agg xs) (.agg ys)).run Tryz.prog u = .ok () u := run_eqGuard_agg u .neq 47 x y xs ys (by kernel_rfl)
theorem same_itm (u : World) (a0 a1 a2 a3 a4 a6 a7 a8 a9 : Int) (a5 : ByteArray) : (binOp .neq 53 (.agg #[.int .i64 a0, .int .i64 a1, .int .i64 a2, .int .i64 a3, .int .i64 a4, .string a5, .int .i64 a6, .int .i64 a7, .int .i64 a8, .int .i64 a9]) (.agg #[.int .i64 a0, .int .i64 a1, .int .i64 a2, .int .i64 a3, .int .i64 a4, .string a5, .int .i64 a6, .int .i64 a7, .int .i64 a8, .int .i64 a9])).run Tryz.prog u = .ok (.bool false) u := by
  rw [run_neq_struct, run_equalIn_agg u 9999 53 _ _ und_itm (by kernel_rfl)]
  simp [go_sem, und_plq, std_plq]
theorem same_dcl (u : World) (a0 a2 a3 a4 : Int) (a1 : ByteArray) : (binOp .neq 47 (.agg #[.int .i64 a0, .string a1, .int .i64 a2, .int .i64 a3, .int .i64 a4]) (.agg #[.int .i64 a0, .string a1, .int .i64 a2, .int .i64 a3, .int .i64 a4])).run Tryz.prog u = .ok (.bool false) u := by
  rw [run_neq_struct, run_equalIn_agg u 9999 47 _ _ und_dcl (by kernel_rfl)]
  simp [go_sem, und_plq, std_plq]
theorem guard_plq (u : World) (x y : Operand) (xs ys : Array Value) : (eqGuard .neq 28 x y (.agg xs) (.agg ys)).run Tryz.prog u = .ok () u := run_eqGuard_agg u .neq 28 x y xs ys (by kernel_rfl)
theorem same_plq (u : World) (a0 a1 : Int) : (binOp .neq 28 (.agg #[.int .i64 a0, .int .i64 a1]) (.agg #[.int .i64 a0, .int .i64 a1])).run Tryz.prog u = .ok (.bool false) u := by
  rw [run_neq_struct, run_equalIn_agg u 9999 28 _ _ und_plq (by kernel_rfl)]
  simp [go_sem, und_plq, std_plq]

set_option maxHeartbeats 16000000 in
set_option maxRecDepth 100000 in
theorem same_calls (p : Bool) {u v : UnD} (hs : UnS p u v) (hu : SmallN u) (w : World) {va vb : Value} (ha : UnV w va u) (hb : UnV w vb v) : Calls Tryz.prog 7 #[va, vb, .bool p] w fun e w' => e = .returned (.bool true) ∧ Chg [] w w' := by
  obtain ⟨va0, va1, ts, rfl, a0, a1, a2, a3⟩ := id ha
  obtain ⟨vb0, vb1, us, rfl, b0, b1, b2, b3⟩ := id hb
  obtain ⟨ax0, ak0, rfl, _⟩ := a0.len
  obtain ⟨ax1, ak1, rfl, _⟩ := a1.len
  obtain ⟨bx0, bk0, rfl, _⟩ := b0.len
  obtain ⟨bx1, bk1, rfl, _⟩ := b1.len
  obtain ⟨n0, hn0⟩ : ∃ n, u.decls.length = n := ⟨_, rfl⟩
  obtain ⟨n1, hn1⟩ : ∃ n, ts.length = n := ⟨_, rfl⟩
  have hm0 : v.decls.length = n0 := by rw [← hn0]; exact hs.1.len.symm
  have hm1 : us.length = n1 := by
    have h1 := hs.2.len
    rw [← a2, ← b2, List.length_map, List.length_map, hn1] at h1
    exact h1.symm
  have hd0 := hu.dl
  have hd1 := hu.bl
  rw [hn0] at hd0
  rw [← a2, List.length_map, hn1] at hd1
  have A0 := hid a0
  have A1 := hid a1
  have A2 := hid a2
  have A3 := hid a3
  have B0 := hid b0
  have B1 := hid b1
  have B2 := hid b2
  have B3 := hid b3
  have HS := hid hs
  have HU := hid hu
  have N0 := hid hn0
  have N1 := hid hn1
  have M0 := hid hm0
  have M1 := hid hm1
  rw [hn0, hn1, hm0, hm1]
  have hx := (heap_alloc_new w (.cells #[.slice ax0 n0 ak0, .slice ax1 n1 ak1] 25))
  have hy := (heap_alloc_new (w.alloc (.cells #[.slice ax0 n0 ak0, .slice ax1 n1 ak1] 25)) (.cells #[.slice bx0 n0 bk0, .slice bx1 n1 bk1] 25))
  rw [World.size_alloc] at hy
  have HX := hid (blk_alloc_old hx (.cells #[.slice bx0 n0 bk0, .slice bx1 n1 bk1] 25))
  have HY := hid hy
  have HC := hid (((Chg.refl [] w).alloc (.cells #[.slice ax0 n0 ak0, .slice ax1 n1 ak1] 25)).alloc (.cells #[.slice bx0 n0 bk0, .slice bx1 n1 bk1] 25))
  have hx0 := blk_cell HX.out 0
  have hx1 := blk_cell HX.out 1
  have hy0 := blk_cell HY.out 0
  have hy1 := blk_cell HY.out 1
  clear ha hb a0 a1 a2 a3 b0 b1 b2 b3 hs hu hn0 hn1 hm0 hm1 hx hy
  go_enter Tryz.func7, Tryz.ntmps7
  go_upto_region 4 with fail
  obtain ⟨w1, hw1⟩ : ∃ w1, (w.alloc (.cells #[.slice ax0 n0 ak0, .slice ax1 n1 ak1] 25)).alloc (.cells #[.slice bx0 n0 bk0, .slice bx1 n1 bk1] 25) = w1 := ⟨_, rfl⟩
  obtain ⟨P, hP⟩ : ∃ P, w.heap.size = P := ⟨_, rfl⟩
  rw [hw1] at HX HY HC ⊢
  rw [hP] at HX HY ⊢
  clear hw1 hP hx0 hx1 hy0 hy1
  go_loopg [7] n0 (fun gk v7 wr => ∃ i : Nat, v7 = .int .i64 i ∧ Hid (gk + i = n0) ∧ Hid (Chg [] w1 wr))
  case atStart => exact ⟨0, rfl, hid (by omega), hid (Chg.refl _ _)⟩
  case round =>
    obtain ⟨i, rfl, HG, HR⟩ := hrel
    have u0 : wr.cell? ⟨P, 0, none⟩ = some (.slice ax0 n0 ak0) := HR.out.cell (blk_cell HX.out 0) (by simp)
    have v0 : wr.cell? ⟨P + 1, 0, none⟩ = some (.slice bx0 n0 bk0) := HR.out.cell (blk_cell HY.out 0) (by simp)
    by_cases hlt : i < n0
    · have hl1 : i < u.decls.length := by rw [N0.out]; exact hlt
      have hl2 : i < v.decls.length := by rw [M0.out]; exact hlt
      obtain ⟨b1, o1, e1, c1⟩ := (A0.out.keep (HC.out.trans' HR.out)).at dcC_len hl1 (by omega)
      obtain ⟨b2, o2, e2, c2⟩ := (B0.out.keep (HC.out.trans' HR.out)).at dcC_len hl2 (by omega)
      have hr := HS.out.1.at i hl1 hl2
      obtain ⟨x, hx⟩ : ∃ x, u.decls[i] = x := ⟨_, rfl⟩
      obtain ⟨y, hy⟩ : ∃ y, v.decls[i] = y := ⟨_, rfl⟩
      rw [hx] at c1 hr
      rw [hy] at c2 hr
      obtain ⟨k, nm, vv, l, c⟩ := x
      obtain ⟨k', nm', vv', l', c'⟩ := y
      obtain ⟨r1, r2, r3, r4⟩ := hr
      simp only at r1 r2 r3 r4
      subst r1 r2 r3 e1 e2
      have x0 : wr.cell? ⟨b1, o1 + i * 5, none⟩ = some (.int .i64 k) := c1 0 (by omega)
      have x1 : wr.cell? ⟨b1, o1 + i * 5 + 1, none⟩ = some (.string nm) := c1 1 (by omega)
      have x2 : wr.cell? ⟨b1, o1 + i * 5 + 2, none⟩ = some (.int .i64 vv) := c1 2 (by omega)
      have x3 : wr.cell? ⟨b1, o1 + i * 5 + 3, none⟩ = some (.int .i64 l) := c1 3 (by omega)
      have x4 : wr.cell? ⟨b1, o1 + i * 5 + 4, none⟩ = some (.int .i64 c) := c1 4 (by omega)
      have y0 : wr.cell? ⟨b2, o2 + i * 5, none⟩ = some (.int .i64 k) := c2 0 (by omega)
      have y1 : wr.cell? ⟨b2, o2 + i * 5 + 1, none⟩ = some (.string nm) := c2 1 (by omega)
      have y2 : wr.cell? ⟨b2, o2 + i * 5 + 2, none⟩ = some (.int .i64 vv) := c2 2 (by omega)
      have y3 : wr.cell? ⟨b2, o2 + i * 5 + 3, none⟩ = some (.int .i64 l') := c2 3 (by omega)
      have y4 : wr.cell? ⟨b2, o2 + i * 5 + 4, none⟩ = some (.int .i64 c') := c2 4 (by omega)
      have g1 := fun u => guard_dcl u
      have q := fun u => same_dcl u k vv l' c' nm
      clear c1 c2 hx hy hl1 hl2
      go_upto_region 7 with fail
      obtain ⟨wa, hwa⟩ : ∃ wa, wr.alloc (.cells #[.int .i64 k, .string nm, .int .i64 vv, .int .i64 l, .int .i64 c] 47) = wa := ⟨_, rfl⟩
      have hca : Chg [] wr wa := by rw [← hwa]; exact (Chg.refl [] wr).alloc _
      have hka : wa.heap[wr.heap.size]? = some (.cells #[.int .i64 k, .string nm, .int .i64 vv, .int .i64 l, .int .i64 c] 47 (0, 0)) := by rw [← hwa]; exact heap_alloc_new wr _
      have v0a : wa.cell? ⟨P + 1, 0, none⟩ = some (.slice (some ⟨b2, o2, none⟩) n0 bk0) := hca.cell v0 (by simp)
      have z0 := hca.cell y0 (by simp)
      have z1 := hca.cell y1 (by simp)
      have z2 := hca.cell y2 (by simp)
      have z3 := hca.cell y3 (by simp)
      have z4 := hca.cell y4 (by simp)
      have hsz : wa.heap.size = wr.heap.size + 1 := by rw [← hwa]; simp
      obtain ⟨A, hA⟩ : ∃ A, wr.heap.size = A := ⟨_, rfl⟩
      rw [hwa]
      rw [hA] at hka hsz ⊢
      have HA1 := hid (And.intro hca (And.intro hka hsz))
      have HAE : Hid (w1.heap.size ≤ A) := hid (by rw [← hA]; exact HR.out.size)
      clear hwa hca hka hsz hA x0 x1 x2 x3 x4 y0 y1 y2 y3 y4 u0 v0
      go_upto_region 8 with fail
      obtain ⟨wb, hwb⟩ : ∃ wb, wa.alloc (.cells #[.int .i64 k, .string nm, .int .i64 vv, .int .i64 l', .int .i64 c'] 47) = wb := ⟨_, rfl⟩
      have hcb : Chg [] wa wb := by rw [← hwb]; exact (Chg.refl [] wa).alloc _
      have hkb : wb.heap[A + 1]? = some (.cells #[.int .i64 k, .string nm, .int .i64 vv, .int .i64 l', .int .i64 c'] 47 (0, 0)) := by rw [← hwb, ← HA1.out.2.2]; exact heap_alloc_new wa _
      have hka := hcb.heap HA1.out.2.1 (by simp)
      rw [hwb, HA1.out.2.2]
      have HB1 := hid (And.intro (HR.out.trans' (HA1.out.1.trans' hcb)) (And.intro hka hkb))
      have s0 : wb.cell? ⟨A + 1, 0, none⟩ = some (.int .i64 k) := blk_cell hkb 0
      have s1 : wb.cell? ⟨A + 1, 1, none⟩ = some (.string nm) := blk_cell hkb 1
      have s2 : wb.cell? ⟨A + 1, 2, none⟩ = some (.int .i64 vv) := blk_cell hkb 2
      have s3 : wb.cell? ⟨A + 1, 3, none⟩ = some (.int .i64 l') := blk_cell hkb 3
      have s4 : wb.cell? ⟨A + 1, 4, none⟩ = some (.int .i64 c') := blk_cell hkb 4
      have t0 : wb.cell? ⟨A, 0, none⟩ = some (.int .i64 k) := blk_cell hka 0
      have t1 : wb.cell? ⟨A, 1, none⟩ = some (.string nm) := blk_cell hka 1
      have t2 : wb.cell? ⟨A, 2, none⟩ = some (.int .i64 vv) := blk_cell hka 2
      have t3 : wb.cell? ⟨A, 3, none⟩ = some (.int .i64 l) := blk_cell hka 3
      have t4 : wb.cell? ⟨A, 4, none⟩ = some (.int .i64 c) := blk_cell hka 4
      have f3 : wb.frozen? ⟨A, 3, none⟩ = false := blk_free hka 3
      have f4 : wb.frozen? ⟨A, 4, none⟩ = false := blk_free hka 4
      clear hwb hcb hka hkb z0 z1 z2 z3 z4 v0a HA1
      cases p with
      | false =>
        go_upto_region 10 with fail
        have hset := blk_set (blk_set HB1.out.2.1 3 (.int .i64 l')) 4 (.int .i64 c')
        have hcd : Chg [] w1 ((wb.setCell ⟨A, 3, none⟩ (.int .i64 l')).setCell ⟨A, 4, none⟩ (.int .i64 c')) := (HB1.out.1.setCell (p := ⟨A, 3, none⟩) (.inr HAE.out) _).setCell (p := ⟨A, 4, none⟩) (.inr HAE.out) _
        have HCD := hid hcd
        go_wp2_with fail
        go_roundg (gk - 1)
        case measure => have := HG.out; omega
        case rel => exact ⟨i + 1, rfl, hid (by have := HG.out; omega), HCD⟩
      | true =>
        obtain ⟨rfl, rfl⟩ := r4 rfl
        go_wp2_with fail
        go_roundg (gk - 1)
        case measure => have := HG.out; omega
        case rel => exact ⟨i + 1, rfl, hid (by have := HG.out; omega), hid HB1.out.1⟩
    · have HR1 := hid (HC.out.trans' HR.out)
      have HX1 := hid (HR.out.heap HX.out (by simp))
      have HY1 := hid (HR.out.heap HY.out (by simp))
      obtain ⟨w2, rfl⟩ : ∃ w2 : World, w2 = wr := ⟨_, rfl⟩
      clear HG HR
      go_upto_region 13 with fail
      go_loopg [10] n1 (fun gk v10 wr => ∃ j : Nat, v10 = .int .i64 j ∧ Hid (gk + j = n1) ∧ Hid (Chg [] w2 wr))
      case atStart => exact ⟨0, rfl, hid (by omega), hid (Chg.refl _ _)⟩
      case round =>
        obtain ⟨j, rfl, HG, HR⟩ := hrel
        have u1 : wr.cell? ⟨P, 1, none⟩ = some (.slice ax1 n1 ak1) := HR.out.cell (blk_cell HX1.out 1) (by simp)
        have v1 : wr.cell? ⟨P + 1, 1, none⟩ = some (.slice bx1 n1 bk1) := HR.out.cell (blk_cell HY1.out 1) (by simp)
        by_cases hlj : j < n1
        · have hl1 : j < ts.length := by rw [N1.out]; exact hlj
          have hl2 : j < us.length := by rw [M1.out]; exact hlj
          have hc12 := HR1.out.trans' HR.out
          obtain ⟨b1, o1, e1, c1⟩ := (A1.out.keep hc12).at bkC_len hl1 (by omega)
          obtain ⟨b2, o2, e2, c2⟩ := (B1.out.keep hc12).at bkC_len hl2 (by omega)
          have hr : BkS p ts[j].b us[j].b := by
            have h1 : j < u.blocks.length := by rw [← A2.out, List.length_map]; exact hl1
            have h2 : j < v.blocks.length := by rw [← B2.out, List.length_map]; exact hl2
            have h3 := HS.out.2.at j h1 h2
            have h4 : u.blocks[j] = ts[j].b := by simp only [← A2.out, List.getElem_map]
            have h5 : v.blocks[j] = us[j].b := by simp only [← B2.out, List.getElem_map]
            rw [h4, h5] at h3
            exact h3
          have hi1 := A3.out _ (List.getElem_mem hl1)
          have hi2 := B3.out _ (List.getElem_mem hl2)
          have hil : ts[j].b.items.length ≤ 2097152 := HU.out.il _ (by rw [← A2.out]; exact List.mem_map.2 ⟨_, List.getElem_mem hl1, rfl⟩)
          obtain ⟨x, hx⟩ : ∃ x, ts[j] = x := ⟨_, rfl⟩
          obtain ⟨y, hy⟩ : ∃ y, us[j] = y := ⟨_, rfl⟩
          rw [hx] at c1 hr hi1 hil
          rw [hy] at c2 hr hi2
          obtain ⟨⟨nm, xi, l, c⟩, xv⟩ := x
          obtain ⟨⟨nm', yi, l', c'⟩, yv⟩ := y
          obtain ⟨r1, r2, r3⟩ := hr
          simp only at r1 r2 r3 hi1 hi2 hil
          obtain ⟨dx, kx, rfl, _⟩ := hi1.len
          obtain ⟨dy, ky, rfl, _⟩ := hi2.len
          subst r1 e1 e2
          obtain ⟨N, hN⟩ : ∃ N, xi.length = N := ⟨_, rfl⟩
          have hN2 : yi.length = N := by rw [← hN]; exact r2.len.symm
          have x0 : wr.cell? ⟨b1, o1 + j * 4, none⟩ = some (.string nm) := c1 0 (by omega)
          have x1 : wr.cell? ⟨b1, o1 + j * 4 + 1, none⟩ = some (.slice dx N kx) := by rw [← hN]; exact c1 1 (by omega)
          have x2 : wr.cell? ⟨b1, o1 + j * 4 + 2, none⟩ = some (.int .i64 l) := c1 2 (by omega)
          have x3 : wr.cell? ⟨b1, o1 + j * 4 + 3, none⟩ = some (.int .i64 c) := c1 3 (by omega)
          have y0 : wr.cell? ⟨b2, o2 + j * 4, none⟩ = some (.string nm) := c2 0 (by omega)
          have y1 : wr.cell? ⟨b2, o2 + j * 4 + 1, none⟩ = some (.slice dy N ky) := by rw [← hN2]; exact c2 1 (by omega)
          have y2 : wr.cell? ⟨b2, o2 + j * 4 + 2, none⟩ = some (.int .i64 l') := c2 2 (by omega)
          have y3 : wr.cell? ⟨b2, o2 + j * 4 + 3, none⟩ = some (.int .i64 c') := c2 3 (by omega)
          rw [hN] at hil
          have HI1 := hid hi1
          have HI2 := hid hi2
          have HIS := hid r2
          have HNX := hid hN
          have HNY := hid hN2
          have g1 := fun u => guard_plq u
          have q := fun u => same_plq u l' c'
          clear c1 c2 hx hy hl1 hl2 hi1 hi2 r2 hN hN2 hc12
          go_upto_region 16 with fail
          obtain ⟨wa, hwa⟩ : ∃ wa, wr.alloc (.cells #[.string nm, .slice dx N kx, .int .i64 l, .int .i64 c] 50) = wa := ⟨_, rfl⟩
          have hca : Chg [] wr wa := by rw [← hwa]; exact (Chg.refl [] wr).alloc _
          have hka : wa.heap[wr.heap.size]? = some (.cells #[.string nm, .slice dx N kx, .int .i64 l, .int .i64 c] 50 (0, 0)) := by rw [← hwa]; exact heap_alloc_new wr _
          have v1a : wa.cell? ⟨P + 1, 1, none⟩ = some (.slice (some ⟨b2, o2, none⟩) n1 bk1) := hca.cell v1 (by simp)
          have z0 := hca.cell y0 (by simp)
          have z1 := hca.cell y1 (by simp)
          have z2 := hca.cell y2 (by simp)
          have z3 := hca.cell y3 (by simp)
          have hsz : wa.heap.size = wr.heap.size + 1 := by rw [← hwa]; simp
          obtain ⟨A, hA⟩ : ∃ A, wr.heap.size = A := ⟨_, rfl⟩
          rw [hwa]
          rw [hA] at hka hsz ⊢
          have HA1 := hid (And.intro hca (And.intro hka hsz))
          have HAE : Hid (w2.heap.size ≤ A) := hid (by rw [← hA]; exact HR.out.size)
          clear hwa hca hka hsz hA x0 x1 x2 x3 y0 y1 y2 y3 u1 v1
          go_upto_region 17 with fail
          obtain ⟨wb, hwb⟩ : ∃ wb, wa.alloc (.cells #[.string nm, .slice dy N ky, .int .i64 l', .int .i64 c'] 50) = wb := ⟨_, rfl⟩
          have hcb : Chg [] wa wb := by rw [← hwb]; exact (Chg.refl [] wa).alloc _
          have hkb : wb.heap[A + 1]? = some (.cells #[.string nm, .slice dy N ky, .int .i64 l', .int .i64 c'] 50 (0, 0)) := by rw [← hwb, ← HA1.out.2.2]; exact heap_alloc_new wa _
          have hka := hcb.heap HA1.out.2.1 (by simp)
          rw [hwb, HA1.out.2.2]
          have HB1 := hid (And.intro (HR.out.trans' (HA1.out.1.trans' hcb)) (And.intro hka hkb))
          have s0 : wb.cell? ⟨A + 1, 0, none⟩ = some (.string nm) := blk_cell hkb 0
          have s1 : wb.cell? ⟨A + 1, 1, none⟩ = some (.slice dy N ky) := blk_cell hkb 1
          have s2 : wb.cell? ⟨A + 1, 2, none⟩ = some (.int .i64 l') := blk_cell hkb 2
          have s3 : wb.cell? ⟨A + 1, 3, none⟩ = some (.int .i64 c') := blk_cell hkb 3
          have t0 : wb.cell? ⟨A, 0, none⟩ = some (.string nm) := blk_cell hka 0
          have t1 : wb.cell? ⟨A, 1, none⟩ = some (.slice dx N kx) := blk_cell hka 1
          have t2 : wb.cell? ⟨A, 2, none⟩ = some (.int .i64 l) := blk_cell hka 2
          have t3 : wb.cell? ⟨A, 3, none⟩ = some (.int .i64 c) := blk_cell hka 3
          clear hwb hcb hka hkb z0 z1 z2 z3 v1a HA1
          go_cut [97] (fun vz wx => vz = .bool false ∧ wx = wb)
          case first =>
            cases p with
            | false =>
              go_wp2_with fail
              go_meet
              exact ⟨rfl, rfl⟩
            | true =>
              obtain ⟨rfl, rfl⟩ := r3 rfl
              go_wp2_with fail
              go_meet
              exact ⟨rfl, rfl⟩
          case rest =>
            obtain ⟨rfl, rfl⟩ := hcut
            clear r3 s2 s3 t2 t3 g1 q
            go_upto_region 20 with fail
            obtain ⟨wo, rfl⟩ : ∃ wo : World, wo = wr := ⟨_, rfl⟩
            obtain ⟨gj, rfl⟩ : ∃ x, x = gk := ⟨_, rfl⟩
            go_loopg [13] N (fun gk v13 wr => ∃ k : Nat, v13 = .int .i64 k ∧ Hid (gk + k = N) ∧ Hid (Chg [] wc wr))
            case atStart => exact ⟨0, rfl, hid (by omega), hid (Chg.refl _ _)⟩
            case round =>
              obtain ⟨k, rfl, HG2, HR2⟩ := hrel
              have u1 : wr.cell? ⟨A, 1, none⟩ = some (.slice dx N kx) := HR2.out.cell (blk_cell HB1.out.2.1 1) (by simp)
              have v1 : wr.cell? ⟨A + 1, 1, none⟩ = some (.slice dy N ky) := HR2.out.cell (blk_cell HB1.out.2.2 1) (by simp)
              by_cases hlk : k < N
              · have hl1 : k < xi.length := by rw [HNX.out]; exact hlk
                have hl2 : k < yi.length := by rw [HNY.out]; exact hlk
                have hc12 := HR1.out.trans' (HB1.out.1.trans' HR2.out)
                obtain ⟨b3, o3, e1, c1⟩ := (HI1.out.keep hc12).at itC_len hl1 (by omega)
                obtain ⟨b4, o4, e2, c2⟩ := (HI2.out.keep hc12).at itC_len hl2 (by omega)
                have hr := HIS.out.at k hl1 hl2
                obtain ⟨x, hx⟩ : ∃ x, xi[k] = x := ⟨_, rfl⟩
                obtain ⟨y, hy⟩ : ∃ y, yi[k] = y := ⟨_, rfl⟩
                rw [hx] at c1 hr
                rw [hy] at c2 hr
                obtain ⟨Xop, Xa, Xb, Xc, Xn, Xname, Xp1, Xp2, Xq1, Xq2⟩ := x
                obtain ⟨Yop, Ya, Yb, Yc, Yn, Yname, Yp1, Yp2, Yq1, Yq2⟩ := y
                obtain ⟨r0, r1, r2, r3, r4, r5, r6⟩ := hr
                simp only at r0 r1 r2 r3 r4 r5 r6
                subst r0 r1 r2 r3 r4 r5 e1 e2
                have x0 : wr.cell? ⟨b3, o3 + k * 10, none⟩ = some (.int .i64 Xop) := c1 0 (by omega)
                have x1 : wr.cell? ⟨b3, o3 + k * 10 + 1, none⟩ = some (.int .i64 Xa) := c1 1 (by omega)
                have x2 : wr.cell? ⟨b3, o3 + k * 10 + 2, none⟩ = some (.int .i64 Xb) := c1 2 (by omega)
                have x3 : wr.cell? ⟨b3, o3 + k * 10 + 3, none⟩ = some (.int .i64 Xc) := c1 3 (by omega)
                have x4 : wr.cell? ⟨b3, o3 + k * 10 + 4, none⟩ = some (.int .i64 Xn) := c1 4 (by omega)
                have x5 : wr.cell? ⟨b3, o3 + k * 10 + 5, none⟩ = some (.string Xname) := c1 5 (by omega)
                have x6 : wr.cell? ⟨b3, o3 + k * 10 + 6, none⟩ = some (.int .i64 Xp1) := c1 6 (by omega)
                have x7 : wr.cell? ⟨b3, o3 + k * 10 + 7, none⟩ = some (.int .i64 Xp2) := c1 7 (by omega)
                have x8 : wr.cell? ⟨b3, o3 + k * 10 + 8, none⟩ = some (.int .i64 Xq1) := c1 8 (by omega)
                have x9 : wr.cell? ⟨b3, o3 + k * 10 + 9, none⟩ = some (.int .i64 Xq2) := c1 9 (by omega)
                have y0 : wr.cell? ⟨b4, o4 + k * 10, none⟩ = some (.int .i64 Xop) := c2 0 (by omega)
                have y1 : wr.cell? ⟨b4, o4 + k * 10 + 1, none⟩ = some (.int .i64 Xa) := c2 1 (by omega)
                have y2 : wr.cell? ⟨b4, o4 + k * 10 + 2, none⟩ = some (.int .i64 Xb) := c2 2 (by omega)
                have y3 : wr.cell? ⟨b4, o4 + k * 10 + 3, none⟩ = some (.int .i64 Xc) := c2 3 (by omega)
                have y4 : wr.cell? ⟨b4, o4 + k * 10 + 4, none⟩ = some (.int .i64 Xn) := c2 4 (by omega)
                have y5 : wr.cell? ⟨b4, o4 + k * 10 + 5, none⟩ = some (.string Xname) := c2 5 (by omega)
                have y6 : wr.cell? ⟨b4, o4 + k * 10 + 6, none⟩ = some (.int .i64 Yp1) := c2 6 (by omega)
                have y7 : wr.cell? ⟨b4, o4 + k * 10 + 7, none⟩ = some (.int .i64 Yp2) := c2 7 (by omega)
                have y8 : wr.cell? ⟨b4, o4 + k * 10 + 8, none⟩ = some (.int .i64 Yq1) := c2 8 (by omega)
                have y9 : wr.cell? ⟨b4, o4 + k * 10 + 9, none⟩ = some (.int .i64 Yq2) := c2 9 (by omega)
                have g1 := fun u => guard_itm u
                have q := fun u => same_itm u Xop Xa Xb Xc Xn Yp1 Yp2 Yq1 Yq2 Xname
                clear c1 c2 hx hy hl1 hl2 hc12
                go_upto_region 23 with fail
                obtain ⟨wa, hwa⟩ : ∃ wa, wr.alloc (.cells #[.int .i64 Xop, .int .i64 Xa, .int .i64 Xb, .int .i64 Xc, .int .i64 Xn, .string Xname, .int .i64 Xp1, .int .i64 Xp2, .int .i64 Xq1, .int .i64 Xq2] 53) = wa := ⟨_, rfl⟩
                have hca : Chg [] wr wa := by rw [← hwa]; exact (Chg.refl [] wr).alloc _
                have hka : wa.heap[wr.heap.size]? = some (.cells #[.int .i64 Xop, .int .i64 Xa, .int .i64 Xb, .int .i64 Xc, .int .i64 Xn, .string Xname, .int .i64 Xp1, .int .i64 Xp2, .int .i64 Xq1, .int .i64 Xq2] 53 (0, 0)) := by rw [← hwa]; exact heap_alloc_new wr _
                have v1a : wa.cell? ⟨A + 1, 1, none⟩ = some (.slice (some ⟨b4, o4, none⟩) N ky) := hca.cell v1 (by simp)
                have z0 := hca.cell y0 (by simp)
                have z1 := hca.cell y1 (by simp)
                have z2 := hca.cell y2 (by simp)
                have z3 := hca.cell y3 (by simp)
                have z4 := hca.cell y4 (by simp)
                have z5 := hca.cell y5 (by simp)
                have z6 := hca.cell y6 (by simp)
                have z7 := hca.cell y7 (by simp)
                have z8 := hca.cell y8 (by simp)
                have z9 := hca.cell y9 (by simp)
                have hsz : wa.heap.size = wr.heap.size + 1 := by rw [← hwa]; simp
                obtain ⟨E, hE⟩ : ∃ E, wr.heap.size = E := ⟨_, rfl⟩
                rw [hwa]
                rw [hE] at hka hsz ⊢
                have HE1 := hid (And.intro hca (And.intro hka hsz))
                have HEE : Hid (wc.heap.size ≤ E) := hid (by rw [← hE]; exact HR2.out.size)
                clear hwa hca hka hsz hE u1 v1 x0 y0 x1 y1 x2 y2 x3 y3 x4 y4 x5 y5 x6 y6 x7 y7 x8 y8 x9 y9
                go_upto_region 24 with fail
                obtain ⟨wd, hwd⟩ : ∃ wd, wa.alloc (.cells #[.int .i64 Xop, .int .i64 Xa, .int .i64 Xb, .int .i64 Xc, .int .i64 Xn, .string Xname, .int .i64 Yp1, .int .i64 Yp2, .int .i64 Yq1, .int .i64 Yq2] 53) = wd := ⟨_, rfl⟩
                have hcb : Chg [] wa wd := by rw [← hwd]; exact (Chg.refl [] wa).alloc _
                have hkb : wd.heap[E + 1]? = some (.cells #[.int .i64 Xop, .int .i64 Xa, .int .i64 Xb, .int .i64 Xc, .int .i64 Xn, .string Xname, .int .i64 Yp1, .int .i64 Yp2, .int .i64 Yq1, .int .i64 Yq2] 53 (0, 0)) := by rw [← hwd, ← HE1.out.2.2]; exact heap_alloc_new wa _
                have hka := hcb.heap HE1.out.2.1 (by simp)
                rw [hwd, HE1.out.2.2]
                have HD1 := hid (And.intro (HR2.out.trans' (HE1.out.1.trans' hcb)) (And.intro hka hkb))
                have s0 : wd.cell? ⟨E + 1, 0, none⟩ = some (.int .i64 Xop) := blk_cell hkb 0
                have s1 : wd.cell? ⟨E + 1, 1, none⟩ = some (.int .i64 Xa) := blk_cell hkb 1
                have s2 : wd.cell? ⟨E + 1, 2, none⟩ = some (.int .i64 Xb) := blk_cell hkb 2
                have s3 : wd.cell? ⟨E + 1, 3, none⟩ = some (.int .i64 Xc) := blk_cell hkb 3
                have s4 : wd.cell? ⟨E + 1, 4, none⟩ = some (.int .i64 Xn) := blk_cell hkb 4
                have s5 : wd.cell? ⟨E + 1, 5, none⟩ = some (.string Xname) := blk_cell hkb 5
                have s6 : wd.cell? ⟨E + 1, 6, none⟩ = some (.int .i64 Yp1) := blk_cell hkb 6
                have s7 : wd.cell? ⟨E + 1, 7, none⟩ = some (.int .i64 Yp2) := blk_cell hkb 7
                have s8 : wd.cell? ⟨E + 1, 8, none⟩ = some (.int .i64 Yq1) := blk_cell hkb 8
                have s9 : wd.cell? ⟨E + 1, 9, none⟩ = some (.int .i64 Yq2) := blk_cell hkb 9
                have t0 : wd.cell? ⟨E, 0, none⟩ = some (.int .i64 Xop) := blk_cell hka 0
                have t1 : wd.cell? ⟨E, 1, none⟩ = some (.int .i64 Xa) := blk_cell hka 1
                have t2 : wd.cell? ⟨E, 2, none⟩ = some (.int .i64 Xb) := blk_cell hka 2
                have t3 : wd.cell? ⟨E, 3, none⟩ = some (.int .i64 Xc) := blk_cell hka 3
                have t4 : wd.cell? ⟨E, 4, none⟩ = some (.int .i64 Xn) := blk_cell hka 4
                have t5 : wd.cell? ⟨E, 5, none⟩ = some (.string Xname) := blk_cell hka 5
                have t6 : wd.cell? ⟨E, 6, none⟩ = some (.int .i64 Xp1) := blk_cell hka 6
                have t7 : wd.cell? ⟨E, 7, none⟩ = some (.int .i64 Xp2) := blk_cell hka 7
                have t8 : wd.cell? ⟨E, 8, none⟩ = some (.int .i64 Xq1) := blk_cell hka 8
                have t9 : wd.cell? ⟨E, 9, none⟩ = some (.int .i64 Xq2) := blk_cell hka 9
                have f6 : wd.frozen? ⟨E, 6, none⟩ = false := blk_free hka 6
                have f7 : wd.frozen? ⟨E, 7, none⟩ = false := blk_free hka 7
                have f8 : wd.frozen? ⟨E, 8, none⟩ = false := blk_free hka 8
                have f9 : wd.frozen? ⟨E, 9, none⟩ = false := blk_free hka 9
                clear hwd hcb hka hkb v1a HE1 z0 z1 z2 z3 z4 z5 z6 z7 z8 z9
                cases p with
                | false =>
                  go_upto_region 27 with fail
                  have hcd : Chg [] wc ((((wd.setCell ⟨E, 6, none⟩ (.int .i64 Yp1)).setCell ⟨E, 7, none⟩ (.int .i64 Yp2)).setCell ⟨E, 8, none⟩ (.int .i64 Yq1)).setCell ⟨E, 9, none⟩ (.int .i64 Yq2)) := (((HD1.out.1.setCell (p := ⟨E, 6, none⟩) (.inr HEE.out) _).setCell (p := ⟨E, 7, none⟩) (.inr HEE.out) _).setCell (p := ⟨E, 8, none⟩) (.inr HEE.out) _).setCell (p := ⟨E, 9, none⟩) (.inr HEE.out) _
                  have HCD := hid hcd
                  go_wp2_with fail
                  go_roundg (gk - 1)
                  case measure => have := HG2.out; omega
                  case rel => exact ⟨k + 1, rfl, hid (by have := HG2.out; omega), HCD⟩
                | true =>
                  obtain ⟨rfl, rfl, rfl, rfl⟩ := r6 rfl
                  go_wp2_with fail
                  go_roundg (gk - 1)
                  case measure => have := HG2.out; omega
                  case rel => exact ⟨k + 1, rfl, hid (by have := HG2.out; omega), hid HD1.out.1⟩
              · have HZ := hid (HB1.out.1.trans' HR2.out)
                go_wp2_with fail
                go_roundg (gj - 1)
                case measure => have := HG.out; omega
                case rel => exact ⟨j + 1, rfl, hid (by have := HG.out; omega), HZ⟩
        · go_wp2
          go_ret
          exact ⟨rfl, HR1.out.trans' HR.out⟩
end Go.Proofs.YtmahcabidggmeaaGreatDoor
