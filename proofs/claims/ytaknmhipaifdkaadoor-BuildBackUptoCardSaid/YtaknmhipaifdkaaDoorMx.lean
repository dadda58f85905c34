/- Joined by join.py out of Mh, Mi, Jp, Mj, Mk. -/
import Derived.Test.YtaknmhipaifdkaaDoorMg
import Derived.Test.YtaknmhipaifdkaaDoorJo
set_option linter.unusedSimpArgs false
set_option linter.unusedVariables false
set_option linter.unusedSectionVars false

/- Walks of the builder's laws: like lists of items compared. -/
set_option linter.unusedSimpArgs false
set_option linter.unusedVariables false
set_option linter.unusedSectionVars false
namespace Go.Proofs.YtaknmhipaifdkaaDoor
open Go.RowKit Go.AB

theorem und_itm : Tryd.prog.underlying 82 = some (.struct (Tryd.prog.fieldsOf 82)) := by kernel_rfl
theorem und_dcl : Tryd.prog.underlying 72 = some (.struct (Tryd.prog.fieldsOf 72)) := by kernel_rfl
theorem und_plq : Tryd.prog.underlying 35 = some (.struct (Tryd.prog.fieldsOf 35)) := by kernel_rfl
theorem std_plq : Tryd.prog.stoodInHeld 35 = false := by kernel_rfl
theorem guard_itm (u : World) (x y : Operand) (xs ys : Array Value) : (eqGuard .neq 82 x y (.agg xs) (.agg ys)).run Tryd.prog u = .ok () u := run_eqGuard_agg u .neq 82 x y xs ys (by kernel_rfl)
theorem guard_dcl (u : World) (x y : Operand) (xs ys : Array Value) : (eqGuard .neq 72 x y (.agg xs) (.agg ys)).run Tryd.prog u = .ok () u := run_eqGuard_agg u .neq 72 x y xs ys (by kernel_rfl)
theorem same_itm (u : World) (a0 a1 a2 a3 a4 a6 a7 a8 a9 : Int) (a5 : ByteArray) : (binOp .neq 82 (.agg #[.int .i64 a0, .int .i64 a1, .int .i64 a2, .int .i64 a3, .int .i64 a4, .string a5, .int .i64 a6, .int .i64 a7, .int .i64 a8, .int .i64 a9]) (.agg #[.int .i64 a0, .int .i64 a1, .int .i64 a2, .int .i64 a3, .int .i64 a4, .string a5, .int .i64 a6, .int .i64 a7, .int .i64 a8, .int .i64 a9])).run Tryd.prog u = .ok (.bool false) u := by
  rw [run_neq_struct, run_equalIn_agg u 9999 82 _ _ und_itm (by kernel_rfl)]
  simp [go_sem, und_plq, std_plq]
theorem same_dcl (u : World) (a0 a2 a3 a4 : Int) (a1 : ByteArray) : (binOp .neq 72 (.agg #[.int .i64 a0, .string a1, .int .i64 a2, .int .i64 a3, .int .i64 a4]) (.agg #[.int .i64 a0, .string a1, .int .i64 a2, .int .i64 a3, .int .i64 a4])).run Tryd.prog u = .ok (.bool false) u := by
  rw [run_neq_struct, run_equalIn_agg u 9999 72 _ _ und_dcl (by kernel_rfl)]
  simp [go_sem, und_plq, std_plq]
end Go.Proofs.YtaknmhipaifdkaaDoor

/- Walks of the builder's laws: like units compared. (Printed by gen_sameu.py.) -/
set_option linter.unusedSimpArgs false
set_option linter.unusedVariables false
set_option linter.unusedSectionVars false
namespace Go.Proofs.YtaknmhipaifdkaaDoor
open Go.RowKit Go.AB

theorem neq_plc_self (a b : Int) : ∀ u : World, (binOp .neq 35 (.agg #[.int .i64 a, .int .i64 b]) (.agg #[.int .i64 a, .int .i64 b])).run Tryd.prog u = .ok (.bool false) u := fun u => by
  rw [neq_plc, eqB_true ⟨rfl, rfl⟩]
  rfl

set_option maxHeartbeats 4000000 in
set_option maxRecDepth 100000 in
theorem sameItems_calls (xs : List ItD) (hn : xs.length ≤ 1048576) {va vb : Value} (w : World) (ha : Lst itC 10 w va xs) (hb : Lst itC 10 w vb xs) :
    Calls Tryd.prog 20 #[va, vb] w fun e w' => e = .returned (.bool true) ∧ Chg [] w w' := by
  obtain ⟨aa, ca, rfl, _⟩ := ha.len
  obtain ⟨ab, cb, rfl, _⟩ := hb.len
  have HA := hid ha
  have HB := hid hb
  obtain ⟨n, hnx⟩ : ∃ n, xs.length = n := ⟨_, rfl⟩
  have HN := hid hnx
  rw [hnx] at hn ⊢
  have g1 := fun u => guard_itm u
  have z0 : ((n : Int) != (n : Int)) = false := by simp
  clear ha hb hnx
  go_enter Tryd.func20, Tryd.ntmps20
  go_wp2
  go_loopw [5] (fun vi wr => ∃ k : Nat, k ≤ n ∧ vi = .int .i64 k ∧ Hid (Chg [] w wr)) (fun vi _ => n - (intOf vi).toNat)
  case atStart => exact ⟨0, Nat.zero_le _, rfl, hid (Chg.refl _ _)⟩
  case round =>
    obtain ⟨k, hk, rfl, HC⟩ := hrel
    by_cases hlt : k < n
    · have hk1 : k < xs.length := by rw [HN.out]; exact hlt
      obtain ⟨b1, o1, hb1, c1⟩ := (HA.out.keep HC.out).at itC_len hk1 (by omega)
      obtain ⟨b2, o2, hb2, c2⟩ := (HB.out.keep HC.out).at itC_len hk1 (by omega)
      have zl : (k : Int) < (n : Int) := by omega
      have x0 : wr.cell? ⟨b1, o1 + k * 10, none⟩ = some (.int .i64 xs[k].op) := c1 0 (by omega)
      have x1 : wr.cell? ⟨b1, o1 + k * 10 + 1, none⟩ = some (.int .i64 xs[k].a) := c1 1 (by omega)
      have x2 : wr.cell? ⟨b1, o1 + k * 10 + 2, none⟩ = some (.int .i64 xs[k].b) := c1 2 (by omega)
      have x3 : wr.cell? ⟨b1, o1 + k * 10 + 3, none⟩ = some (.int .i64 xs[k].c) := c1 3 (by omega)
      have x4 : wr.cell? ⟨b1, o1 + k * 10 + 4, none⟩ = some (.int .i64 xs[k].n) := c1 4 (by omega)
      have x5 : wr.cell? ⟨b1, o1 + k * 10 + 5, none⟩ = some (.string xs[k].name) := c1 5 (by omega)
      have x6 : wr.cell? ⟨b1, o1 + k * 10 + 6, none⟩ = some (.int .i64 xs[k].p1) := c1 6 (by omega)
      have x7 : wr.cell? ⟨b1, o1 + k * 10 + 7, none⟩ = some (.int .i64 xs[k].p2) := c1 7 (by omega)
      have x8 : wr.cell? ⟨b1, o1 + k * 10 + 8, none⟩ = some (.int .i64 xs[k].q1) := c1 8 (by omega)
      have x9 : wr.cell? ⟨b1, o1 + k * 10 + 9, none⟩ = some (.int .i64 xs[k].q2) := c1 9 (by omega)
      have y0 : wr.cell? ⟨b2, o2 + k * 10, none⟩ = some (.int .i64 xs[k].op) := c2 0 (by omega)
      have y1 : wr.cell? ⟨b2, o2 + k * 10 + 1, none⟩ = some (.int .i64 xs[k].a) := c2 1 (by omega)
      have y2 : wr.cell? ⟨b2, o2 + k * 10 + 2, none⟩ = some (.int .i64 xs[k].b) := c2 2 (by omega)
      have y3 : wr.cell? ⟨b2, o2 + k * 10 + 3, none⟩ = some (.int .i64 xs[k].c) := c2 3 (by omega)
      have y4 : wr.cell? ⟨b2, o2 + k * 10 + 4, none⟩ = some (.int .i64 xs[k].n) := c2 4 (by omega)
      have y5 : wr.cell? ⟨b2, o2 + k * 10 + 5, none⟩ = some (.string xs[k].name) := c2 5 (by omega)
      have y6 : wr.cell? ⟨b2, o2 + k * 10 + 6, none⟩ = some (.int .i64 xs[k].p1) := c2 6 (by omega)
      have y7 : wr.cell? ⟨b2, o2 + k * 10 + 7, none⟩ = some (.int .i64 xs[k].p2) := c2 7 (by omega)
      have y8 : wr.cell? ⟨b2, o2 + k * 10 + 8, none⟩ = some (.int .i64 xs[k].q1) := c2 8 (by omega)
      have y9 : wr.cell? ⟨b2, o2 + k * 10 + 9, none⟩ = some (.int .i64 xs[k].q2) := c2 9 (by omega)
      obtain ⟨X, hX⟩ : ∃ X, xs[k] = X := ⟨_, rfl⟩
      rw [hX] at x0 y0 x1 y1 x2 y2 x3 y3 x4 y4 x5 y5 x6 y6 x7 y7 x8 y8 x9 y9
      obtain ⟨a0, a1, a2, a3, a4, a5, a6, a7, a8, a9⟩ := X
      simp only at x0 y0 x1 y1 x2 y2 x3 y3 x4 y4 x5 y5 x6 y6 x7 y7 x8 y8 x9 y9
      have q := fun u => same_itm u a0 a1 a2 a3 a4 a6 a7 a8 a9 a5
      subst hb1 hb2
      clear c1 c2 hX
      go_wp2_with fail
      go_quiet (fail)
      go_wp2_with fail
      go_roundw
      case rel => exact ⟨k + 1, by omega, by go_num, hid (HC.out.drewN _)⟩
      case measure => simp [intOf]; omega
    · go_wp2
      go_ret
      exact ⟨rfl, HC.out⟩

set_option maxHeartbeats 8000000 in
set_option maxRecDepth 100000 in
theorem sameUnits_calls {u : UnD} (hu : SmallU u) {va vb : Value} (w : World) (ha : UnV w va u) (hb : UnV w vb u) :
    Calls Tryd.prog 10 #[va, vb] w fun e w' => e = .returned (.bool true) ∧ Chg [] w w' := by
  obtain ⟨va0, va1, ts, rfl, a0, a1, a2, a3⟩ := id ha
  obtain ⟨vb0, vb1, us, rfl, b0, b1, b2, b3⟩ := id hb
  obtain ⟨ax0, ak0, rfl, _⟩ := a0.len
  obtain ⟨ax1, ak1, rfl, _⟩ := a1.len
  obtain ⟨bx0, bk0, rfl, _⟩ := b0.len
  obtain ⟨bx1, bk1, rfl, _⟩ := b1.len
  obtain ⟨n0, hn0⟩ : ∃ n, u.decls.length = n := ⟨_, rfl⟩
  obtain ⟨n1, hn1⟩ : ∃ n, ts.length = n := ⟨_, rfl⟩
  have hn2 : us.length = n1 := by have h9 := congrArg List.length (b2.trans a2.symm); simp only [List.length_map] at h9; omega
  have h0 := hu.decls
  have h1 : n1 ≤ 1048576 := by
    have := hu.blocks
    rw [← a2, List.length_map, hn1] at this
    exact this
  rw [hn0] at h0
  have A0 := hid a0
  have A1 := hid a1
  have B0 := hid b0
  have B1 := hid b1
  have HN := hid (And.intro hn0 (And.intro hn1 hn2))
  have HTH := hid (And.intro a2 (And.intro b2 (And.intro a3 b3)))
  have HU := hid hu
  rw [hn0, hn1, hn2]
  have hbx := two_boxes w (.cells #[.slice ax0 n0 ak0, .slice ax1 n1 ak1] 25) (.cells #[.slice bx0 n0 bk0, .slice bx1 n1 bk1] 25)
  have hc0 := ((Chg.refl [] w).alloc (.cells #[.slice ax0 n0 ak0, .slice ax1 n1 ak1] 25)).alloc (.cells #[.slice bx0 n0 bk0, .slice bx1 n1 bk1] 25)
  obtain ⟨W0, hW0⟩ : ∃ x : World, (w.alloc (.cells #[.slice ax0 n0 ak0, .slice ax1 n1 ak1] 25)).alloc (.cells #[.slice bx0 n0 bk0, .slice bx1 n1 bk1] 25) = x := ⟨_, rfl⟩
  have hbb : ∀ W, Chg [] W0 W → (W.cell? ⟨w.heap.size, 0, none⟩ = some (.slice ax0 n0 ak0) ∧ W.cell? ⟨w.heap.size, 1, none⟩ = some (.slice ax1 n1 ak1)) ∧ (W.cell? ⟨w.heap.size + 1, 0, none⟩ = some (.slice bx0 n0 bk0) ∧ W.cell? ⟨w.heap.size + 1, 1, none⟩ = some (.slice bx1 n1 bk1)) := by
    rw [hW0] at hbx
    intro W hW
    exact ⟨⟨blk_cell (hW.heap hbx.1 (by simp)) 0, blk_cell (hW.heap hbx.1 (by simp)) 1⟩, ⟨blk_cell (hW.heap hbx.2 (by simp)) 0, blk_cell (hW.heap hbx.2 (by simp)) 1⟩⟩
  rw [hW0] at hc0
  have HB := hid hbb
  have HW0 := hid hc0
  obtain ⟨⟨p0, p1⟩, ⟨q0, q1⟩⟩ := HB.out _ (Chg.refl _ _)
  have z0 := int_eq n0
  have z1 := int_eq n1
  have g1 := fun u => guard_dcl u
  have g2 := fun u => guard_plc' u
  have HWE := hid hW0
  clear ha hb a0 a1 a2 a3 b0 b1 b2 b3 hu hn0 hn1 hn2 hbx hc0 hbb
  go_enter Tryd.func10, Tryd.ntmps10
  go_upto_region 1 with fail
  try rw [HWE.out]
  clear hW0
  go_wp2_with fail
  go_loopw [5] (fun vi wr => ∃ k : Nat, k ≤ n0 ∧ vi = .int .i64 k ∧ Hid (Chg [] W0 wr)) (fun vi _ => n0 - (intOf vi).toNat)
  case atStart => exact ⟨0, Nat.zero_le _, rfl, hid (by first | exact Chg.refl _ _ | exact (Chg.refl _ _).drewN _)⟩
  case round =>
    obtain ⟨k, hk, rfl, HC⟩ := hrel
    obtain ⟨⟨p0, p1⟩, ⟨q0, q1⟩⟩ := HB.out _ HC.out
    by_cases hlt : k < n0
    · have hk1 : k < u.decls.length := by rw [HN.out.1]; exact hlt
      obtain ⟨b1, o1, hb1, c1⟩ := (A0.out.keep ((HW0.out).trans' HC.out)).at dcC_len hk1 (by omega)
      obtain ⟨b2, o2, hb2, c2⟩ := (B0.out.keep ((HW0.out).trans' HC.out)).at dcC_len hk1 (by omega)
      have zl : (k : Int) < (n0 : Int) := by omega
      have x0 : wr.cell? ⟨b1, o1 + k * 5, none⟩ = some (.int .i64 u.decls[k].kind) := c1 0 (by omega)
      have x1 : wr.cell? ⟨b1, o1 + k * 5 + 1, none⟩ = some (.string u.decls[k].name) := c1 1 (by omega)
      have x2 : wr.cell? ⟨b1, o1 + k * 5 + 2, none⟩ = some (.int .i64 u.decls[k].val) := c1 2 (by omega)
      have x3 : wr.cell? ⟨b1, o1 + k * 5 + 3, none⟩ = some (.int .i64 u.decls[k].l) := c1 3 (by omega)
      have x4 : wr.cell? ⟨b1, o1 + k * 5 + 4, none⟩ = some (.int .i64 u.decls[k].c) := c1 4 (by omega)
      have y0 : wr.cell? ⟨b2, o2 + k * 5, none⟩ = some (.int .i64 u.decls[k].kind) := c2 0 (by omega)
      have y1 : wr.cell? ⟨b2, o2 + k * 5 + 1, none⟩ = some (.string u.decls[k].name) := c2 1 (by omega)
      have y2 : wr.cell? ⟨b2, o2 + k * 5 + 2, none⟩ = some (.int .i64 u.decls[k].val) := c2 2 (by omega)
      have y3 : wr.cell? ⟨b2, o2 + k * 5 + 3, none⟩ = some (.int .i64 u.decls[k].l) := c2 3 (by omega)
      have y4 : wr.cell? ⟨b2, o2 + k * 5 + 4, none⟩ = some (.int .i64 u.decls[k].c) := c2 4 (by omega)
      obtain ⟨X, hX⟩ : ∃ X, u.decls[k] = X := ⟨_, rfl⟩
      rw [hX] at x0 y0 x1 y1 x2 y2 x3 y3 x4 y4
      obtain ⟨a0, a1, a2, a3, a4⟩ := X
      simp only at x0 y0 x1 y1 x2 y2 x3 y3 x4 y4
      have q := fun u => same_dcl u a0 a2 a3 a4 a1
      subst hb1 hb2
      clear c1 c2 hX
      go_wp2_with fail
      go_quiet (fail)
      go_wp2_with fail
      go_roundw
      case rel => exact ⟨k + 1, by omega, by go_num, hid (HC.out.drewN _)⟩
      case measure => simp [intOf]; omega
    · go_wp2_with fail
      go_loopw [6] (fun vi wr => ∃ k : Nat, k ≤ n1 ∧ vi = .int .i64 k ∧ Hid (Chg [] W0 wr)) (fun vi _ => n1 - (intOf vi).toNat)
      case atStart => exact ⟨0, Nat.zero_le _, rfl, HC⟩
      case round =>
        obtain ⟨k, hk, rfl, HC⟩ := hrel
        obtain ⟨⟨p0, p1⟩, ⟨q0, q1⟩⟩ := HB.out _ HC.out
        by_cases hlt : k < n1
        · have hk1 : k < ts.length := by rw [HN.out.2.1]; exact hlt
          have hk2 : k < us.length := by rw [HN.out.2.2]; exact hlt
          obtain ⟨b1, o1, hb1, c1⟩ := (A1.out.keep ((HW0.out).trans' HC.out)).at bkC_len hk1 (by omega)
          obtain ⟨b2, o2, hb2, c2⟩ := (B1.out.keep ((HW0.out).trans' HC.out)).at bkC_len hk2 (by omega)
          have zl : (k : Int) < (n1 : Int) := by omega
          have heq : (ts[k]).b = (us[k]).b := by
            have h9 : (ts.map BkV.b)[k]'(by simpa using hk1) = (us.map BkV.b)[k]'(by simpa using hk2) := by
              simp only [HTH.out.1, HTH.out.2.1]
            simpa using h9
          have hm1 : ts[k] ∈ ts := List.getElem_mem _
          have hm2 : us[k] ∈ us := List.getElem_mem _
          have hla := HTH.out.2.2.1 _ hm1
          have hlb := HTH.out.2.2.2 _ hm2
          have hbm : (ts[k]).b ∈ u.blocks := by rw [← HTH.out.1]; exact List.mem_map.2 ⟨_, hm1, rfl⟩
          have hsz := HU.out.bn _ hbm
          have x0 : wr.cell? ⟨b1, o1 + k * 4, none⟩ = some (.string (ts[k]).b.name) := c1 0 (by omega)
          have x1 : wr.cell? ⟨b1, o1 + k * 4 + 1, none⟩ = some (ts[k]).items := c1 1 (by omega)
          have x2 : wr.cell? ⟨b1, o1 + k * 4 + 2, none⟩ = some (.int .i64 (ts[k]).b.l) := c1 2 (by omega)
          have x3 : wr.cell? ⟨b1, o1 + k * 4 + 3, none⟩ = some (.int .i64 (ts[k]).b.c) := c1 3 (by omega)
          have y0 : wr.cell? ⟨b2, o2 + k * 4, none⟩ = some (.string (us[k]).b.name) := c2 0 (by omega)
          have y1 : wr.cell? ⟨b2, o2 + k * 4 + 1, none⟩ = some (us[k]).items := c2 1 (by omega)
          have y2 : wr.cell? ⟨b2, o2 + k * 4 + 2, none⟩ = some (.int .i64 (us[k]).b.l) := c2 2 (by omega)
          have y3 : wr.cell? ⟨b2, o2 + k * 4 + 3, none⟩ = some (.int .i64 (us[k]).b.c) := c2 3 (by omega)
          obtain ⟨X, hX⟩ : ∃ X, ts[k] = X := ⟨_, rfl⟩
          obtain ⟨Y, hY⟩ : ∃ X, us[k] = X := ⟨_, rfl⟩
          rw [hX] at x0 x1 x2 x3 heq hla hsz
          rw [hY] at y0 y1 y2 y3 heq hlb
          obtain ⟨⟨nm, its, ln, cl⟩, vi⟩ := X
          obtain ⟨yb, wi⟩ := Y
          simp only at heq
          subst heq
          simp only at x0 x1 x2 x3 y0 y1 y2 y3 hla hlb hsz
          have HSI := hid (fun W (h : Chg [] W0 W) => sameItems_calls its hsz.2.1 W (hla.keep (HW0.out.trans' h)) (hlb.keep (HW0.out.trans' h)))
          have s2 := neq_plc_self ln cl
          obtain ⟨s1, s22, s3, s4⟩ := str_eq (X := nm) rfl
          subst hb1 hb2
          clear c1 c2 hX hY hla hlb hsz hm1 hm2 hbm
          go_upto_region 11 with fail
          (refine wp_region_held_drew (S := (fun w' => w'.cell? ⟨w.heap.size, 1, none⟩ = some (.slice (some ⟨b1, o1, none⟩) n1 ak1) ∧ w'.cell? ⟨w.heap.size + 1, 1, none⟩ = some (.slice (some ⟨b2, o2, none⟩) n1 bk1) ∧ w'.cell? ⟨b1, o1 + k * 4, none⟩ = some (.string nm) ∧ w'.cell? ⟨b1, o1 + k * 4 + 1, none⟩ = some vi ∧ w'.cell? ⟨b1, o1 + k * 4 + 2, none⟩ = some (.int .i64 ln) ∧ w'.cell? ⟨b1, o1 + k * 4 + 3, none⟩ = some (.int .i64 cl) ∧ w'.cell? ⟨b2, o2 + k * 4, none⟩ = some (.string nm) ∧ w'.cell? ⟨b2, o2 + k * 4 + 1, none⟩ = some wi ∧ w'.cell? ⟨b2, o2 + k * 4 + 2, none⟩ = some (.int .i64 ln) ∧ w'.cell? ⟨b2, o2 + k * 4 + 3, none⟩ = some (.int .i64 cl))) (by kernel_rfl) (by exact ⟨p1, q1, x0, x1, x2, x3, y0, y1, y2, y3⟩) (fun hHeld => ?_); (refine wpAnyH_take (i := 0) (v := ?_) rfl (by kernel_rfl) (by kernel_rfl) (by kernel_rfl) (fun _ _ _ h => h) (Or.inl ⟨by rfl, ?_⟩) (by assumption) ?_; rotate_left 1; (focus (intro w hSw; (try dsimp only at hSw); go_simp; (try with_reducible rfl))); (try simp only [List.getElem_toArray, List.getElem_cons_zero, List.getElem_cons_succ, Act.put, List.setIfInBounds_toArray, List.set_cons_zero, List.set_cons_succ])); (refine wpAnyH_take (i := 1) (v := ?_) rfl (by kernel_rfl) (by kernel_rfl) (by kernel_rfl) (fun _ _ _ h => h) (Or.inl ⟨by rfl, ?_⟩) (by assumption) ?_; rotate_left 1; (focus (intro w hSw; (try dsimp only at hSw); go_simp; (try with_reducible rfl))); (try simp only [List.getElem_toArray, List.getElem_cons_zero, List.getElem_cons_succ, Act.put, List.setIfInBounds_toArray, List.set_cons_zero, List.set_cons_succ])); (refine wpAnyH_take (i := 2) (v := ?_) rfl (by kernel_rfl) (by kernel_rfl) (by kernel_rfl) (fun _ _ _ h => h) (Or.inl ⟨by rfl, ?_⟩) (by assumption) ?_; rotate_left 1; (focus (intro w hSw; (try dsimp only at hSw); go_simp; (try with_reducible rfl))); (try simp only [List.getElem_toArray, List.getElem_cons_zero, List.getElem_cons_succ, Act.put, List.setIfInBounds_toArray, List.set_cons_zero, List.set_cons_succ])); (refine wpAnyH_take (i := 3) (v := ?_) rfl (by kernel_rfl) (by kernel_rfl) (by kernel_rfl) (fun _ _ _ h => h) (Or.inl ⟨by rfl, ?_⟩) (by assumption) ?_; rotate_left 1; (focus (intro w hSw; (try dsimp only at hSw); go_simp; (try with_reducible rfl))); (try simp only [List.getElem_toArray, List.getElem_cons_zero, List.getElem_cons_succ, Act.put, List.setIfInBounds_toArray, List.set_cons_zero, List.set_cons_succ])); (refine wpAnyH_take (i := 4) (v := ?_) rfl (by kernel_rfl) (by kernel_rfl) (by kernel_rfl) (fun _ _ _ h => h) (Or.inl ⟨by rfl, ?_⟩) (by assumption) ?_; rotate_left 1; (focus (intro w hSw; (try dsimp only at hSw); go_simp; (try with_reducible rfl))); (try simp only [List.getElem_toArray, List.getElem_cons_zero, List.getElem_cons_succ, Act.put, List.setIfInBounds_toArray, List.set_cons_zero, List.set_cons_succ])); (refine wpAnyH_take (i := 5) (v := ?_) rfl (by kernel_rfl) (by kernel_rfl) (by kernel_rfl) (fun _ _ _ h => h) (Or.inl ⟨by rfl, ?_⟩) (by assumption) ?_; rotate_left 1; (focus (intro w hSw; (try dsimp only at hSw); go_simp; (try with_reducible rfl))); (try simp only [List.getElem_toArray, List.getElem_cons_zero, List.getElem_cons_succ, Act.put, List.setIfInBounds_toArray, List.set_cons_zero, List.set_cons_succ])); (refine wpAnyH_take (i := 6) (v := ?_) rfl (by kernel_rfl) (by kernel_rfl) (by kernel_rfl) (fun _ _ _ h => h) (Or.inl ⟨by rfl, ?_⟩) (by assumption) ?_; rotate_left 1; (focus (intro w hSw; (try dsimp only at hSw); go_simp; (try with_reducible rfl))); (try simp only [List.getElem_toArray, List.getElem_cons_zero, List.getElem_cons_succ, Act.put, List.setIfInBounds_toArray, List.set_cons_zero, List.set_cons_succ])); (refine wpAnyH_take (i := 7) (v := ?_) rfl (by kernel_rfl) (by kernel_rfl) (by kernel_rfl) (fun _ _ _ h => h) (Or.inl ⟨by rfl, ?_⟩) (by assumption) ?_; rotate_left 1; (focus (intro w hSw; (try dsimp only at hSw); go_simp; (try with_reducible rfl))); (try simp only [List.getElem_toArray, List.getElem_cons_zero, List.getElem_cons_succ, Act.put, List.setIfInBounds_toArray, List.set_cons_zero, List.set_cons_succ])); (refine wpAnyH_take (i := 8) (v := ?_) rfl (by kernel_rfl) (by kernel_rfl) (by kernel_rfl) (fun _ _ _ h => h) (Or.inl ⟨by rfl, ?_⟩) (by assumption) ?_; rotate_left 1; (focus (intro w hSw; (try dsimp only at hSw); go_simp; (try with_reducible rfl))); (try simp only [List.getElem_toArray, List.getElem_cons_zero, List.getElem_cons_succ, Act.put, List.setIfInBounds_toArray, List.set_cons_zero, List.set_cons_succ])); (refine wpAnyH_take (i := 9) (v := ?_) rfl (by kernel_rfl) (by kernel_rfl) (by kernel_rfl) (fun _ _ _ h => h) (Or.inl ⟨by rfl, ?_⟩) (by assumption) ?_; rotate_left 1; (focus (intro w hSw; (try dsimp only at hSw); go_simp; (try with_reducible rfl))); (try simp only [List.getElem_toArray, List.getElem_cons_zero, List.getElem_cons_succ, Act.put, List.setIfInBounds_toArray, List.set_cons_zero, List.set_cons_succ])); (refine wpAnyH_take (i := 10) (v := ?_) rfl (by kernel_rfl) (by kernel_rfl) (by kernel_rfl) (fun _ _ _ h => h) (Or.inl ⟨by rfl, ?_⟩) (by assumption) ?_; rotate_left 1; (focus (intro w hSw; (try dsimp only at hSw); go_simp; (try with_reducible rfl))); (try simp only [List.getElem_toArray, List.getElem_cons_zero, List.getElem_cons_succ, Act.put, List.setIfInBounds_toArray, List.set_cons_zero, List.set_cons_succ])); (refine wpAnyH_take (i := 11) (v := ?_) rfl (by kernel_rfl) (by kernel_rfl) (by kernel_rfl) (fun _ _ _ h => h) (Or.inl ⟨by rfl, ?_⟩) (by assumption) ?_; rotate_left 1; (focus (intro w hSw; (try dsimp only at hSw); go_simp; (try with_reducible rfl))); (try simp only [List.getElem_toArray, List.getElem_cons_zero, List.getElem_cons_succ, Act.put, List.setIfInBounds_toArray, List.set_cons_zero, List.set_cons_succ])); (refine wpAnyH_take (i := 12) (v := ?_) rfl (by kernel_rfl) (by kernel_rfl) (by kernel_rfl) (fun _ _ _ h => h) (Or.inl ⟨by rfl, ?_⟩) (by assumption) ?_; rotate_left 1; (focus (intro w hSw; (try dsimp only at hSw); go_simp; (try with_reducible rfl))); (try simp only [List.getElem_toArray, List.getElem_cons_zero, List.getElem_cons_succ, Act.put, List.setIfInBounds_toArray, List.set_cons_zero, List.set_cons_succ])); (refine wpAnyH_take (i := 13) (v := ?_) rfl (by kernel_rfl) (by kernel_rfl) (by kernel_rfl) (fun _ _ _ h => h) (Or.inl ⟨by rfl, ?_⟩) (by assumption) ?_; rotate_left 1; (focus (intro w hSw; (try dsimp only at hSw); go_simp; (try with_reducible rfl))); (try simp only [List.getElem_toArray, List.getElem_cons_zero, List.getElem_cons_succ, Act.put, List.setIfInBounds_toArray, List.set_cons_zero, List.set_cons_succ])); (refine wpAnyH_take (i := 14) (v := ?_) rfl (by kernel_rfl) (by kernel_rfl) (by kernel_rfl) (fun _ _ _ h => h) (Or.inl ⟨by rfl, ?_⟩) (by assumption) ?_; rotate_left 1; (focus (intro w hSw; (try dsimp only at hSw); go_simp; (try with_reducible rfl))); (try simp only [List.getElem_toArray, List.getElem_cons_zero, List.getElem_cons_succ, Act.put, List.setIfInBounds_toArray, List.set_cons_zero, List.set_cons_succ])); (refine wpAnyH_take (i := 15) (v := ?_) rfl (by kernel_rfl) (by kernel_rfl) (by kernel_rfl) (fun _ _ _ h => h) (Or.inl ⟨by rfl, ?_⟩) (by assumption) ?_; rotate_left 1; (focus (intro w hSw; (try dsimp only at hSw); go_simp; (try with_reducible rfl))); (try simp only [List.getElem_toArray, List.getElem_cons_zero, List.getElem_cons_succ, Act.put, List.setIfInBounds_toArray, List.set_cons_zero, List.set_cons_succ])); (refine wpAnyH_take (i := 16) (v := ?_) rfl (by kernel_rfl) (by kernel_rfl) (by kernel_rfl) (fun _ _ _ h => h) (Or.inl ⟨by rfl, ?_⟩) (by assumption) ?_; rotate_left 1; (focus (intro w hSw; (try dsimp only at hSw); go_simp; (try with_reducible rfl))); (try simp only [List.getElem_toArray, List.getElem_cons_zero, List.getElem_cons_succ, Act.put, List.setIfInBounds_toArray, List.set_cons_zero, List.set_cons_succ])); (refine wpAnyH_take (i := 17) (v := ?_) rfl (by kernel_rfl) (by kernel_rfl) (by kernel_rfl) (fun _ _ _ h => h) (Or.inl ⟨by rfl, ?_⟩) (by assumption) ?_; rotate_left 1; (focus (intro w hSw; (try dsimp only at hSw); go_simp; (try with_reducible rfl))); (try simp only [List.getElem_toArray, List.getElem_cons_zero, List.getElem_cons_succ, Act.put, List.setIfInBounds_toArray, List.set_cons_zero, List.set_cons_succ])); (refine wpAnyH_take (i := 18) (v := ?_) rfl (by kernel_rfl) (by kernel_rfl) (by kernel_rfl) (fun _ _ _ h => h) (Or.inl ⟨by rfl, ?_⟩) (by assumption) ?_; rotate_left 1; (focus (intro w hSw; (try dsimp only at hSw); go_simp; (try with_reducible rfl))); (try simp only [List.getElem_toArray, List.getElem_cons_zero, List.getElem_cons_succ, Act.put, List.setIfInBounds_toArray, List.set_cons_zero, List.set_cons_succ])); (refine wpAnyH_take (i := 19) (v := ?_) rfl (by kernel_rfl) (by kernel_rfl) (by kernel_rfl) (fun _ _ _ h => h) (Or.inl ⟨by rfl, ?_⟩) (by assumption) ?_; rotate_left 1; (focus (intro w hSw; (try dsimp only at hSw); go_simp; (try with_reducible rfl))); (try simp only [List.getElem_toArray, List.getElem_cons_zero, List.getElem_cons_succ, Act.put, List.setIfInBounds_toArray, List.set_cons_zero, List.set_cons_succ])); (refine wpAnyH_take (i := 20) (v := ?_) rfl (by kernel_rfl) (by kernel_rfl) (by kernel_rfl) (fun _ _ _ h => h) (Or.inl ⟨by rfl, ?_⟩) (by assumption) ?_; rotate_left 1; (focus (intro w hSw; (try dsimp only at hSw); go_simp; (try with_reducible rfl))); (try simp only [List.getElem_toArray, List.getElem_cons_zero, List.getElem_cons_succ, Act.put, List.setIfInBounds_toArray, List.set_cons_zero, List.set_cons_succ])); (refine wpAnyH_take (i := 21) (v := ?_) rfl (by kernel_rfl) (by kernel_rfl) (by kernel_rfl) (fun _ _ _ h => h) (Or.inl ⟨by rfl, ?_⟩) (by assumption) ?_; rotate_left 1; (focus (intro w hSw; (try dsimp only at hSw); go_simp; (try with_reducible rfl))); (try simp only [List.getElem_toArray, List.getElem_cons_zero, List.getElem_cons_succ, Act.put, List.setIfInBounds_toArray, List.set_cons_zero, List.set_cons_succ])); (refine wpAnyH_take (i := 22) (v := ?_) rfl (by kernel_rfl) (by kernel_rfl) (by kernel_rfl) (fun _ _ _ h => h) (Or.inl ⟨by rfl, ?_⟩) (by assumption) ?_; rotate_left 1; (focus (intro w hSw; (try dsimp only at hSw); go_simp; (try with_reducible rfl))); (try simp only [List.getElem_toArray, List.getElem_cons_zero, List.getElem_cons_succ, Act.put, List.setIfInBounds_toArray, List.set_cons_zero, List.set_cons_succ])); (refine wpAnyH_take (i := 23) (v := ?_) rfl (by kernel_rfl) (by kernel_rfl) (by kernel_rfl) (fun _ _ _ h => h) (Or.inl ⟨by rfl, ?_⟩) (by assumption) ?_; rotate_left 1; (focus (intro w hSw; (try dsimp only at hSw); go_simp; (try with_reducible rfl))); (try simp only [List.getElem_toArray, List.getElem_cons_zero, List.getElem_cons_succ, Act.put, List.setIfInBounds_toArray, List.set_cons_zero, List.set_cons_succ])); (refine wpAnyH_take (i := 24) (v := ?_) rfl (by kernel_rfl) (by kernel_rfl) (by kernel_rfl) (fun _ _ _ h => h) (Or.inl ⟨by rfl, ?_⟩) (by assumption) ?_; rotate_left 1; (focus (intro w hSw; (try dsimp only at hSw); go_simp; (try with_reducible rfl))); (try simp only [List.getElem_toArray, List.getElem_cons_zero, List.getElem_cons_succ, Act.put, List.setIfInBounds_toArray, List.set_cons_zero, List.set_cons_succ])); (refine wpAnyH_take (i := 25) (v := ?_) rfl (by kernel_rfl) (by kernel_rfl) (by kernel_rfl) (fun _ _ _ h => h) (Or.inl ⟨by rfl, ?_⟩) (by assumption) ?_; rotate_left 1; (focus (intro w hSw; (try dsimp only at hSw); go_simp; (try with_reducible rfl))); (try simp only [List.getElem_toArray, List.getElem_cons_zero, List.getElem_cons_succ, Act.put, List.setIfInBounds_toArray, List.set_cons_zero, List.set_cons_succ])); (refine wpAnyH_take (i := 26) (v := ?_) rfl (by kernel_rfl) (by kernel_rfl) (by kernel_rfl) (fun _ _ _ h => h) (Or.inl ⟨by rfl, ?_⟩) (by assumption) ?_; rotate_left 1; (focus (intro w hSw; (try dsimp only at hSw); go_simp; (try with_reducible rfl))); (try simp only [List.getElem_toArray, List.getElem_cons_zero, List.getElem_cons_succ, Act.put, List.setIfInBounds_toArray, List.set_cons_zero, List.set_cons_succ])); (refine wpAnyH_take (i := 27) (v := ?_) rfl (by kernel_rfl) (by kernel_rfl) (by kernel_rfl) (fun _ _ _ h => h) (Or.inl ⟨by rfl, ?_⟩) (by assumption) ?_; rotate_left 1; (focus (intro w hSw; (try dsimp only at hSw); go_simp; (try with_reducible rfl))); (try simp only [List.getElem_toArray, List.getElem_cons_zero, List.getElem_cons_succ, Act.put, List.setIfInBounds_toArray, List.set_cons_zero, List.set_cons_succ])); (refine wpAnyH_take (i := 28) (v := ?_) rfl (by kernel_rfl) (by kernel_rfl) (by kernel_rfl) (fun _ _ _ h => h) (Or.inl ⟨by rfl, ?_⟩) (by assumption) ?_; rotate_left 1; (focus (intro w hSw; (try dsimp only at hSw); go_simp; (try with_reducible rfl))); (try simp only [List.getElem_toArray, List.getElem_cons_zero, List.getElem_cons_succ, Act.put, List.setIfInBounds_toArray, List.set_cons_zero, List.set_cons_succ])); (refine wpAnyH_take (i := 29) (v := ?_) rfl (by kernel_rfl) (by kernel_rfl) (by kernel_rfl) (fun _ _ _ h => h) (Or.inl ⟨by rfl, ?_⟩) (by assumption) ?_; rotate_left 1; (focus (intro w hSw; (try dsimp only at hSw); go_simp; (try with_reducible rfl))); (try simp only [List.getElem_toArray, List.getElem_cons_zero, List.getElem_cons_succ, Act.put, List.setIfInBounds_toArray, List.set_cons_zero, List.set_cons_succ])); (refine wpAnyH_take (i := 30) (v := ?_) rfl (by kernel_rfl) (by kernel_rfl) (by kernel_rfl) (fun _ _ _ h => h) (Or.inl ⟨by rfl, ?_⟩) (by assumption) ?_; rotate_left 1; (focus (intro w hSw; (try dsimp only at hSw); go_simp; (try with_reducible rfl))); (try simp only [List.getElem_toArray, List.getElem_cons_zero, List.getElem_cons_succ, Act.put, List.setIfInBounds_toArray, List.set_cons_zero, List.set_cons_succ])); (refine wpAnyH_take (i := 31) (v := ?_) rfl (by kernel_rfl) (by kernel_rfl) (by kernel_rfl) (fun _ _ _ h => h) (Or.inl ⟨by rfl, ?_⟩) (by assumption) ?_; rotate_left 1; (focus (intro w hSw; (try dsimp only at hSw); go_simp; (try with_reducible rfl))); (try simp only [List.getElem_toArray, List.getElem_cons_zero, List.getElem_cons_succ, Act.put, List.setIfInBounds_toArray, List.set_cons_zero, List.set_cons_succ])); (refine wpAnyH_take (i := 32) (v := ?_) rfl (by kernel_rfl) (by kernel_rfl) (by kernel_rfl) (fun _ _ _ h => h) (Or.inl ⟨by rfl, ?_⟩) (by assumption) ?_; rotate_left 1; (focus (intro w hSw; (try dsimp only at hSw); go_simp; (try with_reducible rfl))); (try simp only [List.getElem_toArray, List.getElem_cons_zero, List.getElem_cons_succ, Act.put, List.setIfInBounds_toArray, List.set_cons_zero, List.set_cons_succ])); (refine wpAnyH_take (i := 33) (v := ?_) rfl (by kernel_rfl) (by kernel_rfl) (by kernel_rfl) (fun _ _ _ h => h) (Or.inl ⟨by rfl, ?_⟩) (by assumption) ?_; rotate_left 1; (focus (intro w hSw; (try dsimp only at hSw); go_simp; (try with_reducible rfl))); (try simp only [List.getElem_toArray, List.getElem_cons_zero, List.getElem_cons_succ, Act.put, List.setIfInBounds_toArray, List.set_cons_zero, List.set_cons_succ])); (refine wpAnyH_take (i := 34) (v := ?_) rfl (by kernel_rfl) (by kernel_rfl) (by kernel_rfl) (fun _ _ _ h => h) (Or.inl ⟨by rfl, ?_⟩) (by assumption) ?_; rotate_left 1; (focus (intro w hSw; (try dsimp only at hSw); go_simp; (try with_reducible rfl))); (try simp only [List.getElem_toArray, List.getElem_cons_zero, List.getElem_cons_succ, Act.put, List.setIfInBounds_toArray, List.set_cons_zero, List.set_cons_succ])); (refine wpAnyH_take (i := 35) (v := ?_) rfl (by kernel_rfl) (by kernel_rfl) (by kernel_rfl) (fun _ _ _ h => h) (Or.inl ⟨by rfl, ?_⟩) (by assumption) ?_; rotate_left 1; (focus (intro w hSw; (try dsimp only at hSw); go_simp; (try with_reducible rfl))); (try simp only [List.getElem_toArray, List.getElem_cons_zero, List.getElem_cons_succ, Act.put, List.setIfInBounds_toArray, List.set_cons_zero, List.set_cons_succ])); (refine wpAnyH_take (i := 36) (v := ?_) rfl (by kernel_rfl) (by kernel_rfl) (by kernel_rfl) (fun _ _ _ h => h) (Or.inl ⟨by rfl, ?_⟩) (by assumption) ?_; rotate_left 1; (focus (intro w hSw; (try dsimp only at hSw); go_simp; (try with_reducible rfl))); (try simp only [List.getElem_toArray, List.getElem_cons_zero, List.getElem_cons_succ, Act.put, List.setIfInBounds_toArray, List.set_cons_zero, List.set_cons_succ])); (refine wpAnyH_take (i := 37) (v := ?_) rfl (by kernel_rfl) (by kernel_rfl) (by kernel_rfl) (fun _ _ _ h => h) (Or.inl ⟨by rfl, ?_⟩) (by assumption) ?_; rotate_left 1; (focus (intro w hSw; (try dsimp only at hSw); go_simp; (try with_reducible rfl))); (try simp only [List.getElem_toArray, List.getElem_cons_zero, List.getElem_cons_succ, Act.put, List.setIfInBounds_toArray, List.set_cons_zero, List.set_cons_succ])); (refine wpAnyH_take (i := 38) (v := ?_) rfl (by kernel_rfl) (by kernel_rfl) (by kernel_rfl) (fun _ _ _ h => h) (Or.inl ⟨by rfl, ?_⟩) (by assumption) ?_; rotate_left 1; (focus (intro w hSw; (try dsimp only at hSw); go_simp; (try with_reducible rfl))); (try simp only [List.getElem_toArray, List.getElem_cons_zero, List.getElem_cons_succ, Act.put, List.setIfInBounds_toArray, List.set_cons_zero, List.set_cons_succ])); (refine wpAnyH_take (i := 39) (v := ?_) rfl (by kernel_rfl) (by kernel_rfl) (by kernel_rfl) (fun _ _ _ h => h) (Or.inl ⟨by rfl, ?_⟩) (by assumption) ?_; rotate_left 1; (focus (intro w hSw; (try dsimp only at hSw); go_simp; (try with_reducible rfl))); (try simp only [List.getElem_toArray, List.getElem_cons_zero, List.getElem_cons_succ, Act.put, List.setIfInBounds_toArray, List.set_cons_zero, List.set_cons_succ])); (refine wpAnyH_take (i := 40) (v := ?_) rfl (by kernel_rfl) (by kernel_rfl) (by kernel_rfl) (fun _ _ _ h => h) (Or.inl ⟨by rfl, ?_⟩) (by assumption) ?_; rotate_left 1; (focus (intro w hSw; (try dsimp only at hSw); go_simp; (try with_reducible rfl))); (try simp only [List.getElem_toArray, List.getElem_cons_zero, List.getElem_cons_succ, Act.put, List.setIfInBounds_toArray, List.set_cons_zero, List.set_cons_succ])); (refine wpAnyH_ready (rs := [41]) (by kernel_rfl) (by simp) ?_; refine AllReadyH.cons rfl (fun K hK => ?_) AllReadyH.nil; go_simp; go_at_call 20; refine (HSI.out _ (HC.out.drewN 1)).mono ?_; rintro e w9 ⟨rfl, hc9⟩; (refine hK.out _ _ (by exact (by exact ⟨hc9.cell hHeld.1 (by simp), hc9.cell hHeld.2.1 (by simp), hc9.cell hHeld.2.2.1 (by simp), hc9.cell hHeld.2.2.2.1 (by simp), hc9.cell hHeld.2.2.2.2.1 (by simp), hc9.cell hHeld.2.2.2.2.2.1 (by simp), hc9.cell hHeld.2.2.2.2.2.2.1 (by simp), hc9.cell hHeld.2.2.2.2.2.2.2.1 (by simp), hc9.cell hHeld.2.2.2.2.2.2.2.2.1 (by simp), hc9.cell hHeld.2.2.2.2.2.2.2.2.2 (by simp)⟩)) (fun hHeld => ?_); clear hK K; (try simp only [List.getElem_toArray, List.getElem_cons_zero, List.getElem_cons_succ, Act.put, List.setIfInBounds_toArray, List.set_cons_zero, List.set_cons_succ]))); (refine wpAnyH_take (i := 42) (v := ?_) rfl (by kernel_rfl) (by kernel_rfl) (by kernel_rfl) (fun _ _ _ h => h) (Or.inl ⟨by rfl, ?_⟩) (by assumption) ?_; rotate_left 1; (focus (intro w hSw; (try dsimp only at hSw); go_simp; (try with_reducible rfl))); (try simp only [List.getElem_toArray, List.getElem_cons_zero, List.getElem_cons_succ, Act.put, List.setIfInBounds_toArray, List.set_cons_zero, List.set_cons_succ])); (refine wpAnyH_take (i := 43) (v := ?_) rfl (by kernel_rfl) (by kernel_rfl) (by kernel_rfl) (fun _ _ _ h => h) (Or.inl ⟨by rfl, ?_⟩) (by assumption) ?_; rotate_left 1; (focus (intro w hSw; (try dsimp only at hSw); go_simp; (try with_reducible rfl))); (try simp only [List.getElem_toArray, List.getElem_cons_zero, List.getElem_cons_succ, Act.put, List.setIfInBounds_toArray, List.set_cons_zero, List.set_cons_succ])); refine wpAnyH_done (by kernel_rfl) ?_ _)
          go_wp2_with fail
          go_roundw
          case rel => exact ⟨k + 1, by omega, by go_num, hid ((HC.out.trans' (Chg.refl [] wr).drew).trans' hc9)⟩
          case measure => simp [intOf]; omega
        · go_wp2
          go_ret
          exact ⟨rfl, HW0.out.trans' HC.out⟩
end Go.Proofs.YtaknmhipaifdkaaDoor

/- The law BuildRenames, walked; a unit's program is small. -/
set_option linter.unusedVariables false
set_option linter.unusedSectionVars false
namespace Go.Proofs.YtaknmhipaifdkaaDoor
open Go.RowKit Go.AB
set_option linter.unusedSimpArgs false
set_option linter.unusedVariables false
set_option linter.unusedSectionVars false

theorem name_le {s : ByteArray} (h : nameB s = true) : s.size ≤ 24 := by
  unfold nameB at h
  have h1 : s.data.toList.length = s.size := Array.length_toList
  generalize s.data.toList = l at h h1
  cases l with
  | nil => simp [nameL] at h
  | cons x r =>
    simp only [nameL, Bool.and_eq_true, decide_eq_true_eq] at h
    simp only [List.length_cons] at h1
    omega
/-- Lists of at most n elements, with names. -/
structure InvP (p : PrgD) (n : Nat) : Prop where
  l0 : p.vars.length ≤ n
  l1 : p.vols.length ≤ n
  l2 : p.locks.length ≤ n
  l3 : p.bars.length ≤ n
  n0 : ∀ x ∈ p.vars, x.name.size ≤ 24
  n1 : ∀ x ∈ p.vols, x.name.size ≤ 24
  n2 : ∀ x ∈ p.locks, x.size ≤ 24
  n3 : ∀ x ∈ p.bars, x.name.size ≤ 24
theorem inv_put {p : PrgD} {n : Nat} (h : InvP p n) {d : DcD} (hd : d.name.size ≤ 24) : InvP (dcPut p d) (n + 1) := by
  obtain ⟨h0, h1, h2, h3, h4, h5, h6, h7⟩ := h
  have app : ∀ {l : List VarD}, (∀ x ∈ l, x.name.size ≤ 24) → ∀ x ∈ l ++ [(⟨d.name, d.val⟩ : VarD)], x.name.size ≤ 24 := fun {l} h x hx => by
    rcases List.mem_append.1 hx with hx | hx
    · exact h x hx
    · simp only [List.mem_singleton] at hx
      subst hx
      exact hd
  unfold dcPut
  split
  · exact ⟨by simp only [List.length_append, List.length_cons, List.length_nil]; omega, by simp only; omega, by simp only; omega, by simp only; omega, app h4, h5, h6, h7⟩
  · split
    · exact ⟨by simp only; omega, by simp only [List.length_append, List.length_cons, List.length_nil]; omega, by simp only; omega, by simp only; omega, h4, app h5, h6, h7⟩
    · split
      · refine ⟨by simp only; omega, by simp only; omega, by simp only [List.length_append, List.length_cons, List.length_nil]; omega, by simp only; omega, h4, h5, fun x hx => ?_, h7⟩
        rcases List.mem_append.1 hx with hx | hx
        · exact h6 x hx
        · simp only [List.mem_singleton] at hx
          subst hx
          exact hd
      · exact ⟨by simp only; omega, by simp only; omega, by simp only; omega, by simp only [List.length_append, List.length_cons, List.length_nil]; omega, h4, h5, h6, app h7⟩
theorem inv_decls : ∀ (ds : List DcD) {st : Nms} {p : PrgD} {q : Nms × PrgD} {n : Nat}, InvP p n → declsD ds st p = .ok q → InvP q.2 (n + ds.length)
  | [], st, p, q, n, hp, h => by
    simp only [declsD, Except.ok.injEq] at h
    subst h
    exact hp
  | d :: ds, st, p, q, n, hp, h => by
    unfold declsD at h
    split at h
    · cases h
    · rename_i r hr
      obtain ⟨h1, h2, h3, h4⟩ := declnD_ok hr
      rw [h4] at h
      have h5 := inv_decls ds (inv_put hp (name_le (declD_ok h3).1)) h
      rw [List.length_cons]
      rwa [show n + (ds.length + 1) = n + 1 + ds.length from by omega]
theorem code_lens {st : Nms} {b : List (ByteArray × Nat)} : ∀ (l : List ItD) (all : Nat) (c : List InsD) (p : List PlcD) {r : Nat × List InsD × List PlcD}, codeGo st b l all c p = .ok r → r.2.1.length ≤ c.length + l.length ∧ r.2.2.length ≤ p.length + l.length
  | [], all, c, p, r, h => by
    simp only [codeGo, Except.ok.injEq] at h
    subst h
    exact ⟨Nat.le_refl _, Nat.le_refl _⟩
  | x :: l, all, c, p, r, h => by
    unfold codeGo at h
    split at h
    · have := code_lens l _ _ _ h
      simp only [List.length_cons]
      omega
    · split at h
      · cases h
      · split at h
        · cases h
        · have := code_lens l _ _ _ h
          simp only [List.length_cons, List.length_append, List.length_nil] at this ⊢
          omega
theorem thrs_small {st : Nms} : ∀ (ks : List BkD) (all : Nat) (ts : List ThrD) {r : List ThrD}, (∀ k ∈ ks, k.name.size ≤ 24 ∧ k.items.length ≤ 1048576) → (∀ t ∈ ts, t.name.size ≤ 1048576 ∧ t.code.length ≤ 1048576 ∧ t.places.length ≤ 1048576) → thrsD st ks all ts = .ok r →
    r.length = ts.length + ks.length ∧ ∀ t ∈ r, t.name.size ≤ 1048576 ∧ t.code.length ≤ 1048576 ∧ t.places.length ≤ 1048576
  | [], all, ts, r, hk, ht, h => by
    simp only [thrsD, Except.ok.injEq] at h
    subst h
    exact ⟨rfl, ht⟩
  | k :: ks, all, ts, r, hk, ht, h => by
    unfold thrsD at h
    split at h
    · cases h
    · rename_i q hq
      have hq2 : q.2.name.size ≤ 1048576 ∧ q.2.code.length ≤ 1048576 ∧ q.2.places.length ≤ 1048576 := by
        have h1 := hk k (List.mem_cons_self ..)
        unfold thrD at hq
        split at hq
        · cases hq
        · split at hq
          · cases hq
          · rename_i r hr
            cases hq
            have h2 := code_lens _ _ _ _ hr
            simp only [List.length_nil] at h2 ⊢
            omega
      have h3 := thrs_small ks _ _ (fun y hy => hk y (List.mem_cons_of_mem _ hy)) (fun t htm => by
        rcases List.mem_append.1 htm with htm | htm
        · exact ht t htm
        · simp only [List.mem_singleton] at htm
          subst htm
          exact hq2) h
      refine ⟨?_, h3.2⟩
      rw [h3.1]
      simp only [List.length_append, List.length_cons, List.length_nil]
      omega
theorem prog_small {u : UnD} {p : PrgD} (h : progD u = .ok p) (hu : SmallU u) : SmallP p := by
  obtain ⟨q, st, ts, h1, h2, h3, rfl⟩ := prog_parts h
  have g1 := inv_decls u.decls (n := 0) (p := ⟨[], [], [], [], []⟩) ⟨by simp, by simp, by simp, by simp, by simp, by simp, by simp, by simp⟩ h1
  have g2 := thrs_small u.blocks 0 [] (fun k hk => ⟨name_le (blocks_have _ h2 k hk).1, (hu.bn k hk).2.1⟩) (by simp) h3
  have hd := hu.decls
  have hb := hu.blocks
  obtain ⟨a0, a1, a2, a3, b0, b1, b2, b3⟩ := g1
  refine ⟨by simp only; omega, by simp only; omega, by simp only; omega, by simp only; omega, ?_, fun x hx => Nat.le_trans (b0 x hx) (by omega), fun x hx => Nat.le_trans (b1 x hx) (by omega), fun x hx => Nat.le_trans (b2 x hx) (by omega), fun x hx => Nat.le_trans (b3 x hx) (by omega), g2.2⟩
  show ts.length ≤ _
  rw [g2.1]
  simpa using hb
theorem small_ren {u : UnD} (hu : SmallU u) (hf : FitU u) : SmallU ⟨u.decls.map rnD, u.blocks.map rnB⟩ := by
  refine ⟨by simpa using hu.decls, by simpa using hu.blocks, fun d hd => ?_, fun k hk => ?_⟩
  · obtain ⟨x, hx, rfl⟩ := List.mem_map.1 hd
    have := hf.decls x hx
    show (zN x.name).size ≤ _
    rw [zN_pre, pre1_size]
    omega
  · obtain ⟨x, hx, rfl⟩ := List.mem_map.1 hk
    refine ⟨?_, ?_, fun y hy => ?_⟩
    · have := hf.blocks x hx
      show (zN x.name).size ≤ _
      rw [zN_pre, pre1_size]
      omega
    · show (x.items.map rnI).length ≤ _
      rw [List.length_map]
      exact (hu.bn x hx).2.1
    · obtain ⟨z, hz, rfl⟩ := List.mem_map.1 hy
      have := hf.items x hx z hz
      unfold rnI
      simp only
      split
      · rw [yN_pre, pre1_size]; omega
      · split
        · omega
        · rw [zN_pre, pre1_size]; omega

end Go.Proofs.YtaknmhipaifdkaaDoor

/- A unit's program has a unit that is small; numbers serve as labels. -/
set_option linter.unusedSimpArgs false
set_option linter.unusedVariables false
set_option linter.unusedSectionVars false
namespace Go.Proofs.YtaknmhipaifdkaaDoor
open Go.RowKit Go.AB

/-- What the digits say. -/
def digVal (l : List UInt8) : Nat := l.foldl (fun a c => a * 10 + (c.toNat - 48)) 0
theorem dig_nat {u : Nat} (h : u < 10) : (UInt8.ofNat (48 + u)).toNat = 48 + u := by
  rw [UInt8.toNat_ofNat']
  omega
theorem dig_facts : ∀ (n u : Nat), u < n → digVal (Lib.decDigits u) = u ∧ ∀ c ∈ Lib.decDigits u, 48 ≤ c.toNat ∧ c.toNat ≤ 57
  | 0, u, h => absurd h (Nat.not_lt_zero _)
  | n + 1, u, h => by
    by_cases h10 : u < 10
    · rw [Lib.decDigits, dif_pos h10]
      refine ⟨?_, fun c hc => ?_⟩
      · unfold digVal
        simp only [List.foldl_cons, List.foldl_nil, dig_nat h10]
        omega
      · rw [List.mem_singleton] at hc
        subst hc
        rw [dig_nat h10]
        omega
    · obtain ⟨h1, h2⟩ := dig_facts n (u / 10) (by omega)
      have h3 : u % 10 < 10 := Nat.mod_lt _ (by omega)
      rw [Lib.decDigits, dif_neg h10]
      refine ⟨?_, fun c hc => ?_⟩
      · unfold digVal at h1 ⊢
        rw [List.foldl_append, h1]
        simp only [List.foldl_cons, List.foldl_nil, dig_nat h3]
        omega
      · rcases List.mem_append.1 hc with hc | hc
        · exact h2 c hc
        · rw [List.mem_singleton] at hc
          subst hc
          rw [dig_nat h3]
          omega
theorem lbl_dec : Lbl decS := by
  refine ⟨fun a b ha hb h => ?_, fun a ha => ?_⟩
  · have h1 : Lib.decDigits a = Lib.decDigits b := by
      have h2 := congrArg (fun s : ByteArray => s.data.toList) h
      simpa [decS] using h2
    rw [← (dig_facts _ a (Nat.lt_succ_self a)).1, h1, (dig_facts _ b (Nat.lt_succ_self b)).1]
  · have hl := digs_len (u := a) (by omega)
    have e : (⟨#[108]⟩ ++ decS a : ByteArray).data.toList = 108 :: Lib.decDigits a := by
      simp [decS]
    unfold nameB
    rw [e]
    unfold nameL
    have h3 : (Lib.decDigits a).length ≤ 20 := by
      have h4 : (decS a).size = (Lib.decDigits a).length := by
        show (Lib.decDigits a).toArray.size = _
        rw [List.size_toArray]
      omega
    have h5 : (Lib.decDigits a).all isNameC = true := by
      rw [List.all_eq_true]
      intro c hc
      have := (dig_facts _ a (Nat.lt_succ_self a)).2 c hc
      unfold isNameC
      simp only [Bool.or_eq_true, Bool.and_eq_true, decide_eq_true_eq]
      exact .inr this
    show (decide ((Lib.decDigits a).length ≤ 23) && isLett 108 && (Lib.decDigits a).all isNameC) = true
    rw [h5, decide_eq_true (show (Lib.decDigits a).length ≤ 23 by omega)]
    rfl
theorem unitS_built {u : UnD} {p : PrgD} (h : progD u = .ok p) (hu : SmallU u) : UnitS p := by
  have hg := built_good h
  have hs := prog_small h hu
  refine ⟨hs, ?_, fun t ht => Nat.le_trans (hg.len t ht) (by omega)⟩
  obtain ⟨q, st, ts, h1, h2, h3, rfl⟩ := prog_parts h
  obtain ⟨hv, rfl⟩ := decls_ents u.decls [] ⟨by simp, by simp, fun s => by simp [kindF]⟩ h1
  rw [List.nil_append] at hv
  have hp := (asc_perm hv.ok).length_eq
  have hd := hu.decls
  simp only [List.length_append] at hp
  unfold declsOf parts
  simp only [List.length_append, List.length_map, List.nil_append]
  omega
theorem unitS_bare {p : PrgD} (h : UnitS p) : UnitS (bareZ p) := by
  refine ⟨small_bareZ h.sm, h.dl, fun t ht => ?_⟩
  obtain ⟨s, hs, rfl⟩ := List.mem_map.1 ht
  exact h.cl s hs
end Go.Proofs.YtaknmhipaifdkaaDoor

/- The law BuildBack, walked. (Printed by gen_bback.py.) -/
set_option linter.unusedSimpArgs false
set_option linter.unusedVariables false
set_option linter.unusedSectionVars false
namespace Go.Proofs.YtaknmhipaifdkaaDoor
open Go.RowKit Go.AB

theorem prg_shape {w : World} {v : Value} {p : PrgD} (h : PrgV w v p) : ∃ (a0 : Option Addr) (n0 c0 : Nat) (a1 : Option Addr) (n1 c1 : Nat) (a2 : Option Addr) (n2 c2 : Nat) (a3 : Option Addr) (n3 c3 : Nat) (a4 : Option Addr) (n4 c4 : Nat), v = .agg #[.slice a0 n0 c0, .slice a1 n1 c1, .slice a2 n2 c2, .slice a3 n3 c3, .slice a4 n4 c4] := by
  obtain ⟨v0, v1, v2, v3, v4, ts, rfl, l0, l1, l2, l3, l4, _⟩ := h
  obtain ⟨_, _, rfl, _⟩ := l0.len
  obtain ⟨_, _, rfl, _⟩ := l1.len
  obtain ⟨_, _, rfl, _⟩ := l2.len
  obtain ⟨_, _, rfl, _⟩ := l3.len
  obtain ⟨_, _, rfl, _⟩ := l4.len
  exact ⟨_, _, _, _, _, _, _, _, _, _, _, _, _, _, _, rfl⟩
theorem num_chg (n : Int) (W : World) : Calls Tryd.prog 9 #[.int .i64 n] W fun e w' => e = .returned (.int .i64 n) ∧ Chg [] W w' :=
  (num_calls n W).mono fun e w' h => ⟨h.1, by rw [h.2]; exact Chg.refl _ _⟩

set_option maxHeartbeats 8000000 in
set_option maxRecDepth 100000 in
theorem back_walk {v : Value} {u : UnD} (w : World) (hv : UnV w v u) (hu : SmallU u) (htab : Pow10 w) : Calls Tryd.prog 3 #[v] w fun e w' => e = .returned (.bool true) ∧ Chg [] w w' := by
  obtain ⟨ad, D, cd, ab, L, cb, bs0, rfl, hub, -⟩ := unv_boxed hv
  have hc0 := (Chg.refl [] w).alloc (.cells #[.slice ad D cd, .slice ab L cb] 25)
  have hv0 := hv.keep hc0
  have u0 := hub.u0
  have u1 := hub.u1
  obtain ⟨wA, hwA⟩ : ∃ wA, w.alloc (.cells #[.slice ad D cd, .slice ab L cb] 25) = wA := ⟨_, rfl⟩
  rw [hwA] at hc0 hv0 u0 u1
  have HC0 := hid hc0
  have HV := hid (fun W (h : Chg [] wA W) => hv0.keep h)
  have HB := hid (fun W (h : Chg [] wA W) => And.intro (h.cell u0 (by simp)) (h.cell u1 (by simp)))
  have HU := hid hu
  have HT := hid htab
  have HWK := hid (fun W => works_calls W)
  have HNUM := hid num_chg
  clear hub hv hv0 hu htab hc0 u0 u1
  go_enter Tryd.func3, Tryd.ntmps3
  go_upto_region 1 with fail
  try rw [hwA]
  clear hwA
  go_wp2_with (go_at_call 5; refine halt (fun X hX => ?_))
  rw [hX.out]; clear hX
  refine (HWK.out _).mono ?_
  rintro e w1 ⟨rfl, hc1⟩
  have HC1 := hid hc1
  obtain ⟨u0, u1⟩ := HB.out _ hc1
  have HL1 := hid (lend_calls w1 (HV.out _ hc1) HU.out)
  clear hc1 HWK
  go_wp2_with (go_at_call 7; refine halt (fun X hX => ?_))
  rw [hX.out]; clear hX
  refine HL1.out.mono ?_
  rintro e w2 ⟨vd1, rd1, vt1, rt1, os1, rfl, hun1, hbk1⟩
  have hu1 := hun1.unV
  rw [hbk1] at hu1
  have HP1 := hid (program_calls (u := ⟨u.decls, u.blocks⟩) HU.out w2 hu1)
  have HC2 := hid (HC1.out.trans' hun1.hp.chg)
  clear hun1 hbk1 hu1 HL1
  go_wp2_with (go_at_call 6; refine halt (fun X hX => ?_))
  rw [hX.out]; clear hX
  refine HP1.out.mono ?_
  rintro e w3 (⟨f, hd, rfl, hc3⟩ | ⟨p, vp, hd, rfl, hpn, hc3⟩)
  · have hfc := prog_code hd
    have hne : (f.code != 0) = true := by simp; omega
    have hne2 : (f.code == 0) = false := by simp; omega
    have hne3 : decide (f.code = 0) = false := by simp; omega
    have HCF := hid (HC2.out.trans' hc3)
    simp only [noPrg]
    clear hd hc3 hfc
    go_wp2_with fail
    exact bodyPost_ret (v := .bool true) (by simp [results, Tryd.results3, go_sem]) rfl ⟨rfl, HC0.out.trans' ((HCF.out.alloc _).alloc _)⟩
  · have hcf := HC2.out.trans' hc3
    have hpv := hpn.now
    have HG := hid (And.intro hd (built_good hd))
    have HS := hid (unitS_built hd HU.out)
    obtain ⟨pa0, pn0, pc0, pa1, pn1, pc1, pa2, pn2, pc2, pa3, pn3, pc3, pa4, pn4, pc4, rfl⟩ : ∃ (a0 : Option Addr) (n0 c0 : Nat) (a1 : Option Addr) (n1 c1 : Nat) (a2 : Option Addr) (n2 c2 : Nat) (a3 : Option Addr) (n3 c3 : Nat) (a4 : Option Addr) (n4 c4 : Nat), vp = .agg #[.slice a0 n0 c0, .slice a1 n1 c1, .slice a2 n2 c2, .slice a3 n3 c3, .slice a4 n4 c4] := prg_shape hpv
    have hh3 := ((Hp.start (S0 := []) w3 (by simp)).box (.cells #[.slice pa0 pn0 pc0, .slice pa1 pn1 pc1, .slice pa2 pn2 pc2, .slice pa3 pn3 pc3, .slice pa4 pn4 pc4] 32)).box (.cells #[.int .i64 0, .int .i64 0, .int .i64 0] 37)
    simp only [World.size_alloc] at hh3
    have hpv3 := hpv.keep hh3.chg
    obtain ⟨wB, hwB⟩ : ∃ wB, (w3.alloc (.cells #[.slice pa0 pn0 pc0, .slice pa1 pn1 pc1, .slice pa2 pn2 pc2, .slice pa3 pn3 pc3, .slice pa4 pn4 pc4] 32)).alloc (.cells #[.int .i64 0, .int .i64 0, .int .i64 0] 37) = wB := ⟨_, rfl⟩
    obtain ⟨PP, hPP⟩ : ∃ PP, w3.heap.size = PP := ⟨_, rfl⟩
    rw [hwB, hPP] at hh3
    rw [hwB] at hpv3
    have HH3 := hid hh3
    have HCB := hid (HC0.out.trans' (hcf.trans' hh3.chg))
    have HPV := hid (fun W (h : Chg [] wB W) => hpv3.keep h)
    have f0 := hh3.cell (i := 0) rfl 0
    have p0 := hh3.cell (i := 1) rfl 0
    have p1 := hh3.cell (i := 1) rfl 1
    have p2 := hh3.cell (i := 1) rfl 2
    have p3 := hh3.cell (i := 1) rfl 3
    have p4 := hh3.cell (i := 1) rfl 4
    simp only [List.getElem?_toArray, List.getElem?_cons_zero, List.getElem?_cons_succ] at f0 p0 p1 p2 p3 p4
    have HUN := hid (unit_calls wB hpv3 HS.out (HT.out.keep HCB.out))
    clear hd hc3 hcf hpn hpv hpv3 hh3 HP1 HC2 HC1 u0 u1
    have EB := hid (And.intro hwB hPP)
    clear hwB hPP
    go_upto_region 4 with fail
    try rw [EB.out.1]
    try rw [EB.out.2]
    go_wp2_with (go_at_call 8; refine halt (fun X hX => ?_))
    rw [hX.out]; clear hX
    refine HUN.out.mono ?_
    rintro e w4 (⟨hO, rfl, hc4⟩ | ⟨z, vd, rd, vt, rt, bs, hO, rfl, hun, hbk⟩)
    · obtain ⟨z, hz⟩ := good_unit lbl_dec HG.out.2
      rw [hz] at hO
      cases hO
    · obtain ⟨ks, rfl, hkl, hks⟩ := unit_some hO
      have HO := hid hO
      have HSU0 := hid (unit_small HS.out hks)
      have HPG := hid (unit_prog hO)
      have hru := hun.unV
      rw [hbk] at hru
      have hj := hun.hp
      obtain ⟨rD, hrD⟩ : ∃ rD, (declsOf p).length = rD := ⟨_, rfl⟩
      obtain ⟨rL, hrL⟩ : ∃ rL, bs.length = rL := ⟨_, rfl⟩
      simp only [dRow, tRow, hrD, hrL] at hj
      obtain ⟨rvd, rcd, rfl⟩ := (hj.rowAt (i := 0) rfl).shape
      obtain ⟨rvt, rct, rfl⟩ := (hj.rowAt (i := 1) rfl).shape
      have hh4 := (HH3.out.same hj.chg).box (.cells #[.slice rvd rD rcd, .slice rvt rL rct] 25)
      have hru4 := hru.keep ((Chg.refl [] w4).alloc (.cells #[.slice rvd rD rcd, .slice rvt rL rct] 25))
      obtain ⟨wC, hwC⟩ : ∃ wC, w4.alloc (.cells #[.slice rvd rD rcd, .slice rvt rL rct] 25) = wC := ⟨_, rfl⟩
      obtain ⟨R, hR⟩ : ∃ R, w4.heap.size = R := ⟨_, rfl⟩
      rw [hwC, hR] at hh4
      rw [hwC] at hru4
      have HH4 := hid hh4
      have HRU := hid (fun W (h : Chg [] wC W) => hru4.keep h)
      have r0 := hh4.cell (i := 0) rfl 0
      have r1 := hh4.cell (i := 0) rfl 1
      simp only [List.getElem?_toArray, List.getElem?_cons_zero, List.getElem?_cons_succ] at r0 r1
      have HPR := hid (program_calls HSU0.out wC hru4)
      have HCC := hid (show Chg [] wB wC from by
        rw [← hwC]
        exact (show Chg [] wB w4 from hj.chg).alloc _)
      clear hO hkl hks hun hbk hru hj hrD hrL hh4 hru4 HUN f0 p0 p1 p2 p3 p4
      have EC := hid (And.intro hwC hR)
      clear hwC hR
      go_upto_region 7 with fail
      try rw [EC.out.1]
      try rw [EC.out.2]
      go_wp2_with (go_at_call 6; refine halt (fun X hX => ?_))
      rw [hX.out]; clear hX
      refine HPR.out.mono ?_
      rintro e w5 (⟨f, hd, rfl, hc5⟩ | ⟨q, vq, hd, rfl, hqn, hc5⟩)
      · rw [HPG.out] at hd
        cases hd
      · rw [HPG.out] at hd
        cases hd
        have hqv := hqn.now
        obtain ⟨qa0, qn0, qc0, qa1, qn1, qc1, qa2, qn2, qc2, qa3, qn3, qc3, qa4, qn4, qc4, rfl⟩ : ∃ (a0 : Option Addr) (n0 c0 : Nat) (a1 : Option Addr) (n1 c1 : Nat) (a2 : Option Addr) (n2 c2 : Nat) (a3 : Option Addr) (n3 c3 : Nat) (a4 : Option Addr) (n4 c4 : Nat), vq = .agg #[.slice a0 n0 c0, .slice a1 n1 c1, .slice a2 n2 c2, .slice a3 n3 c3, .slice a4 n4 c4] := prg_shape hqv
        have hh5 := ((HH4.out.same hc5).box (.cells #[.slice qa0 qn0 qc0, .slice qa1 qn1 qc1, .slice qa2 qn2 qc2, .slice qa3 qn3 qc3, .slice qa4 qn4 qc4] 32)).box (.cells #[.int .i64 0, .int .i64 0, .int .i64 0] 37)
        simp only [World.size_alloc] at hh5
        have hcq := ((Chg.refl [] w5).alloc (.cells #[.slice qa0 qn0 qc0, .slice qa1 qn1 qc1, .slice qa2 qn2 qc2, .slice qa3 qn3 qc3, .slice qa4 qn4 qc4] 32)).alloc (.cells #[.int .i64 0, .int .i64 0, .int .i64 0] 37)
        have hqv5 := hqv.keep hcq
        obtain ⟨wD, hwD⟩ : ∃ wD, (w5.alloc (.cells #[.slice qa0 qn0 qc0, .slice qa1 qn1 qc1, .slice qa2 qn2 qc2, .slice qa3 qn3 qc3, .slice qa4 qn4 qc4] 32)).alloc (.cells #[.int .i64 0, .int .i64 0, .int .i64 0] 37) = wD := ⟨_, rfl⟩
        obtain ⟨Q, hQ⟩ : ∃ Q, w5.heap.size = Q := ⟨_, rfl⟩
        have hcd := hc5.trans' hcq
        rw [hwD, hQ] at hh5
        rw [hwD] at hqv5 hcd
        have HH5 := hid hh5
        have HCD := hid (HCC.out.trans' hcd)
        have HCD2 := hid hcd
        have HQV := hid (fun W (h : Chg [] wD W) => hqv5.keep h)
        have q0 := hh5.cell (i := 1) rfl 0
        have q1 := hh5.cell (i := 1) rfl 1
        have q2 := hh5.cell (i := 1) rfl 2
        have q3 := hh5.cell (i := 1) rfl 3
        have q4 := hh5.cell (i := 1) rfl 4
        simp only [List.getElem?_toArray, List.getElem?_cons_zero, List.getElem?_cons_succ] at q0 q1 q2 q3 q4
        have HUQ := hid (unit_calls wD hqv5 (unitS_bare HS.out) (HT.out.keep (HCB.out.trans' HCD.out)))
        rw [unit_bare, HO.out] at HUQ
        clear hc5 hqn hqv hqv5 hh5 hcq hcd HPR r0 r1
        have ED := hid (And.intro hwD hQ)
        clear hwD hQ
        go_upto_region 8 with fail
        try rw [ED.out.1]
        try rw [ED.out.2]
        go_wp2_with (go_at_call 8; refine halt (fun X hX => ?_))
        rw [hX.out]; clear hX
        refine HUQ.out.mono ?_
        rintro e w6 (⟨hO, rfl, hc6⟩ | ⟨z, vd2, rd2, vt2, rt2, bs2, hO, rfl, hun, hbk⟩)
        · cases hO
        · cases hO
          have hsu := hun.unV
          rw [hbk] at hsu
          have hj := hun.hp
          obtain ⟨sD, hsD⟩ : ∃ sD, (declsOf p).length = sD := ⟨_, rfl⟩
          obtain ⟨sL, hsL⟩ : ∃ sL, bs2.length = sL := ⟨_, rfl⟩
          simp only [dRow, tRow, hsD, hsL] at hj
          obtain ⟨svd, scd, rfl⟩ := (hj.rowAt (i := 0) rfl).shape
          obtain ⟨svt, sct, rfl⟩ := (hj.rowAt (i := 1) rfl).shape
          have hh6 := (HH5.out.same hj.chg).box (.cells #[.slice svd sD scd, .slice svt sL sct] 25)
          have hcs := (Chg.refl [] w6).alloc (.cells #[.slice svd sD scd, .slice svt sL sct] 25)
          have hsu6 := hsu.keep hcs
          have hcf := (show Chg [] wD w6 from hj.chg).trans' hcs
          obtain ⟨wF, hwF⟩ : ∃ wF, w6.alloc (.cells #[.slice svd sD scd, .slice svt sL sct] 25) = wF := ⟨_, rfl⟩
          obtain ⟨SS, hSS⟩ : ∃ SS, w6.heap.size = SS := ⟨_, rfl⟩
          rw [hwF, hSS] at hh6
          rw [hwF] at hsu6 hcf
          have HH6 := hid hh6
          have HCF := hid hcf
          have s0 := hh6.cell (i := 0) rfl 0
          have s1 := hh6.cell (i := 0) rfl 1
          have f0 := hh6.cell (i := 1) rfl 0
          have q0 := hh6.cell (i := 2) rfl 0
          have q1 := hh6.cell (i := 2) rfl 1
          have q2 := hh6.cell (i := 2) rfl 2
          have q3 := hh6.cell (i := 2) rfl 3
          have q4 := hh6.cell (i := 2) rfl 4
          have r0 := hh6.cell (i := 3) rfl 0
          have r1 := hh6.cell (i := 3) rfl 1
          have p0 := hh6.cell (i := 5) rfl 0
          have p1 := hh6.cell (i := 5) rfl 1
          have p2 := hh6.cell (i := 5) rfl 2
          have p3 := hh6.cell (i := 5) rfl 3
          have p4 := hh6.cell (i := 5) rfl 4
          simp only [List.getElem?_toArray, List.getElem?_cons_zero, List.getElem?_cons_succ] at s0 s1 f0 q0 q1 q2 q3 q4 r0 r1 p0 p1 p2 p3 p4
          have HSU := hid (fun W (h : Chg [] wF W) => sameUnits_calls HSU0.out W (HRU.out W (HCD2.out.trans' (hcf.trans' h))) (hsu6.keep h))
          have HBP := hid (fun W (h : Chg [] wF W) => bare_calls W (HPV.out W (HCD.out.trans' (HCF.out.trans' h))) HS.out.sm)
          have HBQ := hid (fun W (h : Chg [] wF W) => by
            have h1 := bare_calls W (HQV.out W (HCF.out.trans' h)) (small_bareZ HS.out.sm)
            rw [bareE_Z] at h1
            exact h1)
          have HSC := hid (fun W (va vb : Value) (ha : PrgV W va (bareE p)) (hb : PrgV W vb (bareE p)) => (same_calls (bareE p) (bareE p) (small_bareE HS.out.sm) (small_bareE HS.out.sm) W ha hb).mono (R' := fun e w' => e = .returned (.bool true) ∧ Chg [] W w') (fun e w' hh => ⟨by rw [hh.1, eqB_true rfl], hh.2⟩))
          have HALL := hid (HCB.out.trans' (HCD.out.trans' HCF.out))
          clear hun hbk hsu hj hsD hsL hh6 hcs hsu6 hcf HUQ
          have EF := hid (And.intro hwF hSS)
          clear hwF hSS
          go_upto_region 9 with fail
          try rw [EF.out.1]
          try rw [EF.out.2]
          (refine wp_region_held_drew (S := (fun w' => w'.cell? ⟨Q + 1, 0, none⟩ = some (.int .i64 0) ∧ w'.cell? ⟨Q, 0, none⟩ = some (.slice qa0 qn0 qc0) ∧ w'.cell? ⟨Q, 1, none⟩ = some (.slice qa1 qn1 qc1) ∧ w'.cell? ⟨Q, 2, none⟩ = some (.slice qa2 qn2 qc2) ∧ w'.cell? ⟨Q, 3, none⟩ = some (.slice qa3 qn3 qc3) ∧ w'.cell? ⟨Q, 4, none⟩ = some (.slice qa4 qn4 qc4) ∧ w'.cell? ⟨PP, 0, none⟩ = some (.slice pa0 pn0 pc0) ∧ w'.cell? ⟨PP, 1, none⟩ = some (.slice pa1 pn1 pc1) ∧ w'.cell? ⟨PP, 2, none⟩ = some (.slice pa2 pn2 pc2) ∧ w'.cell? ⟨PP, 3, none⟩ = some (.slice pa3 pn3 pc3) ∧ w'.cell? ⟨PP, 4, none⟩ = some (.slice pa4 pn4 pc4) ∧ w'.cell? ⟨R, 0, none⟩ = some (.slice rvd rD rcd) ∧ w'.cell? ⟨R, 1, none⟩ = some (.slice rvt rL rct) ∧ w'.cell? ⟨SS, 0, none⟩ = some (.slice svd sD scd) ∧ w'.cell? ⟨SS, 1, none⟩ = some (.slice svt sL sct))) (by kernel_rfl) (by exact ⟨f0, q0, q1, q2, q3, q4, p0, p1, p2, p3, p4, r0, r1, s0, s1⟩) (fun hHeld => ?_); (refine wpAnyH_take (i := 0) (v := ?_) rfl (by kernel_rfl) (by kernel_rfl) (by kernel_rfl) (fun _ _ _ h => h) (Or.inl ⟨by rfl, ?_⟩) (by assumption) ?_; rotate_left 1; (focus (intro w hSw; (try dsimp only at hSw); go_simp; (try with_reducible rfl))); (try simp only [List.getElem_toArray, List.getElem_cons_zero, List.getElem_cons_succ, Act.put, List.setIfInBounds_toArray, List.set_cons_zero, List.set_cons_succ])); (refine wpAnyH_ready (rs := [1]) (by kernel_rfl) (by simp) ?_; refine AllReadyH.cons rfl (fun K hK => ?_) AllReadyH.nil; go_simp; go_at_call 9; refine (HNUM.out 0 _).mono ?_; rintro e w8 ⟨rfl, hc8⟩; (refine hK.out _ _ (by exact (by exact ⟨hc8.cell hHeld.1 (by simp), hc8.cell hHeld.2.1 (by simp), hc8.cell hHeld.2.2.1 (by simp), hc8.cell hHeld.2.2.2.1 (by simp), hc8.cell hHeld.2.2.2.2.1 (by simp), hc8.cell hHeld.2.2.2.2.2.1 (by simp), hc8.cell hHeld.2.2.2.2.2.2.1 (by simp), hc8.cell hHeld.2.2.2.2.2.2.2.1 (by simp), hc8.cell hHeld.2.2.2.2.2.2.2.2.1 (by simp), hc8.cell hHeld.2.2.2.2.2.2.2.2.2.1 (by simp), hc8.cell hHeld.2.2.2.2.2.2.2.2.2.2.1 (by simp), hc8.cell hHeld.2.2.2.2.2.2.2.2.2.2.2.1 (by simp), hc8.cell hHeld.2.2.2.2.2.2.2.2.2.2.2.2.1 (by simp), hc8.cell hHeld.2.2.2.2.2.2.2.2.2.2.2.2.2.1 (by simp), hc8.cell hHeld.2.2.2.2.2.2.2.2.2.2.2.2.2.2 (by simp)⟩)) (fun hHeld => ?_); clear hK K; (try simp only [List.getElem_toArray, List.getElem_cons_zero, List.getElem_cons_succ, Act.put, List.setIfInBounds_toArray, List.set_cons_zero, List.set_cons_succ]))); (refine wpAnyH_take (i := 2) (v := ?_) rfl (by kernel_rfl) (by kernel_rfl) (by kernel_rfl) (fun _ _ _ h => h) (Or.inl ⟨by rfl, ?_⟩) (by assumption) ?_; rotate_left 1; (focus (intro w hSw; (try dsimp only at hSw); go_simp; (try with_reducible rfl))); (try simp only [List.getElem_toArray, List.getElem_cons_zero, List.getElem_cons_succ, Act.put, List.setIfInBounds_toArray, List.set_cons_zero, List.set_cons_succ])); (refine wpAnyH_take (i := 3) (v := ?_) rfl (by kernel_rfl) (by kernel_rfl) (by kernel_rfl) (fun _ _ _ h => h) (Or.inl ⟨by rfl, ?_⟩) (by assumption) ?_; rotate_left 1; (focus (intro w hSw; (try dsimp only at hSw); go_simp; (try with_reducible rfl))); (try simp only [List.getElem_toArray, List.getElem_cons_zero, List.getElem_cons_succ, Act.put, List.setIfInBounds_toArray, List.set_cons_zero, List.set_cons_succ])); (refine wpAnyH_take (i := 4) (v := ?_) rfl (by kernel_rfl) (by kernel_rfl) (by kernel_rfl) (fun _ _ _ h => h) (Or.inl ⟨by rfl, ?_⟩) (by assumption) ?_; rotate_left 1; (focus (intro w hSw; (try dsimp only at hSw); go_simp; (try with_reducible rfl))); (try simp only [List.getElem_toArray, List.getElem_cons_zero, List.getElem_cons_succ, Act.put, List.setIfInBounds_toArray, List.set_cons_zero, List.set_cons_succ])); (refine wpAnyH_take (i := 5) (v := ?_) rfl (by kernel_rfl) (by kernel_rfl) (by kernel_rfl) (fun _ _ _ h => h) (Or.inl ⟨by rfl, ?_⟩) (by assumption) ?_; rotate_left 1; (focus (intro w hSw; (try dsimp only at hSw); go_simp; (try with_reducible rfl))); (try simp only [List.getElem_toArray, List.getElem_cons_zero, List.getElem_cons_succ, Act.put, List.setIfInBounds_toArray, List.set_cons_zero, List.set_cons_succ])); (refine wpAnyH_take (i := 6) (v := ?_) rfl (by kernel_rfl) (by kernel_rfl) (by kernel_rfl) (fun _ _ _ h => h) (Or.inl ⟨by rfl, ?_⟩) (by assumption) ?_; rotate_left 1; (focus (intro w hSw; (try dsimp only at hSw); go_simp; (try with_reducible rfl))); (try simp only [List.getElem_toArray, List.getElem_cons_zero, List.getElem_cons_succ, Act.put, List.setIfInBounds_toArray, List.set_cons_zero, List.set_cons_succ])); (refine wpAnyH_take (i := 7) (v := ?_) rfl (by kernel_rfl) (by kernel_rfl) (by kernel_rfl) (fun _ _ _ h => h) (Or.inl ⟨by rfl, ?_⟩) (by assumption) ?_; rotate_left 1; (focus (intro w hSw; (try dsimp only at hSw); go_simp; (try with_reducible rfl))); (try simp only [List.getElem_toArray, List.getElem_cons_zero, List.getElem_cons_succ, Act.put, List.setIfInBounds_toArray, List.set_cons_zero, List.set_cons_succ])); (refine wpAnyH_take (i := 8) (v := ?_) rfl (by kernel_rfl) (by kernel_rfl) (by kernel_rfl) (fun _ _ _ h => h) (Or.inl ⟨by rfl, ?_⟩) (by assumption) ?_; rotate_left 1; (focus (intro w hSw; (try dsimp only at hSw); go_simp; (try with_reducible rfl))); (try simp only [List.getElem_toArray, List.getElem_cons_zero, List.getElem_cons_succ, Act.put, List.setIfInBounds_toArray, List.set_cons_zero, List.set_cons_succ])); (refine wpAnyH_take (i := 9) (v := ?_) rfl (by kernel_rfl) (by kernel_rfl) (by kernel_rfl) (fun _ _ _ h => h) (Or.inl ⟨by rfl, ?_⟩) (by assumption) ?_; rotate_left 1; (focus (intro w hSw; (try dsimp only at hSw); go_simp; (try with_reducible rfl))); (try simp only [List.getElem_toArray, List.getElem_cons_zero, List.getElem_cons_succ, Act.put, List.setIfInBounds_toArray, List.set_cons_zero, List.set_cons_succ])); (refine wpAnyH_ready (rs := [10]) (by kernel_rfl) (by simp) ?_; refine AllReadyH.cons rfl (fun K hK => ?_) AllReadyH.nil; go_simp; go_at_call 9; refine (HNUM.out 0 _).mono ?_; rintro e w9 ⟨rfl, hc9⟩; (refine hK.out _ _ (by exact (by exact ⟨hc9.cell hHeld.1 (by simp), hc9.cell hHeld.2.1 (by simp), hc9.cell hHeld.2.2.1 (by simp), hc9.cell hHeld.2.2.2.1 (by simp), hc9.cell hHeld.2.2.2.2.1 (by simp), hc9.cell hHeld.2.2.2.2.2.1 (by simp), hc9.cell hHeld.2.2.2.2.2.2.1 (by simp), hc9.cell hHeld.2.2.2.2.2.2.2.1 (by simp), hc9.cell hHeld.2.2.2.2.2.2.2.2.1 (by simp), hc9.cell hHeld.2.2.2.2.2.2.2.2.2.1 (by simp), hc9.cell hHeld.2.2.2.2.2.2.2.2.2.2.1 (by simp), hc9.cell hHeld.2.2.2.2.2.2.2.2.2.2.2.1 (by simp), hc9.cell hHeld.2.2.2.2.2.2.2.2.2.2.2.2.1 (by simp), hc9.cell hHeld.2.2.2.2.2.2.2.2.2.2.2.2.2.1 (by simp), hc9.cell hHeld.2.2.2.2.2.2.2.2.2.2.2.2.2.2 (by simp)⟩)) (fun hHeld => ?_); clear hK K; (try simp only [List.getElem_toArray, List.getElem_cons_zero, List.getElem_cons_succ, Act.put, List.setIfInBounds_toArray, List.set_cons_zero, List.set_cons_succ]))); (refine wpAnyH_take (i := 11) (v := ?_) rfl (by kernel_rfl) (by kernel_rfl) (by kernel_rfl) (fun _ _ _ h => h) (Or.inl ⟨by rfl, ?_⟩) (by assumption) ?_; rotate_left 1; (focus (intro w hSw; (try dsimp only at hSw); go_simp; (try with_reducible rfl))); (try simp only [List.getElem_toArray, List.getElem_cons_zero, List.getElem_cons_succ, Act.put, List.setIfInBounds_toArray, List.set_cons_zero, List.set_cons_succ])); (refine wpAnyH_take (i := 12) (v := ?_) rfl (by kernel_rfl) (by kernel_rfl) (by kernel_rfl) (fun _ _ _ h => h) (Or.inl ⟨by rfl, ?_⟩) (by assumption) ?_; rotate_left 1; (focus (intro w hSw; (try dsimp only at hSw); go_simp; (try with_reducible rfl))); (try simp only [List.getElem_toArray, List.getElem_cons_zero, List.getElem_cons_succ, Act.put, List.setIfInBounds_toArray, List.set_cons_zero, List.set_cons_succ])); (refine wpAnyH_take (i := 13) (v := ?_) rfl (by kernel_rfl) (by kernel_rfl) (by kernel_rfl) (fun _ _ _ h => h) (Or.inl ⟨by rfl, ?_⟩) (by assumption) ?_; rotate_left 1; (focus (intro w hSw; (try dsimp only at hSw); go_simp; (try with_reducible rfl))); (try simp only [List.getElem_toArray, List.getElem_cons_zero, List.getElem_cons_succ, Act.put, List.setIfInBounds_toArray, List.set_cons_zero, List.set_cons_succ])); (refine wpAnyH_take (i := 14) (v := ?_) rfl (by kernel_rfl) (by kernel_rfl) (by kernel_rfl) (fun _ _ _ h => h) (Or.inl ⟨by rfl, ?_⟩) (by assumption) ?_; rotate_left 1; (focus (intro w hSw; (try dsimp only at hSw); go_simp; (try with_reducible rfl))); (try simp only [List.getElem_toArray, List.getElem_cons_zero, List.getElem_cons_succ, Act.put, List.setIfInBounds_toArray, List.set_cons_zero, List.set_cons_succ])); (refine wpAnyH_take (i := 15) (v := ?_) rfl (by kernel_rfl) (by kernel_rfl) (by kernel_rfl) (fun _ _ _ h => h) (Or.inl ⟨by rfl, ?_⟩) (by assumption) ?_; rotate_left 1; (focus (intro w hSw; (try dsimp only at hSw); go_simp; (try with_reducible rfl))); (try simp only [List.getElem_toArray, List.getElem_cons_zero, List.getElem_cons_succ, Act.put, List.setIfInBounds_toArray, List.set_cons_zero, List.set_cons_succ])); (refine wpAnyH_ready (rs := [16]) (by kernel_rfl) (by simp) ?_; refine AllReadyH.cons rfl (fun K hK => ?_) AllReadyH.nil; go_simp; go_at_call 10; refine (HSU.out _ (((Chg.refl [] wF).drew.trans' hc8).trans' hc9)).mono ?_; rintro e w10 ⟨rfl, hc10⟩; (refine hK.out _ _ (by exact (by exact ⟨hc10.cell hHeld.1 (by simp), hc10.cell hHeld.2.1 (by simp), hc10.cell hHeld.2.2.1 (by simp), hc10.cell hHeld.2.2.2.1 (by simp), hc10.cell hHeld.2.2.2.2.1 (by simp), hc10.cell hHeld.2.2.2.2.2.1 (by simp), hc10.cell hHeld.2.2.2.2.2.2.1 (by simp), hc10.cell hHeld.2.2.2.2.2.2.2.1 (by simp), hc10.cell hHeld.2.2.2.2.2.2.2.2.1 (by simp), hc10.cell hHeld.2.2.2.2.2.2.2.2.2.1 (by simp), hc10.cell hHeld.2.2.2.2.2.2.2.2.2.2.1 (by simp), hc10.cell hHeld.2.2.2.2.2.2.2.2.2.2.2.1 (by simp), hc10.cell hHeld.2.2.2.2.2.2.2.2.2.2.2.2.1 (by simp), hc10.cell hHeld.2.2.2.2.2.2.2.2.2.2.2.2.2.1 (by simp), hc10.cell hHeld.2.2.2.2.2.2.2.2.2.2.2.2.2.2 (by simp)⟩)) (fun hHeld => ?_); clear hK K; (try simp only [List.getElem_toArray, List.getElem_cons_zero, List.getElem_cons_succ, Act.put, List.setIfInBounds_toArray, List.set_cons_zero, List.set_cons_succ]))); (refine wpAnyH_take (i := 17) (v := ?_) rfl (by kernel_rfl) (by kernel_rfl) (by kernel_rfl) (fun _ _ _ h => h) (Or.inl ⟨by rfl, ?_⟩) (by assumption) ?_; rotate_left 1; (focus (intro w hSw; (try dsimp only at hSw); go_simp; (try with_reducible rfl))); (try simp only [List.getElem_toArray, List.getElem_cons_zero, List.getElem_cons_succ, Act.put, List.setIfInBounds_toArray, List.set_cons_zero, List.set_cons_succ])); (refine wpAnyH_take (i := 18) (v := ?_) rfl (by kernel_rfl) (by kernel_rfl) (by kernel_rfl) (fun _ _ _ h => h) (Or.inl ⟨by rfl, ?_⟩) (by assumption) ?_; rotate_left 1; (focus (intro w hSw; (try dsimp only at hSw); go_simp; (try with_reducible rfl))); (try simp only [List.getElem_toArray, List.getElem_cons_zero, List.getElem_cons_succ, Act.put, List.setIfInBounds_toArray, List.set_cons_zero, List.set_cons_succ])); (refine wpAnyH_take (i := 19) (v := ?_) rfl (by kernel_rfl) (by kernel_rfl) (by kernel_rfl) (fun _ _ _ h => h) (Or.inl ⟨by rfl, ?_⟩) (by assumption) ?_; rotate_left 1; (focus (intro w hSw; (try dsimp only at hSw); go_simp; (try with_reducible rfl))); (try simp only [List.getElem_toArray, List.getElem_cons_zero, List.getElem_cons_succ, Act.put, List.setIfInBounds_toArray, List.set_cons_zero, List.set_cons_succ])); (refine wpAnyH_take (i := 20) (v := ?_) rfl (by kernel_rfl) (by kernel_rfl) (by kernel_rfl) (fun _ _ _ h => h) (Or.inl ⟨by rfl, ?_⟩) (by assumption) ?_; rotate_left 1; (focus (intro w hSw; (try dsimp only at hSw); go_simp; (try with_reducible rfl))); (try simp only [List.getElem_toArray, List.getElem_cons_zero, List.getElem_cons_succ, Act.put, List.setIfInBounds_toArray, List.set_cons_zero, List.set_cons_succ])); (refine wpAnyH_take (i := 22) (v := ?_) rfl (by kernel_rfl) (by kernel_rfl) (by kernel_rfl) (fun _ _ _ h => h) (Or.inl ⟨by rfl, ?_⟩) (by assumption) ?_; rotate_left 1; (focus (intro w hSw; (try dsimp only at hSw); go_simp; (try with_reducible rfl))); (try simp only [List.getElem_toArray, List.getElem_cons_zero, List.getElem_cons_succ, Act.put, List.setIfInBounds_toArray, List.set_cons_zero, List.set_cons_succ])); (refine wpAnyH_ready (rs := [21]) (by kernel_rfl) (by simp) ?_; refine AllReadyH.cons rfl (fun K hK => ?_) AllReadyH.nil; go_simp; go_at_call 12; refine (HBP.out _ ((((Chg.refl [] wF).drew.trans' hc8).trans' hc9).trans' hc10)).mono ?_; rintro e w11 ⟨v11, rfl, hv11, hc11⟩; (refine hK.out _ _ (by exact (by exact ⟨hc11.cell hHeld.1 (by simp), hc11.cell hHeld.2.1 (by simp), hc11.cell hHeld.2.2.1 (by simp), hc11.cell hHeld.2.2.2.1 (by simp), hc11.cell hHeld.2.2.2.2.1 (by simp), hc11.cell hHeld.2.2.2.2.2.1 (by simp), hc11.cell hHeld.2.2.2.2.2.2.1 (by simp), hc11.cell hHeld.2.2.2.2.2.2.2.1 (by simp), hc11.cell hHeld.2.2.2.2.2.2.2.2.1 (by simp), hc11.cell hHeld.2.2.2.2.2.2.2.2.2.1 (by simp), hc11.cell hHeld.2.2.2.2.2.2.2.2.2.2.1 (by simp), hc11.cell hHeld.2.2.2.2.2.2.2.2.2.2.2.1 (by simp), hc11.cell hHeld.2.2.2.2.2.2.2.2.2.2.2.2.1 (by simp), hc11.cell hHeld.2.2.2.2.2.2.2.2.2.2.2.2.2.1 (by simp), hc11.cell hHeld.2.2.2.2.2.2.2.2.2.2.2.2.2.2 (by simp)⟩)) (fun hHeld => ?_); clear hK K; (try simp only [List.getElem_toArray, List.getElem_cons_zero, List.getElem_cons_succ, Act.put, List.setIfInBounds_toArray, List.set_cons_zero, List.set_cons_succ]))); (refine wpAnyH_ready (rs := [23]) (by kernel_rfl) (by simp) ?_; refine AllReadyH.cons rfl (fun K hK => ?_) AllReadyH.nil; go_simp; go_at_call 12; refine (HBQ.out _ (((((Chg.refl [] wF).drew.trans' hc8).trans' hc9).trans' hc10).trans' hc11)).mono ?_; rintro e w12 ⟨v12, rfl, hv12, hc12⟩; (refine hK.out _ _ (by exact (by exact ⟨hc12.cell hHeld.1 (by simp), hc12.cell hHeld.2.1 (by simp), hc12.cell hHeld.2.2.1 (by simp), hc12.cell hHeld.2.2.2.1 (by simp), hc12.cell hHeld.2.2.2.2.1 (by simp), hc12.cell hHeld.2.2.2.2.2.1 (by simp), hc12.cell hHeld.2.2.2.2.2.2.1 (by simp), hc12.cell hHeld.2.2.2.2.2.2.2.1 (by simp), hc12.cell hHeld.2.2.2.2.2.2.2.2.1 (by simp), hc12.cell hHeld.2.2.2.2.2.2.2.2.2.1 (by simp), hc12.cell hHeld.2.2.2.2.2.2.2.2.2.2.1 (by simp), hc12.cell hHeld.2.2.2.2.2.2.2.2.2.2.2.1 (by simp), hc12.cell hHeld.2.2.2.2.2.2.2.2.2.2.2.2.1 (by simp), hc12.cell hHeld.2.2.2.2.2.2.2.2.2.2.2.2.2.1 (by simp), hc12.cell hHeld.2.2.2.2.2.2.2.2.2.2.2.2.2.2 (by simp)⟩)) (fun hHeld => ?_); clear hK K; (try simp only [List.getElem_toArray, List.getElem_cons_zero, List.getElem_cons_succ, Act.put, List.setIfInBounds_toArray, List.set_cons_zero, List.set_cons_succ]))); (refine wpAnyH_ready (rs := [24]) (by kernel_rfl) (by simp) ?_; refine AllReadyH.cons rfl (fun K hK => ?_) AllReadyH.nil; go_simp; go_at_call 11; refine (HSC.out _ v11 v12 (hv11.keep hc12) hv12).mono ?_; rintro e w13 ⟨rfl, hc13⟩; (refine hK.out _ _ (by exact (by exact ⟨hc13.cell hHeld.1 (by simp), hc13.cell hHeld.2.1 (by simp), hc13.cell hHeld.2.2.1 (by simp), hc13.cell hHeld.2.2.2.1 (by simp), hc13.cell hHeld.2.2.2.2.1 (by simp), hc13.cell hHeld.2.2.2.2.2.1 (by simp), hc13.cell hHeld.2.2.2.2.2.2.1 (by simp), hc13.cell hHeld.2.2.2.2.2.2.2.1 (by simp), hc13.cell hHeld.2.2.2.2.2.2.2.2.1 (by simp), hc13.cell hHeld.2.2.2.2.2.2.2.2.2.1 (by simp), hc13.cell hHeld.2.2.2.2.2.2.2.2.2.2.1 (by simp), hc13.cell hHeld.2.2.2.2.2.2.2.2.2.2.2.1 (by simp), hc13.cell hHeld.2.2.2.2.2.2.2.2.2.2.2.2.1 (by simp), hc13.cell hHeld.2.2.2.2.2.2.2.2.2.2.2.2.2.1 (by simp), hc13.cell hHeld.2.2.2.2.2.2.2.2.2.2.2.2.2.2 (by simp)⟩)) (fun hHeld => ?_); clear hK K; (try simp only [List.getElem_toArray, List.getElem_cons_zero, List.getElem_cons_succ, Act.put, List.setIfInBounds_toArray, List.set_cons_zero, List.set_cons_succ]))); (refine wpAnyH_take (i := 25) (v := ?_) rfl (by kernel_rfl) (by kernel_rfl) (by kernel_rfl) (fun _ _ _ h => h) (Or.inl ⟨by rfl, ?_⟩) (by assumption) ?_; rotate_left 1; (focus (intro w hSw; (try dsimp only at hSw); go_simp; (try with_reducible rfl))); (try simp only [List.getElem_toArray, List.getElem_cons_zero, List.getElem_cons_succ, Act.put, List.setIfInBounds_toArray, List.set_cons_zero, List.set_cons_succ])); (refine wpAnyH_take (i := 26) (v := ?_) rfl (by kernel_rfl) (by kernel_rfl) (by kernel_rfl) (fun _ _ _ h => h) (Or.inl ⟨by rfl, ?_⟩) (by assumption) ?_; rotate_left 1; (focus (intro w hSw; (try dsimp only at hSw); go_simp; (try with_reducible rfl))); (try simp only [List.getElem_toArray, List.getElem_cons_zero, List.getElem_cons_succ, Act.put, List.setIfInBounds_toArray, List.set_cons_zero, List.set_cons_succ])); refine wpAnyH_done (by kernel_rfl) ?_ _)
          have HC13 := hid (((((((Chg.refl [] wF).drew.trans' hc8).trans' hc9).trans' hc10).trans' hc11).trans' hc12).trans' hc13)
          obtain ⟨_, _, _, _, _, ts, e9, l0, l1, l2, l3, l4, h6, h7⟩ := HQV.out wF HCF.out
          simp only [Value.agg.injEq, Array.mk.injEq, List.cons.injEq, and_true] at e9
          obtain ⟨rfl, rfl, rfl, rfl, rfl⟩ := e9
          have HL4 := hid l4
          have HTS := hid (And.intro h6 h7)
          have hq4 : qn4 = ts.length := by
            obtain ⟨_, _, e8, _⟩ := l4.len
            simp only [Value.slice.injEq] at e8
            exact e8.2.1
          have hts : ts.length ≤ 1048576 := by
            have h8 := HS.out.sm.thrs
            have h9 := congrArg List.length h6
            simp only [bareZ, List.length_map] at h9
            omega
          subst hq4
          obtain ⟨N, hN⟩ : ∃ N, ts.length = N := ⟨_, rfl⟩
          have HN := hid hN
          rw [hN] at hts
          have HQ4 := hid (show ∀ W, Chg [] wF W → W.cell? ⟨Q, 4, none⟩ = some (.slice qa4 N qc4) from fun W h => by rw [← hN]; exact h.cell q4 (by simp))
          have HLL := hid (show Lst thrC 3 wF (.slice qa4 N qc4) ts from by rw [← hN]; exact l4)
          clear l0 l1 l2 l3 l4 h6 h7 hN q0 q1 q2 q3 q4 p0 p1 p2 p3 p4 r0 r1 s0 s1 f0 hHeld hc8 hc9 hc10 hc11 hc12 hc13 hv11 hv12
          have g2 := fun u => guard_plc' u
          have g3 := neq_plc_self 0 0
          go_wp2_with fail
          go_loopw [11] (fun vi wr => ∃ i : Nat, i ≤ N ∧ vi = .int .i64 i ∧ Hid (Chg [] wF wr)) (fun vi _ => N - (intOf vi).toNat)
          case atStart => exact ⟨0, Nat.zero_le _, rfl, HC13⟩
          case round =>
            obtain ⟨i, hi, rfl, HC⟩ := hrel
            have q4 := HQ4.out wr HC.out
            by_cases hlt : i < N
            · have hil : i < ts.length := by rw [HN.out]; exact hlt
              obtain ⟨x, hx⟩ : ∃ x, ts[i]'hil = x := ⟨_, rfl⟩
              have hxm : x ∈ ts := by rw [← hx]; exact List.getElem_mem _
              obtain ⟨b1, o1, e1, z0, z1, z2⟩ := thrs_at' (by have h9 := HLL.out.keep HC.out; rw [← HN.out] at h9; exact h9) hil hx
              have hxt : x.t ∈ (bareZ p).thrs := by rw [← HTS.out.1]; exact List.mem_map.2 ⟨x, hxm, rfl⟩
              obtain ⟨t, ht, het⟩ := List.mem_map.1 hxt
              obtain ⟨nc, hnc⟩ : ∃ nc, t.code.length = nc := ⟨_, rfl⟩
              obtain ⟨hl1, hl2⟩ := HTS.out.2 x hxm
              rw [← het] at hl1 hl2
              obtain ⟨ac, kc, hxc, _⟩ := hl1.len
              obtain ⟨ap, kp, hxp, _⟩ := hl2.len
              have hcl : (bareT t).code.length = nc := hnc
              have hpl : (bareT t).places.length = nc := by rw [← hnc]; exact List.length_map ..
              have hncs : nc ≤ 1048576 := by rw [← hnc]; exact (HS.out.sm.nthrs t ht).2.1
              rw [hcl] at hxc
              rw [hpl] at hxp
              rw [hxc] at z1
              rw [hxp] at z2 hl2
              have HPL := hid (And.intro hl2 hpl)
              have zl : (i : Int) < (N : Int) := by omega
              have zc := int_eq nc
              subst e1
              clear hx hxm hxt ht het hnc hl1 hl2 hxc hxp hcl hpl z0
              have HZ := hid (show ∀ W, Chg [] wr W → W.cell? ⟨Q, 4, none⟩ = some (.slice (some ⟨b1, o1, none⟩) N qc4) ∧ W.cell? ⟨b1, o1 + i * 3 + 2, none⟩ = some (.slice ap nc kp) from fun W h => ⟨h.cell q4 (by simp), h.cell z2 (by simp)⟩)
              go_wp2_with fail
              go_quiet (fail)
              go_wp2_with fail
              obtain ⟨wo, hwo⟩ : ∃ wo : World, wo = wr := ⟨_, rfl⟩
              have HC9 := HC
              rw [← hwo] at HC9 HZ
              have HWO := hid hwo
              clear hwo q4 z1 z2
              go_loopw [12] (fun vj wr => ∃ j : Nat, j ≤ nc ∧ vj = .int .i64 j ∧ Hid (Chg [] wo wr)) (fun vj _ => nc - (intOf vj).toNat)
              case atStart => exact ⟨0, Nat.zero_le _, rfl, hid (by rw [HWO.out]; exact (Chg.refl _ _).drewN _)⟩
              case round =>
                obtain ⟨j, hj, rfl, HD⟩ := hrel
                obtain ⟨q4, z2⟩ := HZ.out _ HD.out
                by_cases hjl : j < nc
                · have hjp : j < (bareT t).places.length := by rw [HPL.out.2]; exact hjl
                  obtain ⟨b2, o2, e2, c2⟩ := (HPL.out.1.keep (HC9.out.trans' HD.out)).at plcC_len hjp (by omega)
                  have hpz : (bareT t).places[j] = ⟨0, 0⟩ := by
                    simp [bareT]
                  rw [hpz] at c2
                  have y0 : wr.cell? ⟨b2, o2 + j * 2, none⟩ = some (.int .i64 0) := c2 0 (by omega)
                  have y1 : wr.cell? ⟨b2, o2 + j * 2 + 1, none⟩ = some (.int .i64 0) := c2 1 (by omega)
                  have zj : (j : Int) < (nc : Int) := by omega
                  subst e2
                  clear c2 hpz hjp
                  go_wp2_with fail
                  go_roundw
                  case rel => exact ⟨j + 1, by omega, by go_num, hid (by first | exact HD.out | exact HD.out.drewN _ | exact HD.out.drew)⟩
                  case measure => simp [intOf]; omega
                · go_wp2_with fail
                  go_roundw
                  case rel => exact ⟨i + 1, by omega, by go_num, hid (by first | exact HC9.out.trans' HD.out | exact (HC9.out.trans' HD.out).drewN _)⟩
                  case measure => simp [intOf]; omega
            · go_wp2_with fail
              exact bodyPost_ret (v := .bool true) (by simp [results, Tryd.results3, go_sem]) rfl ⟨rfl, HALL.out.trans' HC.out⟩
end Go.Proofs.YtaknmhipaifdkaaDoor
