/- The walk of left: is a program that twin made as it was, the marks too? -/
import Derived.Test.YtbikekgljabalaaXc
import Derived.Test.YtbikekgljabalaaZa
import Derived.Test.YtbikekgljabalaaUf
import Derived.WalkMore
import Derived.Deep.LoopGhost
namespace Go.Proofs.Ytbikekgljabalaa
open Go.RowKit Go.AB
set_option linter.unusedVariables false
set_option linter.unusedSimpArgs false
set_option linter.unusedSectionVars false

theorem flat_mark {α : Type} {f : α → List Value} {k : Nat} (hf : ∀ x, (f x).length = k) (xs : List α) (m : List Value) (j : Nat) {n : Nat} (hn : xs.length = n) : (xs.flatMap f ++ m).getD (n * k + j) undef = m.getD j undef := by
  subst hn
  have h1 := flat_lenk hf xs
  simp only [List.getD]
  rw [List.getElem?_append_right (by omega)]
  congr 2
  omega
theorem mark_cell {α : Type} {f : α → List Value} {w : World} {e k g c n : Nat} (hf : ∀ x, (f x).length = k) (hk : 0 < k) {xs : List α} {m : List Value} {n' : Nat} (hn' : n' = n) (h : Row w e k (.slice (some ⟨g, 0, none⟩) (n' + 1) c) (some g) (n' + 1) (xs.flatMap f ++ m)) (hn : xs.length = n) :
    w.cell? ⟨g, n * k, none⟩ = some (m.getD 0 undef) ∧ n + 1 ≤ c ∧ c ≤ maxLen := by
  subst hn'
  obtain ⟨h1, _, cap, hv, h3, h4⟩ := h.cellk
  simp only [Value.slice.injEq, true_and] at hv
  subst hv
  refine ⟨?_, h3, h4⟩
  have := h1 (n' * k + 0) (by rw [Nat.succ_mul]; omega)
  rw [flat_mark hf xs m 0 hn] at this
  simpa using this
theorem wrapNx {n N : Nat} (h : n ≤ 1048576) (hN : n + 1 = N) : ∀ m : Int, m = (n : Int) + 1 → wrap64 m = (N : Int) := fun m hm => by rw [hm, IntWalk.wrap64_in _ (by omega)]; omega
theorem wrapNy {c : Nat} (h : c ≤ 2147483647) : IntKind.i64.wrap (c : Int) = (c : Int) := by rw [IntKind.wrap_i64]; omega
section
variable {w0 w : World}
set_option maxHeartbeats 8000000 in
set_option maxRecDepth 100000 in
theorem left_calls (q : TwD) (p : PrgD) (hp : q.prg = p) (hs : SmallP p) {v : Value} (ht : Tw w0 w q) (hv : PrgV w v p) :
    Calls Try.prog 14 #[q.val, v] w fun e w' => e = .returned (.bool true) ∧ Chg [] w w' := by
  have hqv := ht.prgV
  rw [hp] at hqv
  have HSM := hid (fun u (hu : Chg [] w u) => r_same_self p hs u (hv.keep hu) (hqv.keep hu))
  obtain ⟨e0, e1, e2, e3, e4, k0, k1, k2, k3, k4, rfl⟩ := prgV_shape hv
  subst hp
  obtain ⟨vars, vols, locks, bars, ts, g0, g1, g2, g3, g4, c0, c1, c2, c3, c4⟩ := q
  unfold TwD.val at hqv HSM ⊢
  unfold Tw at ht
  simp only [TwD.prg, List.length_map] at hqv HSM ⊢
  have hb0 : vars.length ≤ 1048576 := hs.vars
  have hb1 : vols.length ≤ 1048576 := hs.vols
  have hb2 : locks.length ≤ 1048576 := hs.locks
  have hb3 : bars.length ≤ 1048576 := hs.bars
  have hb4 : ts.length ≤ 1048576 := by have := hs.thrs; simp only [TwD.prg, List.length_map] at this; exact this
  have hbt : ∀ x ∈ ts, x.t.code.length ≤ 1048576 ∧ x.t.places.length ≤ 1048576 := fun x hx => by
    have := hs.nthrs x.t (by simp only [TwD.prg]; exact List.mem_map.2 ⟨x, hx, rfl⟩)
    exact ⟨this.2.1, this.2.2⟩
  obtain ⟨a1, a2, a3, a4, a5, a6, a7⟩ : True ∧ True ∧ True ∧ True ∧ True ∧ True ∧ True := ⟨trivial, trivial, trivial, trivial, trivial, trivial, trivial⟩
  obtain ⟨m0, hm0⟩ : ∃ n, vars.length = n := ⟨_, rfl⟩
  have hM0 := fun u (hu : Chg [] w u) => mark_cell (w := u) (xs := vars) (m := mVar) (n := vars.length) varC_len (by omega) rfl ((ht.keep0 hu).row (x := ent0 vars g0 c0) (by simp [entsQ])) (by simp)
  have hM1 := fun u (hu : Chg [] w u) => mark_cell (w := u) (xs := vols) (m := mVar) (n := vols.length) varC_len (by omega) rfl ((ht.keep0 hu).row (x := ent0 vols g1 c1) (by simp [entsQ])) (by simp)
  have hM2 := fun u (hu : Chg [] w u) => mark_cell (w := u) (xs := locks) (m := mLock) (n := locks.length) strC_len (by omega) rfl ((ht.keep0 hu).row (x := ent2 locks g2 c2) (by simp [entsQ])) (by simp)
  have hM3 := fun u (hu : Chg [] w u) => mark_cell (w := u) (xs := bars) (m := mVar) (n := bars.length) varC_len (by omega) rfl ((ht.keep0 hu).row (x := ent3 bars g3 c3) (by simp [entsQ])) (by simp)
  have hM4 := fun u (hu : Chg [] w u) => mark_cell (w := u) (xs := (ts.map ThrG.v)) (m := mThr) (n := ts.length) thrC_len (by omega) rfl ((ht.keep0 hu).row (x := ent4 ts g4 c4) (by simp [entsQ])) (by simp)
  have hTM := fun u (hu : Chg [] w u) x (hx : x ∈ ts) => And.intro (mark_cell (w := u) (xs := x.t.code) (m := mIns) (n := x.t.code.length) insC_len (by omega) rfl ((ht.keep0 hu).row (x := entC x) (by simp [entsQ, mem_entsT hx])) rfl) (mark_cell (w := u) (xs := x.t.places) (m := mPlc) (n := x.t.places.length) plcC_len (by omega) rfl ((ht.keep0 hu).row (x := entP x) (by simp [entsQ, mem_entsT hx])) rfl)
  have hR4 := fun u (hu : Chg [] w u) => (Row.cellk ((ht.keep0 hu).row (x := ent4 ts g4 c4) (by simp [entsQ]))).1
  clear a1 a2 a3 a4 a5 a6 a7 hm0 m0
  obtain ⟨n0, hn0⟩ : ∃ n, vars.length = n := ⟨_, rfl⟩
  obtain ⟨n1, hn1⟩ : ∃ n, vols.length = n := ⟨_, rfl⟩
  obtain ⟨n2, hn2⟩ : ∃ n, locks.length = n := ⟨_, rfl⟩
  obtain ⟨n3, hn3⟩ : ∃ n, bars.length = n := ⟨_, rfl⟩
  obtain ⟨n4, hn4⟩ : ∃ n, ts.length = n := ⟨_, rfl⟩
  rw [hn0, hn1, hn2, hn3, hn4] at HSM hqv ⊢
  rw [hn0] at hM0 hb0
  rw [hn1] at hM1 hb1
  rw [hn2] at hM2 hb2
  rw [hn3] at hM3 hb3
  rw [hn4] at hM4 hb4
  have HN4 := hid hn4
  have HR4 := hid hR4
  have HTM := hid hTM
  have HBT := hid hbt
  have HM0 := hid hM0
  have HM1 := hid hM1
  have HM2 := hid hM2
  have HM3 := hid hM3
  have HM4 := hid hM4
  obtain ⟨o1, ho1⟩ : ∃ o : Obj, o = .cells #[.slice (some ⟨g0, 0, none⟩) n0 c0, .slice (some ⟨g1, 0, none⟩) n1 c1, .slice (some ⟨g2, 0, none⟩) n2 c2, .slice (some ⟨g3, 0, none⟩) n3 c3, .slice (some ⟨g4, 0, none⟩) n4 c4] 28 := ⟨_, rfl⟩
  obtain ⟨q1, hq1⟩ : ∃ x, TwD.prg ⟨vars, vols, locks, bars, ts, g0, g1, g2, g3, g4, c0, c1, c2, c3, c4⟩ = x := ⟨_, rfl⟩
  clear hM0 hM1 hM2 hM3 hM4 hTM hR4 hbt hn0 hn1 hn2 hn3 hn4 ht hv hqv hs hq1 q1 ho1 o1
  go_enter Try.func14, Try.ntmps14

  obtain ⟨wa, hwa⟩ : ∃ x : World, (w.alloc (.cells #[.slice (some ⟨g0, 0, none⟩) n0 c0, .slice (some ⟨g1, 0, none⟩) n1 c1, .slice (some ⟨g2, 0, none⟩) n2 c2, .slice (some ⟨g3, 0, none⟩) n3 c3, .slice (some ⟨g4, 0, none⟩) n4 c4] 28)).alloc (.cells #[.slice e0 n0 k0, .slice e1 n1 k1, .slice e2 n2 k2, .slice e3 n3 k3, .slice e4 n4 k4] 28) = x := ⟨_, rfl⟩
  have hca : Chg [] w wa := by rw [← hwa]; exact ((Chg.refl [] w).alloc _).alloc _
  have hq0 : wa.heap[w.heap.size]? = some (.cells #[.slice (some ⟨g0, 0, none⟩) n0 c0, .slice (some ⟨g1, 0, none⟩) n1 c1, .slice (some ⟨g2, 0, none⟩) n2 c2, .slice (some ⟨g3, 0, none⟩) n3 c3, .slice (some ⟨g4, 0, none⟩) n4 c4] 28) := by rw [← hwa]; exact blk_alloc_old (heap_alloc_new w _) _
  have hp0 : wa.heap[w.heap.size + 1]? = some (.cells #[.slice e0 n0 k0, .slice e1 n1 k1, .slice e2 n2 k2, .slice e3 n3 k3, .slice e4 n4 k4] 28) := by
    rw [← hwa]
    have := heap_alloc_new (w.alloc (.cells #[.slice (some ⟨g0, 0, none⟩) n0 c0, .slice (some ⟨g1, 0, none⟩) n1 c1, .slice (some ⟨g2, 0, none⟩) n2 c2, .slice (some ⟨g3, 0, none⟩) n3 c3, .slice (some ⟨g4, 0, none⟩) n4 c4] 28)) (.cells #[.slice e0 n0 k0, .slice e1 n1 k1, .slice e2 n2 k2, .slice e3 n3 k3, .slice e4 n4 k4] 28)
    rwa [World.size_alloc] at this
  go_upto_region 1 with fail
  (try rw [hwa])
  clear hwa
  obtain ⟨qb, hqb⟩ : ∃ x, w.heap.size = x := ⟨_, rfl⟩
  rw [hqb] at hq0 hp0
  (try rw [hqb])
  clear hqb
  have y0 := (blk_cell hq0 0).trans (rfl : _ = some (Value.slice (some ⟨g0, 0, none⟩) n0 c0))
  have x0 := (blk_cell hp0 0).trans (rfl : _ = some (Value.slice e0 n0 k0))
  have y1 := (blk_cell hq0 1).trans (rfl : _ = some (Value.slice (some ⟨g1, 0, none⟩) n1 c1))
  have x1 := (blk_cell hp0 1).trans (rfl : _ = some (Value.slice e1 n1 k1))
  have y2 := (blk_cell hq0 2).trans (rfl : _ = some (Value.slice (some ⟨g2, 0, none⟩) n2 c2))
  have x2 := (blk_cell hp0 2).trans (rfl : _ = some (Value.slice e2 n2 k2))
  have y3 := (blk_cell hq0 3).trans (rfl : _ = some (Value.slice (some ⟨g3, 0, none⟩) n3 c3))
  have x3 := (blk_cell hp0 3).trans (rfl : _ = some (Value.slice e3 n3 k3))
  have y4 := (blk_cell hq0 4).trans (rfl : _ = some (Value.slice (some ⟨g4, 0, none⟩) n4 c4))
  have x4 := (blk_cell hp0 4).trans (rfl : _ = some (Value.slice e4 n4 k4))
  go_upto_region 2 with (go_at_call 21; refine (HSM.out _ hca).mono ?_; rintro e w1 ⟨rfl, hc1⟩)
  clear x0 x1 x2 x3 x4 y0 y1 y2 y3 y4
  have hC1 := hca.trans' hc1
  have HC1 := hid hC1
  have hq1 := hc1.heap hq0 (by simp)
  have HQ1 := hid hq1
  have y0 := (blk_cell hq1 0).trans (rfl : _ = some (Value.slice (some ⟨g0, 0, none⟩) n0 c0))
  obtain ⟨x0, z0, u0m⟩ := HM0.out _ hC1
  replace x0 : w1.cell? ⟨g0, n0 * 2, none⟩ = some (.string ⟨#[109, 97, 114, 107]⟩) := x0
  obtain ⟨N0, hN0⟩ : ∃ N, n0 + 1 = N := ⟨_, rfl⟩
  have v0 : (n0 : Int) + 1 = (N0 : Int) := by omega
  have bN0 : N0 ≤ 2147483647 := by omega
  rw [hN0] at z0
  have t0 : (n0 : Int) < (N0 : Int) := by omega
  have tt0 : n0 < N0 := by omega
  have s0 : (N0 : Int) ≤ (c0 : Int) := by omega
  clear hN0
  have y1 := (blk_cell hq1 1).trans (rfl : _ = some (Value.slice (some ⟨g1, 0, none⟩) n1 c1))
  obtain ⟨x1, z1, u1m⟩ := HM1.out _ hC1
  replace x1 : w1.cell? ⟨g1, n1 * 2, none⟩ = some (.string ⟨#[109, 97, 114, 107]⟩) := x1
  obtain ⟨N1, hN1⟩ : ∃ N, n1 + 1 = N := ⟨_, rfl⟩
  have v1 : (n1 : Int) + 1 = (N1 : Int) := by omega
  have bN1 : N1 ≤ 2147483647 := by omega
  rw [hN1] at z1
  have t1 : (n1 : Int) < (N1 : Int) := by omega
  have tt1 : n1 < N1 := by omega
  have s1 : (N1 : Int) ≤ (c1 : Int) := by omega
  clear hN1
  have y2 := (blk_cell hq1 2).trans (rfl : _ = some (Value.slice (some ⟨g2, 0, none⟩) n2 c2))
  obtain ⟨x2, z2, u2m⟩ := HM2.out _ hC1
  replace x2 : w1.cell? ⟨g2, n2 * 1, none⟩ = some (.string ⟨#[109, 97, 114, 107]⟩) := x2
  obtain ⟨N2, hN2⟩ : ∃ N, n2 + 1 = N := ⟨_, rfl⟩
  have v2 : (n2 : Int) + 1 = (N2 : Int) := by omega
  have bN2 : N2 ≤ 2147483647 := by omega
  rw [hN2] at z2
  have t2 : (n2 : Int) < (N2 : Int) := by omega
  have tt2 : n2 < N2 := by omega
  have s2 : (N2 : Int) ≤ (c2 : Int) := by omega
  clear hN2
  have y3 := (blk_cell hq1 3).trans (rfl : _ = some (Value.slice (some ⟨g3, 0, none⟩) n3 c3))
  obtain ⟨x3, z3, u3m⟩ := HM3.out _ hC1
  replace x3 : w1.cell? ⟨g3, n3 * 2, none⟩ = some (.string ⟨#[109, 97, 114, 107]⟩) := x3
  obtain ⟨N3, hN3⟩ : ∃ N, n3 + 1 = N := ⟨_, rfl⟩
  have v3 : (n3 : Int) + 1 = (N3 : Int) := by omega
  have bN3 : N3 ≤ 2147483647 := by omega
  rw [hN3] at z3
  have t3 : (n3 : Int) < (N3 : Int) := by omega
  have tt3 : n3 < N3 := by omega
  have s3 : (N3 : Int) ≤ (c3 : Int) := by omega
  clear hN3
  have y4 := (blk_cell hq1 4).trans (rfl : _ = some (Value.slice (some ⟨g4, 0, none⟩) n4 c4))
  obtain ⟨x4, z4, u4m⟩ := HM4.out _ hC1
  replace x4 : w1.cell? ⟨g4, n4 * 3, none⟩ = some (.string ⟨#[109, 97, 114, 107]⟩) := x4
  obtain ⟨N4, hN4⟩ : ∃ N, n4 + 1 = N := ⟨_, rfl⟩
  have v4 : (n4 : Int) + 1 = (N4 : Int) := by omega
  have bN4 : N4 ≤ 2147483647 := by omega
  rw [hN4] at z4
  have t4 : (n4 : Int) < (N4 : Int) := by omega
  have tt4 : n4 < N4 := by omega
  have s4 : (N4 : Int) ≤ (c4 : Int) := by omega
  clear hN4
  have hwr : ∀ m : Nat, m ≤ 2147483647 → IntKind.i64.wrap (m : Int) = (m : Int) := fun m h => wrapNy h
  clear hC1 hq1 hq0 hp0 hc1 hca HSM HM0 HM1 HM2 HM3 HM4 u0m u1m u2m u3m u4m
  simp only [Nat.mul_one] at x2
  go_cut [87] (fun v wx => v = .bool false ∧ Chg [] w1 wx)
  case first =>
    go_quiet (fail)
    go_wp2_with fail
    go_meet
    exact ⟨rfl, Chg.of_drewN [] _ _⟩
  case rest =>
  obtain ⟨rfl, hc2⟩ := hcut

  clear x0 y0 v0 bN0 t0 tt0 s0 z0
  clear x1 y1 v1 bN1 t1 tt1 s1 z1
  clear x2 y2 v2 bN2 t2 tt2 s2 z2
  clear x3 y3 v3 bN3 t3 tt3 s3 z3
  clear x4 y4 v4 bN4 t4 tt4 s4 z4
  clear hwr
  have HQ2 := hid (hc2.heap HQ1.out (by simp))
  have HC2 := hid (HC1.out.trans' hc2)
  clear HQ1 HC1 hc2
  have y4 := (blk_cell HQ2.out 4).trans (rfl : _ = some (Value.slice (some ⟨g4, 0, none⟩) n4 c4))
  go_wp2_with fail
  go_loopg [5] n4 (fun gk vi wr => ∃ i : Nat, i + gk = n4 ∧ vi = .int .i64 i ∧ Hid (Chg [] wc wr))
  case atStart => exact ⟨0, by omega, rfl, hid (Chg.refl _ _)⟩
  case round =>
  clear y4
  obtain ⟨i, hi, rfl, HW⟩ := hrel
  have y4 := (blk_cell (HW.out.heap HQ2.out (by simp)) 4).trans (rfl : _ = some (Value.slice (some ⟨g4, 0, none⟩) n4 c4))
  by_cases hlt : i < n4
  · have zl : (i : Int) < (n4 : Int) := by omega
    have z0 : (0 : Int) ≤ (i : Int) := by omega
    have hli : i < ts.length := by rw [HN4.out]; exact hlt
    have hbb := HBT.out _ (List.getElem_mem hli)
    have htv : ts.map ThrG.v = (ts.take i).map ThrG.v ++ ThrG.v ts[i] :: (ts.drop (i + 1)).map ThrG.v := by
      rw [← List.map_cons, ← List.map_append, ← List.drop_eq_getElem_cons hli, List.take_append_drop]
    have htl : ((ts.take i).map ThrG.v).length = i := by rw [List.length_map, List.length_take]; omega
    have hcw := HC2.out.trans' HW.out
    have hr := HR4.out wr hcw
    have d0 := hr (i * 3 + 0) (by simp only [ent4]; omega)
    have d1 := hr (i * 3 + 1) (by simp only [ent4]; omega)
    have d2 := hr (i * 3 + 2) (by simp only [ent4]; omega)
    simp only [ent4] at d0 d1 d2
    rw [htv, flat_at thrC_len _ _ _ _ (by omega) htl] at d0 d1 d2
    have hmm := hid (fun u (hu : Chg [] w u) => HTM.out u hu ts[i] (List.getElem_mem hli))
    obtain ⟨X, hX⟩ : ∃ X, ts[i] = X := ⟨_, rfl⟩
    rw [hX] at d0 d1 d2 hbb hmm
    obtain ⟨⟨nm, code, places⟩, cc, gc, cp, gp⟩ := X
    simp only at hbb hmm
    obtain ⟨nc, hnc⟩ : ∃ n, code.length = n := ⟨_, rfl⟩
    obtain ⟨np, hnp⟩ : ∃ n, places.length = n := ⟨_, rfl⟩
    replace d0 : wr.cell? ⟨g4, i * 3, none⟩ = some (.string nm) := d0
    replace d1 : wr.cell? ⟨g4, i * 3 + 1, none⟩ = some (.slice (some ⟨gc, 0, none⟩) nc cc) := by rw [← hnc]; exact d1
    replace d2 : wr.cell? ⟨g4, i * 3 + 2, none⟩ = some (.slice (some ⟨gp, 0, none⟩) np cp) := by rw [← hnp]; exact d2
    rw [hnc, hnp] at hmm hbb
    have hca := (Chg.refl [] wr).alloc (.cells #[.string nm, .slice (some ⟨gc, 0, none⟩) nc cc, .slice (some ⟨gp, 0, none⟩) np cp] 59)
    have hbx := heap_alloc_new wr (.cells #[.string nm, .slice (some ⟨gc, 0, none⟩) nc cc, .slice (some ⟨gp, 0, none⟩) np cp] 59)
    have HCW := hid hcw
    clear hr htv htl hX hli hnc hnp hcw
    go_upto_region 9 with fail
    clear d0 d1 d2 y4
    obtain ⟨tb, htb⟩ : ∃ x, wr.heap.size = x := ⟨_, rfl⟩
    rw [htb] at hbx
    (try rw [htb])
    obtain ⟨wb, hwb⟩ : ∃ x : World, wr.alloc (.cells #[.string nm, .slice (some ⟨gc, 0, none⟩) nc cc, .slice (some ⟨gp, 0, none⟩) np cp] 59) = x := ⟨_, rfl⟩
    rw [hwb] at hca hbx
    (try rw [hwb])
    clear hwb htb
    have y1 := (blk_cell hbx 1).trans (rfl : _ = some (Value.slice (some ⟨gc, 0, none⟩) nc cc))
    have y2 := (blk_cell hbx 2).trans (rfl : _ = some (Value.slice (some ⟨gp, 0, none⟩) np cp))
    obtain ⟨⟨x1, s1, _⟩, ⟨x2, s2, _⟩⟩ := hmm.out wb (HCW.out.trans' hca)
    replace x1 : wb.cell? ⟨gc, nc * 5, none⟩ = some (.int .i64 (-7)) := x1
    replace x2 : wb.cell? ⟨gp, np * 2, none⟩ = some (.int .i64 (-7)) := x2
    obtain ⟨N1, hN1⟩ : ∃ N, nc + 1 = N := ⟨_, rfl⟩
    obtain ⟨N2, hN2⟩ : ∃ N, np + 1 = N := ⟨_, rfl⟩
    have v1 : (nc : Int) + 1 = (N1 : Int) := by omega
    have v2 : (np : Int) + 1 = (N2 : Int) := by omega
    have bN1 : N1 ≤ 2147483647 := by omega
    have bN2 : N2 ≤ 2147483647 := by omega
    rw [hN1] at s1
    rw [hN2] at s2
    have t1 : (nc : Int) < (N1 : Int) := by omega
    have t2 : (np : Int) < (N2 : Int) := by omega
    have tt1 : nc < N1 := by omega
    have tt2 : np < N2 := by omega
    have s1i : (N1 : Int) ≤ (cc : Int) := by omega
    have s2i : (N2 : Int) ≤ (cp : Int) := by omega
    have hwr : ∀ m : Nat, m ≤ 2147483647 → IntKind.i64.wrap (m : Int) = (m : Int) := fun m h => wrapNy h
    have HCB := hid (HW.out.trans' hca)
    clear hN1 hN2 hbx hca hmm HCW HW
    go_cut [129] (fun v wx => v = .bool false ∧ Chg [] wb wx)
    case first =>
      go_quiet (fail)
      go_wp2_with fail
      go_meet
      exact ⟨rfl, Chg.of_drewN [] _ _⟩
    case rest =>
    obtain ⟨rfl, hc9⟩ := hcut
    have HC9 := hid (HCB.out.trans' hc9)
    clear y1 y2 x1 x2 v1 v2 bN1 bN2 s1 s2 s1i s2i t1 t2 tt1 tt2 hwr hc9 HCB
    go_wp2_with fail
    go_roundg (gk - 1)
    case measure => omega
    case rel => exact ⟨i + 1, by omega, by go_num, HC9⟩
  · obtain rfl : n4 = i := by omega
    go_wp2
    go_ret
    exact ⟨rfl, HC2.out.trans' HW.out⟩
end
end Go.Proofs.Ytbikekgljabalaa
