/- The law CodeSame: its walk. -/
import Derived.Test.YtbikekgljabalaaXc
import Derived.Test.YtbikekgljabalaaUf
namespace Go.Proofs.Ytbikekgljabalaa
open Go.RowKit Go.AB
set_option linter.unusedSimpArgs false
set_option linter.unusedVariables false

theorem eqB_symm (p q : PrgD) : eqB (q = p) = eqB (p = q) := by
  by_cases h : p = q
  · rw [eqB_true h, eqB_true h.symm]
  · rw [eqB_false h, eqB_false (fun e => h e.symm)]
set_option maxHeartbeats 8000000 in
set_option maxRecDepth 100000 in
theorem same_walk (p q : PrgD) (hp : SmallP p) (hq : SmallP q) {va vb : Value} (w : World) (ha : PrgV w va p) (hb : PrgV w vb q) :
    Calls Try.prog 9 #[va, vb] w fun e w' => e = .returned (.bool true) ∧ Chg [] w w' := by
  have h1 := fun u (hu : Chg [] w u) => same_calls p q hp hq u (ha.keep hu) (hb.keep hu)
  have h2 := fun u (hu : Chg [] w u) => r_same_calls p q hp hq u (ha.keep hu) (hb.keep hu)
  have h3 := fun u (hu : Chg [] w u) => same_calls q p hq hp u (hb.keep hu) (ha.keep hu)
  rw [eqB_symm] at h3
  obtain ⟨bb, hbb⟩ : ∃ x, eqB (p = q) = x := ⟨_, rfl⟩
  rw [hbb] at h1 h2 h3
  clear hbb
  obtain ⟨a0, a1, a2, a3, a4, k0, k1, k2, k3, k4, rfl⟩ := prgV_shape ha
  obtain ⟨d0, d1, d2, d3, d4, j0, j1, j2, j3, j4, rfl⟩ := prgV_shape hb
  have h4 := fun u (hu : Chg [] w u) => twin_calls p hp u (ha.keep hu)
  have h5 := fun u v (hu : Chg [] w u) (hv : PrgV u v p) => same_self p hp u (ha.keep hu) hv
  obtain ⟨n0, hn0⟩ : ∃ n, p.vars.length = n := ⟨_, rfl⟩
  obtain ⟨n1, hn1⟩ : ∃ n, p.vols.length = n := ⟨_, rfl⟩
  obtain ⟨n2, hn2⟩ : ∃ n, p.locks.length = n := ⟨_, rfl⟩
  obtain ⟨n3, hn3⟩ : ∃ n, p.bars.length = n := ⟨_, rfl⟩
  obtain ⟨n4, hn4⟩ : ∃ n, p.thrs.length = n := ⟨_, rfl⟩
  obtain ⟨m0, hm0⟩ : ∃ n, q.vars.length = n := ⟨_, rfl⟩
  obtain ⟨m1, hm1⟩ : ∃ n, q.vols.length = n := ⟨_, rfl⟩
  obtain ⟨m2, hm2⟩ : ∃ n, q.locks.length = n := ⟨_, rfl⟩
  obtain ⟨m3, hm3⟩ : ∃ n, q.bars.length = n := ⟨_, rfl⟩
  obtain ⟨m4, hm4⟩ : ∃ n, q.thrs.length = n := ⟨_, rfl⟩
  have hv6 : ∀ (ts : List ThrG) (g0 g1 g2 g3 g4 c0 c1 c2 c3 c4 : Nat) (u u' : World), ts.map ThrG.t = p.thrs → Tw u u' ⟨p.vars, p.vols, p.locks, p.bars, ts, g0, g1, g2, g3, g4, c0, c1, c2, c3, c4⟩ → PrgV u' (.agg #[.slice (some ⟨g0, 0, none⟩) p.vars.length c0, .slice (some ⟨g1, 0, none⟩) p.vols.length c1, .slice (some ⟨g2, 0, none⟩) p.locks.length c2, .slice (some ⟨g3, 0, none⟩) p.bars.length c3, .slice (some ⟨g4, 0, none⟩) p.thrs.length c4]) p := by
    intro ts g0 g1 g2 g3 g4 c0 c1 c2 c3 c4 u u' ht htw
    have h := htw.prgV
    unfold TwD.prg TwD.val at h
    simp only at h
    have hl : ts.length = p.thrs.length := by rw [← ht, List.length_map]
    rw [hl, ht] at h
    exact h
  rw [hn0, hn1, hn2, hn3, hn4] at h1 h2 h3 h4 h5 hv6 ⊢
  rw [hm0, hm1, hm2, hm3, hm4] at h1 h2 h3 ⊢
  have H1 := hid h1
  have H2 := hid h2
  have H3 := hid h3
  have H4 := hid h4
  have H5 := hid h5
  have HV6 := hid hv6
  obtain ⟨o1, ho1⟩ : ∃ o : Obj, o = .cells #[.slice a0 n0 k0, .slice a1 n1 k1, .slice a2 n2 k2, .slice a3 n3 k3, .slice a4 n4 k4] 28 := ⟨_, rfl⟩
  obtain ⟨o2, ho2⟩ : ∃ o : Obj, o = .cells #[.slice d0 m0 j0, .slice d1 m1 j1, .slice d2 m2 j2, .slice d3 m3 j3, .slice d4 m4 j4] 28 := ⟨_, rfl⟩
  have hca := ((Chg.refl [] w).alloc o1).alloc o2
  have hx1 : ((w.alloc o1).alloc o2).heap[w.heap.size]? = some o1 := blk_alloc_old (heap_alloc_new w o1) o2
  have hx2 : ((w.alloc o1).alloc o2).heap[w.heap.size + 1]? = some o2 := by have := heap_alloc_new (w.alloc o1) o2; rwa [World.size_alloc] at this
  rw [ho1, ho2] at hca hx1 hx2
  have KP : Hid (∀ u, Chg [] ((w.alloc (.cells #[.slice a0 n0 k0, .slice a1 n1 k1, .slice a2 n2 k2, .slice a3 n3 k3, .slice a4 n4 k4] 28)).alloc (.cells #[.slice d0 m0 j0, .slice d1 m1 j1, .slice d2 m2 j2, .slice d3 m3 j3, .slice d4 m4 j4] 28)) u →
      u.cell? ⟨w.heap.size, 0, none⟩ = some (.slice a0 n0 k0) ∧ u.cell? ⟨w.heap.size, 1, none⟩ = some (.slice a1 n1 k1) ∧ u.cell? ⟨w.heap.size, 2, none⟩ = some (.slice a2 n2 k2) ∧ u.cell? ⟨w.heap.size, 3, none⟩ = some (.slice a3 n3 k3) ∧ u.cell? ⟨w.heap.size, 4, none⟩ = some (.slice a4 n4 k4) ∧
      u.cell? ⟨w.heap.size + 1, 0, none⟩ = some (.slice d0 m0 j0) ∧ u.cell? ⟨w.heap.size + 1, 1, none⟩ = some (.slice d1 m1 j1) ∧ u.cell? ⟨w.heap.size + 1, 2, none⟩ = some (.slice d2 m2 j2) ∧ u.cell? ⟨w.heap.size + 1, 3, none⟩ = some (.slice d3 m3 j3) ∧ u.cell? ⟨w.heap.size + 1, 4, none⟩ = some (.slice d4 m4 j4)) := hid fun u hu => by
    have g1 := hu.heap hx1 (by simp)
    have g2 := hu.heap hx2 (by simp)
    exact ⟨(blk_cell g1 0).trans rfl, (blk_cell g1 1).trans rfl, (blk_cell g1 2).trans rfl, (blk_cell g1 3).trans rfl, (blk_cell g1 4).trans rfl, (blk_cell g2 0).trans rfl, (blk_cell g2 1).trans rfl, (blk_cell g2 2).trans rfl, (blk_cell g2 3).trans rfl, (blk_cell g2 4).trans rfl⟩
  have HCA := hid hca
  clear h1 h2 h3 h4 h5 hv6 hx1 hx2 hca ho1 ho2 o1 o2 hn0 hn1 hn2 hn3 hn4 hm0 hm1 hm2 hm3 hm4 ha hb
  go_enter Try.func9, Try.ntmps9
  go_wp2_with fail
  obtain ⟨wa, hwa⟩ : ∃ x : World, (w.alloc (.cells #[.slice a0 n0 k0, .slice a1 n1 k1, .slice a2 n2 k2, .slice a3 n3 k3, .slice a4 n4 k4] 28)).alloc (.cells #[.slice d0 m0 j0, .slice d1 m1 j1, .slice d2 m2 j2, .slice d3 m3 j3, .slice d4 m4 j4] 28) = x := ⟨_, rfl⟩
  rw [hwa] at KP HCA ⊢
  clear hwa
  have hc0 : Chg [] wa wa.drew := (Chg.refl [] wa).drew
  have bbt : (bb == bb) = true := by simp
  go_region_held3 (fun w' => w'.cell? ⟨w.heap.size, 0, none⟩ = some (.slice a0 n0 k0) ∧ w'.cell? ⟨w.heap.size, 1, none⟩ = some (.slice a1 n1 k1) ∧ w'.cell? ⟨w.heap.size, 2, none⟩ = some (.slice a2 n2 k2) ∧ w'.cell? ⟨w.heap.size, 3, none⟩ = some (.slice a3 n3 k3) ∧ w'.cell? ⟨w.heap.size, 4, none⟩ = some (.slice a4 n4 k4) ∧
      w'.cell? ⟨w.heap.size + 1, 0, none⟩ = some (.slice d0 m0 j0) ∧ w'.cell? ⟨w.heap.size + 1, 1, none⟩ = some (.slice d1 m1 j1) ∧ w'.cell? ⟨w.heap.size + 1, 2, none⟩ = some (.slice d2 m2 j2) ∧ w'.cell? ⟨w.heap.size + 1, 3, none⟩ = some (.slice d3 m3 j3) ∧ w'.cell? ⟨w.heap.size + 1, 4, none⟩ = some (.slice d4 m4 j4))
    (first | exact KP.out _ hc7 | exact KP.out _ hc6 | exact KP.out _ hc5 | exact KP.out _ hc4 | exact KP.out _ hc3 | exact KP.out _ hc2 | exact KP.out _ hc1 | exact KP.out _ hc0)
    (first
    | (go_at_call 24; (with_reducible refine (H1.out _ (HCA.out.trans' hc0)).mono ?_); rintro e w1 ⟨rfl, hd1⟩; have hc1 := hc0.trans' hd1)
    | (go_at_call 21; (with_reducible refine (H2.out _ (HCA.out.trans' hc1)).mono ?_); rintro e w2 ⟨rfl, hd2⟩; have hc2 := hc1.trans' hd2)
    | (go_at_call 24; (with_reducible refine (H3.out _ (HCA.out.trans' hc2)).mono ?_); rintro e w3 ⟨rfl, hd3⟩; have hc3 := hc2.trans' hd3)
    | (go_at_call 21; (with_reducible refine (H2.out _ (HCA.out.trans' hc3)).mono ?_); rintro e w4 ⟨rfl, hd4⟩; have hc4 := hc3.trans' hd4)
    | (go_at_call 11; (with_reducible refine (H4.out _ (HCA.out.trans' hc4)).mono ?_); rintro e w5 ⟨ts, g0, g1, g2, g3, g4, c0, c1, c2, c3, c4, rfl, hts, hT5⟩; have hc5 := hc4.trans' hT5.out.2; have HP5 := hid (HV6.out _ _ _ _ _ _ _ _ _ _ _ _ _ hts hT5.out.1); clear hts)
    | (go_at_call 24; (with_reducible refine (H5.out _ _ (HCA.out.trans' hc5) HP5.out).mono ?_); rintro e w6 ⟨rfl, hd6⟩; have hc6 := hc5.trans' hd6)
    | (go_at_call 16; refine (known_calls _).mono ?_; rintro e w7 ⟨rfl, hd7⟩; have hc7 := hc6.trans' hd7))
  go_wp2
  go_ret
  exact ⟨rfl, HCA.out.trans' hc7⟩
end Go.Proofs.Ytbikekgljabalaa
