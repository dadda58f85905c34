/- The law CodeEncodes: its walk. -/
import Derived.Test.YtbikekgljabalaaZc
import Derived.Test.YtbikekgljabalaaZd
import Derived.Test.YtbikekgljabalaaMk
import Derived.Deep.DeepCutAuto
namespace Go.Proofs.Ytbikekgljabalaa
open Go.RowKit Go.AB
set_option linter.unusedVariables false
set_option linter.unusedSimpArgs false
set_option linter.unusedSectionVars false

theorem row_pos {w : World} {e k n cap : Nat} {ao : Option Addr} {r : Option Nat} {xs : List Value} (h : Row w e k (.slice ao n cap) r n xs) (hn : 0 < n) : ∃ g, ao = some ⟨g, 0, none⟩ ∧ r = some g := by
  rcases h.form with ⟨_, h0, _⟩ | ⟨g, cap', cur, hv, hr, _⟩
  · omega
  · simp only [Value.slice.injEq, true_and] at hv
    exact ⟨g, hv.1, hr⟩
theorem tkm_at (f : UInt8 → UInt8) {i : Nat} {L : List UInt8} (h : i < L.length) : ((tk f i L).map B).getD i undef = B L[i] := by
  rw [tk_at f h]
  have hl : (((L.take i).map f).map B).length = i := by rw [List.length_map, List.length_map, List.length_take]; omega
  simp only [List.getD, List.map_append, List.map_cons]
  rw [List.getElem?_append_right (by omega), hl, Nat.sub_self]
  rfl
theorem tkm_set (f : UInt8 → UInt8) {i : Nat} {L : List UInt8} (h : i < L.length) : ((tk f i L).map B).set i (B (f L[i])) = (tk f (i + 1) L).map B := by
  rw [tk_at f h, tk_succ f h]
  have hl : (((L.take i).map f).map B).length = i := by rw [List.length_map, List.length_map, List.length_take]; omega
  simp only [List.map_append, List.map_cons]
  rw [List.set_append_right _ _ (by omega), hl, Nat.sub_self]
  rfl
def k11 : UInt8 → UInt8 := fun _ => 0x11
def k22 : UInt8 → UInt8 := fun _ => 0x22
/-- twin, its answer as a whole. -/
theorem twin_all (p : PrgD) (hs : SmallP p) {v : Value} (w : World) (hv : PrgV w v p) :
    Calls Try.prog 11 #[v] w fun e w' => ∃ q : TwD, e = .returned q.val ∧ q.prg = p ∧ Hid (Tw w w' q ∧ Chg [] w w') := by
  refine (twin_calls p hs w hv).mono fun e w' h => ?_
  obtain ⟨ts, g0, g1, g2, g3, g4, c0, c1, c2, c3, c4, he, ht, hh⟩ := h
  refine ⟨⟨p.vars, p.vols, p.locks, p.bars, ts, g0, g1, g2, g3, g4, c0, c1, c2, c3, c4⟩, ?_, ?_, hh⟩
  · rw [he]
    unfold TwD.val
    have hl : ts.length = p.thrs.length := by rw [← ht, List.length_map]
    rw [hl]
  · unfold TwD.prg
    simp only [ht]
theorem tI_I64 (x : Int) : I64 (tI x) := by
  unfold tI bits
  have h : ∀ y : Int, -9223372036854775808 ≤ IntKind.i64.wrap y ∧ IntKind.i64.wrap y ≤ 9223372036854775807 := fun y => by rw [IntKind.wrap_i64]; omega
  simp only
  unfold I64
  first | exact h _ | (have h2 := h; constructor <;> first | exact (h _).1 | exact (h _).2 | (have := (h2 _).2; omega))
theorem wf_turn {p : PrgD} (h : Wf64 p) : Wf64 (turnP p) := by
  constructor
  · intro x hx
    obtain ⟨y, hy, rfl⟩ := List.mem_map.1 hx
    exact tI_I64 _
  · exact h.vols
  · exact h.bars
  · intro t ht x hx
    obtain ⟨y, hy, rfl⟩ := List.mem_map.1 ht
    obtain ⟨z, hz, rfl⟩ := List.mem_map.1 hx
    exact h.thrs y hy z hz
theorem turnQ_val (q : TwD) : (turnQ q).val = q.val := by
  simp [turnQ, TwD.val]
theorem turn_all (q : TwD) (hs : SmallP q.prg) {w0 w2 w : World} (h : Tw w0 w2 q) (hc : Chg [] w0 w2) (o : Obj) (hw : Chg [] (w2.alloc o) w) :
    Calls Try.prog 15 #[q.val] w fun e w' => e = .returned (.tuple #[]) ∧ Hid (Tw w0 w' (turnQ q) ∧ w'.heap[w2.heap.size]? = some o ∧ Chg [] w0 w') := by
  have h1 := (((hp_of_ents h hc).box o).same hw).perm (List.perm_append_singleton (.box w2.heap.size o) ((entsQ q).map entIt)).symm
  refine (turn_calls [.box w2.heap.size o] q hs h1).mono fun e w' h => ⟨h.1, hid ⟨ents_of_hp (h.2.out.sub (List.sublist_append_left _ _)), ?_, h.2.out.chg⟩⟩
  exact h.2.out.ok (.box w2.heap.size o) (by simp)
theorem rep_at {n i : Nat} (c d : UInt8) (h : i < n) : ((List.replicate n c ++ List.replicate 20 d).map B).getD i undef = B c := by
  simp only [List.map_append, List.map_replicate, List.getD]
  rw [List.getElem?_append_left (by rw [List.length_replicate]; exact h), List.getElem?_replicate, if_pos h]
  rfl
theorem rep_at2 {n i : Nat} (c d : UInt8) (h : n ≤ i) (h2 : i < n + 20) : ((List.replicate n c ++ List.replicate 20 d).map B).getD i undef = B d := by
  simp only [List.map_append, List.map_replicate, List.getD]
  rw [List.getElem?_append_right (by rw [List.length_replicate]; exact h), List.length_replicate, List.getElem?_replicate, if_pos (by omega)]
  rfl
theorem rep_at3 {n i : Nat} (c : UInt8) (h : i < n) : ((List.replicate n c).map B).getD i undef = B c := by
  simp only [List.map_replicate, List.getD]
  rw [List.getElem?_replicate, if_pos h]
  rfl
section
variable {w : World}
set_option maxHeartbeats 8000000 in
set_option maxRecDepth 100000 in
theorem encodes_walk (p : PrgD) (hs : SmallP p) (hw64 : Wf64 p) (hs2 : SmallP (turnP p)) (hw2 : Wf64 (turnP p)) {v : Value} (w : World) (hv : PrgV w v p) :
    Calls Try.prog 4 #[v] w fun e w' => e = .returned (.bool true) ∧ Chg [] w w' := by
  have H1 := hid (fun u (hu : Chg [] w u) => q_enc_calls p hs hw64 u (hv.keep hu))
  have H2 := hid (fun u (hu : Chg [] w u) => twin_all p hs u (hv.keep hu))
  have HV := hid (fun u (hu : Chg [] w u) => hv.keep hu)
  obtain ⟨a0, a1, a2, a3, a4, k0, k1, k2, k3, k4, rfl⟩ := prgV_shape hv
  obtain ⟨n0, hn0⟩ : ∃ n, p.vars.length = n := ⟨_, rfl⟩
  obtain ⟨n1, hn1⟩ : ∃ n, p.vols.length = n := ⟨_, rfl⟩
  obtain ⟨n2, hn2⟩ : ∃ n, p.locks.length = n := ⟨_, rfl⟩
  obtain ⟨n3, hn3⟩ : ∃ n, p.bars.length = n := ⟨_, rfl⟩
  obtain ⟨n4, hn4⟩ : ∃ n, p.thrs.length = n := ⟨_, rfl⟩
  rw [hn0, hn1, hn2, hn3, hn4] at H1 H2 HV ⊢
  have hll := encL_len p hw64
  have hct := encC_test p
  unfold EncP at H1
  obtain ⟨L, hL⟩ : ∃ L, encL p = L := ⟨_, rfl⟩
  obtain ⟨ce, hce⟩ : ∃ c, encC p = c := ⟨_, rfl⟩
  rw [hL, hce] at H1
  rw [hL] at hll
  rw [hce] at hct
  obtain ⟨N, hN⟩ : ∃ N, L.length = N := ⟨_, rfl⟩
  rw [hN] at H1 hll
  have HL := hid hL
  have HCE := hid hce
  have HNL := hid hN
  have HCT := hid hct
  have hca := (Chg.refl [] w).alloc (.cells #[.slice a0 n0 k0, .slice a1 n1 k1, .slice a2 n2 k2, .slice a3 n3 k3, .slice a4 n4 k4] 28)
  have HBX := hid (heap_alloc_new w (.cells #[.slice a0 n0 k0, .slice a1 n1 k1, .slice a2 n2 k2, .slice a3 n3 k3, .slice a4 n4 k4] 28))
  clear hL hce hN hn0 hn1 hn2 hn3 hn4 hv hct
  go_enter Try.func4, Try.ntmps4
  go_upto_region 2 with (go_at_call 10; (with_reducible refine (H1.out _ hca).mono ?_); rintro e w1 ⟨aw, nw, cw, rw', rfl, rfl, hrw, hfw, hc1⟩)
  have hb1 := hc1.heap HBX.out (by simp)
  have y0 := (blk_cell hb1 0).trans (rfl : _ = some (Value.slice a0 n0 k0))
  have y1 := (blk_cell hb1 1).trans (rfl : _ = some (Value.slice a1 n1 k1))
  have y2 := (blk_cell hb1 2).trans (rfl : _ = some (Value.slice a2 n2 k2))
  have y3 := (blk_cell hb1 3).trans (rfl : _ = some (Value.slice a3 n3 k3))
  have y4 := (blk_cell hb1 4).trans (rfl : _ = some (Value.slice a4 n4 k4))
  have hC1 := hca.trans' hc1
  have HRW := hid hrw
  have HB1 := hid hb1
  clear hb1 hrw
  go_upto_region 3 with (go_at_call 11; (with_reducible refine (H2.out _ hC1).mono ?_); rintro e w2 ⟨q, rfl, hqp, hT⟩; obtain ⟨vars, vols, locks, bars, ts, g0, g1, g2, g3, g4, c0, c1, c2, c3, c4⟩ := q; unfold TwD.val; simp only)
  have hTw := hT.out.1
  have hc2 := hT.out.2
  have hqv0 := hTw.prgV
  rw [hqp] at hqv0
  unfold TwD.val at hqv0
  simp only at hqv0
  have hlf := fun u (hu : Chg [] w2 u) (hvv : PrgV u (.agg #[.slice a0 n0 k0, .slice a1 n1 k1, .slice a2 n2 k2, .slice a3 n3 k3, .slice a4 n4 k4]) p) => left_calls (w0 := w1) ⟨vars, vols, locks, bars, ts, g0, g1, g2, g3, g4, c0, c1, c2, c3, c4⟩ p hqp hs (hTw.keep hu) hvv
  unfold TwD.val at hlf
  simp only at hlf
  have htn := fun o u (hu : Chg [] (w2.alloc o) u) => turn_all ⟨vars, vols, locks, bars, ts, g0, g1, g2, g3, g4, c0, c1, c2, c3, c4⟩ (by rw [hqp]; exact hs) hTw hc2 o hu
  have htv : (turnQ ⟨vars, vols, locks, bars, ts, g0, g1, g2, g3, g4, c0, c1, c2, c3, c4⟩).val = .agg #[.slice (some ⟨g0, 0, none⟩) vars.length c0, .slice (some ⟨g1, 0, none⟩) vols.length c1, .slice (some ⟨g2, 0, none⟩) locks.length c2, .slice (some ⟨g3, 0, none⟩) bars.length c3, .slice (some ⟨g4, 0, none⟩) ts.length c4] := turnQ_val ⟨vars, vols, locks, bars, ts, g0, g1, g2, g3, g4, c0, c1, c2, c3, c4⟩
  have htp := turnQ_prg ⟨vars, vols, locks, bars, ts, g0, g1, g2, g3, g4, c0, c1, c2, c3, c4⟩
  rw [hqp] at htp
  unfold TwD.val at htn
  simp only at htn
  obtain ⟨m0, hm0⟩ : ∃ n, vars.length = n := ⟨_, rfl⟩
  obtain ⟨m1, hm1⟩ : ∃ n, vols.length = n := ⟨_, rfl⟩
  obtain ⟨m2, hm2⟩ : ∃ n, locks.length = n := ⟨_, rfl⟩
  obtain ⟨m3, hm3⟩ : ∃ n, bars.length = n := ⟨_, rfl⟩
  obtain ⟨m4, hm4⟩ : ∃ n, ts.length = n := ⟨_, rfl⟩
  rw [hm0, hm1, hm2, hm3, hm4] at hqv0 hlf htn htv
  (try rw [hm0, hm1, hm2, hm3, hm4])
  have HLF := hid hlf
  have HTN := hid (htn (.cells #[.slice (some ⟨g0, 0, none⟩) m0 c0, .slice (some ⟨g1, 0, none⟩) m1 c1, .slice (some ⟨g2, 0, none⟩) m2 c2, .slice (some ⟨g3, 0, none⟩) m3 c3, .slice (some ⟨g4, 0, none⟩) m4 c4] 28))
  have HTQ := hid (fun u (hu : Tw w1 u (turnQ ⟨vars, vols, locks, bars, ts, g0, g1, g2, g3, g4, c0, c1, c2, c3, c4⟩)) => (by have h := hu.prgV; rw [htp] at h; exact h : PrgV u (turnQ ⟨vars, vols, locks, bars, ts, g0, g1, g2, g3, g4, c0, c1, c2, c3, c4⟩).val (turnP p)))
  rw [htv] at HTQ
  have HQV := hid (fun u (hu : Chg [] w2 u) => hqv0.keep hu)
  have HPL := hid (fun u (hu : Chg [] w2 u) => plain_calls p hs u (hqv0.keep hu))
  have hen := fun u (hu : Chg [] w2 u) => enc_calls p hs hw64 u (hqv0.keep hu)
  unfold EncP at hen
  rw [HL.out, HCE.out, HNL.out] at hen
  have HEN := hid hen
  obtain ⟨g, hg⟩ : ∃ g, prgB p = g := ⟨_, rfl⟩
  have hct : (ce == 0) = g := by rw [HCT.out, hg]
  have hgg : (g != g) = false := by simp
  have hcc : (ce != ce) = false := by simp
  rw [hg] at HPL
  have hbq := heap_alloc_new w2 (.cells #[.slice (some ⟨g0, 0, none⟩) m0 c0, .slice (some ⟨g1, 0, none⟩) m1 c1, .slice (some ⟨g2, 0, none⟩) m2 c2, .slice (some ⟨g3, 0, none⟩) m3 c3, .slice (some ⟨g4, 0, none⟩) m4 c4] 28)
  have hcq := (Chg.refl [] w2).alloc (.cells #[.slice (some ⟨g0, 0, none⟩) m0 c0, .slice (some ⟨g1, 0, none⟩) m1 c1, .slice (some ⟨g2, 0, none⟩) m2 c2, .slice (some ⟨g3, 0, none⟩) m3 c3, .slice (some ⟨g4, 0, none⟩) m4 c4] 28)
  go_upto_region 3 with fail
  obtain ⟨qb, hqb⟩ : ∃ x, w2.heap.size = x := ⟨_, rfl⟩
  rw [hqb] at hbq
  (try rw [hqb])
  obtain ⟨wT, hwT⟩ : ∃ x : World, w2.alloc (.cells #[.slice (some ⟨g0, 0, none⟩) m0 c0, .slice (some ⟨g1, 0, none⟩) m1 c1, .slice (some ⟨g2, 0, none⟩) m2 c2, .slice (some ⟨g3, 0, none⟩) m3 c3, .slice (some ⟨g4, 0, none⟩) m4 c4] 28) = x := ⟨_, rfl⟩
  rw [hwT] at hbq hcq
  (try rw [hwT])
  have z0 := (blk_cell hbq 0).trans (rfl : _ = some (Value.slice (some ⟨g0, 0, none⟩) m0 c0))
  have z1 := (blk_cell hbq 1).trans (rfl : _ = some (Value.slice (some ⟨g1, 0, none⟩) m1 c1))
  have z2 := (blk_cell hbq 2).trans (rfl : _ = some (Value.slice (some ⟨g2, 0, none⟩) m2 c2))
  have z3 := (blk_cell hbq 3).trans (rfl : _ = some (Value.slice (some ⟨g3, 0, none⟩) m3 c3))
  have z4 := (blk_cell hbq 4).trans (rfl : _ = some (Value.slice (some ⟨g4, 0, none⟩) m4 c4))
  have HBQ := hid hbq
  have HCQ := hid hcq
  have HC2 := hid hc2
  have HM := hid (And.intro hm0 (And.intro hm1 (And.intro hm2 (And.intro hm3 hm4))))
  have HG := hid hg
  rw [hqb, hwT] at HTN
  clear hqb hwT hbq hm0 hm1 hm2 hm3 hm4 hlf htn htv htp hqv0 hen hg y0 y1 y2 y3 y4 hT
  go_upto_region 5 with (go_at_call 12; (with_reducible refine (HPL.out _ hcq).mono ?_); rintro e w3 ⟨rfl, hc3⟩)
  clear z0 z1 z2 z3 z4
  have hz := hc3.heap HBQ.out (by simp)
  have z0 := (blk_cell hz 0).trans (rfl : _ = some (Value.slice (some ⟨g0, 0, none⟩) m0 c0))
  have z1 := (blk_cell hz 1).trans (rfl : _ = some (Value.slice (some ⟨g1, 0, none⟩) m1 c1))
  have z2 := (blk_cell hz 2).trans (rfl : _ = some (Value.slice (some ⟨g2, 0, none⟩) m2 c2))
  have z3 := (blk_cell hz 3).trans (rfl : _ = some (Value.slice (some ⟨g3, 0, none⟩) m3 c3))
  have z4 := (blk_cell hz 4).trans (rfl : _ = some (Value.slice (some ⟨g4, 0, none⟩) m4 c4))
  have hq3 := hcq.trans' hc3
  go_upto_region 6 with (go_at_call 13; (with_reducible refine (HEN.out _ hq3).mono ?_); rintro e w4 ⟨aa, na, ca, ra, rfl, hna, hra, hfa, hc4⟩; obtain rfl : nw = na := hna.symm)
  clear z0 z1 z2 z3 z4 hz
  have hz := (hc3.trans' hc4).heap HBQ.out (by simp)
  have z0 := (blk_cell hz 0).trans (rfl : _ = some (Value.slice (some ⟨g0, 0, none⟩) m0 c0))
  have z1 := (blk_cell hz 1).trans (rfl : _ = some (Value.slice (some ⟨g1, 0, none⟩) m1 c1))
  have z2 := (blk_cell hz 2).trans (rfl : _ = some (Value.slice (some ⟨g2, 0, none⟩) m2 c2))
  have z3 := (blk_cell hz 3).trans (rfl : _ = some (Value.slice (some ⟨g3, 0, none⟩) m3 c3))
  have z4 := (blk_cell hz 4).trans (rfl : _ = some (Value.slice (some ⟨g4, 0, none⟩) m4 c4))
  have hq4 := hq3.trans' hc4
  go_upto_region 7 with (go_at_call 13; (with_reducible refine (HEN.out _ hq4).mono ?_); rintro e w5 ⟨ab, nb', cb, rb, rfl, hnb, hrb, hfb, hc5⟩; obtain rfl : nw = nb' := hnb.symm)
  clear z0 z1 z2 z3 z4 hz
  have hz := (hc3.trans' (hc4.trans' hc5)).heap HBQ.out (by simp)
  have hp5 := ((hc2.trans' hq4).trans' hc5).heap HB1.out (by simp)
  have z0 := (blk_cell hz 0).trans (rfl : _ = some (Value.slice (some ⟨g0, 0, none⟩) m0 c0))
  have y0 := (blk_cell hp5 0).trans (rfl : _ = some (Value.slice a0 n0 k0))
  have z1 := (blk_cell hz 1).trans (rfl : _ = some (Value.slice (some ⟨g1, 0, none⟩) m1 c1))
  have y1 := (blk_cell hp5 1).trans (rfl : _ = some (Value.slice a1 n1 k1))
  have z2 := (blk_cell hz 2).trans (rfl : _ = some (Value.slice (some ⟨g2, 0, none⟩) m2 c2))
  have y2 := (blk_cell hp5 2).trans (rfl : _ = some (Value.slice a2 n2 k2))
  have z3 := (blk_cell hz 3).trans (rfl : _ = some (Value.slice (some ⟨g3, 0, none⟩) m3 c3))
  have y3 := (blk_cell hp5 3).trans (rfl : _ = some (Value.slice a3 n3 k3))
  have z4 := (blk_cell hz 4).trans (rfl : _ = some (Value.slice (some ⟨g4, 0, none⟩) m4 c4))
  have y4 := (blk_cell hp5 4).trans (rfl : _ = some (Value.slice a4 n4 k4))
  have hcw := run_conv_view Try.underlying29 Try.underlying5 Try.underlying9 (View.keep HRW.out.view ((hc2.trans' hq4).trans' hc5) (by simp)) w5 rfl
  have hcva := run_conv_view Try.underlying29 Try.underlying5 Try.underlying9 (hra.keep hc5 (by simp)).view w5 rfl
  have hcvb := run_conv_view Try.underlying29 Try.underlying5 Try.underlying9 hrb.view w5 rfl
  have hq5 := hq4.trans' hc5
  have hpv := HV.out w5 (hC1.trans' (hc2.trans' hq5))
  have HLX := hid (HLF.out w5 hq5 hpv)
  have HH := hid ((((Hp.start (S0 := []) w3 (by simp)).fresh hc4 hra hfa).fresh hc5 hrb hfb))
  have HQ5 := hid hq5
  have HC1 := hid hC1
  have HC3 := hid hc3
  have HQ3 := hid hq3
  clear hpv hz hp5 hra hrb hfa hfb hc3 hc4 hc5 hq3 hq4 hq5 hcq hC1 hca hc1 hTw HEN HPL HLF HRW hfw hc2 H1 H2
  go_upto_region 9 with (go_at_call 14; (with_reducible refine (HLX.out).mono ?_); rintro e w6 ⟨rfl, hc6⟩)
  have HH6 : Hid (Hp [] w3 w6 [.row 5 1 (.slice ab nw cb) rb nw ((tk k22 0 L).map B), .row 5 1 (.slice aa nw ca) ra nw ((tk k11 0 L).map B)]) := hid (by rw [tk_zero, tk_zero]; exact HH.out.same hc6)
  have HC6 := hid (HQ5.out.trans' hc6)
  have HBQ6 := hid ((HQ5.out.trans' hc6))
  clear y0 z0 y1 z1 y2 z2 y3 z3 y4 z4 hcw hcva hcvb HH HLX hc6 HQ5
  go_upto_region 9 with fail
  go_wp2_with fail
  go_loopg [10] nw (fun gk vi wr => ∃ i : Nat, i + gk = nw ∧ vi = .int .i64 i ∧ Hid (Hp [] w3 wr [.row 5 1 (.slice ab nw cb) rb nw ((tk k22 i L).map B), .row 5 1 (.slice aa nw ca) ra nw ((tk k11 i L).map B)]))
  case atStart => exact ⟨0, by omega, rfl, HH6⟩
  case round =>
  clear HH6
  obtain ⟨i, hi, rfl, HK⟩ := hrel
  by_cases hlt : i < nw
  · have zl : (i : Int) < (nw : Int) := by omega
    have z0 : (0 : Int) ≤ (i : Int) := by omega
    have hlv : i < L.length := by rw [HNL.out]; exact hlt
    obtain ⟨gb, rfl, rfl⟩ := row_pos (HK.out.rowAt (i := 0) rfl) (by omega)
    obtain ⟨ga, rfl, rfl⟩ := row_pos (HK.out.rowAt (i := 1) rfl) (by omega)
    have xa := (Row.cellk (HK.out.rowAt (i := 1) rfl)).1 i (by omega)
    have fa := (Row.cellk (HK.out.rowAt (i := 1) rfl)).2.1 i
    have xb := (Row.cellk (HK.out.rowAt (i := 0) rfl)).1 i (by omega)
    have fb := (Row.cellk (HK.out.rowAt (i := 0) rfl)).2.1 i
    rw [tkm_at _ hlv] at xa xb
    have hsa : ((tk k11 i L).map B).set i (.int .u8 17) = (tk k11 (i + 1) L).map B := tkm_set k11 hlv
    have hsb : ((tk k22 i L).map B).set i (.int .u8 34) = (tk k22 (i + 1) L).map B := tkm_set k22 hlv
    obtain ⟨bv, hbv⟩ : ∃ b, L[i] = b := ⟨_, rfl⟩
    rw [hbv] at xa xb
    clear hbv
    have hab : ga ≠ gb := fun e => HK.out.ne (i := 0) (j := 1) rfl rfl (by decide) rfl (by rw [e]; rfl)
    have hba := Ne.symm hab
    have hk2 := (HK.out.puti 1 rfl i (.int .u8 17) rfl).puti 0 rfl i (.int .u8 34) rfl
    have HK2 : Hid (Hp [] w3 ((wr.setCell ⟨ga, i, none⟩ (.int .u8 17)).setCell ⟨gb, i, none⟩ (.int .u8 34)) [.row 5 1 (.slice (some ⟨gb, 0, none⟩) nw cb) (some gb) nw ((tk k22 (i + 1) L).map B), .row 5 1 (.slice (some ⟨ga, 0, none⟩) nw ca) (some ga) nw ((tk k11 (i + 1) L).map B)]) := hid (by rw [← hsa, ← hsb]; exact hk2)
    clear hk2 hsa hsb hlv HK
    go_wp2_with fail
    go_roundg (gk - 1)
    case measure => omega
    case rel => exact ⟨i + 1, by omega, by go_num, HK2⟩
  obtain rfl : nw = i := by omega
  clear hlt hi
  go_wp2_with fail
  obtain ⟨wA, hwA⟩ : ∃ x, x = wr := ⟨_, rfl⟩
  subst hwA
  obtain ⟨la, hla⟩ : ∃ l, tk k11 nw L = l := ⟨_, rfl⟩
  obtain ⟨lb, hlb⟩ : ∃ l, tk k22 nw L = l := ⟨_, rfl⟩
  rw [hla, hlb] at HK
  have hla2 : la = List.replicate nw 17 := by rw [← hla, tk_all k11 L (by rw [HNL.out]; exact Nat.le_refl _), ← HNL.out]; exact List.map_const' ..
  have hlb2 : lb = List.replicate nw 34 := by rw [← hlb, tk_all k22 L (by rw [HNL.out]; exact Nat.le_refl _), ← HNL.out]; exact List.map_const' ..
  have HLA := hid (And.intro hla2 hlb2)
  have hlla : la.length = nw := by rw [hla2, List.length_replicate]
  have hllb : lb.length = nw := by rw [hlb2, List.length_replicate]
  have HLL := hid (And.intro hlla hllb)
  have HRA := hid (HK.out.rowAt (i := 1) rfl)
  have HRB := hid (HK.out.rowAt (i := 0) rfl)
  have HAB := hid (And.intro (fun g hg => HRA.out.lt g hg) (And.intro (fun g hg => HRB.out.lt g hg) (fun g (hg : ra = some g) => fun (hg2 : rb = some g) => HK.out.ne (i := 1) (j := 0) rfl rfl (by decide) hg hg2)))
  have HVA0 := hid (HRA.out.view)
  have HVB0 := hid (HRB.out.view)
  have HWA := hid (HK.out.chg)
  clear hla hlb hla2 hlb2 hlla hllb
  go_loopg [11, 13] 20 (fun gk vx vi wr => ∃ (j NX : Nat) (ax : Option Addr) (cx : Nat) (rx : Option Nat), j + gk = 20 ∧ vi = .int .i64 j ∧ vx = .slice ax NX cx ∧ Hid (NX = nw + j) ∧ Hid (Hp [] w3 wr [.row 5 1 (.slice ab nw cb) rb nw (lb.map B), .row 5 1 (.slice ax NX cx) rx NX ((la ++ List.replicate j 51).map B)]) ∧ Hid (View wr 1 (.slice aa nw ca) nw (la.map B)) ∧ Hid (rx = ra ∨ ∀ g, rx = some g → wA.heap.size ≤ g) ∧ Hid (Chg [] w3 wr ∧ wA.heap.size ≤ wr.heap.size))
  case atStart => exact ⟨0, nw, aa, ca, ra, by omega, rfl, rfl, hid rfl, hid (by simpa using HK.out), HVA0, hid (.inl rfl), hid ⟨HWA.out, Nat.le_refl _⟩⟩
  case round =>
  clear HK HVA0
  obtain ⟨j, NX, ax, cx, rx, hj, rfl, rfl, HNX, HK, HVX, HRX, HW⟩ := hrel
  by_cases hlt : j < 20
  · have zl : (j : Int) < 20 := by omega
    have hnx := HNX.out
    have hbx : NX ≤ 16777260 := by omega
    have hrow := HK.out.rowAt (i := 1) rfl
    have HROW := hid fun o => hrow.keep ((Chg.refl [] _).alloc o) (by simp)
    clear hrow hnx
    go_wp2_with (at_builtin; refine wpList_grew rfl _ _ 29 rfl elem_u8 rfl (HROW.out _) rfl (View.one _ _ _) (by simp [Value.oneCell']) (by unfold maxLen; omega) (by omega) (fun ax2 cx2 rx2 w2 hr2 hg2 => halt (fun X hX => ?_)))
    rw [hX.out]; clear hX
    have hk2 := HK.out.grow 1 rfl ((Chg.refl [] _).alloc _) hr2 hg2.chg hg2.fresh rfl
    have hsz := HW.out.2
    have hst := grow_stepk (B0 := wA.heap.size) (o := ⟨.slice aa nw ca, ra, nw, la.map B⟩) HRA.out HAB.out.1 (by rw [World.size_alloc]; omega) (HVX.out.keep ((Chg.refl [] _).alloc _) (by simp)) hr2 hg2 HRX.out (by have := HNX.out; simp only; omega) (by
      simp only [Nat.mul_one, List.map_append, List.append_assoc]
      rw [List.take_append_of_le_length (by rw [List.length_map, HLL.out.1]; exact Nat.le_refl _), List.take_of_length_le (by rw [List.length_map, HLL.out.1]; exact Nat.le_refl _)])
    have hsz2 := hg2.chg.size
    rw [World.size_alloc] at hsz2
    have HK2 : Hid (Hp [] w3 w2 [.row 5 1 (.slice ab nw cb) rb nw (lb.map B), .row 5 1 (.slice ax2 (NX + 1) cx2) rx2 (NX + 1) ((la ++ List.replicate (j + 1) 51).map B)]) := hid (by
      rw [List.replicate_succ', ← List.append_assoc, List.map_append]
      exact hk2)
    have HS := hid hst
    have HW2 := hid (And.intro hk2.chg (show wA.heap.size ≤ w2.heap.size by omega))
    have HNX2 : Hid (NX + 1 = nw + (j + 1)) := hid (by have := HNX.out; omega)
    clear hk2 hst hsz hsz2 hr2 hg2 HROW HK HVX HRX HNX HW
    go_wp2_with fail
    go_roundg (gk - 1)
    case measure => omega
    case rel => exact ⟨j + 1, NX + 1, ax2, cx2, rx2, by omega, by go_num, rfl, HNX2, HK2, hid HS.out.1, hid HS.out.2, HW2⟩
  obtain rfl : j = 20 := by omega
  have HKX := HK
  have HVA := HVX
  have HNXX := HNX
  have HRXX := HRX
  have HW2 := HW
  have HVB1 : Hid (View wr 1 (.slice ab nw cb) nw (lb.map B)) := hid (HK.out.rowAt (i := 0) rfl).view
  clear HK HVX HNX HRX HW hlt hj HVB0
  go_wp2_with fail
  go_loopg [12, 14] 20 (fun gk vx vi wr => ∃ (j NY : Nat) (ay : Option Addr) (cy : Nat) (ry : Option Nat), j + gk = 20 ∧ vi = .int .i64 j ∧ vx = .slice ay NY cy ∧ Hid (NY = nw + j) ∧ Hid (Hp [] w3 wr [.row 5 1 (.slice ay NY cy) ry NY ((lb ++ List.replicate j 68).map B), .row 5 1 (.slice ax NX cx) rx NX ((la ++ List.replicate 20 51).map B)]) ∧ Hid (View wr 1 (.slice ab nw cb) nw (lb.map B)) ∧ Hid (ry = rb ∨ ∀ g, ry = some g → wA.heap.size ≤ g) ∧ Hid (Chg [] w3 wr ∧ wA.heap.size ≤ wr.heap.size) ∧ Hid (View wr 1 (.slice aa nw ca) nw (la.map B)))
  case atStart => exact ⟨0, nw, ab, cb, rb, by omega, rfl, rfl, hid rfl, hid (by simpa using HKX.out), HVB1, hid (.inl rfl), HW2, HVA⟩
  case round =>
  clear HKX HVB1 HVA HW2
  obtain ⟨j, NY, ay, cy, ry, hj, rfl, rfl, HNX, HK, HVX, HRX, HW, HVA⟩ := hrel
  by_cases hlt : j < 20
  · have zl : (j : Int) < 20 := by omega
    have hnx := HNX.out
    have hbx : NY ≤ 16777260 := by omega
    have hrow := HK.out.rowAt (i := 0) rfl
    have HROW := hid fun o => hrow.keep ((Chg.refl [] _).alloc o) (by simp)
    clear hrow hnx
    go_wp2_with (at_builtin; refine wpList_grew rfl _ _ 29 rfl elem_u8 rfl (HROW.out _) rfl (View.one _ _ _) (by simp [Value.oneCell']) (by unfold maxLen; omega) (by omega) (fun ax2 cx2 rx2 w2 hr2 hg2 => halt (fun X hX => ?_)))
    rw [hX.out]; clear hX
    have hk2 := HK.out.grow 0 rfl ((Chg.refl [] _).alloc _) hr2 hg2.chg hg2.fresh rfl
    have hsz := HW.out.2
    have hst := grow_stepk (B0 := wA.heap.size) (o := ⟨.slice ab nw cb, rb, nw, lb.map B⟩) HRB.out HAB.out.2.1 (by rw [World.size_alloc]; omega) (HVX.out.keep ((Chg.refl [] _).alloc _) (by simp)) hr2 hg2 HRX.out (by have := HNX.out; simp only; omega) (by
      simp only [Nat.mul_one, List.map_append, List.append_assoc]
      rw [List.take_append_of_le_length (by rw [List.length_map, HLL.out.2]; exact Nat.le_refl _), List.take_of_length_le (by rw [List.length_map, HLL.out.2]; exact Nat.le_refl _)])
    have hsz2 := hg2.chg.size
    rw [World.size_alloc] at hsz2
    have HK2 : Hid (Hp [] w3 w2 [.row 5 1 (.slice ax2 (NY + 1) cx2) rx2 (NY + 1) ((lb ++ List.replicate (j + 1) 68).map B), .row 5 1 (.slice ax NX cx) rx NX ((la ++ List.replicate 20 51).map B)]) := hid (by
      rw [List.replicate_succ', ← List.append_assoc, List.map_append]
      exact hk2)
    have HS := hid hst
    have HW2 := hid (And.intro hk2.chg (show wA.heap.size ≤ w2.heap.size by omega))
    have HVA2 := hid ((HVA.out.keep ((Chg.refl [] _).alloc _) (by simp)).keep hg2.chg (fun g hg hm => by
      have h1 : ra = some g := by rw [← HRA.out.blk]; exact hg
      have h2 : ry = some g := by simpa using hm
      rcases HRX.out with h3 | h3
      · exact HAB.out.2.2 g h1 (h3 ▸ h2)
      · have := h3 g h2
        have := HAB.out.1 g h1
        omega))
    have HNX2 : Hid (NY + 1 = nw + (j + 1)) := hid (by have := HNX.out; omega)
    clear hk2 hst hsz hsz2 hr2 hg2 HROW HK HVX HRX HNX HW HVA
    go_wp2_with fail
    go_roundg (gk - 1)
    case measure => omega
    case rel => exact ⟨j + 1, NY + 1, ax2, cx2, rx2, by omega, by go_num, rfl, HNX2, HK2, hid HS.out.1, hid HS.out.2, HW2, HVA2⟩
  obtain rfl : j = 20 := by omega
  clear hlt hj
  go_wp2_with fail
  obtain ⟨wD, hwD⟩ : ∃ x, x = wr := ⟨_, rfl⟩
  subst hwD
  have HN20 := hid HNXX.out
  have HWD := HW
  have HKD := HK
  go_loopg [15] NX (fun gk vi wr => ∃ i : Nat, i + gk = NX ∧ vi = .int .i64 i ∧ wr = wD)
  case atStart => exact ⟨0, by omega, rfl, rfl⟩
  case round =>
  obtain ⟨i, hi, rfl, rfl⟩ := hrel
  by_cases hlt : i < NX
  · have zl : (i : Int) < (NX : Int) := by omega
    have z0 : (0 : Int) ≤ (i : Int) := by omega
    have hnx := HN20.out
    have hny := HNX.out
    obtain ⟨gx, rfl, rfl⟩ := row_pos (HK.out.rowAt (i := 1) rfl) (by omega)
    obtain ⟨gy, rfl, rfl⟩ := row_pos (HK.out.rowAt (i := 0) rfl) (by omega)
    have xx := (Row.cellk (HK.out.rowAt (i := 1) rfl)).1 i (by omega)
    have xy := (Row.cellk (HK.out.rowAt (i := 0) rfl)).1 i (by omega)
    rw [HLA.out.1] at xx
    rw [HLA.out.2] at xy
    by_cases hin : i < nw
    · rw [rep_at _ _ hin] at xx xy
      replace xx : wr.cell? ⟨gx, i, none⟩ = some (.int .u8 17) := xx
      replace xy : wr.cell? ⟨gy, i, none⟩ = some (.int .u8 34) := xy
      obtain ⟨_, _, ao1, cap1, hv1, _, _, _, hc1⟩ := HVA.out
      obtain ⟨_, _, ao2, cap2, hv2, _, _, _, hc2'⟩ := HVX.out
      simp only [Value.slice.injEq, true_and] at hv1 hv2
      obtain ⟨rfl, rfl⟩ := hv1
      obtain ⟨rfl, rfl⟩ := hv2
      obtain ⟨bA, oA, rfl, hcA⟩ := hc1 (by omega)
      obtain ⟨bB, oB, rfl, hcB⟩ := hc2' (by omega)
      have xa := hcA i (by omega)
      have xb := hcB i (by omega)
      rw [HLA.out.1, rep_at3 _ hin] at xa
      rw [HLA.out.2, rep_at3 _ hin] at xb
      replace xa : wr.cell? ⟨bA, oA + i, none⟩ = some (.int .u8 17) := xa
      replace xb : wr.cell? ⟨bB, oB + i, none⟩ = some (.int .u8 34) := xb
      have ci : (i : Int) < (nw : Int) := by omega
      have ci2 : decide ((nw : Int) ≤ (i : Int)) = false := by simp; omega
      have ci3 : (i : Int) < (NY : Int) := by omega
      clear hcA hcB hc1 hc2' hnx hny
      go_wp2_with fail
      go_roundg (gk - 1)
      case measure => omega
      case rel => exact ⟨i + 1, by omega, by go_num, rfl⟩
    · rw [rep_at2 _ _ (by omega) (by omega)] at xx xy
      replace xx : wr.cell? ⟨gx, i, none⟩ = some (.int .u8 51) := xx
      replace xy : wr.cell? ⟨gy, i, none⟩ = some (.int .u8 68) := xy
      have ci : decide ((i : Int) < (nw : Int)) = false := by simp; omega
      have ci2 : (nw : Int) ≤ (i : Int) := by omega
      have ci3 : (i : Int) < (NY : Int) := by omega
      have hbn : NX ≤ 16777260 := by omega
      clear hnx hny
      go_wp2_with fail
      go_roundg (gk - 1)
      case measure => omega
      case rel => exact ⟨i + 1, by omega, by go_num, rfl⟩
  obtain rfl : NX = i := by omega
  have hTU := HC3.out.trans' HWD.out.1
  have hbD := hTU.heap HBQ.out (by simp)
  have z0 := (blk_cell hbD 0).trans (rfl : _ = some (Value.slice (some ⟨g0, 0, none⟩) m0 c0))
  have z1 := (blk_cell hbD 1).trans (rfl : _ = some (Value.slice (some ⟨g1, 0, none⟩) m1 c1))
  have z2 := (blk_cell hbD 2).trans (rfl : _ = some (Value.slice (some ⟨g2, 0, none⟩) m2 c2))
  have z3 := (blk_cell hbD 3).trans (rfl : _ = some (Value.slice (some ⟨g3, 0, none⟩) m3 c3))
  have z4 := (blk_cell hbD 4).trans (rfl : _ = some (Value.slice (some ⟨g4, 0, none⟩) m4 c4))
  have HTU := hid hTU
  clear hbD hTU hlt hi HKD HK HVA HVX HRX HNX HN20 HLA HLL HRA HRB HAB HW
  go_upto_region 30 with (go_at_call 15; (with_reducible refine (HTN.out _ HTU.out).mono ?_); rintro e w7 ⟨rfl, HT7⟩)
  clear z0 z1 z2 z3 z4
  have z0 := (blk_cell HT7.out.2.1 0).trans (rfl : _ = some (Value.slice (some ⟨g0, 0, none⟩) m0 c0))
  have z1 := (blk_cell HT7.out.2.1 1).trans (rfl : _ = some (Value.slice (some ⟨g1, 0, none⟩) m1 c1))
  have z2 := (blk_cell HT7.out.2.1 2).trans (rfl : _ = some (Value.slice (some ⟨g2, 0, none⟩) m2 c2))
  have z3 := (blk_cell HT7.out.2.1 3).trans (rfl : _ = some (Value.slice (some ⟨g3, 0, none⟩) m3 c3))
  have z4 := (blk_cell HT7.out.2.1 4).trans (rfl : _ = some (Value.slice (some ⟨g4, 0, none⟩) m4 c4))
  have hqv7 := HTQ.out w7 HT7.out.1
  have HQ7 := hid hqv7
  clear hqv7
  go_upto_region 31 with (go_at_call 11; (with_reducible refine (twin_all (turnP p) hs2 w7 HQ7.out).mono ?_); rintro e w8 ⟨q', rfl, hqp', hT'⟩; obtain ⟨vars', vols', locks', bars', ts', r0, r1, r2, r3, r4, d0, d1, d2, d3, d4⟩ := q'; unfold TwD.val; simp only)
  have hc8 := hT'.out.2
  have hv8 := hT'.out.1.prgV
  rw [hqp'] at hv8
  unfold TwD.val at hv8
  simp only at hv8
  obtain ⟨p0, hp0⟩ : ∃ n, vars'.length = n := ⟨_, rfl⟩
  obtain ⟨p1, hp1⟩ : ∃ n, vols'.length = n := ⟨_, rfl⟩
  obtain ⟨p2, hp2⟩ : ∃ n, locks'.length = n := ⟨_, rfl⟩
  obtain ⟨p3, hp3⟩ : ∃ n, bars'.length = n := ⟨_, rfl⟩
  obtain ⟨p4, hp4⟩ : ∃ n, ts'.length = n := ⟨_, rfl⟩
  rw [hp0, hp1, hp2, hp3, hp4] at hv8
  (try rw [hp0, hp1, hp2, hp3, hp4])
  clear hp0 hp1 hp2 hp3 hp4 z0 z1 z2 z3 z4
  have hcx := (Chg.refl [] w8).alloc (.cells #[.slice (some ⟨r0, 0, none⟩) p0 d0, .slice (some ⟨r1, 0, none⟩) p1 d1, .slice (some ⟨r2, 0, none⟩) p2 d2, .slice (some ⟨r3, 0, none⟩) p3 d3, .slice (some ⟨r4, 0, none⟩) p4 d4] 28)
  have hbx := heap_alloc_new w8 (.cells #[.slice (some ⟨r0, 0, none⟩) p0 d0, .slice (some ⟨r1, 0, none⟩) p1 d1, .slice (some ⟨r2, 0, none⟩) p2 d2, .slice (some ⟨r3, 0, none⟩) p3 d3, .slice (some ⟨r4, 0, none⟩) p4 d4] 28)
  have HV8 := hid (hv8.keep hcx)
  go_upto_region 31 with fail
  obtain ⟨xb, hxb⟩ : ∃ x, w8.heap.size = x := ⟨_, rfl⟩
  rw [hxb] at hbx
  (try rw [hxb])
  obtain ⟨wX, hwX⟩ : ∃ x : World, w8.alloc (.cells #[.slice (some ⟨r0, 0, none⟩) p0 d0, .slice (some ⟨r1, 0, none⟩) p1 d1, .slice (some ⟨r2, 0, none⟩) p2 d2, .slice (some ⟨r3, 0, none⟩) p3 d3, .slice (some ⟨r4, 0, none⟩) p4 d4] 28) = x := ⟨_, rfl⟩
  rw [hwX] at hcx hbx HV8
  (try rw [hwX])
  have hb7 := (hc8.trans' hcx).heap HT7.out.2.1 (by simp)
  have x0 := (blk_cell hbx 0).trans (rfl : _ = some (Value.slice (some ⟨r0, 0, none⟩) p0 d0))
  have x1 := (blk_cell hbx 1).trans (rfl : _ = some (Value.slice (some ⟨r1, 0, none⟩) p1 d1))
  have x2 := (blk_cell hbx 2).trans (rfl : _ = some (Value.slice (some ⟨r2, 0, none⟩) p2 d2))
  have x3 := (blk_cell hbx 3).trans (rfl : _ = some (Value.slice (some ⟨r3, 0, none⟩) p3 d3))
  have x4 := (blk_cell hbx 4).trans (rfl : _ = some (Value.slice (some ⟨r4, 0, none⟩) p4 d4))
  have hE1 := q_enc_calls (turnP p) hs2 hw2 wX HV8.out
  have hE2 := fun u (hu : Chg [] wX u) => enc_calls (turnP p) hs2 hw2 u ((HQ7.out.keep (hc8.trans' hcx)).keep hu)
  unfold EncP at hE1 hE2
  obtain ⟨L2, hL2⟩ : ∃ l, encL (turnP p) = l := ⟨_, rfl⟩
  obtain ⟨ce2, hce2⟩ : ∃ c, encC (turnP p) = c := ⟨_, rfl⟩
  rw [hL2, hce2] at hE1 hE2
  have HE1 := hid hE1
  have HE2 := hid hE2
  have HB7 := hid hb7
  have HC7 := hid (HT7.out.2.2.trans' (hc8.trans' hcx))
  clear hE1 hE2 hL2 hce2 hxb hwX hbx hb7 hv8 HV8 hT' hc8 hcx
  go_upto_region 32 with (go_at_call 10; (with_reducible refine (HE1.out).mono ?_); rintro e w9 ⟨a9, n9, k9, r9, rfl, rfl, hr9, hf9, hc9⟩)
  clear x0 x1 x2 x3 x4
  have hb9 := hc9.heap HB7.out (by simp)
  have z0 := (blk_cell hb9 0).trans (rfl : _ = some (Value.slice (some ⟨g0, 0, none⟩) m0 c0))
  have z1 := (blk_cell hb9 1).trans (rfl : _ = some (Value.slice (some ⟨g1, 0, none⟩) m1 c1))
  have z2 := (blk_cell hb9 2).trans (rfl : _ = some (Value.slice (some ⟨g2, 0, none⟩) m2 c2))
  have z3 := (blk_cell hb9 3).trans (rfl : _ = some (Value.slice (some ⟨g3, 0, none⟩) m3 c3))
  have z4 := (blk_cell hb9 4).trans (rfl : _ = some (Value.slice (some ⟨g4, 0, none⟩) m4 c4))
  go_upto_region 33 with (go_at_call 13; (with_reducible refine (HE2.out _ hc9).mono ?_); rintro e w10 ⟨aX, nX, kX, rX, rfl, rfl, hrX, hfX, hcX⟩)
  clear z0 z1 z2 z3 z4 hb9
  have hcv9 := run_conv_view Try.underlying29 Try.underlying5 Try.underlying9 (View.keep hr9.view hcX (by simp)) w10 rfl
  have hcvX := run_conv_view Try.underlying29 Try.underlying5 Try.underlying9 hrX.view w10 rfl
  have hee : (ce2 == ce2) = true := by simp
  have HCX := hid ((HC7.out.trans' hc9).trans' hcX)
  clear hr9 hrX hf9 hfX hc9 hcX HE1 HE2 HB7
  go_wp2_with (go_at_call 16; (with_reducible refine (known_calls _).mono ?_); rintro e w11 ⟨rfl, hc11⟩)
  go_ret
  exact ⟨rfl, (HC1.out.trans' HCX.out).trans' hc11⟩
end
end Go.Proofs.Ytbikekgljabalaa
