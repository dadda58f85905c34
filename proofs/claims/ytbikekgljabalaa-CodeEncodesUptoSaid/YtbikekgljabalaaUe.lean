/- The law CodeBack: its walk. -/
import Derived.Test.YtbikekgljabalaaUd
import Derived.Test.YtbikekgljabalaaSf
namespace Go.Proofs.Ytbikekgljabalaa
open Go.RowKit Go.AB
set_option linter.unusedSimpArgs false
set_option linter.unusedVariables false

theorem small_plain {p : PrgD} (h : prgB p = true) : SmallP p := by
  unfold prgB varsB locksB at h
  simp only [Bool.and_eq_true, decide_eq_true_eq, List.all_eq_true] at h
  obtain ⟨⟨⟨⟨⟨h1, h2⟩, h3⟩, h4⟩, h5⟩, h6, h7⟩ := h
  refine ⟨by omega, by omega, by omega, by omega, by omega, fun x hx => ?_, fun x hx => ?_, fun x hx => ?_, fun x hx => ?_, fun t ht => ?_⟩
  · have := h1.2 x hx; omega
  · have := h2.2 x hx; omega
  · have := h3.2 x hx; omega
  · have := h4.2 x hx; omega
  · have := h6 t ht
    simp only [thrB, Bool.and_eq_true, decide_eq_true_eq] at this
    omega
/-- Decode of what is a program. -/
theorem decode_some {v : Value} {L : List UInt8} {p : PrgD} (w : World) (hv : Bytes w v L) (hl : L.length ≤ 16777216) (hd : decB L = (0, some p)) :
    Calls Try.prog 18 #[v] w fun e w' => ∃ (a0 a1 a2 a3 a4 : Option Addr) (n0 n1 n2 n3 n4 k0 k1 k2 k3 k4 : Nat), e = .returned (.tuple #[.agg #[.slice a0 n0 k0, .slice a1 n1 k1, .slice a2 n2 k2, .slice a3 n3 k3, .slice a4 n4 k4], .int .i64 0]) ∧
      PrgV w' (.agg #[.slice a0 n0 k0, .slice a1 n1 k1, .slice a2 n2 k2, .slice a3 n3 k3, .slice a4 n4 k4]) p ∧ Chg [] w w' := by
  refine (decode_calls v L w hv hl).mono fun e w' h => ?_
  rw [hd] at h
  rcases h with ⟨c2, h1, _⟩ | ⟨p2, v2, h1, h2, h3, h4⟩
  · simp at h1
  · simp only [Prod.mk.injEq, Option.some.injEq, true_and] at h1
    subst h1
    obtain ⟨a0, a1, a2, a3, a4, k0, k1, k2, k3, k4, rfl⟩ := prgV_shape h3
    exact ⟨a0, a1, a2, a3, a4, _, _, _, _, _, k0, k1, k2, k3, k4, h2, h3, h4⟩
theorem decB_cases {L : List UInt8} (hl : L.length ≤ 16777216) : (∃ c, c ≠ 0 ∧ decB L = (c, none)) ∨ (∃ p, decB L = (0, some p) ∧ prgB p = true ∧ Wf64 p ∧ L = frameB 1 (bodyL p)) := by
  obtain ⟨c, o, h⟩ : ∃ c o, decB L = (c, o) := ⟨_, _, rfl⟩
  cases o with
  | none =>
    refine .inl ⟨c, ?_, h⟩
    unfold decB at h
    intro hc
    subst hc
    split at h
    · rename_i h0
      simp only [Prod.mk.injEq, and_true] at h
      exact h0 h
    · split at h
      · simp at h
      · split at h <;> simp at h
  | some p =>
    obtain ⟨h1, h2, h3, rfl⟩ := decB_back hl h
    exact .inr ⟨p, h, h1, h2, h3⟩
theorem r_same_self (p : PrgD) (hp : SmallP p) {va vb : Value} (w : World) (ha : PrgV w va p) (hb : PrgV w vb p) :
    Calls Try.prog 21 #[va, vb] w fun e w' => e = .returned (.bool true) ∧ Chg [] w w' :=
  (r_same_calls p p hp hp w ha hb).mono fun e w' h => by rw [eqB_true rfl] at h; exact h
theorem same_self (p : PrgD) (hp : SmallP p) {va vb : Value} (w : World) (ha : PrgV w va p) (hb : PrgV w vb p) :
    Calls Try.prog 24 #[va, vb] w fun e w' => e = .returned (.bool true) ∧ Chg [] w w' :=
  (same_calls p p hp hp w ha hb).mono fun e w' h => by rw [eqB_true rfl] at h; exact h
theorem decode_nil {v : Value} {L : List UInt8} {c : Nat} (w : World) (hv : Bytes w v L) (hl : L.length ≤ 16777216) (hd : decB L = (c, none)) :
    Calls Try.prog 18 #[v] w fun e w' => e = .returned (.tuple #[.agg #[.slice none 0 0, .slice none 0 0, .slice none 0 0, .slice none 0 0, .slice none 0 0], .int .i64 c]) ∧ Chg [] w w' := decode_none w hv hl hd
/-! the walks -/
set_option maxHeartbeats 4000000 in
set_option maxRecDepth 100000 in
theorem back_00 (p : PrgD) (hs : SmallP p) (hw64 : Wf64 p) (hg : prgB p = false) (c : Nat) (hc0 : c ≠ 0) (L : List UInt8) (hd : decB L = (c, none)) (hl : L.length ≤ 1048576) {v vb : Value} (w : World) (hv : PrgV w v p) (hb : Bytes w vb L) :
    Calls Try.prog 8 #[v, vb] w fun e w' => e = .returned (.bool true) ∧ Chg [] w w' := by
  obtain ⟨aob, capb, rfl⟩ : ∃ ao cap, vb = .slice ao L.length cap := by obtain ⟨_, _, ao, cap, h, _⟩ := hb; exact ⟨ao, cap, h⟩
  obtain ⟨a0, a1, a2, a3, a4, k0, k1, k2, k3, k4, rfl⟩ := prgV_shape hv
  have HE := hid fun u (hu : Chg [] w u) => encode_bad p hs hg u (hv.keep hu)
  have hp := fun u (hu : Chg [] w u) => r_plain_calls p hs u (hv.keep hu)
  rw [hg] at hp
  have HP := hid hp
  have HD := hid fun u (hu : Chg [] w u) => decode_nil u (hb.keep hu (by simp)) (by omega) hd
  have hcb : (((c : Nat) : Int) != 0) = true := by simp; omega
  have hca := (Chg.refl [] w).alloc (.cells #[.slice a0 p.vars.length k0, .slice a1 p.vols.length k1, .slice a2 p.locks.length k2, .slice a3 p.bars.length k3, .slice a4 p.thrs.length k4] 28)
  have hbx := heap_alloc_new w (.cells #[.slice a0 p.vars.length k0, .slice a1 p.vols.length k1, .slice a2 p.locks.length k2, .slice a3 p.bars.length k3, .slice a4 p.thrs.length k4] 28)
  have HBX := hid hbx
  clear hv hb hbx hp hg hd
  go_enter Try.func8, Try.ntmps8
  go_wp2_with (first
    | (go_at_call 13; (with_reducible refine (HE.out _ hca).mono ?_); rintro e w1 ⟨rfl, hc1⟩; have hC1 := hca.trans' hc1; have hb := hc1.heap HBX.out (by simp); have y0 := (blk_cell hb 0).trans rfl; have y1 := (blk_cell hb 1).trans rfl; have y2 := (blk_cell hb 2).trans rfl; have y3 := (blk_cell hb 3).trans rfl; have y4 := (blk_cell hb 4).trans rfl; clear hb)
    | (go_at_call 17; (with_reducible refine (HP.out _ hC1).mono ?_); rintro e w2 ⟨rfl, hc2⟩; have hC2 := hC1.trans' hc2)
    | (go_at_call 18; (with_reducible refine (HD.out _ hC2).mono ?_); rintro e w6 ⟨rfl, hc6⟩; have hC6 := (hC2.trans' hc6).alloc (.cells #[.slice none 0 0, .slice none 0 0, .slice none 0 0, .slice none 0 0, .slice none 0 0] 28))
    | (go_at_call 16; (with_reducible refine (known_calls _).mono ?_); rintro e w9 ⟨rfl, hc9⟩))
  go_ret
  exact ⟨rfl, hC6.trans' hc9⟩
set_option maxHeartbeats 4000000 in
set_option maxRecDepth 100000 in
theorem back_01 (p : PrgD) (hs : SmallP p) (hw64 : Wf64 p) (hg : prgB p = false) (q : PrgD) (hgq : prgB q = true) (hwq : Wf64 q) (L : List UInt8) (hd : decB L = (0, some q)) (hLq : L = frameB 1 (bodyL q)) (hl : L.length ≤ 1048576) {v vb : Value} (w : World) (hv : PrgV w v p) (hb : Bytes w vb L) :
    Calls Try.prog 8 #[v, vb] w fun e w' => e = .returned (.bool true) ∧ Chg [] w w' := by
  obtain ⟨aob, capb, rfl⟩ : ∃ ao cap, vb = .slice ao L.length cap := by obtain ⟨_, _, ao, cap, h, _⟩ := hb; exact ⟨ao, cap, h⟩
  obtain ⟨a0, a1, a2, a3, a4, k0, k1, k2, k3, k4, rfl⟩ := prgV_shape hv
  have HE := hid fun u (hu : Chg [] w u) => encode_bad p hs hg u (hv.keep hu)
  have hp := fun u (hu : Chg [] w u) => r_plain_calls p hs u (hv.keep hu)
  rw [hg] at hp
  have HP := hid hp
  have HD := hid fun u (hu : Chg [] w u) => decode_some (p := q) u (hb.keep hu (by simp)) (by omega) hd
  have HBV := hid fun u (hu : Chg [] w u) => View.keep hb hu (by simp)
  have HQQ := hid (And.intro (small_plain hgq) (And.intro hwq (And.intro hgq hLq)))
  clear hgq hwq hLq
  have hca := (Chg.refl [] w).alloc (.cells #[.slice a0 p.vars.length k0, .slice a1 p.vols.length k1, .slice a2 p.locks.length k2, .slice a3 p.bars.length k3, .slice a4 p.thrs.length k4] 28)
  have hbx := heap_alloc_new w (.cells #[.slice a0 p.vars.length k0, .slice a1 p.vols.length k1, .slice a2 p.locks.length k2, .slice a3 p.bars.length k3, .slice a4 p.thrs.length k4] 28)
  have HBX := hid hbx
  clear hv hb hbx hp hg hd
  go_enter Try.func8, Try.ntmps8
  go_wp2_with (first
    | (go_at_call 13; (with_reducible refine (HE.out _ hca).mono ?_); rintro e w1 ⟨rfl, hc1⟩; have hC1 := hca.trans' hc1; have hb := hc1.heap HBX.out (by simp); have y0 := (blk_cell hb 0).trans rfl; have y1 := (blk_cell hb 1).trans rfl; have y2 := (blk_cell hb 2).trans rfl; have y3 := (blk_cell hb 3).trans rfl; have y4 := (blk_cell hb 4).trans rfl; clear hb)
    | (go_at_call 17; (with_reducible refine (HP.out _ hC1).mono ?_); rintro e w2 ⟨rfl, hc2⟩; have hC2 := hC1.trans' hc2)
    | (go_at_call 18; (with_reducible refine (HD.out _ hC2).mono ?_); rintro e w6 ⟨d0, d1, d2, d3, d4, t0, t1, t2, t3, t4, m0, m1, m2, m3, m4, rfl, hv6, hc6⟩; have hC6 := (hC2.trans' hc6).alloc (.cells #[.slice d0 t0 m0, .slice d1 t1 m1, .slice d2 t2 m2, .slice d3 t3 m3, .slice d4 t4 m4] 28); have HC6 := hid hC6; clear hC6; have HV6 := hid (hv6.keep ((Chg.refl [] _).alloc (.cells #[.slice d0 t0 m0, .slice d1 t1 m1, .slice d2 t2 m2, .slice d3 t3 m3, .slice d4 t4 m4] 28))); clear hv6)
    | (go_at_call 13; (with_reducible refine (encode_good q HQQ.out.1 HQQ.out.2.1 HQQ.out.2.2.1 _ HV6.out).mono ?_); rintro e w7 ⟨l7, ao7, cap7, r7, rfl, hr7, hf7, hc7, HL7⟩; obtain rfl : l7 = L := HL7.out.trans HQQ.out.2.2.2.symm; have hC7 := HC6.out.trans' hc7; have hcv1 := run_conv_view Try.underlying29 Try.underlying5 Try.underlying9 hr7.view w7 rfl; have hcv2 := run_conv_view Try.underlying29 Try.underlying5 Try.underlying9 (HBV.out _ hC7) w7 rfl)
    | (go_at_call 16; (with_reducible refine (known_calls _).mono ?_); rintro e w9 ⟨rfl, hc9⟩))
  go_ret
  exact ⟨rfl, hC7.trans' hc9⟩
set_option maxHeartbeats 4000000 in
set_option maxRecDepth 100000 in
theorem back_10 (p : PrgD) (hs : SmallP p) (hw64 : Wf64 p) (hg : prgB p = true) (c : Nat) (hc0 : c ≠ 0) (L : List UInt8) (hd : decB L = (c, none)) (hl : L.length ≤ 1048576) {v vb : Value} (w : World) (hv : PrgV w v p) (hb : Bytes w vb L) :
    Calls Try.prog 8 #[v, vb] w fun e w' => e = .returned (.bool true) ∧ Chg [] w w' := by
  obtain ⟨aob, capb, rfl⟩ : ∃ ao cap, vb = .slice ao L.length cap := by obtain ⟨_, _, ao, cap, h, _⟩ := hb; exact ⟨ao, cap, h⟩
  obtain ⟨a0, a1, a2, a3, a4, k0, k1, k2, k3, k4, rfl⟩ := prgV_shape hv
  have HE := hid fun u (hu : Chg [] w u) => encode_good p hs hw64 hg u (hv.keep hu)
  have hp := fun u (hu : Chg [] w u) => r_plain_calls p hs u (hv.keep hu)
  rw [hg] at hp
  have HP := hid hp
  have HD := hid fun u (hu : Chg [] w u) => decode_nil u (hb.keep hu (by simp)) (by omega) hd
  have hcb : (((c : Nat) : Int) != 0) = true := by simp; omega
  have hbl := bodyL_len2 hg hw64
  have hfl := frameB_length 1 (bodyL p)
  have hbk := decB_frame p hg hw64
  have HG := hid (And.intro hbl (And.intro hfl hbk))
  have HS := hid fun u (hu : Chg [] w u) => hv.keep hu
  clear hbl hfl hbk
  have hca := (Chg.refl [] w).alloc (.cells #[.slice a0 p.vars.length k0, .slice a1 p.vols.length k1, .slice a2 p.locks.length k2, .slice a3 p.bars.length k3, .slice a4 p.thrs.length k4] 28)
  have hbx := heap_alloc_new w (.cells #[.slice a0 p.vars.length k0, .slice a1 p.vols.length k1, .slice a2 p.locks.length k2, .slice a3 p.bars.length k3, .slice a4 p.thrs.length k4] 28)
  have HBX := hid hbx
  clear hv hb hbx hp hg hd
  go_enter Try.func8, Try.ntmps8
  go_wp2_with (first
    | (go_at_call 13; (with_reducible refine (HE.out _ hca).mono ?_); rintro e w1 ⟨l1, ao, cap, r, rfl, hr1, hf1, hc1, HL1⟩; have hC1 := hca.trans' hc1; have hb := hc1.heap HBX.out (by simp); have y0 := (blk_cell hb 0).trans rfl; have y1 := (blk_cell hb 1).trans rfl; have y2 := (blk_cell hb 2).trans rfl; have y3 := (blk_cell hb 3).trans rfl; have y4 := (blk_cell hb 4).trans rfl; clear hb; have hd1 : decB l1 = (0, some p) := (by rw [HL1.out]; exact HG.out.2.2); have hl1 : l1.length ≤ 16777216 := (by have h1 := HG.out.1; have h2 := HG.out.2.1; rw [HL1.out]; omega); have HD1 := hid fun u (hu : Chg [] w1 u) => decode_some u (L := l1) (p := p) (hr1.keep (S := []) hu (by simp)).view hl1 hd1; clear hl1 hd1)
    | (go_at_call 17; (with_reducible refine (HP.out _ hC1).mono ?_); rintro e w2 ⟨rfl, hc2⟩; have hC2 := hC1.trans' hc2)
    | (go_at_call 18; (with_reducible refine (HD1.out _ ?_).mono ?_); (first | exact hc2 | exact hc2.drewN _); rintro e w3 ⟨b0, b1, b2, b3, b4, s0, s1, s2, s3, s4, j0, j1, j2, j3, j4, rfl, hv3, hc3⟩; have hC3 := (hC2.trans' hc3).alloc (.cells #[.slice b0 s0 j0, .slice b1 s1 j1, .slice b2 s2 j2, .slice b3 s3 j3, .slice b4 s4 j4] 28); have HV3 := hid (hv3.keep ((Chg.refl [] _).alloc (.cells #[.slice b0 s0 j0, .slice b1 s1 j1, .slice b2 s2 j2, .slice b3 s3 j3, .slice b4 s4 j4] 28))); have hq3 := heap_alloc_new w3 (.cells #[.slice b0 s0 j0, .slice b1 s1 j1, .slice b2 s2 j2, .slice b3 s3 j3, .slice b4 s4 j4] 28); have HQ3 := hid hq3; have z0 := (blk_cell hq3 0).trans rfl; have z1 := (blk_cell hq3 1).trans rfl; have z2 := (blk_cell hq3 2).trans rfl; have z3 := (blk_cell hq3 3).trans rfl; have z4 := (blk_cell hq3 4).trans rfl; clear hq3; have hc13 := (hc1.trans' (hc2.trans' hc3)).alloc (.cells #[.slice b0 s0 j0, .slice b1 s1 j1, .slice b2 s2 j2, .slice b3 s3 j3, .slice b4 s4 j4] 28); have hb := hc13.heap HBX.out (by simp); have y0 := (blk_cell hb 0).trans rfl; have y1 := (blk_cell hb 1).trans rfl; have y2 := (blk_cell hb 2).trans rfl; have y3 := (blk_cell hb 3).trans rfl; have y4 := (blk_cell hb 4).trans rfl; clear hb)
    | (go_at_call 21; (with_reducible refine (r_same_self p hs _ (HS.out _ hC3) HV3.out).mono ?_); rintro e w4 ⟨rfl, hc4⟩; have hC4 := hC3.trans' hc4; have hc14 := hc13.trans' hc4; have hb := hc14.heap HBX.out (by simp); have y0 := (blk_cell hb 0).trans rfl; have y1 := (blk_cell hb 1).trans rfl; have y2 := (blk_cell hb 2).trans rfl; have y3 := (blk_cell hb 3).trans rfl; have y4 := (blk_cell hb 4).trans rfl; clear hb; have hb := hc4.heap HQ3.out (by simp); have z0 := (blk_cell hb 0).trans rfl; have z1 := (blk_cell hb 1).trans rfl; have z2 := (blk_cell hb 2).trans rfl; have z3 := (blk_cell hb 3).trans rfl; have z4 := (blk_cell hb 4).trans rfl; clear hb)
    | (go_at_call 24; (with_reducible refine (same_self p hs _ (HS.out _ hC4) (HV3.out.keep hc4)).mono ?_); rintro e w5 ⟨rfl, hc5⟩; have hC5 := hC4.trans' hc5)
    | (go_at_call 18; (with_reducible refine (HD.out _ hC5).mono ?_); rintro e w6 ⟨rfl, hc6⟩; have hC6 := (hC5.trans' hc6).alloc (.cells #[.slice none 0 0, .slice none 0 0, .slice none 0 0, .slice none 0 0, .slice none 0 0] 28))
    | (go_at_call 16; (with_reducible refine (known_calls _).mono ?_); rintro e w9 ⟨rfl, hc9⟩))
  go_ret
  exact ⟨rfl, hC6.trans' hc9⟩
set_option maxHeartbeats 4000000 in
set_option maxRecDepth 100000 in
theorem back_11 (p : PrgD) (hs : SmallP p) (hw64 : Wf64 p) (hg : prgB p = true) (q : PrgD) (hgq : prgB q = true) (hwq : Wf64 q) (L : List UInt8) (hd : decB L = (0, some q)) (hLq : L = frameB 1 (bodyL q)) (hl : L.length ≤ 1048576) {v vb : Value} (w : World) (hv : PrgV w v p) (hb : Bytes w vb L) :
    Calls Try.prog 8 #[v, vb] w fun e w' => e = .returned (.bool true) ∧ Chg [] w w' := by
  obtain ⟨aob, capb, rfl⟩ : ∃ ao cap, vb = .slice ao L.length cap := by obtain ⟨_, _, ao, cap, h, _⟩ := hb; exact ⟨ao, cap, h⟩
  obtain ⟨a0, a1, a2, a3, a4, k0, k1, k2, k3, k4, rfl⟩ := prgV_shape hv
  have HE := hid fun u (hu : Chg [] w u) => encode_good p hs hw64 hg u (hv.keep hu)
  have hp := fun u (hu : Chg [] w u) => r_plain_calls p hs u (hv.keep hu)
  rw [hg] at hp
  have HP := hid hp
  have HD := hid fun u (hu : Chg [] w u) => decode_some (p := q) u (hb.keep hu (by simp)) (by omega) hd
  have HBV := hid fun u (hu : Chg [] w u) => View.keep hb hu (by simp)
  have HQQ := hid (And.intro (small_plain hgq) (And.intro hwq (And.intro hgq hLq)))
  clear hgq hwq hLq
  have hbl := bodyL_len2 hg hw64
  have hfl := frameB_length 1 (bodyL p)
  have hbk := decB_frame p hg hw64
  have HG := hid (And.intro hbl (And.intro hfl hbk))
  have HS := hid fun u (hu : Chg [] w u) => hv.keep hu
  clear hbl hfl hbk
  have hca := (Chg.refl [] w).alloc (.cells #[.slice a0 p.vars.length k0, .slice a1 p.vols.length k1, .slice a2 p.locks.length k2, .slice a3 p.bars.length k3, .slice a4 p.thrs.length k4] 28)
  have hbx := heap_alloc_new w (.cells #[.slice a0 p.vars.length k0, .slice a1 p.vols.length k1, .slice a2 p.locks.length k2, .slice a3 p.bars.length k3, .slice a4 p.thrs.length k4] 28)
  have HBX := hid hbx
  clear hv hb hbx hp hg hd
  go_enter Try.func8, Try.ntmps8
  go_wp2_with (first
    | (go_at_call 13; (with_reducible refine (HE.out _ hca).mono ?_); rintro e w1 ⟨l1, ao, cap, r, rfl, hr1, hf1, hc1, HL1⟩; have hC1 := hca.trans' hc1; have hb := hc1.heap HBX.out (by simp); have y0 := (blk_cell hb 0).trans rfl; have y1 := (blk_cell hb 1).trans rfl; have y2 := (blk_cell hb 2).trans rfl; have y3 := (blk_cell hb 3).trans rfl; have y4 := (blk_cell hb 4).trans rfl; clear hb; have hd1 : decB l1 = (0, some p) := (by rw [HL1.out]; exact HG.out.2.2); have hl1 : l1.length ≤ 16777216 := (by have h1 := HG.out.1; have h2 := HG.out.2.1; rw [HL1.out]; omega); have HD1 := hid fun u (hu : Chg [] w1 u) => decode_some u (L := l1) (p := p) (hr1.keep (S := []) hu (by simp)).view hl1 hd1; clear hl1 hd1)
    | (go_at_call 17; (with_reducible refine (HP.out _ hC1).mono ?_); rintro e w2 ⟨rfl, hc2⟩; have hC2 := hC1.trans' hc2)
    | (go_at_call 18; (with_reducible refine (HD1.out _ ?_).mono ?_); (first | exact hc2 | exact hc2.drewN _); rintro e w3 ⟨b0, b1, b2, b3, b4, s0, s1, s2, s3, s4, j0, j1, j2, j3, j4, rfl, hv3, hc3⟩; have hC3 := (hC2.trans' hc3).alloc (.cells #[.slice b0 s0 j0, .slice b1 s1 j1, .slice b2 s2 j2, .slice b3 s3 j3, .slice b4 s4 j4] 28); have HV3 := hid (hv3.keep ((Chg.refl [] _).alloc (.cells #[.slice b0 s0 j0, .slice b1 s1 j1, .slice b2 s2 j2, .slice b3 s3 j3, .slice b4 s4 j4] 28))); have hq3 := heap_alloc_new w3 (.cells #[.slice b0 s0 j0, .slice b1 s1 j1, .slice b2 s2 j2, .slice b3 s3 j3, .slice b4 s4 j4] 28); have HQ3 := hid hq3; have z0 := (blk_cell hq3 0).trans rfl; have z1 := (blk_cell hq3 1).trans rfl; have z2 := (blk_cell hq3 2).trans rfl; have z3 := (blk_cell hq3 3).trans rfl; have z4 := (blk_cell hq3 4).trans rfl; clear hq3; have hc13 := (hc1.trans' (hc2.trans' hc3)).alloc (.cells #[.slice b0 s0 j0, .slice b1 s1 j1, .slice b2 s2 j2, .slice b3 s3 j3, .slice b4 s4 j4] 28); have hb := hc13.heap HBX.out (by simp); have y0 := (blk_cell hb 0).trans rfl; have y1 := (blk_cell hb 1).trans rfl; have y2 := (blk_cell hb 2).trans rfl; have y3 := (blk_cell hb 3).trans rfl; have y4 := (blk_cell hb 4).trans rfl; clear hb)
    | (go_at_call 21; (with_reducible refine (r_same_self p hs _ (HS.out _ hC3) HV3.out).mono ?_); rintro e w4 ⟨rfl, hc4⟩; have hC4 := hC3.trans' hc4; have hc14 := hc13.trans' hc4; have hb := hc14.heap HBX.out (by simp); have y0 := (blk_cell hb 0).trans rfl; have y1 := (blk_cell hb 1).trans rfl; have y2 := (blk_cell hb 2).trans rfl; have y3 := (blk_cell hb 3).trans rfl; have y4 := (blk_cell hb 4).trans rfl; clear hb; have hb := hc4.heap HQ3.out (by simp); have z0 := (blk_cell hb 0).trans rfl; have z1 := (blk_cell hb 1).trans rfl; have z2 := (blk_cell hb 2).trans rfl; have z3 := (blk_cell hb 3).trans rfl; have z4 := (blk_cell hb 4).trans rfl; clear hb)
    | (go_at_call 24; (with_reducible refine (same_self p hs _ (HS.out _ hC4) (HV3.out.keep hc4)).mono ?_); rintro e w5 ⟨rfl, hc5⟩; have hC5 := hC4.trans' hc5)
    | (go_at_call 18; (with_reducible refine (HD.out _ hC5).mono ?_); rintro e w6 ⟨d0, d1, d2, d3, d4, t0, t1, t2, t3, t4, m0, m1, m2, m3, m4, rfl, hv6, hc6⟩; have hC6 := (hC5.trans' hc6).alloc (.cells #[.slice d0 t0 m0, .slice d1 t1 m1, .slice d2 t2 m2, .slice d3 t3 m3, .slice d4 t4 m4] 28); have HC6 := hid hC6; clear hC6; have HV6 := hid (hv6.keep ((Chg.refl [] _).alloc (.cells #[.slice d0 t0 m0, .slice d1 t1 m1, .slice d2 t2 m2, .slice d3 t3 m3, .slice d4 t4 m4] 28))); clear hv6)
    | (go_at_call 13; (with_reducible refine (encode_good q HQQ.out.1 HQQ.out.2.1 HQQ.out.2.2.1 _ HV6.out).mono ?_); rintro e w7 ⟨l7, ao7, cap7, r7, rfl, hr7, hf7, hc7, HL7⟩; obtain rfl : l7 = L := HL7.out.trans HQQ.out.2.2.2.symm; have hC7 := HC6.out.trans' hc7; have hcv1 := run_conv_view Try.underlying29 Try.underlying5 Try.underlying9 hr7.view w7 rfl; have hcv2 := run_conv_view Try.underlying29 Try.underlying5 Try.underlying9 (HBV.out _ hC7) w7 rfl)
    | (go_at_call 16; (with_reducible refine (known_calls _).mono ?_); rintro e w9 ⟨rfl, hc9⟩))
  go_ret
  exact ⟨rfl, hC7.trans' hc9⟩
end Go.Proofs.Ytbikekgljabalaa
