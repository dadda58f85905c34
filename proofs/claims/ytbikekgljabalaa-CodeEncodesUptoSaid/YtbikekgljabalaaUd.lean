/- The law CodeTurned: its walk. -/
import Derived.Test.YtbikekgljabalaaLp
import Derived.Test.YtbikekgljabalaaTturn
namespace Go.Proofs.Ytbikekgljabalaa
open Go.RowKit Go.AB
set_option linter.unusedSimpArgs false
set_option linter.unusedVariables false

theorem u8_xor (x y : UInt8) : bits .xor .u8 (x.toNat : Int) (y.toNat : Int) = ((x ^^^ y).toNat : Int) := by
  have h1 := x.toNat_lt
  have h2 := y.toNat_lt
  rw [u8_xor_nat _ _ (by omega) (by omega), UInt8.toNat_xor]
/-- A program's cells are slices. -/
theorem prgV_shape {w : World} {v : Value} {p : PrgD} (h : PrgV w v p) : ∃ (a0 a1 a2 a3 a4 : Option Addr) (k0 k1 k2 k3 k4 : Nat), v = .agg #[.slice a0 p.vars.length k0, .slice a1 p.vols.length k1, .slice a2 p.locks.length k2, .slice a3 p.bars.length k3, .slice a4 p.thrs.length k4] := by
  obtain ⟨va, vb, vc, vd, ve, ts, rfl, q1, q2, q3, q4, q5, q6, q7⟩ := h
  have lts : ts.length = p.thrs.length := by rw [← q6, List.length_map]
  obtain ⟨a0, k0, rfl, _⟩ := q1.len
  obtain ⟨a1, k1, rfl, _⟩ := q2.len
  obtain ⟨a2, k2, rfl, _⟩ := q3.len
  obtain ⟨a3, k3, rfl, _⟩ := q4.len
  obtain ⟨a4, k4, rfl, _⟩ := q5.len
  rw [lts]
  exact ⟨a0, a1, a2, a3, a4, k0, k1, k2, k3, k4, rfl⟩
/-- A frame with one byte turned is refused. -/
theorem decB_turned (p : PrgD) (k : Nat) (y : UInt8) (hk : k < (frameB 1 (bodyL p)).length) (hy : y ≠ 0) : ∃ c, c ≠ 0 ∧ decB ((frameB 1 (bodyL p)).set k ((frameB 1 (bodyL p))[k] ^^^ y)) = (c, none) := by
  have h := frame_turned_one 1 (bodyL p) k y hk hy
  refine ⟨_, h, ?_⟩
  unfold decB
  rw [if_pos h]

theorem bodyL_len2 {p : PrgD} (h : prgB p = true) (hw : Wf64 p) : (bodyL p).length ≤ 16777205 := by
  unfold prgB at h
  simp only [Bool.and_eq_true, decide_eq_true_eq, List.all_eq_true] at h
  obtain ⟨⟨⟨⟨⟨h1, h2⟩, h3⟩, h4⟩, h5⟩, h6, h7⟩ := h
  have a1 := varsL_len h1 hw.vars
  have a2 := varsL_len h2 hw.vols
  have a3 := varsL_len h4 hw.bars
  have a4 := thrs_len p.thrs h6 hw.thrs
  unfold locksB at h3
  simp only [Bool.and_eq_true, decide_eq_true_eq, List.all_eq_true] at h3
  have a5 := flat_le (f := textB) (m := 34) p.locks (fun x hx => textB_len (h3.2 x hx))
  have a6 := shortB_10 (n := p.locks.length) (by unfold U64; omega)
  have a7 := shortB_10 (n := p.thrs.length) (by unfold U64; omega)
  unfold bodyL
  simp only [List.length_append]
  omega
/-- Decode of what is no program. -/
theorem decode_none {v : Value} {L : List UInt8} {c : Nat} (w : World) (hv : Bytes w v L) (hl : L.length ≤ 16777216) (hd : decB L = (c, none)) :
    Calls Try.prog 18 #[v] w fun e w' => e = .returned (.tuple #[noPrg, .int .i64 c]) ∧ Chg [] w w' := by
  refine (decode_calls v L w hv hl).mono fun e w' h => ?_
  rw [hd] at h
  rcases h with ⟨c2, h1, _, h2, h3⟩ | ⟨p, v2, h1, _⟩
  · simp only [Prod.mk.injEq, and_true] at h1
    subst h1
    exact ⟨h2, h3⟩
  · simp at h1
set_option maxHeartbeats 4000000 in
set_option maxRecDepth 100000 in
theorem turned_bad (p : PrgD) (hs : SmallP p) (hg : prgB p = false) {v : Value} (at' : Int) (by' : Nat) (w : World) (hv : PrgV w v p) :
    Calls Try.prog 5 #[v, .int .i64 at', .int .u8 by'] w fun e w' => e = .returned (.bool true) ∧ Chg [] w w' := by
  have he := fun u (hu : Chg [] w u) => encode_bad p hs hg u (hv.keep hu)
  have hp := fun u (hu : Chg [] w u) => r_plain_calls p hs u (hv.keep hu)
  rw [hg] at hp
  obtain ⟨a0, a1, a2, a3, a4, k0, k1, k2, k3, k4, rfl⟩ := prgV_shape hv
  have HE := hid he
  have HP := hid hp
  have hca := (Chg.refl [] w).alloc (.cells #[.slice a0 p.vars.length k0, .slice a1 p.vols.length k1, .slice a2 p.locks.length k2, .slice a3 p.bars.length k3, .slice a4 p.thrs.length k4] 28)
  have hbx := heap_alloc_new w (.cells #[.slice a0 p.vars.length k0, .slice a1 p.vols.length k1, .slice a2 p.locks.length k2, .slice a3 p.bars.length k3, .slice a4 p.thrs.length k4] 28)
  have HBX := hid hbx
  clear he hp hv hbx hg
  go_enter Try.func5, Try.ntmps5
  go_wp2_with (first
    | (go_at_call 13; refine (HE.out _ hca).mono ?_; rintro e w1 ⟨rfl, hc1⟩; have hb := hc1.heap HBX.out (by simp); have y0 := (blk_cell hb 0).trans rfl; have y1 := (blk_cell hb 1).trans rfl; have y2 := (blk_cell hb 2).trans rfl; have y3 := (blk_cell hb 3).trans rfl; have y4 := (blk_cell hb 4).trans rfl; clear hb)
    | (go_at_call 17; refine (HP.out _ (hca.trans' hc1)).mono ?_; rintro e w2 ⟨rfl, hc2⟩)
    | (go_at_call 16; refine (known_calls _).mono ?_; rintro e w3 ⟨rfl, hc3⟩))
  go_ret
  exact ⟨rfl, ((hca.trans' hc1).trans' hc2).trans' hc3⟩
set_option maxHeartbeats 4000000 in
set_option maxRecDepth 100000 in
theorem turned_zero (p : PrgD) (hs : SmallP p) (hw64 : Wf64 p) (hg : prgB p = true) {v : Value} (at' : Int) (w : World) (hv : PrgV w v p) :
    Calls Try.prog 5 #[v, .int .i64 at', .int .u8 0] w fun e w' => e = .returned (.bool true) ∧ Chg [] w w' := by
  have he := fun u (hu : Chg [] w u) => encode_good p hs hw64 hg u (hv.keep hu)
  have hp := fun u (hu : Chg [] w u) => r_plain_calls p hs u (hv.keep hu)
  rw [hg] at hp
  obtain ⟨a0, a1, a2, a3, a4, k0, k1, k2, k3, k4, rfl⟩ := prgV_shape hv
  have HE := hid he
  have HP := hid hp
  have hca := (Chg.refl [] w).alloc (.cells #[.slice a0 p.vars.length k0, .slice a1 p.vols.length k1, .slice a2 p.locks.length k2, .slice a3 p.bars.length k3, .slice a4 p.thrs.length k4] 28)
  have hbx := heap_alloc_new w (.cells #[.slice a0 p.vars.length k0, .slice a1 p.vols.length k1, .slice a2 p.locks.length k2, .slice a3 p.bars.length k3, .slice a4 p.thrs.length k4] 28)
  have HBX := hid hbx
  have hlen := frameB_length 1 (bodyL p)
  have HLEN := hid hlen
  clear he hp hv hbx hg hlen
  go_enter Try.func5, Try.ntmps5
  go_wp2_with (first
    | (go_at_call 13; refine (HE.out _ hca).mono ?_; rintro e w1 ⟨l1, ao, cap, r, rfl, hr1, hf1, hc1, HL1⟩; have hne : (((l1.length : Nat) : Int) == 0) = false := (by have h2 := HLEN.out; rw [← HL1.out] at h2; rw [beq_eq_false_iff_ne]; omega); have hb := hc1.heap HBX.out (by simp); have y0 := (blk_cell hb 0).trans rfl; have y1 := (blk_cell hb 1).trans rfl; have y2 := (blk_cell hb 2).trans rfl; have y3 := (blk_cell hb 3).trans rfl; have y4 := (blk_cell hb 4).trans rfl; clear hb)
    | (go_at_call 17; refine (HP.out _ (hca.trans' hc1)).mono ?_; rintro e w2 ⟨rfl, hc2⟩)
    | (go_at_call 16; refine (known_calls _).mono ?_; rintro e w3 ⟨rfl, hc3⟩))
  go_ret
  exact ⟨rfl, ((hca.trans' hc1).trans' hc2).trans' hc3⟩
/-- Where the turned byte stands. -/
theorem turn_at (at' : Int) (n : Nat) (hn : 0 < n) : -(n : Int) < at'.tmod n ∧ at'.tmod n < n := by
  constructor
  · have h := Int.lt_tmod_of_pos at' (show (0 : Int) < n by omega)
    omega
  · exact Int.tmod_lt_of_pos at' (by omega)
set_option maxHeartbeats 4000000 in
set_option maxRecDepth 100000 in
theorem turned_good (p : PrgD) (hs : SmallP p) (hw64 : Wf64 p) (hg : prgB p = true) {v : Value} (at' : Int) (by' : UInt8) (hby : by' ≠ 0) (w : World) (hv : PrgV w v p) :
    Calls Try.prog 5 #[v, .int .i64 at', .int .u8 (by'.toNat : Nat)] w fun e w' => e = .returned (.bool true) ∧ Chg [] w w' := by
  have he := fun u (hu : Chg [] w u) => encode_good p hs hw64 hg u (hv.keep hu)
  obtain ⟨a0, a1, a2, a3, a4, k0, k1, k2, k3, k4, rfl⟩ := prgV_shape hv
  have HE := hid he
  have hca := (Chg.refl [] w).alloc (.cells #[.slice a0 p.vars.length k0, .slice a1 p.vols.length k1, .slice a2 p.locks.length k2, .slice a3 p.bars.length k3, .slice a4 p.thrs.length k4] 28)
  have hlen := frameB_length 1 (bodyL p)
  have hbl := bodyL_len2 hg hw64
  have hdec := decB_turned p
  have hbn : ((by'.toNat : Int) == 0) = false := by
    have : by'.toNat ≠ 0 := fun e => hby (UInt8.toNat_inj.1 (by simpa using e))
    simpa using (show (by'.toNat : Int) ≠ 0 by omega)
  have HD := hid hdec
  have HG := hid (And.intro hlen hbl)
  clear he hv hg hlen hbl hdec
  go_enter Try.func5, Try.ntmps5
  go_wp2_with (go_at_call 13; refine (HE.out _ hca).mono ?_; rintro e w1 ⟨l1, ao, cap, r, rfl, hr1, hf1, hc1, HL1⟩; refine halt (fun X hX => ?_))
  rw [hX.out]; clear hX
  have hC1 := hca.trans' hc1
  have hn1 : l1.length = (bodyL p).length + 11 := by rw [HL1.out]; exact HG.out.1
  have hnl : l1.length ≤ 16777216 := by have := HG.out.2; omega
  have g4 : ((l1.length : Int) == 0) = false := by rw [beq_eq_false_iff_ne]; omega
  have hmod1 := Int.tmod_lt_of_pos at' (show (0 : Int) < l1.length by omega)
  have hmod2 := Int.lt_tmod_of_pos at' (show (0 : Int) < l1.length by omega)
  have hidx : ∃ k : Nat, k < l1.length ∧ (at'.tmod l1.length = (k : Int) - l1.length ∨ at'.tmod l1.length = k) := by
    by_cases hs : at'.tmod l1.length < 0
    · exact ⟨(at'.tmod l1.length + l1.length).toNat, by omega, .inl (by omega)⟩
    · exact ⟨(at'.tmod l1.length).toNat, by omega, .inr (by omega)⟩
  have hpos : 0 < l1.length := by omega
  clear hn1
  obtain ⟨k, hk, hq⟩ := hidx
  obtain ⟨g, rfl, rfl, x1, f1, hst⟩ := hr1.at hk
  have hxr := u8_xor l1[k] by'
  have hdn : ∃ c, c ≠ 0 ∧ decB (l1.set k (l1[k] ^^^ by')) = (c, none) := by
    have hl1 := HL1.out
    subst hl1
    exact HD.out k by' hk hby
  obtain ⟨c, hc0, hdn⟩ := hdn
  obtain ⟨xv, hxv⟩ : ∃ x, l1[k] ^^^ by' = x := ⟨_, rfl⟩
  obtain ⟨zv, hzv⟩ : ∃ x, l1[k] = x := ⟨_, rfl⟩
  rw [hxv] at hxr hdn
  rw [hzv] at hxr x1
  obtain ⟨hrow5, hch5⟩ := hst xv
  have hcb : (((c : Nat) : Int) != 0) = true := by simp; omega
  have hC5 : Chg [] w (w1.setCell ⟨g, k, none⟩ (B xv)) := hC1.trans hch5 (fun x hx => .inr (by have hxg : x = g := (by simpa using hx); rw [hxg]; exact Nat.le_trans hca.size ((hf1 g rfl).resolve_left (by simp))))
  have hdec : ∀ u, Chg [] (w1.setCell ⟨g, k, none⟩ (B xv)) u → Calls Try.prog 18 #[.slice (some ⟨g, 0, none⟩) l1.length cap] u fun e w' => e = .returned (.tuple #[.agg #[.slice none 0 0, .slice none 0 0, .slice none 0 0, .slice none 0 0, .slice none 0 0], .int .i64 c]) ∧ Chg [] w w' := fun u hu => by
    have hv5 : Bytes u (.slice (some ⟨g, 0, none⟩) l1.length cap) (l1.set k xv) := by
      unfold Bytes
      rw [List.length_set]
      exact (hrow5.keep hu (by simp)).view
    exact (decode_none u hv5 (by rw [List.length_set]; exact hnl) hdn).mono fun e w' h => ⟨h.1, (hC5.trans' hu).trans' h.2⟩
  simp only [B] at hdec
  have HDE := hid hdec
  clear hdec hst hrow5 hch5 hC5 hr1 hf1 hc1 hC1 hca hxv hzv hdn hmod1 hmod2
  rcases hq with hq | hq
  all_goals
    go_wp2_with (first
      | (go_at_call 18; refine (HDE.out _ ?_).mono ?_; (first | exact Chg.refl _ _ | exact Chg.of_drewN _ _ _); rintro e w5 ⟨rfl, hc5⟩)
      | (go_at_call 16; refine (known_calls _).mono ?_; rintro e w6 ⟨rfl, hc6⟩))
    go_ret
    exact ⟨rfl, (hc5.alloc _).trans' hc6⟩
/-- The law's walk, whatever comes in. -/
theorem turned_walk (p : PrgD) (hs : SmallP p) (hw64 : Wf64 p) {v : Value} (at' y : Int) (hy : (Lit.int .u8 y).wf = true) (w : World) (hv : PrgV w v p) :
    Calls Try.prog 5 #[v, .int .i64 at', .int .u8 y] w fun e w' => e = .returned (.bool true) ∧ Chg [] w w' := by
  have hx : 0 ≤ y ∧ y ≤ 255 := by simpa [Lit.wf, IntKind.min, IntKind.max, IntKind.signed, IntKind.bits] using hy
  obtain ⟨b, rfl⟩ : ∃ b : UInt8, y = (b.toNat : Nat) := ⟨UInt8.ofNat y.toNat, by simp; omega⟩
  cases hg : prgB p with
  | false => exact turned_bad p hs hg at' b.toNat w hv
  | true =>
    by_cases hb : b = 0
    · subst hb
      exact turned_zero p hs hw64 hg at' w hv
    · exact turned_good p hs hw64 hg at' b hb w hv
end Go.Proofs.Ytbikekgljabalaa
