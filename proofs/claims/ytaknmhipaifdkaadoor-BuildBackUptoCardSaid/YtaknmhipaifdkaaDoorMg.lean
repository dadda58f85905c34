/- The law BuildProgram, walked. (Printed by gen_program.py.) -/
import Derived.Test.YtaknmhipaifdkaaDoorMe
set_option linter.unusedSimpArgs false
set_option linter.unusedVariables false
set_option linter.unusedSectionVars false
namespace Go.Proofs.YtaknmhipaifdkaaDoor
open Go.RowKit Go.AB

theorem blocks_len {it : Nat → ByteArray} {p : PrgD} : ∀ (rs : List ThrD) (ks : List BkD), blocksOf it p rs = some ks → ks.length = rs.length
  | [], ks, h => by simp only [blocksOf, Option.some.injEq] at h; subst h; rfl
  | t :: rs, ks, h => by
    unfold blocksOf at h
    split at h
    · cases h
    · split at h
      · cases h
      · rename_i l hl
        cases h
        rw [List.length_cons, List.length_cons, blocks_len rs l hl]
theorem unit_some {it : Nat → ByteArray} {p : PrgD} {u : UnD} (h : unitD it p = some u) : ∃ ks, u = ⟨declsOf p, ks⟩ ∧ ks.length = p.thrs.length ∧ blocksOf it p p.thrs = some ks := by
  unfold unitD at h
  split at h
  · cases h
  · rename_i ks hk
    split at h
    · cases h
    · cases h
      exact ⟨ks, rfl, blocks_len _ _ hk, hk⟩
theorem small_bareZ {p : PrgD} (h : SmallP p) : SmallP (bareZ p) := by
  refine ⟨h.vars, h.vols, h.locks, h.bars, ?_, h.nvars, h.nvols, h.nlocks, h.nbars, ?_⟩
  · show (p.thrs.map bareT).length ≤ _
    rw [List.length_map]
    exact h.thrs
  · intro t ht
    obtain ⟨s, hs, rfl⟩ := List.mem_map.1 ht
    have := h.nthrs s hs
    exact ⟨this.1, this.2.1, by show (s.code.map _).length ≤ _; rw [List.length_map]; exact this.2.1⟩
theorem small_bareE {p : PrgD} (h : SmallP p) : SmallP (bareE p) := by
  refine ⟨h.vars, h.vols, h.locks, h.bars, ?_, h.nvars, h.nvols, h.nlocks, h.nbars, ?_⟩
  · show (p.thrs.map erD).length ≤ _
    rw [List.length_map]
    exact h.thrs
  · intro t ht
    obtain ⟨s, hs, rfl⟩ := List.mem_map.1 ht
    have := h.nthrs s hs
    exact ⟨this.1, this.2.1, Nat.zero_le _⟩

set_option maxHeartbeats 8000000 in
set_option maxRecDepth 100000 in
theorem program_walk {v : Value} {p : PrgD} (w : World) (hv : PrgV w v p) (hs : UnitS p) (htab : Pow10 w) : Calls Tryd.prog 4 #[v] w fun e w' => e = .returned (.bool true) ∧ Chg [] w w' := by
  obtain ⟨x0, n0, c0, x1, n1, c1, x2, n2, c2, x3, n3, c3, x4, n4, c4, ts, rfl, hb⟩ := prgv_boxed hv
  have hdl := hs.dl
  have hdl3 : (declsOf p).length = n0 + n1 + n2 + n3 := by
    unfold declsOf
    simp only [List.length_append, List.length_map, hb.e0, hb.e1, hb.e2, hb.e3]
  have htl : p.thrs.length = n4 := by rw [← hb.th, List.length_map, hb.e4]
  have hdl2 : n0 + n1 + n2 + n3 ≤ 1048576 := by omega
  have hn4 : n4 ≤ 1048576 := by
    have h1 := hs.sm.thrs
    omega
  have hn0 : n0 ≤ 1048576 := by omega
  have hn1 : n1 ≤ 1048576 := by omega
  have hn2 : n2 ≤ 1048576 := by omega
  have hn3 : n3 ≤ 1048576 := by omega
  have HDL := hid (And.intro hdl3 htl)
  have hp0 := (Hp.start (S0 := []) w (by simp)).box (.cells #[.slice x0 n0 c0, .slice x1 n1 c1, .slice x2 n2 c2, .slice x3 n3 c3, .slice x4 n4 c4] 32)
  have u0 := hb.u0
  have u1 := hb.u1
  have u2 := hb.u2
  have u3 := hb.u3
  have u4 := hb.u4
  obtain ⟨wA, hwA⟩ : ∃ wA, w.alloc (.cells #[.slice x0 n0 c0, .slice x1 n1 c1, .slice x2 n2 c2, .slice x3 n3 c3, .slice x4 n4 c4] 32) = wA := ⟨_, rfl⟩
  obtain ⟨PP, hPP⟩ : ∃ PP, w.heap.size = PP := ⟨_, rfl⟩
  rw [hwA, hPP] at hp0
  have HP0 := hid hp0
  have hv0 := hv
  have HV := hid (fun W (h : Chg [] w W) => hv0.keep h)
  have HS := hid hs
  have HT := hid htab
  have HWK := hid (fun W => works_calls W)
  clear hv hv0 hs htab hb hdl hdl3 htl hp0 u0 u1 u2 u3 u4
  go_enter Tryd.func4, Tryd.ntmps4
  go_upto_region 1 with fail
  try rw [hwA]
  try rw [hPP]
  clear hwA hPP
  go_wp2_with (go_at_call 5; refine halt (fun X hX => ?_))
  rw [hX.out]; clear hX
  refine (HWK.out _).mono ?_
  rintro e w1 ⟨rfl, hc1⟩
  have hp1 := HP0.out.same hc1
  have HP1 := hid hp1
  have u0 := hp1.cell (i := 0) rfl 0
  have u1 := hp1.cell (i := 0) rfl 1
  have u2 := hp1.cell (i := 0) rfl 2
  have u3 := hp1.cell (i := 0) rfl 3
  have u4 := hp1.cell (i := 0) rfl 4
  simp only [List.getElem?_toArray, List.getElem?_cons_zero, List.getElem?_cons_succ] at u0 u1 u2 u3 u4
  have HCP := hid (copied_calls w1 (HV.out w1 hp1.chg) HS.out.sm)
  clear hc1 hp1 HWK
  go_wp2_with (go_at_call 13; refine halt (fun X hX => ?_))
  rw [hX.out]; clear hX
  refine HCP.out.mono ?_
  rintro e w2 ⟨v2, rfl, hpr⟩
  obtain ⟨y0, y1, y2, y3, y4, s0, s1, s2, s3, s4, zs, rfl, hpp, hpt⟩ := hpr
  have hpv := prg_lst hpp hpt
  have hp2 := HP1.out.same hpp.chg
  have HP2 := hid hp2
  have HUN := hid (unit_calls w2 hpv HS.out (HT.out.keep hp2.chg))
  clear hpp hpt hpv hp2 HCP HP1 u0 u1 u2 u3 u4
  go_wp2_with (go_at_call 8; refine halt (fun X hX => ?_))
  rw [hX.out]; clear hX
  refine HUN.out.mono ?_
  rintro e w3 (⟨hO, rfl, hc3⟩ | ⟨u, vd, rd, vt, rt, bs, hO, rfl, hun, hbk⟩)
  · have hp3 := (HP2.out.same hc3).box (.cells #[.slice none 0 0, .slice none 0 0] 25)
    have u0 := hp3.cell (i := 0) rfl 0
    have u1 := hp3.cell (i := 0) rfl 1
    simp only [List.getElem?_toArray, List.getElem?_cons_zero, List.getElem?_cons_succ] at u0 u1
    have HP3 := hid hp3
    clear hO hc3 hp3 HUN
    go_upto_region 4 with fail
    obtain ⟨wB, hwB⟩ : ∃ wB, w3.alloc (.cells #[.slice none 0 0, .slice none 0 0] 25) = wB := ⟨_, rfl⟩
    rw [hwB] at HP3 u0 u1
    rw [hwB]
    clear hwB
    go_wp2_with (go_at_call 9; refine halt (fun X hX => ?_))
    rw [hX.out]; clear hX
    refine (num_calls 4 _).mono ?_
    rintro e w4 ⟨rfl, hw4⟩
    rw [hw4]
    clear hw4
    go_wp2_with (go_at_call 9; refine halt (fun X hX => ?_))
    rw [hX.out]; clear hX
    refine (num_calls 4 _).mono ?_
    rintro e w5 ⟨rfl, hw5⟩
    rw [hw5]
    clear hw5
    go_wp2_with fail
    exact bodyPost_ret (v := .bool true) (by simp [results, Tryd.results4, go_sem]) rfl ⟨rfl, HP3.out.chg⟩
  · obtain ⟨ks, rfl, hkl, hks⟩ := unit_some hO
    have hsu := unit_small HS.out hks
    have hpg := unit_prog hO
    have huv := hun.unV
    rw [hbk] at huv
    obtain ⟨D, hD⟩ : ∃ D, (declsOf p).length = D := ⟨_, rfl⟩
    obtain ⟨L, hL⟩ : ∃ L, bs.length = L := ⟨_, rfl⟩
    have hj := hun.hp
    simp only [dRow, tRow, hD, hL] at hj
    obtain ⟨avd, cvd, rfl⟩ := (hj.rowAt (i := 0) rfl).shape
    obtain ⟨avt, cvt, rfl⟩ := (hj.rowAt (i := 1) rfl).shape
    have hDn : D = n0 + n1 + n2 + n3 := by rw [← hD, HDL.out.1]
    have hLn : L = n4 := by
      have h1 := congrArg List.length hbk
      simp only [blks, List.length_map] at h1
      rw [← hL, h1, hkl, HDL.out.2]
    have hp3 := (HP2.out.same hj.chg).box (.cells #[.slice avd D cvd, .slice avt L cvt] 25)
    have hc3 := (Chg.refl [] w3).alloc (.cells #[.slice avd D cvd, .slice avt L cvt] 25)
    have HPG := hid (fun W (h : Chg [] (w3.alloc (.cells #[.slice avd D cvd, .slice avt L cvt] 25)) W) => program_calls hsu W (huv.keep (hc3.trans' h)))
    have HPD := hid hpg
    obtain ⟨U, hU⟩ : ∃ U, w3.heap.size = U := ⟨_, rfl⟩
    obtain ⟨wB, hwB⟩ : ∃ wB, w3.alloc (.cells #[.slice avd D cvd, .slice avt L cvt] 25) = wB := ⟨_, rfl⟩
    rw [hwB, hU] at hp3
    rw [hwB] at HPG
    have HP3 := hid hp3
    have u0 := hp3.cell (i := 0) rfl 0
    have u1 := hp3.cell (i := 0) rfl 1
    simp only [List.getElem?_toArray, List.getElem?_cons_zero, List.getElem?_cons_succ] at u0 u1
    have HDN := hid (And.intro hDn hLn)
    clear hO hkl hks hsu hpg huv hD hL hj hp3 hc3 hun hbk HUN HP2 hDn hLn
    go_upto_region 4 with fail
    try rw [hwB]
    try rw [hU]
    clear hwB hU
    go_wp2_with (go_at_call 9; refine halt (fun X hX => ?_))
    rw [hX.out]; clear hX
    refine (num_calls 0 _).mono ?_
    rintro e w4 ⟨rfl, hw4⟩
    rw [hw4]
    clear hw4
    have HPR := hid (HPG.out wB (Chg.refl _ _))
    go_wp2_with (go_at_call 6; refine halt (fun X hX => ?_))
    rw [hX.out]; clear hX
    refine HPR.out.mono ?_
    rintro e w6 (⟨f, hd, rfl, hc6⟩ | ⟨q, vq, hd, rfl, hqn, hc6⟩)
    · rw [HPD.out] at hd
      cases hd
    · rw [HPD.out] at hd
      cases hd
      have HQN := hid hqn.now
      obtain ⟨qa0, qn0, qc0, qa1, qn1, qc1, qa2, qn2, qc2, qa3, qn3, qc3, qa4, qn4, qc4, rfl⟩ : ∃ (a0 : Option Addr) (n0 c0 : Nat) (a1 : Option Addr) (n1 c1 : Nat) (a2 : Option Addr) (n2 c2 : Nat) (a3 : Option Addr) (n3 c3 : Nat) (a4 : Option Addr) (n4 c4 : Nat), vq = .agg #[.slice a0 n0 c0, .slice a1 n1 c1, .slice a2 n2 c2, .slice a3 n3 c3, .slice a4 n4 c4] := by
        obtain ⟨v0, v1, v2, v3, v4, ts, rfl, l0, l1, l2, l3, l4, _⟩ := HQN.out
        obtain ⟨_, _, rfl, _⟩ := l0.len
        obtain ⟨_, _, rfl, _⟩ := l1.len
        obtain ⟨_, _, rfl, _⟩ := l2.len
        obtain ⟨_, _, rfl, _⟩ := l3.len
        obtain ⟨_, _, rfl, _⟩ := l4.len
        exact ⟨_, _, _, _, _, _, _, _, _, _, _, _, _, _, _, rfl⟩
      have hh6 := ((HP3.out.same hc6).box (.cells #[.slice qa0 qn0 qc0, .slice qa1 qn1 qc1, .slice qa2 qn2 qc2, .slice qa3 qn3 qc3, .slice qa4 qn4 qc4] 32)).box (.cells #[.int .i64 0, .int .i64 0, .int .i64 0] 37)
      simp only [World.size_alloc] at hh6
      have hc66 := ((Chg.refl [] w6).alloc (.cells #[.slice qa0 qn0 qc0, .slice qa1 qn1 qc1, .slice qa2 qn2 qc2, .slice qa3 qn3 qc3, .slice qa4 qn4 qc4] 32)).alloc (.cells #[.int .i64 0, .int .i64 0, .int .i64 0] 37)
      obtain ⟨wF, hwF⟩ : ∃ wF, (w6.alloc (.cells #[.slice qa0 qn0 qc0, .slice qa1 qn1 qc1, .slice qa2 qn2 qc2, .slice qa3 qn3 qc3, .slice qa4 qn4 qc4] 32)).alloc (.cells #[.int .i64 0, .int .i64 0, .int .i64 0] 37) = wF := ⟨_, rfl⟩
      obtain ⟨Q, hQ⟩ : ∃ Q, w6.heap.size = Q := ⟨_, rfl⟩
      have hqv := HQN.out.keep hc66
      rw [hwF, hQ] at hh6
      rw [hwF] at hqv
      have HH6 := hid hh6
      have HQV := hid hqv
      have f0 := hh6.cell (i := 0) rfl 0
      have q0 := hh6.cell (i := 1) rfl 0
      have q1 := hh6.cell (i := 1) rfl 1
      have q2 := hh6.cell (i := 1) rfl 2
      have q3 := hh6.cell (i := 1) rfl 3
      have q4 := hh6.cell (i := 1) rfl 4
      have u0 := hh6.cell (i := 2) rfl 0
      have u1 := hh6.cell (i := 2) rfl 1
      have p0 := hh6.cell (i := 3) rfl 0
      have p1 := hh6.cell (i := 3) rfl 1
      have p2 := hh6.cell (i := 3) rfl 2
      have p3 := hh6.cell (i := 3) rfl 3
      have p4 := hh6.cell (i := 3) rfl 4
      simp only [List.getElem?_toArray, List.getElem?_cons_zero, List.getElem?_cons_succ] at f0 q0 q1 q2 q3 q4 u0 u1 p0 p1 p2 p3 p4
      have HBP := hid (fun W (h : Chg [] wF W) => bare_calls W (HV.out W (HH6.out.chg.trans' h)) HS.out.sm)
      have HBQ := hid (fun W (h : Chg [] wF W) => by
        have h1 := bare_calls W (HQV.out.keep h) (small_bareZ HS.out.sm)
        rw [bareE_Z] at h1
        exact h1)
      have HSC := hid (fun W (va vb : Value) (ha : PrgV W va (bareE p)) (hb : PrgV W vb (bareE p)) => (same_calls (bareE p) (bareE p) (small_bareE HS.out.sm) (small_bareE HS.out.sm) W ha hb).mono (R' := fun e w' => e = .returned (.bool true) ∧ Chg [] W w') (fun e w' hh => ⟨by rw [hh.1, eqB_true rfl], hh.2⟩))
      have HQW := hid (And.intro hwF hQ)
      have hd1 : ((D : Int) == IntKind.i64.wrap (IntKind.i64.wrap (IntKind.i64.wrap ((n0 : Int) + (n1 : Int)) + (n2 : Int)) + (n3 : Int))) = true := by
        have hW : ∀ m : Nat, m ≤ 2147483647 → IntKind.i64.wrap (m : Int) = (m : Int) := fun m hm => by rw [IntKind.wrap_i64]; omega
        have h1 := HDN.out.1
        have e1 : IntKind.i64.wrap ((n0 : Int) + (n1 : Int)) = ((n0 + n1 : Nat) : Int) := by rw [← Int.natCast_add]; exact hW _ (by omega)
        rw [e1, ← Int.natCast_add, hW _ (by omega), ← Int.natCast_add, hW _ (by omega), ← h1]
        simp
      have hl1 : ((L : Int) == (n4 : Int)) = true := by rw [HDN.out.2]; simp
      have hl2 : decide ((L : Int) = (n4 : Int)) = true := by rw [HDN.out.2]; simp
      have hl3 : decide (L = n4) = true := by rw [HDN.out.2]; simp
      have hl4 : (L == n4) = true := by rw [HDN.out.2]; simp
      clear hc6 hh6 hc66 hqv hqn hwF hQ
      go_upto_region 7 with fail
      try rw [HQW.out.1]
      try rw [HQW.out.2]
      (refine wp_region_held_drew (S := (fun w' => w'.cell? ⟨Q + 1, 0, none⟩ = some (.int .i64 0) ∧ w'.cell? ⟨Q, 0, none⟩ = some (.slice qa0 qn0 qc0) ∧ w'.cell? ⟨Q, 1, none⟩ = some (.slice qa1 qn1 qc1) ∧ w'.cell? ⟨Q, 2, none⟩ = some (.slice qa2 qn2 qc2) ∧ w'.cell? ⟨Q, 3, none⟩ = some (.slice qa3 qn3 qc3) ∧ w'.cell? ⟨Q, 4, none⟩ = some (.slice qa4 qn4 qc4) ∧ w'.cell? ⟨PP, 0, none⟩ = some (.slice x0 n0 c0) ∧ w'.cell? ⟨PP, 1, none⟩ = some (.slice x1 n1 c1) ∧ w'.cell? ⟨PP, 2, none⟩ = some (.slice x2 n2 c2) ∧ w'.cell? ⟨PP, 3, none⟩ = some (.slice x3 n3 c3) ∧ w'.cell? ⟨PP, 4, none⟩ = some (.slice x4 n4 c4) ∧ w'.cell? ⟨U, 0, none⟩ = some (.slice avd D cvd) ∧ w'.cell? ⟨U, 1, none⟩ = some (.slice avt L cvt))) (by kernel_rfl) (by exact ⟨f0, q0, q1, q2, q3, q4, p0, p1, p2, p3, p4, u0, u1⟩) (fun hHeld => ?_); (refine wpAnyH_take (i := 0) (v := ?_) rfl (by kernel_rfl) (by kernel_rfl) (by kernel_rfl) (fun _ _ _ h => h) (Or.inl ⟨by rfl, ?_⟩) (by assumption) ?_; rotate_left 1; (focus (intro w hSw; (try dsimp only at hSw); go_simp; (try with_reducible rfl))); (try simp only [List.getElem_toArray, List.getElem_cons_zero, List.getElem_cons_succ, Act.put, List.setIfInBounds_toArray, List.set_cons_zero, List.set_cons_succ])); (refine wpAnyH_take (i := 1) (v := ?_) rfl (by kernel_rfl) (by kernel_rfl) (by kernel_rfl) (fun _ _ _ h => h) (Or.inl ⟨by rfl, ?_⟩) (by assumption) ?_; rotate_left 1; (focus (intro w hSw; (try dsimp only at hSw); go_simp; (try with_reducible rfl))); (try simp only [List.getElem_toArray, List.getElem_cons_zero, List.getElem_cons_succ, Act.put, List.setIfInBounds_toArray, List.set_cons_zero, List.set_cons_succ])); (refine wpAnyH_take (i := 2) (v := ?_) rfl (by kernel_rfl) (by kernel_rfl) (by kernel_rfl) (fun _ _ _ h => h) (Or.inl ⟨by rfl, ?_⟩) (by assumption) ?_; rotate_left 1; (focus (intro w hSw; (try dsimp only at hSw); go_simp; (try with_reducible rfl))); (try simp only [List.getElem_toArray, List.getElem_cons_zero, List.getElem_cons_succ, Act.put, List.setIfInBounds_toArray, List.set_cons_zero, List.set_cons_succ])); (refine wpAnyH_take (i := 3) (v := ?_) rfl (by kernel_rfl) (by kernel_rfl) (by kernel_rfl) (fun _ _ _ h => h) (Or.inl ⟨by rfl, ?_⟩) (by assumption) ?_; rotate_left 1; (focus (intro w hSw; (try dsimp only at hSw); go_simp; (try with_reducible rfl))); (try simp only [List.getElem_toArray, List.getElem_cons_zero, List.getElem_cons_succ, Act.put, List.setIfInBounds_toArray, List.set_cons_zero, List.set_cons_succ])); (refine wpAnyH_take (i := 4) (v := ?_) rfl (by kernel_rfl) (by kernel_rfl) (by kernel_rfl) (fun _ _ _ h => h) (Or.inl ⟨by rfl, ?_⟩) (by assumption) ?_; rotate_left 1; (focus (intro w hSw; (try dsimp only at hSw); go_simp; (try with_reducible rfl))); (try simp only [List.getElem_toArray, List.getElem_cons_zero, List.getElem_cons_succ, Act.put, List.setIfInBounds_toArray, List.set_cons_zero, List.set_cons_succ])); (refine wpAnyH_take (i := 6) (v := ?_) rfl (by kernel_rfl) (by kernel_rfl) (by kernel_rfl) (fun _ _ _ h => h) (Or.inl ⟨by rfl, ?_⟩) (by assumption) ?_; rotate_left 1; (focus (intro w hSw; (try dsimp only at hSw); go_simp; (try with_reducible rfl))); (try simp only [List.getElem_toArray, List.getElem_cons_zero, List.getElem_cons_succ, Act.put, List.setIfInBounds_toArray, List.set_cons_zero, List.set_cons_succ])); (refine wpAnyH_ready (rs := [5]) (by kernel_rfl) (by simp) ?_; refine AllReadyH.cons rfl (fun K hK => ?_) AllReadyH.nil; go_simp; go_at_call 12; refine (HBP.out _ (by first | exact (Chg.refl [] wF).drew | exact (Chg.refl [] wF).drew.trans' hc9)).mono ?_; rintro e w8 ⟨v8, rfl, hv8, hc8⟩; (refine hK.out _ _ (by exact (by exact ⟨hc8.cell hHeld.1 (by simp), hc8.cell hHeld.2.1 (by simp), hc8.cell hHeld.2.2.1 (by simp), hc8.cell hHeld.2.2.2.1 (by simp), hc8.cell hHeld.2.2.2.2.1 (by simp), hc8.cell hHeld.2.2.2.2.2.1 (by simp), hc8.cell hHeld.2.2.2.2.2.2.1 (by simp), hc8.cell hHeld.2.2.2.2.2.2.2.1 (by simp), hc8.cell hHeld.2.2.2.2.2.2.2.2.1 (by simp), hc8.cell hHeld.2.2.2.2.2.2.2.2.2.1 (by simp), hc8.cell hHeld.2.2.2.2.2.2.2.2.2.2.1 (by simp), hc8.cell hHeld.2.2.2.2.2.2.2.2.2.2.2.1 (by simp), hc8.cell hHeld.2.2.2.2.2.2.2.2.2.2.2.2 (by simp)⟩)) (fun hHeld => ?_); clear hK K; (try simp only [List.getElem_toArray, List.getElem_cons_zero, List.getElem_cons_succ, Act.put, List.setIfInBounds_toArray, List.set_cons_zero, List.set_cons_succ]))); (refine wpAnyH_ready (rs := [7]) (by kernel_rfl) (by simp) ?_; refine AllReadyH.cons rfl (fun K hK => ?_) AllReadyH.nil; go_simp; go_at_call 12; refine (HBQ.out _ (by first | exact (Chg.refl [] wF).drew | exact (Chg.refl [] wF).drew.trans' hc8)).mono ?_; rintro e w9 ⟨v9, rfl, hv9, hc9⟩; (refine hK.out _ _ (by exact (by exact ⟨hc9.cell hHeld.1 (by simp), hc9.cell hHeld.2.1 (by simp), hc9.cell hHeld.2.2.1 (by simp), hc9.cell hHeld.2.2.2.1 (by simp), hc9.cell hHeld.2.2.2.2.1 (by simp), hc9.cell hHeld.2.2.2.2.2.1 (by simp), hc9.cell hHeld.2.2.2.2.2.2.1 (by simp), hc9.cell hHeld.2.2.2.2.2.2.2.1 (by simp), hc9.cell hHeld.2.2.2.2.2.2.2.2.1 (by simp), hc9.cell hHeld.2.2.2.2.2.2.2.2.2.1 (by simp), hc9.cell hHeld.2.2.2.2.2.2.2.2.2.2.1 (by simp), hc9.cell hHeld.2.2.2.2.2.2.2.2.2.2.2.1 (by simp), hc9.cell hHeld.2.2.2.2.2.2.2.2.2.2.2.2 (by simp)⟩)) (fun hHeld => ?_); clear hK K; (try simp only [List.getElem_toArray, List.getElem_cons_zero, List.getElem_cons_succ, Act.put, List.setIfInBounds_toArray, List.set_cons_zero, List.set_cons_succ]))); (refine wpAnyH_ready (rs := [8]) (by kernel_rfl) (by simp) ?_; refine AllReadyH.cons rfl (fun K hK => ?_) AllReadyH.nil; go_simp; go_at_call 11; refine (HSC.out _ v8 v9 (by first | exact hv8 | exact hv8.keep hc9) (by first | exact hv9 | exact hv9.keep hc8)).mono ?_; rintro e w10 ⟨rfl, hc10⟩; (refine hK.out _ _ (by exact (by exact ⟨hc10.cell hHeld.1 (by simp), hc10.cell hHeld.2.1 (by simp), hc10.cell hHeld.2.2.1 (by simp), hc10.cell hHeld.2.2.2.1 (by simp), hc10.cell hHeld.2.2.2.2.1 (by simp), hc10.cell hHeld.2.2.2.2.2.1 (by simp), hc10.cell hHeld.2.2.2.2.2.2.1 (by simp), hc10.cell hHeld.2.2.2.2.2.2.2.1 (by simp), hc10.cell hHeld.2.2.2.2.2.2.2.2.1 (by simp), hc10.cell hHeld.2.2.2.2.2.2.2.2.2.1 (by simp), hc10.cell hHeld.2.2.2.2.2.2.2.2.2.2.1 (by simp), hc10.cell hHeld.2.2.2.2.2.2.2.2.2.2.2.1 (by simp), hc10.cell hHeld.2.2.2.2.2.2.2.2.2.2.2.2 (by simp)⟩)) (fun hHeld => ?_); clear hK K; (try simp only [List.getElem_toArray, List.getElem_cons_zero, List.getElem_cons_succ, Act.put, List.setIfInBounds_toArray, List.set_cons_zero, List.set_cons_succ]))); (refine wpAnyH_take (i := 9) (v := ?_) rfl (by kernel_rfl) (by kernel_rfl) (by kernel_rfl) (fun _ _ _ h => h) (Or.inl ⟨by rfl, ?_⟩) (by assumption) ?_; rotate_left 1; (focus (intro w hSw; (try dsimp only at hSw); go_simp; (try with_reducible rfl))); (try simp only [List.getElem_toArray, List.getElem_cons_zero, List.getElem_cons_succ, Act.put, List.setIfInBounds_toArray, List.set_cons_zero, List.set_cons_succ])); (refine wpAnyH_take (i := 10) (v := ?_) rfl (by kernel_rfl) (by kernel_rfl) (by kernel_rfl) (fun _ _ _ h => h) (Or.inl ⟨by rfl, ?_⟩) (by assumption) ?_; rotate_left 1; (focus (intro w hSw; (try dsimp only at hSw); go_simp; (try with_reducible rfl))); (try simp only [List.getElem_toArray, List.getElem_cons_zero, List.getElem_cons_succ, Act.put, List.setIfInBounds_toArray, List.set_cons_zero, List.set_cons_succ])); (refine wpAnyH_take (i := 11) (v := ?_) rfl (by kernel_rfl) (by kernel_rfl) (by kernel_rfl) (fun _ _ _ h => h) (Or.inl ⟨by rfl, ?_⟩) (by assumption) ?_; rotate_left 1; (focus (intro w hSw; (try dsimp only at hSw); go_simp; (try with_reducible rfl))); (try simp only [List.getElem_toArray, List.getElem_cons_zero, List.getElem_cons_succ, Act.put, List.setIfInBounds_toArray, List.set_cons_zero, List.set_cons_succ])); (refine wpAnyH_take (i := 12) (v := ?_) rfl (by kernel_rfl) (by kernel_rfl) (by kernel_rfl) (fun _ _ _ h => h) (Or.inl ⟨by rfl, ?_⟩) (by assumption) ?_; rotate_left 1; (focus (intro w hSw; (try dsimp only at hSw); go_simp; (try with_reducible rfl))); (try simp only [List.getElem_toArray, List.getElem_cons_zero, List.getElem_cons_succ, Act.put, List.setIfInBounds_toArray, List.set_cons_zero, List.set_cons_succ])); (refine wpAnyH_take (i := 13) (v := ?_) rfl (by kernel_rfl) (by kernel_rfl) (by kernel_rfl) (fun _ _ _ h => h) (Or.inl ⟨by rfl, ?_⟩) (by assumption) ?_; rotate_left 1; (focus (intro w hSw; (try dsimp only at hSw); go_simp; (try with_reducible rfl))); (try simp only [List.getElem_toArray, List.getElem_cons_zero, List.getElem_cons_succ, Act.put, List.setIfInBounds_toArray, List.set_cons_zero, List.set_cons_succ])); (refine wpAnyH_take (i := 14) (v := ?_) rfl (by kernel_rfl) (by kernel_rfl) (by kernel_rfl) (fun _ _ _ h => h) (Or.inl ⟨by rfl, ?_⟩) (by assumption) ?_; rotate_left 1; (focus (intro w hSw; (try dsimp only at hSw); go_simp; (try with_reducible rfl))); (try simp only [List.getElem_toArray, List.getElem_cons_zero, List.getElem_cons_succ, Act.put, List.setIfInBounds_toArray, List.set_cons_zero, List.set_cons_succ])); (refine wpAnyH_take (i := 15) (v := ?_) rfl (by kernel_rfl) (by kernel_rfl) (by kernel_rfl) (fun _ _ _ h => h) (Or.inl ⟨by rfl, ?_⟩) (by assumption) ?_; rotate_left 1; (focus (intro w hSw; (try dsimp only at hSw); go_simp; (try with_reducible rfl))); (try simp only [List.getElem_toArray, List.getElem_cons_zero, List.getElem_cons_succ, Act.put, List.setIfInBounds_toArray, List.set_cons_zero, List.set_cons_succ])); (refine wpAnyH_take (i := 16) (v := ?_) rfl (by kernel_rfl) (by kernel_rfl) (by kernel_rfl) (fun _ _ _ h => h) (Or.inl ⟨by rfl, ?_⟩) (by assumption) ?_; rotate_left 1; (focus (intro w hSw; (try dsimp only at hSw); go_simp; (try with_reducible rfl))); (try simp only [List.getElem_toArray, List.getElem_cons_zero, List.getElem_cons_succ, Act.put, List.setIfInBounds_toArray, List.set_cons_zero, List.set_cons_succ])); (refine wpAnyH_take (i := 17) (v := ?_) rfl (by kernel_rfl) (by kernel_rfl) (by kernel_rfl) (fun _ _ _ h => h) (Or.inl ⟨by rfl, ?_⟩) (by assumption) ?_; rotate_left 1; (focus (intro w hSw; (try dsimp only at hSw); go_simp; (try with_reducible rfl))); (try simp only [List.getElem_toArray, List.getElem_cons_zero, List.getElem_cons_succ, Act.put, List.setIfInBounds_toArray, List.set_cons_zero, List.set_cons_succ])); (refine wpAnyH_take (i := 18) (v := ?_) rfl (by kernel_rfl) (by kernel_rfl) (by kernel_rfl) (fun _ _ _ h => h) (Or.inl ⟨by rfl, ?_⟩) (by assumption) ?_; rotate_left 1; (focus (intro w hSw; (try dsimp only at hSw); go_simp; (try with_reducible rfl))); (try simp only [List.getElem_toArray, List.getElem_cons_zero, List.getElem_cons_succ, Act.put, List.setIfInBounds_toArray, List.set_cons_zero, List.set_cons_succ])); (refine wpAnyH_take (i := 19) (v := ?_) rfl (by kernel_rfl) (by kernel_rfl) (by kernel_rfl) (fun _ _ _ h => h) (Or.inl ⟨by rfl, ?_⟩) (by assumption) ?_; rotate_left 1; (focus (intro w hSw; (try dsimp only at hSw); go_simp; (try with_reducible rfl))); (try simp only [List.getElem_toArray, List.getElem_cons_zero, List.getElem_cons_succ, Act.put, List.setIfInBounds_toArray, List.set_cons_zero, List.set_cons_succ])); (refine wpAnyH_take (i := 20) (v := ?_) rfl (by kernel_rfl) (by kernel_rfl) (by kernel_rfl) (fun _ _ _ h => h) (Or.inl ⟨by rfl, ?_⟩) (by assumption) ?_; rotate_left 1; (focus (intro w hSw; (try dsimp only at hSw); go_simp; (try with_reducible rfl))); (try simp only [List.getElem_toArray, List.getElem_cons_zero, List.getElem_cons_succ, Act.put, List.setIfInBounds_toArray, List.set_cons_zero, List.set_cons_succ])); (refine wpAnyH_take (i := 21) (v := ?_) rfl (by kernel_rfl) (by kernel_rfl) (by kernel_rfl) (fun _ _ _ h => h) (Or.inl ⟨by rfl, ?_⟩) (by assumption) ?_; rotate_left 1; (focus (intro w hSw; (try dsimp only at hSw); go_simp; (try with_reducible rfl))); (try simp only [List.getElem_toArray, List.getElem_cons_zero, List.getElem_cons_succ, Act.put, List.setIfInBounds_toArray, List.set_cons_zero, List.set_cons_succ])); (refine wpAnyH_take (i := 22) (v := ?_) rfl (by kernel_rfl) (by kernel_rfl) (by kernel_rfl) (fun _ _ _ h => h) (Or.inl ⟨by rfl, ?_⟩) (by assumption) ?_; rotate_left 1; (focus (intro w hSw; (try dsimp only at hSw); go_simp; (try with_reducible rfl))); (try simp only [List.getElem_toArray, List.getElem_cons_zero, List.getElem_cons_succ, Act.put, List.setIfInBounds_toArray, List.set_cons_zero, List.set_cons_succ])); (refine wpAnyH_take (i := 23) (v := ?_) rfl (by kernel_rfl) (by kernel_rfl) (by kernel_rfl) (fun _ _ _ h => h) (Or.inl ⟨by rfl, ?_⟩) (by assumption) ?_; rotate_left 1; (focus (intro w hSw; (try dsimp only at hSw); go_simp; (try with_reducible rfl))); (try simp only [List.getElem_toArray, List.getElem_cons_zero, List.getElem_cons_succ, Act.put, List.setIfInBounds_toArray, List.set_cons_zero, List.set_cons_succ])); (refine wpAnyH_take (i := 24) (v := ?_) rfl (by kernel_rfl) (by kernel_rfl) (by kernel_rfl) (fun _ _ _ h => h) (Or.inl ⟨by rfl, ?_⟩) (by assumption) ?_; rotate_left 1; (focus (intro w hSw; (try dsimp only at hSw); go_simp; (try with_reducible rfl))); (try simp only [List.getElem_toArray, List.getElem_cons_zero, List.getElem_cons_succ, Act.put, List.setIfInBounds_toArray, List.set_cons_zero, List.set_cons_succ])); (refine wpAnyH_take (i := 25) (v := ?_) rfl (by kernel_rfl) (by kernel_rfl) (by kernel_rfl) (fun _ _ _ h => h) (Or.inl ⟨by rfl, ?_⟩) (by assumption) ?_; rotate_left 1; (focus (intro w hSw; (try dsimp only at hSw); go_simp; (try with_reducible rfl))); (try simp only [List.getElem_toArray, List.getElem_cons_zero, List.getElem_cons_succ, Act.put, List.setIfInBounds_toArray, List.set_cons_zero, List.set_cons_succ])); (refine wpAnyH_take (i := 26) (v := ?_) rfl (by kernel_rfl) (by kernel_rfl) (by kernel_rfl) (fun _ _ _ h => h) (Or.inl ⟨by rfl, ?_⟩) (by assumption) ?_; rotate_left 1; (focus (intro w hSw; (try dsimp only at hSw); go_simp; (try with_reducible rfl))); (try simp only [List.getElem_toArray, List.getElem_cons_zero, List.getElem_cons_succ, Act.put, List.setIfInBounds_toArray, List.set_cons_zero, List.set_cons_succ])); (refine wpAnyH_take (i := 27) (v := ?_) rfl (by kernel_rfl) (by kernel_rfl) (by kernel_rfl) (fun _ _ _ h => h) (Or.inl ⟨by rfl, ?_⟩) (by assumption) ?_; rotate_left 1; (focus (intro w hSw; (try dsimp only at hSw); go_simp; (try with_reducible rfl))); (try simp only [List.getElem_toArray, List.getElem_cons_zero, List.getElem_cons_succ, Act.put, List.setIfInBounds_toArray, List.set_cons_zero, List.set_cons_succ])); (refine wpAnyH_take (i := 28) (v := ?_) rfl (by kernel_rfl) (by kernel_rfl) (by kernel_rfl) (fun _ _ _ h => h) (Or.inl ⟨by rfl, ?_⟩) (by assumption) ?_; rotate_left 1; (focus (intro w hSw; (try dsimp only at hSw); go_simp; (try with_reducible rfl))); (try simp only [List.getElem_toArray, List.getElem_cons_zero, List.getElem_cons_succ, Act.put, List.setIfInBounds_toArray, List.set_cons_zero, List.set_cons_succ])); (refine wpAnyH_take (i := 29) (v := ?_) rfl (by kernel_rfl) (by kernel_rfl) (by kernel_rfl) (fun _ _ _ h => h) (Or.inl ⟨by rfl, ?_⟩) (by assumption) ?_; rotate_left 1; (focus (intro w hSw; (try dsimp only at hSw); go_simp; (try with_reducible rfl))); (try simp only [List.getElem_toArray, List.getElem_cons_zero, List.getElem_cons_succ, Act.put, List.setIfInBounds_toArray, List.set_cons_zero, List.set_cons_succ])); (refine wpAnyH_take (i := 30) (v := ?_) rfl (by kernel_rfl) (by kernel_rfl) (by kernel_rfl) (fun _ _ _ h => h) (Or.inl ⟨by rfl, ?_⟩) (by assumption) ?_; rotate_left 1; (focus (intro w hSw; (try dsimp only at hSw); go_simp; (try with_reducible rfl))); (try simp only [List.getElem_toArray, List.getElem_cons_zero, List.getElem_cons_succ, Act.put, List.setIfInBounds_toArray, List.set_cons_zero, List.set_cons_succ])); (refine wpAnyH_take (i := 31) (v := ?_) rfl (by kernel_rfl) (by kernel_rfl) (by kernel_rfl) (fun _ _ _ h => h) (Or.inl ⟨by rfl, ?_⟩) (by assumption) ?_; rotate_left 1; (focus (intro w hSw; (try dsimp only at hSw); go_simp; (try with_reducible rfl))); (try simp only [List.getElem_toArray, List.getElem_cons_zero, List.getElem_cons_succ, Act.put, List.setIfInBounds_toArray, List.set_cons_zero, List.set_cons_succ])); (refine wpAnyH_take (i := 32) (v := ?_) rfl (by kernel_rfl) (by kernel_rfl) (by kernel_rfl) (fun _ _ _ h => h) (Or.inl ⟨by rfl, ?_⟩) (by assumption) ?_; rotate_left 1; (focus (intro w hSw; (try dsimp only at hSw); go_simp; (try with_reducible rfl))); (try simp only [List.getElem_toArray, List.getElem_cons_zero, List.getElem_cons_succ, Act.put, List.setIfInBounds_toArray, List.set_cons_zero, List.set_cons_succ])); (refine wpAnyH_take (i := 33) (v := ?_) rfl (by kernel_rfl) (by kernel_rfl) (by kernel_rfl) (fun _ _ _ h => h) (Or.inl ⟨by rfl, ?_⟩) (by assumption) ?_; rotate_left 1; (focus (intro w hSw; (try dsimp only at hSw); go_simp; (try with_reducible rfl))); (try simp only [List.getElem_toArray, List.getElem_cons_zero, List.getElem_cons_succ, Act.put, List.setIfInBounds_toArray, List.set_cons_zero, List.set_cons_succ])); (refine wpAnyH_take (i := 34) (v := ?_) rfl (by kernel_rfl) (by kernel_rfl) (by kernel_rfl) (fun _ _ _ h => h) (Or.inl ⟨by rfl, ?_⟩) (by assumption) ?_; rotate_left 1; (focus (intro w hSw; (try dsimp only at hSw); go_simp; (try with_reducible rfl))); (try simp only [List.getElem_toArray, List.getElem_cons_zero, List.getElem_cons_succ, Act.put, List.setIfInBounds_toArray, List.set_cons_zero, List.set_cons_succ])); (refine wpAnyH_take (i := 35) (v := ?_) rfl (by kernel_rfl) (by kernel_rfl) (by kernel_rfl) (fun _ _ _ h => h) (Or.inl ⟨by rfl, ?_⟩) (by assumption) ?_; rotate_left 1; (focus (intro w hSw; (try dsimp only at hSw); go_simp; (try with_reducible rfl))); (try simp only [List.getElem_toArray, List.getElem_cons_zero, List.getElem_cons_succ, Act.put, List.setIfInBounds_toArray, List.set_cons_zero, List.set_cons_succ])); (refine wpAnyH_take (i := 36) (v := ?_) rfl (by kernel_rfl) (by kernel_rfl) (by kernel_rfl) (fun _ _ _ h => h) (Or.inl ⟨by rfl, ?_⟩) (by assumption) ?_; rotate_left 1; (focus (intro w hSw; (try dsimp only at hSw); go_simp; (try with_reducible rfl))); (try simp only [List.getElem_toArray, List.getElem_cons_zero, List.getElem_cons_succ, Act.put, List.setIfInBounds_toArray, List.set_cons_zero, List.set_cons_succ])); (refine wpAnyH_take (i := 37) (v := ?_) rfl (by kernel_rfl) (by kernel_rfl) (by kernel_rfl) (fun _ _ _ h => h) (Or.inl ⟨by rfl, ?_⟩) (by assumption) ?_; rotate_left 1; (focus (intro w hSw; (try dsimp only at hSw); go_simp; (try with_reducible rfl))); (try simp only [List.getElem_toArray, List.getElem_cons_zero, List.getElem_cons_succ, Act.put, List.setIfInBounds_toArray, List.set_cons_zero, List.set_cons_succ])); (refine wpAnyH_take (i := 38) (v := ?_) rfl (by kernel_rfl) (by kernel_rfl) (by kernel_rfl) (fun _ _ _ h => h) (Or.inl ⟨by rfl, ?_⟩) (by assumption) ?_; rotate_left 1; (focus (intro w hSw; (try dsimp only at hSw); go_simp; (try with_reducible rfl))); (try simp only [List.getElem_toArray, List.getElem_cons_zero, List.getElem_cons_succ, Act.put, List.setIfInBounds_toArray, List.set_cons_zero, List.set_cons_succ])); (refine wpAnyH_take (i := 39) (v := ?_) rfl (by kernel_rfl) (by kernel_rfl) (by kernel_rfl) (fun _ _ _ h => h) (Or.inl ⟨by rfl, ?_⟩) (by assumption) ?_; rotate_left 1; (focus (intro w hSw; (try dsimp only at hSw); go_simp; (try with_reducible rfl))); (try simp only [List.getElem_toArray, List.getElem_cons_zero, List.getElem_cons_succ, Act.put, List.setIfInBounds_toArray, List.set_cons_zero, List.set_cons_succ])); (refine wpAnyH_take (i := 40) (v := ?_) rfl (by kernel_rfl) (by kernel_rfl) (by kernel_rfl) (fun _ _ _ h => h) (Or.inl ⟨by rfl, ?_⟩) (by assumption) ?_; rotate_left 1; (focus (intro w hSw; (try dsimp only at hSw); go_simp; (try with_reducible rfl))); (try simp only [List.getElem_toArray, List.getElem_cons_zero, List.getElem_cons_succ, Act.put, List.setIfInBounds_toArray, List.set_cons_zero, List.set_cons_succ])); refine wpAnyH_done (by kernel_rfl) ?_ _)
      all_goals
        go_wp2_with fail
        exact bodyPost_ret (v := .bool true) (by simp [results, Tryd.results4, go_sem]) rfl ⟨rfl, HH6.out.chg.trans' (by first | exact (((Chg.refl [] wF).drew.trans' hc8).trans' hc9).trans' hc10 | exact (((Chg.refl [] wF).drew.trans' hc9).trans' hc8).trans' hc10)⟩
end Go.Proofs.YtaknmhipaifdkaaDoor
