/- The law BuildRenames, walked; a unit's program is small. -/
import Derived.Test.YtaknmhipaifdkaaJo
set_option linter.unusedVariables false
set_option linter.unusedSectionVars false
namespace Go.Proofs.Ytaknmhipaifdkaa
open Go.RowKit Go.AB
set_option linter.unusedSimpArgs false
set_option linter.unusedVariables false
set_option linter.unusedSectionVars false

theorem name_le {s : ByteArray} (h : nameB s = true) : s.size ≤ 24 := by
  unfold nameB at h
  have h1 : s.data.toList.length = s.size := Array.length_toList
  generalize s.data.toList = l at h h1
  cases l with
  | nil => simp [nameL] at h
  | cons x r =>
    simp only [nameL, Bool.and_eq_true, decide_eq_true_eq] at h
    simp only [List.length_cons] at h1
    omega
/-- Lists of at most n elements, with names. -/
structure InvP (p : PrgD) (n : Nat) : Prop where
  l0 : p.vars.length ≤ n
  l1 : p.vols.length ≤ n
  l2 : p.locks.length ≤ n
  l3 : p.bars.length ≤ n
  n0 : ∀ x ∈ p.vars, x.name.size ≤ 24
  n1 : ∀ x ∈ p.vols, x.name.size ≤ 24
  n2 : ∀ x ∈ p.locks, x.size ≤ 24
  n3 : ∀ x ∈ p.bars, x.name.size ≤ 24
theorem inv_put {p : PrgD} {n : Nat} (h : InvP p n) {d : DcD} (hd : d.name.size ≤ 24) : InvP (dcPut p d) (n + 1) := by
  obtain ⟨h0, h1, h2, h3, h4, h5, h6, h7⟩ := h
  have app : ∀ {l : List VarD}, (∀ x ∈ l, x.name.size ≤ 24) → ∀ x ∈ l ++ [(⟨d.name, d.val⟩ : VarD)], x.name.size ≤ 24 := fun {l} h x hx => by
    rcases List.mem_append.1 hx with hx | hx
    · exact h x hx
    · simp only [List.mem_singleton] at hx
      subst hx
      exact hd
  unfold dcPut
  split
  · exact ⟨by simp only [List.length_append, List.length_cons, List.length_nil]; omega, by simp only; omega, by simp only; omega, by simp only; omega, app h4, h5, h6, h7⟩
  · split
    · exact ⟨by simp only; omega, by simp only [List.length_append, List.length_cons, List.length_nil]; omega, by simp only; omega, by simp only; omega, h4, app h5, h6, h7⟩
    · split
      · refine ⟨by simp only; omega, by simp only; omega, by simp only [List.length_append, List.length_cons, List.length_nil]; omega, by simp only; omega, h4, h5, fun x hx => ?_, h7⟩
        rcases List.mem_append.1 hx with hx | hx
        · exact h6 x hx
        · simp only [List.mem_singleton] at hx
          subst hx
          exact hd
      · exact ⟨by simp only; omega, by simp only; omega, by simp only; omega, by simp only [List.length_append, List.length_cons, List.length_nil]; omega, h4, h5, h6, app h7⟩
theorem inv_decls : ∀ (ds : List DcD) {st : Nms} {p : PrgD} {q : Nms × PrgD} {n : Nat}, InvP p n → declsD ds st p = .ok q → InvP q.2 (n + ds.length)
  | [], st, p, q, n, hp, h => by
    simp only [declsD, Except.ok.injEq] at h
    subst h
    exact hp
  | d :: ds, st, p, q, n, hp, h => by
    unfold declsD at h
    split at h
    · cases h
    · rename_i r hr
      obtain ⟨h1, h2, h3, h4⟩ := declnD_ok hr
      rw [h4] at h
      have h5 := inv_decls ds (inv_put hp (name_le (declD_ok h3).1)) h
      rw [List.length_cons]
      rwa [show n + (ds.length + 1) = n + 1 + ds.length from by omega]
theorem code_lens {st : Nms} {b : List (ByteArray × Nat)} : ∀ (l : List ItD) (all : Nat) (c : List InsD) (p : List PlcD) {r : Nat × List InsD × List PlcD}, codeGo st b l all c p = .ok r → r.2.1.length ≤ c.length + l.length ∧ r.2.2.length ≤ p.length + l.length
  | [], all, c, p, r, h => by
    simp only [codeGo, Except.ok.injEq] at h
    subst h
    exact ⟨Nat.le_refl _, Nat.le_refl _⟩
  | x :: l, all, c, p, r, h => by
    unfold codeGo at h
    split at h
    · have := code_lens l _ _ _ h
      simp only [List.length_cons]
      omega
    · split at h
      · cases h
      · split at h
        · cases h
        · have := code_lens l _ _ _ h
          simp only [List.length_cons, List.length_append, List.length_nil] at this ⊢
          omega
theorem thrs_small {st : Nms} : ∀ (ks : List BkD) (all : Nat) (ts : List ThrD) {r : List ThrD}, (∀ k ∈ ks, k.name.size ≤ 24 ∧ k.items.length ≤ 1048576) → (∀ t ∈ ts, t.name.size ≤ 1048576 ∧ t.code.length ≤ 1048576 ∧ t.places.length ≤ 1048576) → thrsD st ks all ts = .ok r →
    r.length = ts.length + ks.length ∧ ∀ t ∈ r, t.name.size ≤ 1048576 ∧ t.code.length ≤ 1048576 ∧ t.places.length ≤ 1048576
  | [], all, ts, r, hk, ht, h => by
    simp only [thrsD, Except.ok.injEq] at h
    subst h
    exact ⟨rfl, ht⟩
  | k :: ks, all, ts, r, hk, ht, h => by
    unfold thrsD at h
    split at h
    · cases h
    · rename_i q hq
      have hq2 : q.2.name.size ≤ 1048576 ∧ q.2.code.length ≤ 1048576 ∧ q.2.places.length ≤ 1048576 := by
        have h1 := hk k (List.mem_cons_self ..)
        unfold thrD at hq
        split at hq
        · cases hq
        · split at hq
          · cases hq
          · rename_i r hr
            cases hq
            have h2 := code_lens _ _ _ _ hr
            simp only [List.length_nil] at h2 ⊢
            omega
      have h3 := thrs_small ks _ _ (fun y hy => hk y (List.mem_cons_of_mem _ hy)) (fun t htm => by
        rcases List.mem_append.1 htm with htm | htm
        · exact ht t htm
        · simp only [List.mem_singleton] at htm
          subst htm
          exact hq2) h
      refine ⟨?_, h3.2⟩
      rw [h3.1]
      simp only [List.length_append, List.length_cons, List.length_nil]
      omega
theorem prog_small {u : UnD} {p : PrgD} (h : progD u = .ok p) (hu : SmallU u) : SmallP p := by
  obtain ⟨q, st, ts, h1, h2, h3, rfl⟩ := prog_parts h
  have g1 := inv_decls u.decls (n := 0) (p := ⟨[], [], [], [], []⟩) ⟨by simp, by simp, by simp, by simp, by simp, by simp, by simp, by simp⟩ h1
  have g2 := thrs_small u.blocks 0 [] (fun k hk => ⟨name_le (blocks_have _ h2 k hk).1, (hu.bn k hk).2.1⟩) (by simp) h3
  have hd := hu.decls
  have hb := hu.blocks
  obtain ⟨a0, a1, a2, a3, b0, b1, b2, b3⟩ := g1
  refine ⟨by simp only; omega, by simp only; omega, by simp only; omega, by simp only; omega, ?_, fun x hx => Nat.le_trans (b0 x hx) (by omega), fun x hx => Nat.le_trans (b1 x hx) (by omega), fun x hx => Nat.le_trans (b2 x hx) (by omega), fun x hx => Nat.le_trans (b3 x hx) (by omega), g2.2⟩
  show ts.length ≤ _
  rw [g2.1]
  simpa using hb
theorem small_ren {u : UnD} (hu : SmallU u) (hf : FitU u) : SmallU ⟨u.decls.map rnD, u.blocks.map rnB⟩ := by
  refine ⟨by simpa using hu.decls, by simpa using hu.blocks, fun d hd => ?_, fun k hk => ?_⟩
  · obtain ⟨x, hx, rfl⟩ := List.mem_map.1 hd
    have := hf.decls x hx
    show (zN x.name).size ≤ _
    rw [zN_pre, pre1_size]
    omega
  · obtain ⟨x, hx, rfl⟩ := List.mem_map.1 hk
    refine ⟨?_, ?_, fun y hy => ?_⟩
    · have := hf.blocks x hx
      show (zN x.name).size ≤ _
      rw [zN_pre, pre1_size]
      omega
    · show (x.items.map rnI).length ≤ _
      rw [List.length_map]
      exact (hu.bn x hx).2.1
    · obtain ⟨z, hz, rfl⟩ := List.mem_map.1 hy
      have := hf.items x hx z hz
      unfold rnI
      simp only
      split
      · rw [yN_pre, pre1_size]; omega
      · split
        · omega
        · rw [zN_pre, pre1_size]; omega

set_option maxHeartbeats 8000000 in
set_option maxRecDepth 100000 in
theorem renames_walk {v : Value} {u : UnD} (w : World) (hv : UnV w v u) (hu : SmallU u) : Calls Try.prog 3 #[v] w fun e w' => e = .returned (.bool true) ∧ Chg [] w w' := by
  obtain ⟨ad, D, cd, ab, L, cb, bs0, rfl, hub, -⟩ := unv_boxed hv
  have hc0 := (Chg.refl [] w).alloc (.cells #[.slice ad D cd, .slice ab L cb] 25)
  have hv0 := hv.keep hc0
  have u0 := hub.u0
  have u1 := hub.u1
  obtain ⟨wA, hwA⟩ : ∃ wA, w.alloc (.cells #[.slice ad D cd, .slice ab L cb] 25) = wA := ⟨_, rfl⟩
  rw [hwA] at hc0 hv0 u0 u1
  have HC0 := hid hc0
  have HV := hid (fun W (h : Chg [] wA W) => hv0.keep h)
  have HB := hid (fun W (h : Chg [] wA W) => And.intro (h.cell u0 (by simp)) (h.cell u1 (by simp)))
  have HU := hid hu
  have HWK := hid (fun W => works_calls W)
  clear hub hv hv0 hu hc0 u0 u1
  go_enter Try.func3, Try.ntmps3
  go_upto_region 1 with fail
  try rw [hwA]
  clear hwA
  go_wp2_with (go_at_call 7; refine halt (fun X hX => ?_))
  rw [hX.out]; clear hX
  refine (HWK.out _).mono ?_
  rintro e w1 ⟨rfl, hc1⟩
  have HC1 := hid hc1
  obtain ⟨u0, u1⟩ := HB.out _ hc1
  have HL1 := hid (lend_calls w1 (HV.out _ hc1) HU.out)
  clear hc1 HWK
  go_wp2_with (go_at_call 9; refine halt (fun X hX => ?_))
  rw [hX.out]; clear hX
  refine HL1.out.mono ?_
  rintro e w2 ⟨vd1, rd1, vt1, rt1, os1, rfl, hun1, hbk1⟩
  have hu1 := hun1.unV
  rw [hbk1] at hu1
  have HP1 := hid (program_calls (u := ⟨u.decls, u.blocks⟩) HU.out w2 hu1)
  have HC2 := hid (HC1.out.trans' hun1.hp.chg)
  clear hun1 hbk1 hu1 HL1
  go_wp2_with (go_at_call 8; refine halt (fun X hX => ?_))
  rw [hX.out]; clear hX
  refine HP1.out.mono ?_
  rintro e w3 (⟨f, hd, rfl, hc3⟩ | ⟨p, vp, hd, rfl, hpn, hc3⟩)
  · have hfc := prog_code hd
    have hne : (f.code != 0) = true := by simp; omega
    have hne2 : (f.code == 0) = false := by simp; omega
    have hne3 : decide (f.code = 0) = false := by simp; omega
    have HCF := hid (HC2.out.trans' hc3)
    simp only [noPrg]
    clear hd hc3 hfc
    go_wp2_with fail
    exact bodyPost_ret (v := .bool true) (by simp [results, Try.results3, go_sem]) rfl ⟨rfl, HC0.out.trans' ((HCF.out.alloc _).alloc _)⟩
  · have hcf := HC2.out.trans' hc3
    have HD := hid hd
    have HPN := hid hpn.now
    obtain ⟨pa0, pn0, pc0, pa1, pn1, pc1, pa2, pn2, pc2, pa3, pn3, pc3, pa4, pn4, pc4, rfl⟩ : ∃ (a0 : Option Addr) (n0 c0 : Nat) (a1 : Option Addr) (n1 c1 : Nat) (a2 : Option Addr) (n2 c2 : Nat) (a3 : Option Addr) (n3 c3 : Nat) (a4 : Option Addr) (n4 c4 : Nat), vp = .agg #[.slice a0 n0 c0, .slice a1 n1 c1, .slice a2 n2 c2, .slice a3 n3 c3, .slice a4 n4 c4] := by
      obtain ⟨v0, v1, v2, v3, v4, ts, rfl, l0, l1, l2, l3, l4, _⟩ := HPN.out
      obtain ⟨_, _, rfl, _⟩ := l0.len
      obtain ⟨_, _, rfl, _⟩ := l1.len
      obtain ⟨_, _, rfl, _⟩ := l2.len
      obtain ⟨_, _, rfl, _⟩ := l3.len
      obtain ⟨_, _, rfl, _⟩ := l4.len
      exact ⟨_, _, _, _, _, _, _, _, _, _, _, _, _, _, _, rfl⟩
    have hh3 := ((Hp.start (S0 := []) w3 (by simp)).box (.cells #[.slice pa0 pn0 pc0, .slice pa1 pn1 pc1, .slice pa2 pn2 pc2, .slice pa3 pn3 pc3, .slice pa4 pn4 pc4] 32)).box (.cells #[.int .i64 0, .int .i64 0, .int .i64 0] 37)
    simp only [World.size_alloc] at hh3
    have HH3 := hid hh3
    have HCF := hid (hcf.trans' hh3.chg)
    obtain ⟨y0, y1⟩ := HB.out _ HCF.out
    have HFT := hid (fit_calls _ (HV.out _ HCF.out) HU.out)
    clear hd hc3 hpn hcf hh3 HP1 HC2 HC1 u0 u1
    by_cases hf : FitU u
    · have HF := hid hf
      rw [eqB_true hf] at HFT
      clear hf
      go_wp2_with (go_at_call 10; refine halt (fun X hX => ?_))
      rw [hX.out]; clear hX
      refine HFT.out.mono ?_
      rintro e w4 ⟨rfl, hc4⟩
      have HC4 := hid (HCF.out.trans' hc4)
      obtain ⟨y0, y1⟩ := HB.out _ HC4.out
      have HR := hid (renamed_calls w4 (HV.out _ HC4.out) HU.out)
      have HH4 := hid (HH3.out.same hc4)
      clear hc4 HFT HCF
      go_wp2_with (go_at_call 11; refine halt (fun X hX => ?_))
      rw [hX.out]; clear hX
      refine HR.out.mono ?_
      rintro e w5 ⟨vd5, rd5, vt5, rt5, os5, rfl, hun5, hbk5⟩
      have hu5 := hun5.unV
      rw [hbk5] at hu5
      have HP5 := hid (program_calls (u := ⟨u.decls.map rnD, u.blocks.map rnB⟩) (small_ren HU.out HF.out) w5 hu5)
      have HC5 := hid (HC4.out.trans' hun5.hp.chg)
      have HH5 := hid (HH4.out.same hun5.hp.chg)
      clear hun5 hbk5 hu5 HR HH4 HC4 y0 y1
      go_wp2_with (go_at_call 8; refine halt (fun X hX => ?_))
      rw [hX.out]; clear hX
      refine HP5.out.mono ?_
      rintro e w6 (⟨f, hd, rfl, hc6⟩ | ⟨q, vq, hd, rfl, hqn, hc6⟩)
      · rw [ren_prog HD.out HF.out] at hd
        cases hd
      · rw [ren_prog HD.out HF.out] at hd
        cases hd
        have HQN := hid hqn.now
        obtain ⟨qa0, qn0, qc0, qa1, qn1, qc1, qa2, qn2, qc2, qa3, qn3, qc3, qa4, qn4, qc4, rfl⟩ : ∃ (a0 : Option Addr) (n0 c0 : Nat) (a1 : Option Addr) (n1 c1 : Nat) (a2 : Option Addr) (n2 c2 : Nat) (a3 : Option Addr) (n3 c3 : Nat) (a4 : Option Addr) (n4 c4 : Nat), vq = .agg #[.slice a0 n0 c0, .slice a1 n1 c1, .slice a2 n2 c2, .slice a3 n3 c3, .slice a4 n4 c4] := by
          obtain ⟨v0, v1, v2, v3, v4, ts, rfl, l0, l1, l2, l3, l4, _⟩ := HQN.out
          obtain ⟨_, _, rfl, _⟩ := l0.len
          obtain ⟨_, _, rfl, _⟩ := l1.len
          obtain ⟨_, _, rfl, _⟩ := l2.len
          obtain ⟨_, _, rfl, _⟩ := l3.len
          obtain ⟨_, _, rfl, _⟩ := l4.len
          exact ⟨_, _, _, _, _, _, _, _, _, _, _, _, _, _, _, rfl⟩
        have hh6 := ((HH5.out.same hc6).box (.cells #[.slice qa0 qn0 qc0, .slice qa1 qn1 qc1, .slice qa2 qn2 qc2, .slice qa3 qn3 qc3, .slice qa4 qn4 qc4] 32)).box (.cells #[.int .i64 0, .int .i64 0, .int .i64 0] 37)
        simp only [World.size_alloc] at hh6
        have hc66 := ((Chg.refl [] w6).alloc (.cells #[.slice qa0 qn0 qc0, .slice qa1 qn1 qc1, .slice qa2 qn2 qc2, .slice qa3 qn3 qc3, .slice qa4 qn4 qc4] 32)).alloc (.cells #[.int .i64 0, .int .i64 0, .int .i64 0] 37)
        obtain ⟨wF, hwF⟩ : ∃ wF, (w6.alloc (.cells #[.slice qa0 qn0 qc0, .slice qa1 qn1 qc1, .slice qa2 qn2 qc2, .slice qa3 qn3 qc3, .slice qa4 qn4 qc4] 32)).alloc (.cells #[.int .i64 0, .int .i64 0, .int .i64 0] 37) = wF := ⟨_, rfl⟩
        have HCE := hid (HC0.out.trans' (HC5.out.trans' (hc6.trans' hc66)))
        have HQV := hid (HQN.out.keep hc66)
        rw [hwF] at hh6 HCE HQV
        have HPV := hid (HPN.out.keep hh6.chg)
        have HSP := hid (prog_small HD.out HU.out)
        have HSQ := hid (prog_small (ren_prog HD.out HF.out) (small_ren HU.out HF.out))
        have g0 := hh6.cell (i := 0) rfl 0
        have q0 := hh6.cell (i := 1) rfl 0
        have q1 := hh6.cell (i := 1) rfl 1
        have q2 := hh6.cell (i := 1) rfl 2
        have q3 := hh6.cell (i := 1) rfl 3
        have q4 := hh6.cell (i := 1) rfl 4
        have p0 := hh6.cell (i := 3) rfl 0
        have p1 := hh6.cell (i := 3) rfl 1
        have p2 := hh6.cell (i := 3) rfl 2
        have p3 := hh6.cell (i := 3) rfl 3
        have p4 := hh6.cell (i := 3) rfl 4
        simp only [List.getElem?_toArray, List.getElem?_cons_zero, List.getElem?_cons_succ] at g0 q0 q1 q2 q3 q4 p0 p1 p2 p3 p4
        have HNC := hid (fun W (h : Chg [] wF W) => nameless_calls W (HQV.out.keep h) HSQ.out)
        have HSC := hid (fun W (h : Chg [] wF W) v' (hv' : PrgV W v' p) => (same_calls p p HSP.out HSP.out W (HPV.out.keep h) hv').mono (R' := fun e w' => e = .returned (.bool true) ∧ Chg [] W w') (fun e w' hh => ⟨by rw [hh.1, eqB_true rfl], hh.2⟩))
        have HWF := hid hwF
        clear hh6 hc6 hc66 hqn HP5 HH5 HC5 hwF
        go_upto_region 7 with fail
        rw [HWF.out]
        (refine wp_region_held_drew (S := (fun w' => w'.cell? ⟨w6.heap.size + 1, 0, none⟩ = some (.int .i64 0) ∧ w'.cell? ⟨w6.heap.size, 0, none⟩ = some (.slice qa0 qn0 qc0) ∧ w'.cell? ⟨w6.heap.size, 1, none⟩ = some (.slice qa1 qn1 qc1) ∧ w'.cell? ⟨w6.heap.size, 2, none⟩ = some (.slice qa2 qn2 qc2) ∧ w'.cell? ⟨w6.heap.size, 3, none⟩ = some (.slice qa3 qn3 qc3) ∧ w'.cell? ⟨w6.heap.size, 4, none⟩ = some (.slice qa4 qn4 qc4) ∧ w'.cell? ⟨w3.heap.size, 0, none⟩ = some (.slice pa0 pn0 pc0) ∧ w'.cell? ⟨w3.heap.size, 1, none⟩ = some (.slice pa1 pn1 pc1) ∧ w'.cell? ⟨w3.heap.size, 2, none⟩ = some (.slice pa2 pn2 pc2) ∧ w'.cell? ⟨w3.heap.size, 3, none⟩ = some (.slice pa3 pn3 pc3) ∧ w'.cell? ⟨w3.heap.size, 4, none⟩ = some (.slice pa4 pn4 pc4))) (by kernel_rfl) (by exact ⟨g0, q0, q1, q2, q3, q4, p0, p1, p2, p3, p4⟩) (fun hHeld => ?_); (refine wpAnyH_take (i := 0) (v := ?_) rfl (by kernel_rfl) (by kernel_rfl) (by kernel_rfl) (fun _ _ _ h => h) (Or.inl ⟨by rfl, ?_⟩) (by assumption) ?_; rotate_left 1; (focus (intro w hSw; (try dsimp only at hSw); go_simp; (try with_reducible rfl))); (try simp only [List.getElem_toArray, List.getElem_cons_zero, List.getElem_cons_succ, Act.put, List.setIfInBounds_toArray, List.set_cons_zero, List.set_cons_succ])); (refine wpAnyH_take (i := 1) (v := ?_) rfl (by kernel_rfl) (by kernel_rfl) (by kernel_rfl) (fun _ _ _ h => h) (Or.inl ⟨by rfl, ?_⟩) (by assumption) ?_; rotate_left 1; (focus (intro w hSw; (try dsimp only at hSw); go_simp; (try with_reducible rfl))); (try simp only [List.getElem_toArray, List.getElem_cons_zero, List.getElem_cons_succ, Act.put, List.setIfInBounds_toArray, List.set_cons_zero, List.set_cons_succ])); (refine wpAnyH_take (i := 2) (v := ?_) rfl (by kernel_rfl) (by kernel_rfl) (by kernel_rfl) (fun _ _ _ h => h) (Or.inl ⟨by rfl, ?_⟩) (by assumption) ?_; rotate_left 1; (focus (intro w hSw; (try dsimp only at hSw); go_simp; (try with_reducible rfl))); (try simp only [List.getElem_toArray, List.getElem_cons_zero, List.getElem_cons_succ, Act.put, List.setIfInBounds_toArray, List.set_cons_zero, List.set_cons_succ])); (refine wpAnyH_take (i := 3) (v := ?_) rfl (by kernel_rfl) (by kernel_rfl) (by kernel_rfl) (fun _ _ _ h => h) (Or.inl ⟨by rfl, ?_⟩) (by assumption) ?_; rotate_left 1; (focus (intro w hSw; (try dsimp only at hSw); go_simp; (try with_reducible rfl))); (try simp only [List.getElem_toArray, List.getElem_cons_zero, List.getElem_cons_succ, Act.put, List.setIfInBounds_toArray, List.set_cons_zero, List.set_cons_succ])); (refine wpAnyH_take (i := 4) (v := ?_) rfl (by kernel_rfl) (by kernel_rfl) (by kernel_rfl) (fun _ _ _ h => h) (Or.inl ⟨by rfl, ?_⟩) (by assumption) ?_; rotate_left 1; (focus (intro w hSw; (try dsimp only at hSw); go_simp; (try with_reducible rfl))); (try simp only [List.getElem_toArray, List.getElem_cons_zero, List.getElem_cons_succ, Act.put, List.setIfInBounds_toArray, List.set_cons_zero, List.set_cons_succ])); (refine wpAnyH_take (i := 5) (v := ?_) rfl (by kernel_rfl) (by kernel_rfl) (by kernel_rfl) (fun _ _ _ h => h) (Or.inl ⟨by rfl, ?_⟩) (by assumption) ?_; rotate_left 1; (focus (intro w hSw; (try dsimp only at hSw); go_simp; (try with_reducible rfl))); (try simp only [List.getElem_toArray, List.getElem_cons_zero, List.getElem_cons_succ, Act.put, List.setIfInBounds_toArray, List.set_cons_zero, List.set_cons_succ])); (refine wpAnyH_ready (rs := [6]) (by kernel_rfl) (by simp) ?_; refine AllReadyH.cons rfl (fun K hK => ?_) AllReadyH.nil; go_simp; go_at_call 13; refine (HNC.out _ (Chg.refl [] wF).drew).mono ?_; rintro e w8 ⟨v', rfl, hpr⟩; rw [less_ren] at hpr; obtain ⟨v0, v1, v2, v3, v4, s0, s1, s2, s3, s4, zs, rfl, hpp, hpt⟩ := hpr; have hpv := prg_lst hpp hpt; have hc8 := hpp.chg; (refine hK.out _ _ (by exact (by exact ⟨hc8.cell hHeld.1 (by simp), hc8.cell hHeld.2.1 (by simp), hc8.cell hHeld.2.2.1 (by simp), hc8.cell hHeld.2.2.2.1 (by simp), hc8.cell hHeld.2.2.2.2.1 (by simp), hc8.cell hHeld.2.2.2.2.2.1 (by simp), hc8.cell hHeld.2.2.2.2.2.2.1 (by simp), hc8.cell hHeld.2.2.2.2.2.2.2.1 (by simp), hc8.cell hHeld.2.2.2.2.2.2.2.2.1 (by simp), hc8.cell hHeld.2.2.2.2.2.2.2.2.2.1 (by simp), hc8.cell hHeld.2.2.2.2.2.2.2.2.2.2 (by simp)⟩)) (fun hHeld => ?_); clear hK K; (try simp only [List.getElem_toArray, List.getElem_cons_zero, List.getElem_cons_succ, Act.put, List.setIfInBounds_toArray, List.set_cons_zero, List.set_cons_succ]))); (refine wpAnyH_ready (rs := [7]) (by kernel_rfl) (by simp) ?_; refine AllReadyH.cons rfl (fun K hK => ?_) AllReadyH.nil; go_simp; go_at_call 12; refine (HSC.out _ ((Chg.refl [] wF).drew.trans' hc8) _ hpv).mono ?_; rintro e w9 ⟨rfl, hc9⟩; (refine hK.out _ _ (by exact (by exact ⟨hc9.cell hHeld.1 (by simp), hc9.cell hHeld.2.1 (by simp), hc9.cell hHeld.2.2.1 (by simp), hc9.cell hHeld.2.2.2.1 (by simp), hc9.cell hHeld.2.2.2.2.1 (by simp), hc9.cell hHeld.2.2.2.2.2.1 (by simp), hc9.cell hHeld.2.2.2.2.2.2.1 (by simp), hc9.cell hHeld.2.2.2.2.2.2.2.1 (by simp), hc9.cell hHeld.2.2.2.2.2.2.2.2.1 (by simp), hc9.cell hHeld.2.2.2.2.2.2.2.2.2.1 (by simp), hc9.cell hHeld.2.2.2.2.2.2.2.2.2.2 (by simp)⟩)) (fun hHeld => ?_); clear hK K; (try simp only [List.getElem_toArray, List.getElem_cons_zero, List.getElem_cons_succ, Act.put, List.setIfInBounds_toArray, List.set_cons_zero, List.set_cons_succ]))); (refine wpAnyH_take (i := 8) (v := ?_) rfl (by kernel_rfl) (by kernel_rfl) (by kernel_rfl) (fun _ _ _ h => h) (Or.inl ⟨by rfl, ?_⟩) (by assumption) ?_; rotate_left 1; (focus (intro w hSw; (try dsimp only at hSw); go_simp; (try with_reducible rfl))); (try simp only [List.getElem_toArray, List.getElem_cons_zero, List.getElem_cons_succ, Act.put, List.setIfInBounds_toArray, List.set_cons_zero, List.set_cons_succ])); (refine wpAnyH_take (i := 9) (v := ?_) rfl (by kernel_rfl) (by kernel_rfl) (by kernel_rfl) (fun _ _ _ h => h) (Or.inl ⟨by rfl, ?_⟩) (by assumption) ?_; rotate_left 1; (focus (intro w hSw; (try dsimp only at hSw); go_simp; (try with_reducible rfl))); (try simp only [List.getElem_toArray, List.getElem_cons_zero, List.getElem_cons_succ, Act.put, List.setIfInBounds_toArray, List.set_cons_zero, List.set_cons_succ])); refine wpAnyH_done (by kernel_rfl) ?_ _)
        go_wp2_with fail
        exact bodyPost_ret (v := .bool true) (by simp [results, Try.results3, go_sem]) rfl ⟨rfl, HCE.out.trans' (((Chg.refl [] wF).drew.trans' hc8).trans' hc9)⟩
    · rw [eqB_false hf] at HFT
      clear hf
      go_wp2_with (go_at_call 10; refine halt (fun X hX => ?_))
      rw [hX.out]; clear hX
      refine HFT.out.mono ?_
      rintro e w4 ⟨rfl, hc4⟩
      have HC4 := hid (HCF.out.trans' hc4)
      clear hc4
      go_wp2_with fail
      exact bodyPost_ret (v := .bool true) (by simp [results, Try.results3, go_sem]) rfl ⟨rfl, HC0.out.trans' HC4.out⟩
end Go.Proofs.Ytaknmhipaifdkaa
