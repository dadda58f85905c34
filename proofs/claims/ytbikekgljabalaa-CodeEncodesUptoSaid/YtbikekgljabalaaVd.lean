/- The document's Body: the walk. -/
import Derived.Test.YtbikekgljabalaaVc
namespace Go.Proofs.Ytbikekgljabalaa
open Go.RowKit Go.AB
set_option linter.unusedSimpArgs false
set_option linter.unusedVariables false

set_option maxHeartbeats 8000000 in
set_option maxRecDepth 100000 in
theorem q_body (p : PrgD) (hw64 : Wf64 p) (hg : prgB p = true) {v : Value} (w : World) (hv : PrgV w v p) :
    Calls Try.prog 25 #[v] w (NewB 5 w (bodyL p)) := by
  obtain ⟨a, b, c, d, e, ts, rfl, h1, h2, h3, h4, h5, h6, h7⟩ := hv
  have htl : ts.length = p.thrs.length := by rw [← h6, List.length_map]
  obtain ⟨a1, c1, rfl, _⟩ := h1.len
  obtain ⟨a2, c2, rfl, _⟩ := h2.len
  obtain ⟨a3, c3, rfl, _⟩ := h3.len
  obtain ⟨a4, c4, rfl, _⟩ := h4.len
  obtain ⟨a5, c5, rfl, _⟩ := h5.len
  have hg' := hg
  unfold prgB at hg'
  simp only [Bool.and_eq_true, decide_eq_true_eq, List.all_eq_true] at hg'
  obtain ⟨⟨⟨⟨⟨g1, g2⟩, g3⟩, g4⟩, g5⟩, g6, g7⟩ := hg'
  have vb : ∀ xs : List VarD, varsB xs = true → xs.length ≤ 4096 ∧ ∀ x ∈ xs, x.name.size ≤ 24 := fun xs h => by
    unfold varsB at h
    simpa only [Bool.and_eq_true, decide_eq_true_eq, List.all_eq_true] using h
  have hl1 := varsL_len g1 hw64.vars
  have hl2 := varsL_len g2 hw64.vols
  have lb : p.locks.length ≤ 4096 ∧ ∀ x ∈ p.locks, x.size ≤ 24 := by
    unfold locksB at g3
    simpa only [Bool.and_eq_true, decide_eq_true_eq, List.all_eq_true] using g3
  have bb := vb _ g4
  have body : bodyL p = varsL p.vars ++ varsL p.vols ++ (shortB p.locks.length ++ p.locks.flatMap textB) ++ varsL p.bars ++ (shortB p.thrs.length ++ p.thrs.flatMap thrL) := rfl
  obtain ⟨n1, hn1⟩ : ∃ n, p.vars.length = n := ⟨_, rfl⟩
  obtain ⟨n2, hn2⟩ : ∃ n, p.vols.length = n := ⟨_, rfl⟩
  obtain ⟨n3, hn3⟩ : ∃ n, p.locks.length = n := ⟨_, rfl⟩
  obtain ⟨n4, hn4⟩ : ∃ n, p.bars.length = n := ⟨_, rfl⟩
  obtain ⟨n5, hn5⟩ : ∃ n, p.thrs.length = n := ⟨_, rfl⟩
  rw [hn5] at htl
  rw [htl] at h5 ⊢
  rw [hn1] at h1 ⊢
  rw [hn2] at h2 ⊢
  rw [hn3] at lb h3 ⊢
  rw [hn4] at bb h4 ⊢
  obtain ⟨K, hK⟩ : ∃ K : List (Nat × Obj), K = [(w.heap.size, Obj.cells #[.slice a1 n1 c1, .slice a2 n2 c2, .slice a3 n3 c3, .slice a4 n4 c4, .slice a5 n5 c5] 28 (0, 0))] := ⟨_, rfl⟩
  have hst : On w (w.alloc (.cells #[.slice a1 n1 c1, .slice a2 n2 c2, .slice a3 n3 c3, .slice a4 n4 c4, .slice a5 n5 c5] 28)) [] none 0 0 K := by rw [hK]; exact (On.nil w w (Chg.refl _ _)).box _
  have FA : Hid (∀ u l a b c K2, On w u l a b c K2 → (∀ q ∈ K, q ∈ K2) → u.cell? ⟨w.heap.size, 0, none⟩ = some (.slice a1 n1 c1) ∧ u.cell? ⟨w.heap.size, 1, none⟩ = some (.slice a2 n2 c2) ∧ u.cell? ⟨w.heap.size, 2, none⟩ = some (.slice a3 n3 c3) ∧ u.cell? ⟨w.heap.size, 3, none⟩ = some (.slice a4 n4 c4) ∧ u.cell? ⟨w.heap.size, 4, none⟩ = some (.slice a5 n5 c5)) := by
    subst hK
    exact hid fun u l a b c K2 h hk => ⟨h.cell (hk _ (List.mem_singleton_self _)) 0, h.cell (hk _ (List.mem_singleton_self _)) 1, h.cell (hk _ (List.mem_singleton_self _)) 2, h.cell (hk _ (List.mem_singleton_self _)) 3, h.cell (hk _ (List.mem_singleton_self _)) 4⟩
  have lv1 := fun u (hu : Chg [] (w.alloc (.cells #[.slice a1 n1 c1, .slice a2 n2 c2, .slice a3 n3 c3, .slice a4 n4 c4, .slice a5 n5 c5] 28)) u) => q_layVars p.vars (fun x hx => ⟨(vb _ g1).2 x hx, hw64.vars x hx⟩) (vb _ g1).1 (hst.keep hu) (by simp) (by rw [← hn1] at h1; exact h1)
  have lv2 := fun u l a b c (hu : On w u l a b c K) (hl : l.length ≤ 137438953472) => q_layVars p.vols (fun x hx => ⟨(vb _ g2).2 x hx, hw64.vols x hx⟩) (vb _ g2).1 hu hl (by rw [← hn2] at h2; exact h2)
  rw [hn1] at lv1
  rw [hn2] at lv2
  have hst0 := FA.out _ _ _ _ _ _ hst (fun _ h => h)
  have LV1 := hid lv1
  have LV2 := hid lv2
  have HB := hid body
  have V3 := hid h3
  have V4 := hid h4
  have V5 := hid h5
  have HN := hid (And.intro hn3 (And.intro hn4 hn5))
  have HQ := hid (And.intro lb.2 (And.intro bb.2 (And.intro g6 (And.intro hw64.bars hw64.thrs))))
  have HT := hid (And.intro h6 h7)
  have b3 := lb.1
  have b4 := bb.1
  have b5 : n5 ≤ 65535 := by rw [← hn5]; exact g5
  have HL12 := hid (And.intro hl1 hl2)
  obtain ⟨A1, hA1⟩ : ∃ x, varsL p.vars = x := ⟨_, rfl⟩
  obtain ⟨A2, hA2⟩ : ∃ x, varsL p.vols = x := ⟨_, rfl⟩
  rw [hA1] at LV1 HB HL12
  rw [hA2] at LV2 HB HL12
  obtain ⟨y0, y1, _⟩ := hst0
  have HST := hid hst
  clear h1 h2 h3 h4 h5 h6 h7 lv1 lv2 vb lb bb g1 g2 g3 g4 g6 g7 hl1 hl2 hn1 hn2 hn3 hn4 hn5 body hg hA1 hA2 htl hw64 hK hst
  have hL0' : A1.length ≤ 180234 ∧ A2.length ≤ 180234 := HL12.out
  go_enter Try.func25, Try.ntmps25
  go_wp2_with fail
  go_region_held3 (fun w' => w'.cell? ⟨w.heap.size, 0, none⟩ = some (.slice a1 n1 c1) ∧ w'.cell? ⟨w.heap.size, 1, none⟩ = some (.slice a2 n2 c2))
    (first | exact ⟨y0, y1⟩ | exact ⟨(FA.out _ _ _ _ _ _ HW1.out (fun _ h => h)).1, (FA.out _ _ _ _ _ _ HW1.out (fun _ h => h)).2.1⟩ | exact ⟨(FA.out _ _ _ _ _ _ HW2.out (fun _ h => h)).1, (FA.out _ _ _ _ _ _ HW2.out (fun _ h => h)).2.1⟩)
    (first
    | (go_at_call 68; (with_reducible refine (LV1.out _ ?_).mono ?_); (first | exact Chg.of_drewN [] _ 1 | exact (Chg.refl [] _).drew); rintro e w1 ⟨ao1, m1, cap1, rfl, HW1⟩; rw [List.nil_append] at HW1)
    | (go_at_call 68; (with_reducible refine (LV2.out _ _ _ _ _ HW1.out (by omega)).mono ?_); rintro e w2 ⟨ao2, m2, cap2, rfl, HW2⟩))
  clear y0 y1
  obtain ⟨_, _, y2, _⟩ := FA.out _ _ _ _ _ _ HW2.out (fun _ h => h)
  have HS2 := hid (q_short_on HW2.out (by rw [List.length_append]; omega) n3 (by omega))
  go_wp2_with (go_at_call 69; (with_reducible refine HS2.out.mono ?_); rintro e w3 ⟨ao3, m3, cap3, rfl, HW3⟩; obtain ⟨_, _, x2, _⟩ := FA.out _ _ _ _ _ _ HW3.out (fun _ h => h))
  clear y2 x2 HS2 HW1 LV1 LV2 HST
  obtain ⟨L0, hL0⟩ : ∃ x, A1 ++ A2 ++ shortB n3 = x := ⟨_, rfl⟩
  have hL0l : L0.length ≤ 400000 := by
    have h1 := shortB_10 (n := n3) (by unfold U64; omega)
    rw [← hL0]
    simp only [List.length_append]
    omega
  rw [hL0] at HW3
  have HE0 := hid hL0
  clear hL0 hL0' HW2
  go_loopw [3, 4] (fun x vi wr => ∃ k ao m cap, k ≤ n3 ∧ x = .slice ao m cap ∧ vi = .int .i64 (k : Nat) ∧ Hid (On w wr (L0 ++ (p.locks.take k).flatMap textB) ao m cap K)) (fun _ vi _ => n3 - (intOf vi).toNat)
  case atStart => exact ⟨0, ao3, m3, cap3, Nat.zero_le _, rfl, rfl, by show On _ _ _ _ _ _ _; simpa using HW3.out⟩
  case round =>
    obtain ⟨k, ao4, m4, cap4, hk, rfl, rfl, hw⟩ := hrel
    have hle : ((p.locks.take k).flatMap textB).length ≤ 140000 := by
      have h2 := flat_le (f := textB) (m := 34) (p.locks.take k) (fun x hx => textB_len (HQ.out.1 x (List.mem_of_mem_take hx)))
      have h3 : (p.locks.take k).length ≤ 4096 := by rw [List.length_take]; omega
      omega
    obtain ⟨_, _, y2, y3, _⟩ := FA.out _ _ _ _ _ _ hw.out (fun _ h => h)
    by_cases hlt : k < n3
    · have hkl : k < p.locks.length := by rw [HN.out.1]; exact hlt
      obtain ⟨bb, off, hao, hcl⟩ := (V3.out.keep hw.out.chg).at strC_len hkl (by omega)
      have zl : (k : Int) < (n3 : Int) := by omega
      have c0 : wr.cell? ⟨bb, off + k, none⟩ = some (.string p.locks[k]) := by have := hcl 0 (by omega); simpa [strC] using this
      have hbx := HQ.out.1 _ (List.getElem_mem hkl)
      have htk : p.locks.take (k + 1) = p.locks.take k ++ [p.locks[k]] := List.take_succ_eq_append_getElem hkl
      obtain ⟨nm, hX⟩ : ∃ X, p.locks[k] = X := ⟨_, rfl⟩
      rw [hX] at c0 hbx htk
      have ht := q_text_on hw.out (by rw [List.length_append]; omega) nm (by omega)
      have hfin : L0 ++ (p.locks.take k).flatMap textB ++ textB nm = L0 ++ (p.locks.take (k + 1)).flatMap textB := by
        rw [htk, List.flatMap_append]
        simp [List.append_assoc]
      rw [hfin] at ht
      have HT1 := hid ht
      subst hao
      clear ht hcl hw hX htk hfin hle
      go_wp2_with (go_at_call 70; (with_reducible refine HT1.out.mono ?_); rintro e w5 ⟨ao5, m5, cap5, rfl, HW5⟩)
      go_roundw
      case rel => exact ⟨k + 1, ao5, m5, cap5, by omega, rfl, by go_num, HW5⟩
      case measure => simp [intOf]; omega
    · obtain rfl : n3 = k := by omega
      have hf := hw.out
      rw [List.take_of_length_le (by rw [HN.out.1]; exact Nat.le_refl _)] at hf hle
      obtain ⟨wo, hwo⟩ : ∃ x : World, x = wr := ⟨_, rfl⟩
      rw [← hwo] at hf y2 y3 ⊢
      obtain ⟨L1, hL1⟩ : ∃ x, L0 ++ p.locks.flatMap textB = x := ⟨_, rfl⟩
      have hL1l : L1.length ≤ 540000 := by rw [← hL1, List.length_append]; omega
      rw [hL1] at hf
      have HE1 := hid hL1
      have HSH := hid (q_short_on hf (by omega) n4 (by omega))
      clear hw hf hL1 hle hwo
      go_wp2_with (go_at_call 69; (with_reducible refine HSH.out.mono ?_); rintro e w5 ⟨ao5, m5, cap5, rfl, HW5⟩; obtain ⟨_, _, _, x3, _⟩ := FA.out _ _ _ _ _ _ HW5.out (fun _ h => h))
      clear y2 y3 x3
      obtain ⟨L2, hL2⟩ : ∃ x, L1 ++ shortB n4 = x := ⟨_, rfl⟩
      have hL2l : L2.length ≤ 550000 := by
        have h1 := shortB_10 (n := n4) (by unfold U64; omega)
        rw [← hL2, List.length_append]
        omega
      rw [hL2] at HW5
      have HE2 := hid hL2
      clear hL2 HSH HW3
      go_loopw [3, 5] (fun x vi wr => ∃ k ao m cap, k ≤ n4 ∧ x = .slice ao m cap ∧ vi = .int .i64 (k : Nat) ∧ Hid (On w wr (L2 ++ (p.bars.take k).flatMap varB) ao m cap K)) (fun _ vi _ => n4 - (intOf vi).toNat)
      case atStart => exact ⟨0, ao5, m5, cap5, Nat.zero_le _, rfl, rfl, by show On _ _ _ _ _ _ _; simpa using HW5.out⟩
      case round =>
        obtain ⟨k, ao6, m6, cap6, hk, rfl, rfl, hw⟩ := hrel
        have hle : ((p.bars.take k).flatMap varB).length ≤ 182000 := by
          have h2 := flat_le (f := varB) (m := 44) (p.bars.take k) (fun x hx => varB_len (HQ.out.2.1 x (List.mem_of_mem_take hx)) (HQ.out.2.2.2.1 x (List.mem_of_mem_take hx)))
          have h3 : (p.bars.take k).length ≤ 4096 := by rw [List.length_take]; omega
          omega
        obtain ⟨_, _, _, y3, y4⟩ := FA.out _ _ _ _ _ _ hw.out (fun _ h => h)
        by_cases hlt : k < n4
        · have hkl : k < p.bars.length := by rw [HN.out.2.1]; exact hlt
          obtain ⟨bb, off, hao, hcl⟩ := V4.out.at varC_len hkl (by omega)
          have zl : (k : Int) < (n4 : Int) := by omega
          have z0 : (0 : Int) ≤ (k : Int) := by omega
          have d0 : w.cell? ⟨bb, off + k * 2, none⟩ = some (.string p.bars[k].name) := hcl 0 (by omega)
          have d1 : w.cell? ⟨bb, off + k * 2 + 1, none⟩ = some (.int .i64 p.bars[k].first) := hcl 1 (by omega)
          have hbx := HQ.out.2.1 _ (List.getElem_mem hkl)
          have hby := HQ.out.2.2.2.1 _ (List.getElem_mem hkl)
          have htk : p.bars.take (k + 1) = p.bars.take k ++ [p.bars[k]] := List.take_succ_eq_append_getElem hkl
          obtain ⟨X, hX⟩ : ∃ X, p.bars[k] = X := ⟨_, rfl⟩
          rw [hX] at d0 d1 hbx htk hby
          obtain ⟨nm, fi⟩ := X
          simp only at d0 d1 hbx hby
          have ht := fun u (hu : Chg [] wr u) => q_text_on (hw.out.keep hu) (by rw [List.length_append]; omega) nm (by omega)
          have hs := fun (u : World) a b c (hu : On w u (L2 ++ (p.bars.take k).flatMap varB ++ textB nm) a b c K) => q_signed_on hu (by
            have := textB_len hbx
            simp only [List.length_append]
            omega) fi hby
          have hfin : L2 ++ (p.bars.take k).flatMap varB ++ textB nm ++ shortB (zig fi) = L2 ++ (p.bars.take (k + 1)).flatMap varB := by
            rw [htk, List.flatMap_append]
            simp [varB, List.append_assoc]
          rw [hfin] at hs
          have HT2 := hid ht
          have HS2 := hid hs
          have HDD := hid (And.intro d0 d1)
          have e0 := hw.out.chg.cell d0 (by simp)
          have e1 := hw.out.chg.cell d1 (by simp)
          subst hao
          clear ht hs hcl hw hX htk hfin hle d0 d1
          go_wp2_with fail
          go_region_held3 (fun w' => w'.cell? ⟨w.heap.size, 3, none⟩ = some (.slice (some ⟨bb, off, none⟩) n4 c4) ∧ w'.cell? ⟨bb, off + k * 2, none⟩ = some (.string nm) ∧ w'.cell? ⟨bb, off + k * 2 + 1, none⟩ = some (.int .i64 fi))
            (first | exact ⟨y3, e0, e1⟩ | exact ⟨(FA.out _ _ _ _ _ _ HW7.out (fun _ h => h)).2.2.2.1, HW7.out.chg.cell HDD.out.1 (by simp), HW7.out.chg.cell HDD.out.2 (by simp)⟩ | exact ⟨(FA.out _ _ _ _ _ _ HW8.out (fun _ h => h)).2.2.2.1, HW8.out.chg.cell HDD.out.1 (by simp), HW8.out.chg.cell HDD.out.2 (by simp)⟩)
            (first
            | (go_at_call 70; (with_reducible refine (HT2.out _ ?_).mono ?_); (first | exact Chg.of_drewN [] _ 1 | exact (Chg.refl [] _).drew); rintro e w7 ⟨ao7, m7, cap7, rfl, HW7⟩)
            | (go_at_call 71; (with_reducible refine (HS2.out _ _ _ _ HW7.out).mono ?_); rintro e w8 ⟨ao8, m8, cap8, rfl, HW8⟩))
          go_wp2
          go_roundw
          case rel => exact ⟨k + 1, ao8, m8, cap8, by omega, rfl, by go_num, HW8⟩
          case measure => simp [intOf]; omega
        · obtain rfl : n4 = k := by omega
          have hf := hw.out
          rw [List.take_of_length_le (by rw [HN.out.2.1]; exact Nat.le_refl _)] at hf hle
          obtain ⟨wp, hwp⟩ : ∃ x : World, x = wr := ⟨_, rfl⟩
          rw [← hwp] at hf y3 y4 ⊢
          obtain ⟨L3, hL3⟩ : ∃ x, L2 ++ p.bars.flatMap varB = x := ⟨_, rfl⟩
          have hL3l : L3.length ≤ 740000 := by rw [← hL3, List.length_append]; omega
          rw [hL3] at hf
          have HE3 := hid hL3
          have HSH := hid (q_short_on hf (by omega) n5 (by omega))
          clear hw hf hL3 hle hwp
          go_wp2_with (go_at_call 69; (with_reducible refine HSH.out.mono ?_); rintro e w7 ⟨ao7, m7, cap7, rfl, HW7⟩; obtain ⟨_, _, _, _, x4⟩ := FA.out _ _ _ _ _ _ HW7.out (fun _ h => h))
          clear y3 y4 x4
          obtain ⟨L4, hL4⟩ : ∃ x, L3 ++ shortB n5 = x := ⟨_, rfl⟩
          have hL4l : L4.length ≤ 750000 := by
            have h1 := shortB_10 (n := n5) (by unfold U64; omega)
            rw [← hL4, List.length_append]
            omega
          rw [hL4] at HW7
          have HE4 := hid hL4
          clear hL4 HSH HW5
          go_loopw [3, 6] (fun x vi wr => ∃ k ao m cap, k ≤ n5 ∧ x = .slice ao m cap ∧ vi = .int .i64 (k : Nat) ∧ Hid (On w wr (L4 ++ (p.thrs.take k).flatMap thrL) ao m cap K)) (fun _ vi _ => n5 - (intOf vi).toNat)
          case atStart => exact ⟨0, ao7, m7, cap7, Nat.zero_le _, rfl, rfl, by show On _ _ _ _ _ _ _; simpa using HW7.out⟩
          case round =>
            obtain ⟨k, ao8, m8, cap8, hk, rfl, rfl, hw⟩ := hrel
            have hle : ((p.thrs.take k).flatMap thrL).length ≤ 10000000000 := by
              have h2 := flat_le (f := thrL) (m := 140000) (p.thrs.take k) (fun x hx => by
                have hm := List.mem_of_mem_take hx
                have h1 := thrL_len (HQ.out.2.2.1 x hm) (HQ.out.2.2.2.2 x hm)
                have h2 := thr_code (HQ.out.2.2.1 x hm)
                omega)
              have h3 : (p.thrs.take k).length ≤ 65535 := by rw [List.length_take]; omega
              omega
            obtain ⟨_, _, _, _, y4⟩ := FA.out _ _ _ _ _ _ hw.out (fun _ h => h)
            by_cases hlt : k < n5
            · have hts : ts.length = n5 := by have h := congrArg List.length HT.out.1; rw [List.length_map, HN.out.2.2] at h; exact h
              have hkt : k < ts.length := by omega
              have hkl : k < p.thrs.length := by rw [HN.out.2.2]; exact hlt
              have hge : p.thrs[k] = ts[k].t := by
                have h := List.getElem_of_eq HT.out.1.symm hkl
                rw [h, List.getElem_map]
              obtain ⟨bb, off, hao, hcl⟩ := (V5.out.keep hw.out.chg).at thrC_len hkt (by omega)
              have zl : (k : Int) < (n5 : Int) := by omega
              have d0 : wr.cell? ⟨bb, off + k * 3, none⟩ = some (.string ts[k].t.name) := hcl 0 (by omega)
              have d1 : wr.cell? ⟨bb, off + k * 3 + 1, none⟩ = some ts[k].code := hcl 1 (by omega)
              have d2 : wr.cell? ⟨bb, off + k * 3 + 2, none⟩ = some ts[k].places := hcl 2 (by omega)
              have hbx := HQ.out.2.2.1 _ (List.getElem_mem hkl)
              have hby := HQ.out.2.2.2.2 _ (List.getElem_mem hkl)
              have hvv := HT.out.2 _ (List.getElem_mem hkt)
              have htk : p.thrs.take (k + 1) = p.thrs.take k ++ [p.thrs[k]] := List.take_succ_eq_append_getElem hkl
              rw [hge] at hbx hby htk
              obtain ⟨X, hX⟩ : ∃ X, ts[k] = X := ⟨_, rfl⟩
              rw [hX] at d0 d1 d2 hbx htk hby hvv
              obtain ⟨⟨nm, code, places⟩, vc, vp⟩ := X
              simp only at d0 d1 d2 hbx hby hvv htk
              obtain ⟨aq, cq, rfl, _⟩ := hvv.1.len
              obtain ⟨ap, cp, rfl, _⟩ := hvv.2.len
              have ht' := hbx
              unfold thrB at ht'
              simp only [Bool.and_eq_true, decide_eq_true_eq, List.all_eq_true] at ht'
              obtain ⟨⟨⟨t1, t2⟩, t3⟩, t4, t5⟩ := ht'
              obtain ⟨n, hn⟩ : ∃ n, code.length = n := ⟨_, rfl⟩
              have hn2 := t3.trans hn
              have hfin : L4 ++ (p.thrs.take k).flatMap thrL ++ textB nm ++ shortB n ++ inssL 0 code places = L4 ++ (p.thrs.take (k + 1)).flatMap thrL := by
                rw [htk, List.flatMap_append]
                simp [List.append_assoc, thrL, hn]
              have HC := hid hvv.1
              have HP := hid hvv.2
              rw [hn] at d1 t2 HC
              rw [hn2] at d2 HP
              obtain ⟨L5, hL5⟩ : ∃ x, L4 ++ (p.thrs.take k).flatMap thrL = x := ⟨_, rfl⟩
              have hL5l : L5.length ≤ 10001000000 := by rw [← hL5, List.length_append]; omega
              rw [hL5] at hfin hw
              have hwb := hw.out.box (.cells #[.string nm, .slice aq n cq, .slice ap n cp] 59)
              obtain ⟨bx, hbxe⟩ : ∃ bx, wr.heap.size = bx := ⟨_, rfl⟩
              obtain ⟨K2, hK2⟩ : ∃ K2 : List (Nat × Obj), (bx, Obj.cells #[.string nm, .slice aq n cq, .slice ap n cp] 59 (0, 0)) :: K = K2 := ⟨_, rfl⟩
              rw [hbxe, hK2] at hwb
              have FB : Hid (∀ u l a b c, On w u l a b c K2 → u.cell? ⟨bx, 0, none⟩ = some (.string nm) ∧ u.cell? ⟨bx, 1, none⟩ = some (.slice aq n cq) ∧ u.cell? ⟨bx, 2, none⟩ = some (.slice ap n cp)) := by
                subst hK2
                exact hid fun u l a b c h => ⟨h.cell (List.mem_cons_self ..) 0, h.cell (List.mem_cons_self ..) 1, h.cell (List.mem_cons_self ..) 2⟩
              have HSUB : Hid (∀ q ∈ K, q ∈ K2) := by
                subst hK2
                exact hid fun q hq => List.mem_cons_of_mem _ hq
              have HTX := hid (fun u (hu : Chg [] (wr.alloc (.cells #[.string nm, .slice aq n cq, .slice ap n cp] 59)) u) => q_text_on (hwb.keep hu) (by omega) nm (by omega))
              have HSH := hid (fun u a b c (hu : On w u (L5 ++ textB nm) a b c K2) => q_short_on hu (by have := textB_len t1; rw [List.length_append]; omega) n (by omega))
              have HTT := hid (And.intro t4 (And.intro t5 hby))
              have HNN := hid (And.intro hn hn2)
              have HFIN := hid hfin
              obtain ⟨x0, x1, x2⟩ := FB.out _ _ _ _ _ hwb
              have htl1 := textB_len t1
              subst hao
              clear hcl hw hX htk hfin hle hge hts hvv hbx hby hn hn2 hL5 hK2 t3 t4 t5 hwb
              go_wp2_with fail
              (try rw [hbxe])
              go_region_held3 (fun w' => w'.cell? ⟨bx, 0, none⟩ = some (.string nm) ∧ w'.cell? ⟨bx, 1, none⟩ = some (.slice aq n cq))
                (first | exact ⟨x0, x1⟩ | exact ⟨(FB.out _ _ _ _ _ HW9.out).1, (FB.out _ _ _ _ _ HW9.out).2.1⟩ | exact ⟨(FB.out _ _ _ _ _ HW10.out).1, (FB.out _ _ _ _ _ HW10.out).2.1⟩)
                (first
                | (go_at_call 70; (with_reducible refine (HTX.out _ ?_).mono ?_); (first | exact Chg.of_drewN [] _ 1 | exact (Chg.refl [] _).drew); rintro e w9 ⟨ao9, m9, cap9, rfl, HW9⟩)
                | (go_at_call 69; (with_reducible refine (HSH.out _ _ _ _ HW9.out).mono ?_); rintro e w10 ⟨ao10, m10, cap10, rfl, HW10⟩))
              clear x0 x1 x2 d0 d1 d2 y4 hbxe
              obtain ⟨x0, x1, x2⟩ := FB.out _ _ _ _ _ HW10.out
              go_wp2_with fail
              clear x0 x1 x2
              go_loopw [3, 8, 9] (fun x vl vi wr => ∃ (k : Nat) (ln : Int) (ao : Option Addr) (m cap : Nat), k ≤ n ∧ x = .slice ao m cap ∧ vl = .int .i64 ln ∧ vi = .int .i64 k ∧ 0 ≤ ln ∧ ln ≤ 2147483647 ∧ Hid (ln = (if k = 0 then 0 else (places.getD (k - 1) ⟨0, 0⟩).line) ∧ On w wr (L5 ++ textB nm ++ shortB n ++ inssL 0 (code.take k) (places.take k)) ao m cap K2)) (fun _ _ vi _ => n - (intOf vi).toNat)
              case atStart => exact ⟨0, 0, ao10, m10, cap10, Nat.zero_le _, rfl, rfl, rfl, by omega, by omega, rfl, by simpa [inssL] using HW10.out⟩
              case round =>
                obtain ⟨j, ln, ao11, m11, cap11, hj, rfl, rfl, rfl, l0, l1, hh⟩ := hrel
                obtain ⟨hln, hw⟩ := hh.out
                obtain ⟨_, x1, x2⟩ := FB.out _ _ _ _ _ hw
                by_cases hlt2 : j < n
                · have hkc : j < code.length := by rw [HNN.out.1]; exact hlt2
                  have hkp : j < places.length := by rw [HNN.out.2]; exact hlt2
                  have hst := inssL_step j 0 code places hkc hkp
                  rw [← hln] at hst
                  have hib := HTT.out.1 _ (List.getElem_mem hkc)
                  have hpb := HTT.out.2.1 _ (List.getElem_mem hkp)
                  have h64 := HTT.out.2.2 _ (List.getElem_mem hkc)
                  have hln2 : (if j + 1 = 0 then 0 else (places.getD (j + 1 - 1) ⟨0, 0⟩).line) = places[j].line := by simp [List.getD, hkp]
                  obtain ⟨bc, oc, hac, hcc⟩ := HC.out.at insC_len hkc (by omega)
                  obtain ⟨bp, op, hap, hcp⟩ := HP.out.at plcC_len hkp (by omega)
                  have zj : (j : Int) < (n : Int) := by omega
                  have zj0 : (0 : Int) ≤ (j : Int) := by omega
                  have f0 : w.cell? ⟨bc, oc + j * 5, none⟩ = some (.int .i64 code[j].op) := hcc 0 (by omega)
                  have f1 : w.cell? ⟨bc, oc + j * 5 + 1, none⟩ = some (.int .i64 code[j].a) := hcc 1 (by omega)
                  have f2 : w.cell? ⟨bc, oc + j * 5 + 2, none⟩ = some (.int .i64 code[j].b) := hcc 2 (by omega)
                  have f3 : w.cell? ⟨bc, oc + j * 5 + 3, none⟩ = some (.int .i64 code[j].c) := hcc 3 (by omega)
                  have f4 : w.cell? ⟨bc, oc + j * 5 + 4, none⟩ = some (.int .i64 code[j].n) := hcc 4 (by omega)
                  have q0 : w.cell? ⟨bp, op + j * 2, none⟩ = some (.int .i64 places[j].line) := hcp 0 (by omega)
                  have q1 : w.cell? ⟨bp, op + j * 2 + 1, none⟩ = some (.int .i64 places[j].col) := hcp 1 (by omega)
                  obtain ⟨L6, hL6⟩ : ∃ L, L5 ++ textB nm ++ shortB n ++ inssL 0 (code.take j) (places.take j) = L := ⟨_, rfl⟩
                  have hL6l : L6.length ≤ 137400000000 := by
                    have b2 := shortB_10 (n := n) (by unfold U64; omega)
                    have b3 := inssL_le (code.take j) (places.take j) 0 (by omega) (by omega) (fun x hx => HTT.out.2.2 x (List.mem_of_mem_take hx)) (fun x hx => HTT.out.2.1 x (List.mem_of_mem_take hx))
                    have b4 : (code.take j).length ≤ 4096 := by rw [List.length_take]; omega
                    rw [← hL6]
                    simp only [List.length_append]
                    omega
                  rw [hL6] at hw
                  have hnext : L6 ++ insL ln code[j] places[j] = L5 ++ textB nm ++ shortB n ++ inssL 0 (code.take (j + 1)) (places.take (j + 1)) := by
                    rw [← hL6, hst]
                    simp [List.append_assoc]
                  have hli := fun u (hu : Chg [] wr u) => q_layInstr hib hpb h64 l0 l1 (hw.keep hu) (by omega)
                  rw [hnext] at hli
                  have hpo := plcB_out hpb
                  have HCC := hid (And.intro f0 (And.intro f1 (And.intro f2 (And.intro f3 (And.intro f4 (And.intro q0 q1))))))
                  obtain ⟨X, hX⟩ : ∃ x, code[j] = x := ⟨_, rfl⟩
                  obtain ⟨Y, hY⟩ : ∃ x, places[j] = x := ⟨_, rfl⟩
                  rw [hX, hY] at HCC hli
                  rw [hY] at hpo hln2
                  obtain ⟨i0, i1, i2, i3, i4⟩ := X
                  obtain ⟨pl, cl⟩ := Y
                  simp only at HCC hli hpo hln2
                  obtain ⟨u1, u2, u3, u4⟩ := hpo
                  have HLI := hid hli
                  have HLN := hid hln2
                  have HALL : Hid (∀ u, Chg [] w u → u.cell? ⟨bc, oc + j * 5, none⟩ = some (.int .i64 i0) ∧ u.cell? ⟨bc, oc + j * 5 + 1, none⟩ = some (.int .i64 i1) ∧ u.cell? ⟨bc, oc + j * 5 + 2, none⟩ = some (.int .i64 i2) ∧ u.cell? ⟨bc, oc + j * 5 + 3, none⟩ = some (.int .i64 i3) ∧ u.cell? ⟨bc, oc + j * 5 + 4, none⟩ = some (.int .i64 i4) ∧ u.cell? ⟨bp, op + j * 2, none⟩ = some (.int .i64 pl) ∧ u.cell? ⟨bp, op + j * 2 + 1, none⟩ = some (.int .i64 cl)) := hid fun u hu => by
                    obtain ⟨a0, a1, a2, a3, a4, a5, a6⟩ := HCC.out
                    exact ⟨hu.cell a0 (by simp), hu.cell a1 (by simp), hu.cell a2 (by simp), hu.cell a3 (by simp), hu.cell a4 (by simp), hu.cell a5 (by simp), hu.cell a6 (by simp)⟩
                  have hnow := HALL.out wr hw.chg
                  subst hac
                  subst hap
                  clear hst hib hpb h64 hln2 hcc hcp f0 f1 f2 f3 f4 q0 q1 hL6 hnext hli HCC hX hY hw hln hh
                  go_wp2_with fail
                  go_region_held3 (fun w' => w'.cell? ⟨bx, 1, none⟩ = some (.slice (some ⟨bc, oc, none⟩) n cq) ∧ w'.cell? ⟨bx, 2, none⟩ = some (.slice (some ⟨bp, op, none⟩) n cp) ∧ w'.cell? ⟨bc, oc + j * 5, none⟩ = some (.int .i64 i0) ∧ w'.cell? ⟨bc, oc + j * 5 + 1, none⟩ = some (.int .i64 i1) ∧ w'.cell? ⟨bc, oc + j * 5 + 2, none⟩ = some (.int .i64 i2) ∧ w'.cell? ⟨bc, oc + j * 5 + 3, none⟩ = some (.int .i64 i3) ∧ w'.cell? ⟨bc, oc + j * 5 + 4, none⟩ = some (.int .i64 i4) ∧ w'.cell? ⟨bp, op + j * 2, none⟩ = some (.int .i64 pl) ∧ w'.cell? ⟨bp, op + j * 2 + 1, none⟩ = some (.int .i64 cl))
                    (first | exact ⟨x1, x2, hnow⟩ | exact ⟨(FB.out _ _ _ _ _ HW12.out).2.1, (FB.out _ _ _ _ _ HW12.out).2.2, HALL.out _ HW12.out.chg⟩)
                    (first
                    | (go_at_call 72; (with_reducible refine (HLI.out _ ?_).mono ?_); (first | exact Chg.of_drewN [] _ 1 | exact (Chg.refl [] _).drew); rintro e w12 ⟨ao12, m12, cap12, rfl, HW12⟩))
                  clear x1 x2 hnow
                  obtain ⟨_, x1, x2⟩ := FB.out _ _ _ _ _ HW12.out
                  obtain ⟨_, _, _, _, _, v0, _⟩ := HALL.out _ HW12.out.chg
                  go_wp2
                  go_roundw
                  case rel => exact ⟨j + 1, pl, ao12, m12, cap12, by omega, rfl, rfl, by go_num, u1, u2, ⟨HLN.out.symm, HW12.out⟩⟩
                  case measure => simp [intOf]; omega
                · obtain rfl : j = n := by omega
                  have hf := hw
                  rw [List.take_of_length_le (by rw [HNN.out.1]; exact Nat.le_refl _), List.take_of_length_le (by rw [HNN.out.2]; exact Nat.le_refl _), HFIN.out] at hf
                  have HF := hid (hf.sub HSUB.out)
                  clear hw hf hh hln
                  go_wp2
                  go_roundw
                  case rel => exact ⟨k + 1, ao11, m11, cap11, by omega, rfl, by go_num, HF⟩
                  case measure => simp [intOf]; omega
            · obtain rfl : n5 = k := by omega
              have hf := hw.out
              rw [List.take_of_length_le (by rw [HN.out.2.2]; exact Nat.le_refl _)] at hf
              have hbody : L4 ++ p.thrs.flatMap thrL = bodyL p := by
                rw [HB.out, ← HE4.out, ← HE3.out, ← HE2.out, ← HE1.out, ← HE0.out]
                simp [varsL, List.append_assoc, HN.out.1, HN.out.2.1, HN.out.2.2]
              rw [hbody] at hf
              have HF := hid hf.newB
              clear hw hf hbody hle
              go_wp2
              go_ret
              exact HF.out
end Go.Proofs.Ytbikekgljabalaa
