/- Walks of the trace laws: TraceTells, its first loop. -/
import Derived.Test.YtbghkodcfedebaaGreatDoorTxj
set_option linter.unusedVariables false
set_option linter.unusedSectionVars false
set_option linter.unusedSimpArgs false
namespace Go.Proofs.YtbghkodcfedebaaGreatDoor
open Go.RowKit Go.AB
set_option linter.unusedSimpArgs false
set_option linter.unusedVariables false
set_option linter.unusedSectionVars false
theorem enc_big {l : List Ev} {b : List UInt8} {c : Nat} (hen : encE l = (b, c)) (hn : l.length ≤ 1048576) : b.length ≤ 1073741824 := by
  by_cases h0 : c = 0
  · subst h0
    have := enc_short hen hn
    omega
  · unfold encE at hen
    split at hen
    · split at hen
      · simp only [Prod.mk.injEq] at hen; rw [← hen.1]; simp
      · simp only [Prod.mk.injEq] at hen; exact absurd hen.2.symm h0
    · simp only [Prod.mk.injEq] at hen; rw [← hen.1]; simp
set_option maxHeartbeats 16000000 in
set_option maxRecDepth 100000 in
theorem tells_walk (w : World) (hv : VarsT w) {v : Value} (l : List Ev) (hl : Lst evC 3 w v l) (hn : l.length ≤ 1048576) :
    Calls Tryz.prog 3 #[v] w fun e w' => e = .returned (.bool true) ∧ Chg [] w w' := by
  have HW := hid (works_calls w hv)
  obtain ⟨⟨t, et⟩, ht⟩ : ∃ d, textD l = d := ⟨_, rfl⟩
  obtain ⟨⟨EB, ec⟩, hen⟩ : ∃ d, encE l = d := ⟨_, rfl⟩
  have HT := hid (And.intro ht hen)
  have hbig : EB.length ≤ 1073741824 := by
    by_cases h0 : ec = 0
    · subst h0
      have := enc_short hen hn
      omega
    · unfold encE at hen
      split at hen
      · split at hen
        · simp only [Prod.mk.injEq] at hen; rw [← hen.1]; simp
        · simp only [Prod.mk.injEq] at hen; exact absurd hen.2.symm h0
      · simp only [Prod.mk.injEq] at hen; rw [← hen.1]; simp
  clear ht hen
  have HNUM := hid num_calls
  have HLT := hid fun W (h : Chg [] w W) => lent_calls l W (hl.keep h) hn
  obtain ⟨ao, cap, rfl, -⟩ := hl.len
  obtain ⟨n, hln⟩ : ∃ n, l.length = n := ⟨_, rfl⟩
  rw [hln] at hl hn HLT ⊢
  have HL := hid hl
  have HN := hid hln
  have HV := hid hv
  have HPL := hid fun x W => plain_calls x W
  have HRP := hid fun x W => rplain_calls x W
  clear hl hln hv
  go_enter Tryz.func3, Tryz.ntmps3
  go_wp2_with (go_at_call 9; refine HW.out.mono ?_; rintro e w1 ⟨rfl, hc1⟩; refine halt (fun XX hXX => ?_))
  have HC1 := hid hc1
  clear hc1 HW
  rw [hXX.out]; clear hXX XX
  go_wp2_with (go_at_call 10; refine (HLT.out _ HC1.out).mono ?_; rintro e w2 ⟨n', g, cg, hn', rfl, hlt⟩; refine halt (fun XX hXX => ?_))
  obtain rfl : n = n' := hn'
  have HLE := hid hlt
  have HWG := hid (Nat.le_trans HC1.out.size hlt.new)
  have HC2 := hid (HC1.out.trans' hlt.chg)
  have hpre := (ev_pre hlt.row HN.out).view
  have HGV : Hid (Lst evC 3 w2 (.slice (some ⟨g, 0, none⟩) n cg) l) := hid (by
    have h := hpre
    rw [← HN.out] at h ⊢
    exact h)
  clear hlt hpre HLT HC1
  rw [hXX.out]; clear hXX XX
  go_upto_region 5 with fail
  go_loopg [4] n (fun gk v4 wr => ∃ i : Nat, v4 = .int .i64 i ∧ Hid (gk + i = n) ∧ i ≤ n ∧ Hid (Chg [] w2 wr))
  case atStart => exact ⟨0, rfl, hid (by omega), by omega, hid (Chg.refl _ _)⟩
  case round =>
    obtain ⟨i, rfl, HG, hin, HR⟩ := hrel
    by_cases hi : i < n
    · have hil : i < l.length := by rw [HN.out]; exact hi
      obtain ⟨b1, o1, hb1, x0, x1, x2⟩ := ev_at (HGV.out.keep HR.out) hil
      simp only [Option.some.injEq, Addr.mk.injEq, and_true] at hb1
      obtain ⟨rfl, rfl⟩ := hb1
      simp only [Nat.zero_add] at x0 x1 x2
      obtain ⟨b2, o2, rfl, y0, y1, y2⟩ := ev_at (HL.out.keep (HC2.out.trans' HR.out)) hil
      obtain ⟨X, hX⟩ : ∃ X, l[i] = X := ⟨_, rfl⟩
      rw [hX] at x0 x1 x2 y0 y1 y2
      have hp1 := HPL.out X
      have hp2 := HRP.out X
      obtain ⟨P, hP⟩ : ∃ P, plainE X = P := ⟨_, rfl⟩
      rw [hP] at hp1 hp2
      unfold evV at hp1 hp2
      have HP1 := hid hp1
      have HP2 := hid hp2
      have q5 : (P != P) = false := by simp
      clear hX hil hp1 hp2 hP
      obtain ⟨xk, xt, xo⟩ := X
      simp only at x0 x1 x2 y0 y1 y2 HP1 HP2
      go_upto_region 7 with fail
      (refine wp_region_held_drew (S := (fun w' => w'.cell? ⟨g, i * 3, none⟩ = some (.int .i64 xk) ∧ w'.cell? ⟨g, i * 3 + 1, none⟩ = some (.int .i64 xt) ∧ w'.cell? ⟨g, i * 3 + 2, none⟩ = some (.int .i64 xo) ∧ w'.cell? ⟨b2, o2 + i * 3, none⟩ = some (.int .i64 xk) ∧ w'.cell? ⟨b2, o2 + i * 3 + 1, none⟩ = some (.int .i64 xt) ∧ w'.cell? ⟨b2, o2 + i * 3 + 2, none⟩ = some (.int .i64 xo))) (by kernel_rfl) (by exact ⟨x0, x1, x2, y0, y1, y2⟩) (fun hHeld => ?_); (refine wpAnyH_take (i := 0) (v := ?_) rfl (by kernel_rfl) (by kernel_rfl) (by kernel_rfl) (fun _ _ _ h => h) (Or.inl ⟨by rfl, ?_⟩) (by assumption) ?_; rotate_left 1; (focus (intro w hSw; (try dsimp only at hSw); go_simp; (try with_reducible rfl))); (try simp only [List.getElem_toArray, List.getElem_cons_zero, List.getElem_cons_succ, Act.put, List.setIfInBounds_toArray, List.set_cons_zero, List.set_cons_succ])); (refine wpAnyH_take (i := 1) (v := ?_) rfl (by kernel_rfl) (by kernel_rfl) (by kernel_rfl) (fun _ _ _ h => h) (Or.inl ⟨by rfl, ?_⟩) (by assumption) ?_; rotate_left 1; (focus (intro w hSw; (try dsimp only at hSw); go_simp; (try with_reducible rfl))); (try simp only [List.getElem_toArray, List.getElem_cons_zero, List.getElem_cons_succ, Act.put, List.setIfInBounds_toArray, List.set_cons_zero, List.set_cons_succ])); (refine wpAnyH_take (i := 2) (v := ?_) rfl (by kernel_rfl) (by kernel_rfl) (by kernel_rfl) (fun _ _ _ h => h) (Or.inl ⟨by rfl, ?_⟩) (by assumption) ?_; rotate_left 1; (focus (intro w hSw; (try dsimp only at hSw); go_simp; (try with_reducible rfl))); (try simp only [List.getElem_toArray, List.getElem_cons_zero, List.getElem_cons_succ, Act.put, List.setIfInBounds_toArray, List.set_cons_zero, List.set_cons_succ])); (refine wpAnyH_take (i := 3) (v := ?_) rfl (by kernel_rfl) (by kernel_rfl) (by kernel_rfl) (fun _ _ _ h => h) (Or.inl ⟨by rfl, ?_⟩) (by assumption) ?_; rotate_left 1; (focus (intro w hSw; (try dsimp only at hSw); go_simp; (try with_reducible rfl))); (try simp only [List.getElem_toArray, List.getElem_cons_zero, List.getElem_cons_succ, Act.put, List.setIfInBounds_toArray, List.set_cons_zero, List.set_cons_succ])); (refine wpAnyH_take (i := 5) (v := ?_) rfl (by kernel_rfl) (by kernel_rfl) (by kernel_rfl) (fun _ _ _ h => h) (Or.inl ⟨by rfl, ?_⟩) (by assumption) ?_; rotate_left 1; (focus (intro w hSw; (try dsimp only at hSw); go_simp; (try with_reducible rfl))); (try simp only [List.getElem_toArray, List.getElem_cons_zero, List.getElem_cons_succ, Act.put, List.setIfInBounds_toArray, List.set_cons_zero, List.set_cons_succ])); (refine wpAnyH_take (i := 6) (v := ?_) rfl (by kernel_rfl) (by kernel_rfl) (by kernel_rfl) (fun _ _ _ h => h) (Or.inl ⟨by rfl, ?_⟩) (by assumption) ?_; rotate_left 1; (focus (intro w hSw; (try dsimp only at hSw); go_simp; (try with_reducible rfl))); (try simp only [List.getElem_toArray, List.getElem_cons_zero, List.getElem_cons_succ, Act.put, List.setIfInBounds_toArray, List.set_cons_zero, List.set_cons_succ])); (refine wpAnyH_take (i := 7) (v := ?_) rfl (by kernel_rfl) (by kernel_rfl) (by kernel_rfl) (fun _ _ _ h => h) (Or.inl ⟨by rfl, ?_⟩) (by assumption) ?_; rotate_left 1; (focus (intro w hSw; (try dsimp only at hSw); go_simp; (try with_reducible rfl))); (try simp only [List.getElem_toArray, List.getElem_cons_zero, List.getElem_cons_succ, Act.put, List.setIfInBounds_toArray, List.set_cons_zero, List.set_cons_succ])); (refine wpAnyH_take (i := 8) (v := ?_) rfl (by kernel_rfl) (by kernel_rfl) (by kernel_rfl) (fun _ _ _ h => h) (Or.inl ⟨by rfl, ?_⟩) (by assumption) ?_; rotate_left 1; (focus (intro w hSw; (try dsimp only at hSw); go_simp; (try with_reducible rfl))); (try simp only [List.getElem_toArray, List.getElem_cons_zero, List.getElem_cons_succ, Act.put, List.setIfInBounds_toArray, List.set_cons_zero, List.set_cons_succ])); (refine wpAnyH_ready (rs := [4]) (by kernel_rfl) (by simp) ?_; refine AllReadyH.cons rfl (fun K hK => ?_) AllReadyH.nil; go_simp; go_at_call 11; refine (HP1.out _).mono ?_; rintro e w3 ⟨rfl, hc3⟩; have hcX := (Chg.refl [] wr).drew.trans' hc3; have HCX := hid hcX; have z0 := hcX.cell x0 (by simp); have z1 := hcX.cell x1 (by simp); have z2 := hcX.cell x2 (by simp); have z3 := hcX.cell y0 (by simp); have z4 := hcX.cell y1 (by simp); have z5 := hcX.cell y2 (by simp); clear hc3 hcX; (refine hK.out _ _ (by exact ⟨z0, z1, z2, z3, z4, z5⟩) (fun hHeld => ?_); clear hK K; (try simp only [List.getElem_toArray, List.getElem_cons_zero, List.getElem_cons_succ, Act.put, List.setIfInBounds_toArray, List.set_cons_zero, List.set_cons_succ]))); (refine wpAnyH_ready (rs := [9]) (by kernel_rfl) (by simp) ?_; refine AllReadyH.cons rfl (fun K hK => ?_) AllReadyH.nil; go_simp; go_at_call 12; refine (HP2.out _).mono ?_; rintro e w4 ⟨rfl, hc4⟩; have hcY := HCX.out.trans' hc4; have HCY := hid hcY; have t0 := hc4.cell z0 (by simp); have t1 := hc4.cell z1 (by simp); have t2 := hc4.cell z2 (by simp); have t3 := hc4.cell z3 (by simp); have t4 := hc4.cell z4 (by simp); have t5 := hc4.cell z5 (by simp); clear hc4 hcY; (refine hK.out _ _ (by exact ⟨t0, t1, t2, t3, t4, t5⟩) (fun hHeld => ?_); clear hK K; (try simp only [List.getElem_toArray, List.getElem_cons_zero, List.getElem_cons_succ, Act.put, List.setIfInBounds_toArray, List.set_cons_zero, List.set_cons_succ]))); (refine wpAnyH_take (i := 10) (v := ?_) rfl (by kernel_rfl) (by kernel_rfl) (by kernel_rfl) (fun _ _ _ h => h) (Or.inl ⟨by rfl, ?_⟩) (by assumption) ?_; rotate_left 1; (focus (intro w hSw; (try dsimp only at hSw); go_simp; (try with_reducible rfl))); (try simp only [List.getElem_toArray, List.getElem_cons_zero, List.getElem_cons_succ, Act.put, List.setIfInBounds_toArray, List.set_cons_zero, List.set_cons_succ])); refine wpAnyH_done (by kernel_rfl) ?_ _)
      go_wp2_with fail
      go_roundg (gk - 1)
      case measure => have := HG.out; omega
      case rel => exact ⟨i + 1, by go_num, hid (by have := HG.out; omega), by omega, hid (HR.out.trans' HCY.out)⟩
    · obtain ⟨w3, rfl⟩ : ∃ x, x = wr := ⟨_, rfl⟩
      have HC3 := hid (HC2.out.trans' HR.out)
      have HG3 := hid (HGV.out.keep HR.out)
      have HR3 := hid (HLE.out.row.keep (S := []) HR.out (by simp))
      have h1 := text_calls l w3 HG3.out (by rw [HN.out]; exact hn) (HV.out.keep HC3.out)
      rw [HT.out.1] at h1
      have HT1 := hid h1
      clear h1 hin HG HR
      go_wp2_with (go_at_call 13; refine HT1.out.mono ?_; rintro e w4 ⟨rfl, hc4⟩; refine halt (fun XX hXX => ?_))
      have HC4 := hid (HC3.out.trans' hc4)
      have HG4 := hid (HG3.out.keep hc4)
      have HR4 := hid (HR3.out.keep hc4 (by simp))
      have h1 := rtext_calls l w4 (HL.out.keep HC4.out) (by rw [HN.out]; exact hn) (HV.out.keep HC4.out)
      rw [HT.out.1] at h1
      have HT2 := hid h1
      clear h1 hc4 HT1 HC3 HG3 HR3
      rw [hXX.out]; clear hXX XX
      go_wp2_with (go_at_call 14; refine HT2.out.mono ?_; rintro e w5 ⟨rfl, hc5⟩; refine halt (fun XX hXX => ?_))
      have HC5 := hid (HC4.out.trans' hc5)
      have HG5 := hid (HG4.out.keep hc5)
      have HR5 := hid (HR4.out.keep hc5 (by simp))
      have h1 := encode_calls l w5 HG5.out (by rw [HN.out]; exact hn)
      rw [HT.out.2] at h1
      have HE1 := hid h1
      clear h1 hc5 HT2 HC4 HG4 HR4
      rw [hXX.out]; clear hXX XX
      go_wp2_with (go_at_call 15; refine HE1.out.mono ?_; rintro e w6 ⟨lb, ab, cb, rb, rfl, hrb, hfb, hcb, hlb⟩; refine halt (fun XX hXX => ?_))
      obtain rfl : lb = EB := hlb.out
      have HC6 := hid (HC5.out.trans' hcb)
      have HG6 := hid (HG5.out.keep hcb)
      have HR6 := hid (HR5.out.keep hcb (by simp))
      have HB6 := hid hrb
      have h1 := encode_calls l w6 HG6.out (by rw [HN.out]; exact hn)
      rw [HT.out.2] at h1
      have HE2 := hid h1
      have HFB := hid (And.intro hrb.lt (And.intro hfb HC5.out))
      have HGL := hid (HR5.out.lt g rfl)
      clear h1 hcb hrb hfb hlb HE1 HC5 HG5 HR5
      rw [hXX.out]; clear hXX XX
      go_wp2_with (go_at_call 15; refine HE2.out.mono ?_; rintro e w7 ⟨ld, ad, cd, rd, rfl, hrd, hfd, hcd, hld⟩; refine halt (fun XX hXX => ?_))
      obtain rfl : lb = ld := hld.out.symm
      have HC7 := hid (HC6.out.trans' hcd)
      have HG7 := hid (HG6.out.keep hcd)
      have HR7 := hid (HR6.out.keep hcd (by simp))
      have HB7 := hid (HB6.out.keep hcd (by simp))
      have HD7 := hid hrd
      have h1 := rencode_calls l w7 (HL.out.keep HC7.out) (by rw [HN.out]; exact hn)
      rw [HT.out.2] at h1
      have HE3 := hid h1
      have HFD := hid (And.intro hrd.lt (And.intro hfd HC6.out))
      have HSZ := hid hcd.size
      clear h1 hcd hrd hfd hld HE2 HC6 HG6 HR6 HB6
      rw [hXX.out]; clear hXX XX
      go_wp2_with (go_at_call 16; refine HE3.out.mono ?_; rintro e w8 ⟨lc, ac, cc, rc, rfl, hrc, hfc, hcc, hlc⟩; refine halt (fun XX hXX => ?_))
      obtain rfl : lb = lc := hlc.out.symm
      have HC8 := hid (HC7.out.trans' hcc)
      have HG8 := hid (HG7.out.keep hcc)
      have HR8 := hid (HR7.out.keep hcc (by simp))
      have HB8 := hid (HB7.out.keep hcc (by simp))
      have HD8 := hid (HD7.out.keep hcc (by simp))
      have HCC8 := hid hrc
      have HFC := hid (And.intro hrc.lt (And.intro hfc HC7.out))
      clear hcc hrc hfc hlc HE3 HC7 HG7 HR7 HB7 HD7
      have bb8 : Bytes w8 (.slice ab lb.length cb) lb := HB8.out.view
      have bd8 : Bytes w8 (.slice ad lb.length cd) lb := HD8.out.view
      have bc8 : Bytes w8 (.slice ac lb.length cc) lb := HCC8.out.view
      have HS1 := hid fun W (h : Chg [] w8 W) => samebytes_calls _ _ lb lb W (bb8.keep h (by simp)) (bc8.keep h (by simp)) hbig
      have HS2 := hid fun W (h : Chg [] w8 W) => samebytes_calls _ _ lb lb W (bd8.keep h (by simp)) (bc8.keep h (by simp)) hbig
      have HST := hid fun W (h : Chg [] w8 W) => still_calls l n g cg HN.out hn W (HL.out.keep (HC8.out.trans' h)) (HR8.out.keep h (by simp))
      clear bb8 bd8 bc8
      rw [hXX.out]; clear hXX XX
      obtain ⟨q, hq⟩ : ∃ q, lb.length = q := ⟨_, rfl⟩
      rw [hq] at HB8 HD8 HCC8 HS1 HS2 hbig ⊢
      have HQ := hid hq
      clear hq
      go_upto_region 14 with fail
      go_cut [97] (fun v wx => v = .bool false ∧ Hid (Chg [] w8 wx))
      case first =>
        have hbt : ((bA t).toList != (bA t).toList) = false := by simp
        go_wp2_with (first
          | (go_at_call 17; refine (HNUM.out _ _).mono ?_; rintro e w88 ⟨rfl, hw8⟩; replace hw8 := hw8.symm; subst hw8)
          | (go_at_call 18; refine (HS1.out _ (Chg.refl _ _)).mono ?_; rintro e w9 ⟨q1, rfl, hq1, hc9⟩; refine halt (fun XX hXX => ?_)))
        obtain rfl : q1 = true := hq1.out.2 (by first | rfl | trivial)
        have HC9 := hid hc9
        clear hc9 hq1
        rw [hXX.out]; clear hXX XX
        go_wp2_with (first
          | (go_at_call 17; refine (HNUM.out _ _).mono ?_; rintro e w88 ⟨rfl, hw8⟩; replace hw8 := hw8.symm; subst hw8)
          | (go_at_call 18; refine (HS2.out _ HC9.out).mono ?_; rintro e w10 ⟨q1, rfl, hq1, hc10⟩; refine halt (fun XX hXX => ?_)))
        obtain rfl : q1 = true := hq1.out.2 (by first | rfl | trivial)
        have HC10 := hid (HC9.out.trans' hc10)
        clear hc10 hq1
        rw [hXX.out]; clear hXX XX
        go_wp2_with (first
          | (go_at_call 17; refine (HNUM.out _ _).mono ?_; rintro e w88 ⟨rfl, hw8⟩; replace hw8 := hw8.symm; subst hw8)
          | (go_at_call 19; refine (HST.out _ HC10.out).mono ?_; rintro e w11 ⟨rfl, hc11⟩; refine halt (fun XX hXX => ?_)))
        have HC11 := hid (HC10.out.trans' hc11)
        clear hc11
        rw [hXX.out]; clear hXX XX
        go_wp2_with fail
        go_meet
        exact ⟨rfl, HC11⟩
      case rest =>
      obtain ⟨rfl, hcw⟩ := hcut
      obtain ⟨w11, rfl⟩ : ∃ x, x = wc := ⟨_, rfl⟩
      have HC11 := hid (HC8.out.trans' hcw.out)
      have HR11 := hid (HR8.out.keep hcw.out (by simp))
      have HB11 := hid (HB8.out.keep hcw.out (by simp))
      have HD11 := hid (HD8.out.keep hcw.out (by simp))
      have HCC11 := hid (HCC8.out.keep hcw.out (by simp))
      clear hcw HC8 HG8 HR8 HB8 HD8 HCC8 HS1 HST
      go_upto_region 17 with fail
      go_loopg [15] q (fun gk v15 wr => ∃ (i : Nat) (Lx : List UInt8), v15 = .int .i64 i ∧ Hid (gk + i = q) ∧ i ≤ q ∧ Hid (Lx.length = q ∧ Row wr 5 1 (.slice ab q cb) rb q (Lx.map Go.AB.B) ∧ Chg rb.toList w11 wr))
      case atStart => exact ⟨0, lb, rfl, hid (by omega), by omega, hid ⟨HQ.out, HB11.out, Chg.refl _ _⟩⟩
      case round =>
        obtain ⟨i, Lx, rfl, HG, hiq, HI⟩ := hrel
        by_cases hi : i < q
        · have hrow := HI.out.2.1
          have hix : i < Lx.length := by rw [HI.out.1]; exact hi
          rw [← HI.out.1] at hrow
          obtain ⟨gb, hab, hrb, hcl, hfz, hset⟩ := hrow.at hix
          obtain ⟨old, hold⟩ : ∃ u, wr.cell? ⟨gb, i, none⟩ = some u := ⟨_, hcl⟩
          clear hcl
          have hset2 := hset 90
          rw [HI.out.1] at hset2
          subst hab hrb
          have HS90 := hid hset2
          clear hset hset2 hrow hix
          go_wp2_with fail
          go_roundg (gk - 1)
          case measure => have := HG.out; omega
          case rel => exact ⟨i + 1, Lx.set i 90, by go_num, hid (by have := HG.out; omega), by omega, hid ⟨by rw [List.length_set]; exact HI.out.1, HS90.out.1, HI.out.2.2.trans HS90.out.2 (fun x hx => .inl (by simpa using hx))⟩⟩
        · obtain ⟨w12, rfl⟩ : ∃ x, x = wr := ⟨_, rfl⟩
          go_upto_region 21 with fail
          go_loopg [9, 16] 70 (fun gk v9 v16 wr => ∃ (i : Nat) (ax : Option Addr) (cx : Nat) (rx : Option Nat) (Ly : List UInt8), v9 = .slice ax (q + i) cx ∧ v16 = .int .i64 i ∧ Hid (gk + i = 70) ∧ i ≤ 70 ∧
            Hid (Row wr 5 1 (.slice ax (q + i) cx) rx (q + i) (Ly.map Go.AB.B) ∧ Fresh w11 rb rx ∧ Chg rb.toList w11 wr))
          case atStart => exact ⟨0, ab, cb, rb, Lx, rfl, rfl, hid (by omega), by omega, hid ⟨HI.out.2.1, Fresh.refl _ _, HI.out.2.2⟩⟩
          case round =>
            clear hi hiq HG HI
            obtain ⟨i, ax, cx, rx, Ly, rfl, rfl, HG, hi7, HY⟩ := hrel
            by_cases hi : i < 70
            · have hrow := fun o => HY.out.1.keep ((Chg.refl [] wr).alloc o) (by simp)
              go_wp2_with (at_builtin; refine wpList_app rfl _ _ 34 rfl elem_u8 rfl (hrow _) rfl (View.one _ _ _) (by simp [Value.oneCell']) (by unfold maxLen; omega) (by omega) (fun ao' cap' r' w2 hr2 hc2 hf2 _ => halt (fun X hX => ?_)))
              have hca : Chg [] wr (wr.alloc (.cells #[.int .u8 90] 5)) := (Chg.refl [] wr).alloc _
              have HY2 : Hid (Row w2 5 1 (.slice ao' (q + (i + 1)) cap') r' (q + (i + 1)) ((Ly ++ [90]).map Go.AB.B) ∧ Fresh w11 rb r' ∧ Chg rb.toList w11 w2) := hid ⟨by
                rw [← Nat.add_assoc, List.map_append]; exact hr2, HY.out.2.1.trans (Nat.le_trans HY.out.2.2.size hca.size) hf2, (HY.out.2.2.trans' hca.nil).trans hc2 (fun x hx => by
                rcases HY.out.2.1 x (by simpa using hx) with h | h
                · exact .inl (by simpa using h)
                · exact .inr h)⟩
              clear hr2 hc2 hf2 hrow hca
              rw [hX.out]; clear hX
              go_wp2_with fail
              go_roundg (gk - 1)
              case measure => have := HG.out; omega
              case rel => exact ⟨i + 1, ao', cap', r', Ly ++ [90], by first | rfl | (rw [Nat.add_assoc]), by go_num, hid (by have := HG.out; omega), by omega, HY2⟩
            · obtain ⟨w13, rfl⟩ : ∃ x, x = wr := ⟨_, rfl⟩
              have hrbg : ∀ x, x ∈ rb.toList → w5.heap.size ≤ x ∧ x < w6.heap.size := fun x hx => by
                have hx2 : rb = some x := by simpa using hx
                refine ⟨?_, HFB.out.1 x hx2⟩
                rcases HFB.out.2.1 x hx2 with h | h
                · cases h
                · exact h
              have HC13 : Hid (Chg [] w w13) := hid (HC11.out.trans HY.out.2.2 (fun x hx => .inr (Nat.le_trans HFB.out.2.2.size (hrbg x hx).1)))
              have HR13 := hid (HR11.out.keep HY.out.2.2 (fun x hx hm => by
                simp only [Option.some.injEq] at hx
                subst hx
                have := (hrbg _ hm).1
                have := HGL.out
                omega))
              have bd13 : Bytes w13 (.slice ad q cd) lb := by
                have h := (HD11.out.keep HY.out.2.2 (fun x hx hm => by
                  have := (hrbg _ hm).2
                  rcases HFD.out.2.1 x hx with h | h
                  · cases h
                  · omega)).view
                unfold Bytes
                rw [HQ.out]
                exact h
              have bc13 : Bytes w13 (.slice ac q cc) lb := by
                have h := (HCC11.out.keep HY.out.2.2 (fun x hx hm => by
                  have := (hrbg _ hm).2
                  have := HSZ.out
                  rcases HFC.out.2.1 x hx with h | h
                  · cases h
                  · omega)).view
                unfold Bytes
                rw [HQ.out]
                exact h
              have HS3 := hid (samebytes_calls _ _ lb lb w13 bd13 bc13 (by rw [HQ.out]; exact hbig))
              clear bd13 bc13 hrbg HB11 HD11 HCC11 HR11 HC11
              go_wp2_with (go_at_call 18; refine HS3.out.mono ?_; rintro e w14 ⟨q1, rfl, hq1, hc14⟩; refine halt (fun XX hXX => ?_))
              obtain rfl : q1 = true := hq1.out.2 (by first | rfl | trivial)
              have HC14 := hid (HC13.out.trans' hc14)
              have HR14 := hid (HR13.out.keep hc14 (by simp))
              clear hc14 hq1 HS3 HC13 HR13
              rw [hXX.out]; clear hXX XX
              go_upto_region 27 with fail
              go_loopg [17] n (fun gk v17 wr => ∃ (i : Nat) (M : List Ev), v17 = .int .i64 i ∧ Hid (gk + i = n) ∧ i ≤ n ∧ Hid (M.length = n ∧ Row wr 28 3 (.slice (some ⟨g, 0, none⟩) (n + 70) cg) (some g) (n + 70) ((M ++ roomE 70).flatMap evC) ∧ Chg [] w wr))
              case atStart => exact ⟨0, l, rfl, hid (by omega), by omega, hid ⟨HN.out, HR14.out, HC14.out⟩⟩
              case round =>
                clear hi hi7 HG HY HS2
                obtain ⟨i, M, rfl, HG, hin, HM⟩ := hrel
                by_cases hi : i < n
                · have hiM : i < (M ++ roomE 70).length := by rw [List.length_append, HM.out.1, roomE_len]; omega
                  have hML : (M ++ roomE 70).length = n + 70 := by rw [List.length_append, HM.out.1, roomE_len]
                  have hc0 : wr.cell? ⟨g, i * 3 + 1, none⟩ = some (.int .i64 (M ++ roomE 70)[i].t) := Row.atf evC_len HM.out.2.1 hML hiM (j := 1) (by omega)
                  obtain ⟨T, hT⟩ : ∃ T : Int, wr.cell? ⟨g, i * 3 + 1, none⟩ = some (.int .i64 T) := ⟨_, hc0⟩
                  have hfz : wr.frozen? ⟨g, i * 3 + 1, none⟩ = false := (Row.cellk HM.out.2.1).2.1 _
                  have HPUT : Hid (∀ U : Int, ∃ M' : List Ev, M'.length = n ∧ Row (wr.setCell ⟨g, i * 3 + 1, none⟩ (.int .i64 U)) 28 3 (.slice (some ⟨g, 0, none⟩) (n + 70) cg) (some g) (n + 70) ((M' ++ roomE 70).flatMap evC) ∧ Chg [] w (wr.setCell ⟨g, i * 3 + 1, none⟩ (.int .i64 U))) := hid fun U => by
                    have h := Row.putk HM.out.2.1 (i * 3 + 1) (.int .i64 U)
                    rw [flat_put evC_len (M ++ roomE 70) i hiM ⟨(M ++ roomE 70)[i].k, U, (M ++ roomE 70)[i].o⟩ 1 (by omega) (.int .i64 U) (by simp [evC])] at h
                    rw [List.set_append_left _ _ (by rw [HM.out.1]; exact hi)] at h
                    exact ⟨_, by rw [List.length_set]; exact HM.out.1, h, HM.out.2.2.setCell (p := ⟨g, i * 3 + 1, none⟩) (.inr HWG.out) _⟩
                  have hi70 : (i : Int) < (n : Int) + 70 := by omega
                  clear hc0 hiM hML
                  go_wp2_with fail
                  obtain ⟨M', hM1, hM2, hM3⟩ := HPUT.out _
                  go_roundg (gk - 1)
                  case measure => have := HG.out; omega
                  case rel => exact ⟨i + 1, M', by go_num, hid (by have := HG.out; omega), by omega, hid ⟨hM1, hM2, hM3⟩⟩
                · obtain ⟨w15, rfl⟩ : ∃ x, x = wr := ⟨_, rfl⟩
                  go_upto_region 30 with fail
                  have hMn : M.length ≤ 1048576 := by rw [HM.out.1]; exact hn
                  obtain ⟨⟨t2, et2⟩, ht2⟩ : ∃ d, textD M = d := ⟨_, rfl⟩
                  obtain ⟨⟨EB2, ec2⟩, hen2⟩ : ∃ d, encE M = d := ⟨_, rfl⟩
                  have hbig2 := enc_big hen2 hMn
                  have HT2 := hid (And.intro ht2 hen2)
                  have hvw := (ev_pre HM.out.2.1 HM.out.1).view
                  have HG15 : Hid (Lst evC 3 w15 (.slice (some ⟨g, 0, none⟩) n cg) M) := hid (by
                    have h := hvw
                    rw [← HM.out.1] at h ⊢
                    exact h)
                  have HVW := hid hvw
                  have HMN := hid hMn
                  clear ht2 hen2 hvw hMn hi hin HG
                  go_wp2_with (at_builtin; refine wpList_grew rfl _ _ 22 rfl elem_ev rfl (Row.zero w15 28 3) rfl (View.keep HVW.out ((Chg.refl [] w15).alloc (.cells #[] 28)) (by simp)) (one_evs M) (by unfold maxLen; omega) (by omega) (fun ao1 cap1 r1 w16 hr1 hg1 => halt (fun XX hXX => ?_)))
                  rw [List.nil_append] at hr1
                  simp only [Nat.zero_add] at hr1 hXX
                  have hc16 : Chg [] w15 w16 := ((Chg.refl [] w15).alloc (.cells #[] 28)).trans hg1.chg (fun x hx => .inr (by simp at hx; omega))
                  have HC16 := hid (HM.out.2.2.trans' hc16)
                  have HG16 := hid (HG15.out.keep hc16)
                  have HW16 : Hid (Lst evC 3 w16 (.slice ao1 n cap1) M) := hid (by
                    have h := hr1.view
                    rw [← HM.out.1] at h ⊢
                    exact h)
                  clear hr1 hg1 hc16 HG15 HVW
                  rw [hXX.out]; clear hXX XX
                  have h1 := text_calls M w16 HG16.out HMN.out (HV.out.keep HC16.out)
                  rw [HT2.out.1] at h1
                  have HA := hid h1
                  clear h1
                  go_wp2_with (go_at_call 13; refine HA.out.mono ?_; rintro e w17 ⟨rfl, hc17⟩; refine halt (fun XX hXX => ?_))
                  have HC17 := hid (HC16.out.trans' hc17)
                  have HG17 := hid (HG16.out.keep hc17)
                  have HW17 := hid (HW16.out.keep hc17)
                  have h1 := rtext_calls M w17 HW17.out HMN.out (HV.out.keep HC17.out)
                  rw [HT2.out.1] at h1
                  have HA2 := hid h1
                  clear h1 hc17 HA HC16 HG16 HW16
                  rw [hXX.out]; clear hXX XX
                  go_wp2_with (go_at_call 14; refine HA2.out.mono ?_; rintro e w18 ⟨rfl, hc18⟩; refine halt (fun XX hXX => ?_))
                  have HC18 := hid (HC17.out.trans' hc18)
                  have HG18 := hid (HG17.out.keep hc18)
                  have HW18 := hid (HW17.out.keep hc18)
                  have h1 := encode_calls M w18 HG18.out HMN.out
                  rw [HT2.out.2] at h1
                  have HA3 := hid h1
                  clear h1 hc18 HA2 HC17 HG17 HW17
                  rw [hXX.out]; clear hXX XX
                  go_wp2_with (go_at_call 15; refine HA3.out.mono ?_; rintro e w19 ⟨l9, a9, c9, r9, rfl, hr9, hf9, hc19, hl9⟩; refine halt (fun XX hXX => ?_))
                  obtain rfl : l9 = EB2 := hl9.out
                  have HC19 := hid (HC18.out.trans' hc19)
                  have HW19 := hid (HW18.out.keep hc19)
                  have HB19 := hid hr9.view
                  have h1 := rencode_calls M w19 HW19.out HMN.out
                  rw [HT2.out.2] at h1
                  have HA4 := hid h1
                  clear h1 hc19 hr9 hf9 hl9 HA3 HC18 HG18 HW18
                  rw [hXX.out]; clear hXX XX
                  go_wp2_with (go_at_call 16; refine HA4.out.mono ?_; rintro e w20 ⟨l10, a10, c10, r10, rfl, hr10, hf10, hc20, hl10⟩; refine halt (fun XX hXX => ?_))
                  obtain rfl : l9 = l10 := hl10.out.symm
                  have HC20 := hid (HC19.out.trans' hc20)
                  have bx : Bytes w20 (.slice a9 l9.length c9) l9 := View.keep HB19.out hc20 (by simp)
                  have by2 : Bytes w20 (.slice a10 l9.length c10) l9 := hr10.view
                  have HS5 := hid (samebytes_calls _ _ l9 l9 w20 bx by2 hbig2)
                  clear bx by2 hr10 hf10 hc20 hl10 HA4 HC19 HW19 HB19
                  rw [hXX.out]; clear hXX XX
                  obtain ⟨q9, hq9⟩ : ∃ q, l9.length = q := ⟨_, rfl⟩
                  rw [hq9] at HS5 ⊢
                  clear hq9
                  have hbt : ((bA t2).toList == (bA t2).toList) = true := by simp
                  go_wp2_with (first
                    | (go_at_call 17; refine (HNUM.out _ _).mono ?_; rintro e w88 ⟨rfl, hw8⟩; replace hw8 := hw8.symm; subst hw8)
                    | (go_at_call 18; refine HS5.out.mono ?_; rintro e w21 ⟨q1, rfl, hq1, hc21⟩; refine halt (fun XX hXX => ?_)))
                  obtain rfl : q1 = true := hq1.out.2 (by first | rfl | trivial)
                  have HC21 := hid (HC20.out.trans' hc21)
                  clear hc21 hq1
                  rw [hXX.out]; clear hXX XX
                  go_wp2_with (go_at_call 17; refine (HNUM.out _ _).mono ?_; rintro e w88 ⟨rfl, hw8⟩; replace hw8 := hw8.symm; subst hw8)
                  go_ret
                  exact ⟨rfl, HC21.out⟩
end Go.Proofs.YtbghkodcfedebaaGreatDoor
