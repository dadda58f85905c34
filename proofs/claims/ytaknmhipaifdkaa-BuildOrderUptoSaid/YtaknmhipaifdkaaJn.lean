/- Walks of the builder's laws: nameless, a program's names without their first byte. (Printed by gen_nameless.py.) -/
import Derived.Test.YtaknmhipaifdkaaJm
set_option linter.unusedSimpArgs false
set_option linter.unusedVariables false
set_option linter.unusedSectionVars false
namespace Go.AB
open Go.RowKit
/-- A name without its first byte. -/
def dz (s : ByteArray) : ByteArray := if s.size = 0 then ByteArray.empty else s.extract 1 s.size
def rVn (v : VarD) : VarD := ⟨dz v.name, v.first⟩
def rTd (t : ThrD) : ThrD := ⟨dz t.name, t.code, t.places⟩
def rTn (x : ThrV) : ThrV := ⟨rTd x.t, x.code, x.places⟩
def lessD (p : PrgD) : PrgD := ⟨p.vars.map rVn, p.vols.map rVn, p.locks.map dz, p.bars.map rVn, p.thrs.map rTd⟩
end Go.AB
namespace Go.Proofs.Ytaknmhipaifdkaa
open Go.RowKit Go.AB
set_option linter.unusedSimpArgs false
set_option linter.unusedVariables false
set_option linter.unusedSectionVars false

set_option maxHeartbeats 16000000 in
set_option maxRecDepth 100000 in
theorem nameless_calls {v : Value} {p : PrgD} (w : World) (hv : PrgV w v p) (hp : SmallP p) : Calls Try.prog 13 #[v, .int .i64 1] w fun e w' => ∃ v', e = .returned v' ∧ PrgH w w' v' (lessD p) := by
  have hv1 := hv
  obtain ⟨va0, va1, va2, va3, va4, ts, rfl, l0, l1, l2, l3, l4, hts, hth⟩ := hv
  obtain ⟨x0, c0, rfl, -⟩ := l0.len
  obtain ⟨x1, c1, rfl, -⟩ := l1.len
  obtain ⟨x2, c2, rfl, -⟩ := l2.len
  obtain ⟨x3, c3, rfl, -⟩ := l3.len
  obtain ⟨x4, c4, rfl, -⟩ := l4.len
  have hs0 := hp.vars
  have hs1 := hp.vols
  have hs2 := hp.locks
  have hs3 := hp.bars
  have hs4 := hp.thrs
  have hlt : ts.length = p.thrs.length := by rw [← hts, List.length_map]
  rw [hlt] at hv1 ⊢
  have HSM := hid (And.intro hp.nvars (And.intro hp.nvols (And.intro hp.nlocks (And.intro hp.nbars hp.nthrs))))
  clear l0 l1 l2 l3 l4 hts hth hlt ts
  obtain ⟨n0, hn0⟩ : ∃ n, p.vars.length = n := ⟨_, rfl⟩
  rw [hn0] at hv1 hs0 ⊢
  obtain ⟨n1, hn1⟩ : ∃ n, p.vols.length = n := ⟨_, rfl⟩
  rw [hn1] at hv1 hs1 ⊢
  obtain ⟨n2, hn2⟩ : ∃ n, p.locks.length = n := ⟨_, rfl⟩
  rw [hn2] at hv1 hs2 ⊢
  obtain ⟨n3, hn3⟩ : ∃ n, p.bars.length = n := ⟨_, rfl⟩
  rw [hn3] at hv1 hs3 ⊢
  obtain ⟨n4, hn4⟩ : ∃ n, p.thrs.length = n := ⟨_, rfl⟩
  rw [hn4] at hv1 hs4 ⊢
  have HN := hid (And.intro hn0 (And.intro hn1 (And.intro hn2 (And.intro hn3 hn4))))
  have hb0 := ((Hp.start (S0 := []) w (by simp)).box (.cells #[.slice x0 n0 c0, .slice x1 n1 c1, .slice x2 n2 c2, .slice x3 n3 c3, .slice x4 n4 c4] 32)).box (.cells #[.slice none 0 0, .slice none 0 0, .slice none 0 0, .slice none 0 0, .slice none 0 0] 32)
  simp only [World.size_alloc] at hb0
  obtain ⟨wA, hwA⟩ : ∃ wA, (w.alloc (.cells #[.slice x0 n0 c0, .slice x1 n1 c1, .slice x2 n2 c2, .slice x3 n3 c3, .slice x4 n4 c4] 32)).alloc (.cells #[.slice none 0 0, .slice none 0 0, .slice none 0 0, .slice none 0 0, .slice none 0 0] 32) = wA := ⟨_, rfl⟩
  rw [hwA] at hb0
  have HC := hid (copied_calls wA (hv1.keep hb0.chg) hp)
  have H0 := hid hb0
  have u0 := hb0.cell (i := 1) rfl 0
  have u1 := hb0.cell (i := 1) rfl 1
  have u2 := hb0.cell (i := 1) rfl 2
  have u3 := hb0.cell (i := 1) rfl 3
  have u4 := hb0.cell (i := 1) rfl 4
  simp only [List.getElem?_toArray, List.getElem?_cons_zero, List.getElem?_cons_succ] at u0 u1 u2 u3 u4
  clear hb0 hv1 hp hn0 hn1 hn2 hn3 hn4
  go_enter Try.func13, Try.ntmps13
  go_upto_region 1 with fail
  try rw [hwA]
  clear hwA
  go_wp2_with (go_at_call 26; refine halt (fun X hX => ?_))
  rw [hX.out]; clear hX
  refine HC.out.mono ?_
  rintro e w1 ⟨vv, rfl, vc0, vc1, vc2, vc3, vc4, r0, r1, r2, r3, r4, zs, rfl, hR, hzt⟩
  obtain ⟨p0, p1, p2, p3, pt⟩ := p
  simp only [prgRows] at hR
  simp only at HN HSM hzt
  simp only [HN.out.1, HN.out.2.1, HN.out.2.2.1, HN.out.2.2.2.1, HN.out.2.2.2.2] at hR
  have hj := H0.out.join hR
  have hj0 := hj.perm (List.perm_append_comm (l₂ := [It.box (w.heap.size + 1) (.cells #[.slice none 0 0, .slice none 0 0, .slice none 0 0, .slice none 0 0, .slice none 0 0] 32), It.box w.heap.size (.cells #[.slice x0 n0 c0, .slice x1 n1 c1, .slice x2 n2 c2, .slice x3 n3 c3, .slice x4 n4 c4] 32)]))
  simp only [List.cons_append, List.nil_append] at hj0
  obtain ⟨a0, k0, rfl⟩ := (hj0.rowAt (i := 2) rfl).shape
  obtain ⟨a1, k1, rfl⟩ := (hj0.rowAt (i := 3) rfl).shape
  obtain ⟨a2, k2, rfl⟩ := (hj0.rowAt (i := 4) rfl).shape
  obtain ⟨a3, k3, rfl⟩ := (hj0.rowAt (i := 5) rfl).shape
  obtain ⟨a4, k4, rfl⟩ := (hj0.rowAt (i := 6) rfl).shape
  have hj1 := hj0.box (.cells #[.slice a0 n0 k0, .slice a1 n1 k1, .slice a2 n2 k2, .slice a3 n3 k3, .slice a4 n4 k4] 32)
  have HJ := hid hj1
  have HZT := hid hzt
  obtain ⟨ts, hts⟩ : ∃ ts, zs.map Prod.fst = ts := ⟨_, rfl⟩
  have hlts : ts.length = n4 := by
    rw [← hts, List.length_map, ← HN.out.2.2.2.2, ← hzt, List.length_map]
  have HTS := hid (And.intro hts hlts)
  rw [hts] at HJ
  clear hj hj0 hj1 hzt hR HC u0 u1 u2 u3 u4 hts hlts
  go_upto_region 3 with fail
  go_loopg [6] n0 (fun gk vi wr => ∃ k : Nat, gk + k = n0 ∧ vi = .int .i64 k ∧ Hid (Hp [] w wr (.box w1.heap.size (.cells #[.slice a0 n0 k0, .slice a1 n1 k1, .slice a2 n2 k2, .slice a3 n3 k3, .slice a4 n4 k4] 32) :: .box (w.heap.size + 1) (.cells #[.slice none 0 0, .slice none 0 0, .slice none 0 0, .slice none 0 0, .slice none 0 0] 32) :: .box w.heap.size (.cells #[.slice x0 n0 c0, .slice x1 n1 c1, .slice x2 n2 c2, .slice x3 n3 c3, .slice x4 n4 c4] 32) :: .row 63 2 (.slice a0 n0 k0) r0 n0 ((mapTo rVn p0 k).flatMap varC) :: .row 63 2 (.slice a1 n1 k1) r1 n1 (p1.flatMap varC) :: .row 9 1 (.slice a2 n2 k2) r2 n2 (p2.flatMap strC) :: .row 78 2 (.slice a3 n3 k3) r3 n3 (p3.flatMap varC) :: .row 67 3 (.slice a4 n4 k4) r4 n4 (ts.flatMap thrC) :: zs.flatMap thRows)))
  case atStart => exact ⟨0, by omega, rfl, hid (by rw [mapTo_zero]; exact HJ.out)⟩
  case round =>
    obtain ⟨k, hgk, rfl, H⟩ := hrel
    have u0 := H.out.cell (i := 0) rfl 0
    simp only [List.getElem?_toArray, List.getElem?_cons_zero, List.getElem?_cons_succ] at u0
    by_cases hlt : k < n0
    · obtain ⟨g, rfl, rfl, hcv⟩ := (H.out.rowAt (i := 3) rfl).slice (by omega)
      have hki : k < p0.length := by rw [HN.out.1]; exact hlt
      obtain ⟨x, hx⟩ : ∃ x, p0[k]'hki = x := ⟨_, rfl⟩
      have hgx : (mapTo rVn p0 k)[k]'(by rw [mapTo_len]; exact hki) = x := by rw [mapTo_get _ _ hki, hx]
      have y0 := Row.atf varC_len (H.out.rowAt (i := 3) rfl) (by rw [mapTo_len]; exact HN.out.1) (i := k) (by rw [mapTo_len]; exact hki) (j := 0) (by omega)
      rw [hgx] at y0
      have z0 : wr.cell? ⟨g, k * 2, none⟩ = some (.string x.name) := y0
      have gf := (Row.cellk (H.out.rowAt (i := 3) rfl)).2.1
      have hxs : x.name.size ≤ 1048576 := (HSM.out.1 _ (by rw [← hx]; exact List.getElem_mem _))
      have hng : g ≠ w1.heap.size := fun e => H.out.ne (i := 0) (j := 3) rfl rfl (by decide) rfl (by rw [e]; rfl)
      have HX := hid (And.intro hx hgx)
      clear y0 hx hgx
      by_cases hz : x.name.size = 0
      · have e1 : min (1 : Int) (x.name.size : Int) = 0 := by omega
        have e2 : dz x.name = ByteArray.empty := by unfold dz; rw [if_pos hz]
        have E2 := hid e2
        clear e2
        go_upto_region 5 with fail
        go_region
        have hf := (H.out.putf varC_len 3 rfl (i := k) (by rw [mapTo_len]; exact hki) (rVn x) (j := 0) (by omega) (u := .string (ByteArray.empty)) (by rw [HX.out.2]; rw [← E2.out]; rfl) rfl).same (Chg.refl [] _).drew
        simp only [List.set_cons_succ, List.set_cons_zero] at hf
        rw [← HX.out.1, mapTo_set _ _ hki] at hf
        have HF := hid hf
        clear hf
        go_wp2_with fail
        go_roundg (gk - 1)
        case measure => omega
        case rel => exact ⟨k + 1, by omega, by go_num, hid (by (try rw [HX.out.1] at HF); exact HF.out)⟩
      · have e1 : min (1 : Int) (x.name.size : Int) = 1 := by omega
        have e2 : dz x.name = x.name.extract 1 x.name.size := by unfold dz; rw [if_neg hz]
        have e4 : (1 : Int) ≤ (x.name.size : Int) := by omega
        have E2 := hid e2
        clear e2
        go_upto_region 5 with fail
        go_region
        have hf := (H.out.putf varC_len 3 rfl (i := k) (by rw [mapTo_len]; exact hki) (rVn x) (j := 0) (by omega) (u := .string (x.name.extract 1 x.name.size)) (by rw [HX.out.2]; rw [← E2.out]; rfl) rfl).same (Chg.refl [] _).drew
        simp only [List.set_cons_succ, List.set_cons_zero] at hf
        rw [← HX.out.1, mapTo_set _ _ hki] at hf
        have HF := hid hf
        clear hf
        go_wp2_with fail
        go_roundg (gk - 1)
        case measure => omega
        case rel => exact ⟨k + 1, by omega, by go_num, hid (by (try rw [HX.out.1] at HF); exact HF.out)⟩
    · obtain rfl : k = n0 := by omega
      have h1 := H.out
      rw [mapTo_all _ _ (by rw [HN.out.1]; exact Nat.le_refl _)] at h1
      have HK0 := hid h1
      clear h1 H
      obtain ⟨n0, hq0⟩ : ∃ n, n = k := ⟨_, rfl⟩
      subst hq0
      go_upto_region 7 with fail
      go_loopg [7] n1 (fun gk vi wr => ∃ k : Nat, gk + k = n1 ∧ vi = .int .i64 k ∧ Hid (Hp [] w wr (.box w1.heap.size (.cells #[.slice a0 n0 k0, .slice a1 n1 k1, .slice a2 n2 k2, .slice a3 n3 k3, .slice a4 n4 k4] 32) :: .box (w.heap.size + 1) (.cells #[.slice none 0 0, .slice none 0 0, .slice none 0 0, .slice none 0 0, .slice none 0 0] 32) :: .box w.heap.size (.cells #[.slice x0 n0 c0, .slice x1 n1 c1, .slice x2 n2 c2, .slice x3 n3 c3, .slice x4 n4 c4] 32) :: .row 63 2 (.slice a0 n0 k0) r0 n0 ((p0.map rVn).flatMap varC) :: .row 63 2 (.slice a1 n1 k1) r1 n1 ((mapTo rVn p1 k).flatMap varC) :: .row 9 1 (.slice a2 n2 k2) r2 n2 (p2.flatMap strC) :: .row 78 2 (.slice a3 n3 k3) r3 n3 (p3.flatMap varC) :: .row 67 3 (.slice a4 n4 k4) r4 n4 (ts.flatMap thrC) :: zs.flatMap thRows)))
      case atStart => exact ⟨0, by omega, rfl, hid (by rw [mapTo_zero]; exact HK0.out)⟩
      case round =>
        obtain ⟨k, hgk, rfl, H⟩ := hrel
        have u1 := H.out.cell (i := 0) rfl 1
        simp only [List.getElem?_toArray, List.getElem?_cons_zero, List.getElem?_cons_succ] at u1
        by_cases hlt : k < n1
        · obtain ⟨g, rfl, rfl, hcv⟩ := (H.out.rowAt (i := 4) rfl).slice (by omega)
          have hki : k < p1.length := by rw [HN.out.2.1]; exact hlt
          obtain ⟨x, hx⟩ : ∃ x, p1[k]'hki = x := ⟨_, rfl⟩
          have hgx : (mapTo rVn p1 k)[k]'(by rw [mapTo_len]; exact hki) = x := by rw [mapTo_get _ _ hki, hx]
          have y0 := Row.atf varC_len (H.out.rowAt (i := 4) rfl) (by rw [mapTo_len]; exact HN.out.2.1) (i := k) (by rw [mapTo_len]; exact hki) (j := 0) (by omega)
          rw [hgx] at y0
          have z0 : wr.cell? ⟨g, k * 2, none⟩ = some (.string x.name) := y0
          have gf := (Row.cellk (H.out.rowAt (i := 4) rfl)).2.1
          have hxs : x.name.size ≤ 1048576 := (HSM.out.2.1 _ (by rw [← hx]; exact List.getElem_mem _))
          have hng : g ≠ w1.heap.size := fun e => H.out.ne (i := 0) (j := 4) rfl rfl (by decide) rfl (by rw [e]; rfl)
          have HX := hid (And.intro hx hgx)
          clear y0 hx hgx
          by_cases hz : x.name.size = 0
          · have e1 : min (1 : Int) (x.name.size : Int) = 0 := by omega
            have e2 : dz x.name = ByteArray.empty := by unfold dz; rw [if_pos hz]
            have E2 := hid e2
            clear e2
            go_upto_region 9 with fail
            go_region
            have hf := (H.out.putf varC_len 4 rfl (i := k) (by rw [mapTo_len]; exact hki) (rVn x) (j := 0) (by omega) (u := .string (ByteArray.empty)) (by rw [HX.out.2]; rw [← E2.out]; rfl) rfl).same (Chg.refl [] _).drew
            simp only [List.set_cons_succ, List.set_cons_zero] at hf
            rw [← HX.out.1, mapTo_set _ _ hki] at hf
            have HF := hid hf
            clear hf
            go_wp2_with fail
            go_roundg (gk - 1)
            case measure => omega
            case rel => exact ⟨k + 1, by omega, by go_num, hid (by (try rw [HX.out.1] at HF); exact HF.out)⟩
          · have e1 : min (1 : Int) (x.name.size : Int) = 1 := by omega
            have e2 : dz x.name = x.name.extract 1 x.name.size := by unfold dz; rw [if_neg hz]
            have e4 : (1 : Int) ≤ (x.name.size : Int) := by omega
            have E2 := hid e2
            clear e2
            go_upto_region 9 with fail
            go_region
            have hf := (H.out.putf varC_len 4 rfl (i := k) (by rw [mapTo_len]; exact hki) (rVn x) (j := 0) (by omega) (u := .string (x.name.extract 1 x.name.size)) (by rw [HX.out.2]; rw [← E2.out]; rfl) rfl).same (Chg.refl [] _).drew
            simp only [List.set_cons_succ, List.set_cons_zero] at hf
            rw [← HX.out.1, mapTo_set _ _ hki] at hf
            have HF := hid hf
            clear hf
            go_wp2_with fail
            go_roundg (gk - 1)
            case measure => omega
            case rel => exact ⟨k + 1, by omega, by go_num, hid (by (try rw [HX.out.1] at HF); exact HF.out)⟩
        · obtain rfl : k = n1 := by omega
          have h1 := H.out
          rw [mapTo_all _ _ (by rw [HN.out.2.1]; exact Nat.le_refl _)] at h1
          have HK1 := hid h1
          clear h1 H
          obtain ⟨n1, hq1⟩ : ∃ n, n = k := ⟨_, rfl⟩
          subst hq1
          go_upto_region 11 with fail
          go_loopg [8] n2 (fun gk vi wr => ∃ k : Nat, gk + k = n2 ∧ vi = .int .i64 k ∧ Hid (Hp [] w wr (.box w1.heap.size (.cells #[.slice a0 n0 k0, .slice a1 n1 k1, .slice a2 n2 k2, .slice a3 n3 k3, .slice a4 n4 k4] 32) :: .box (w.heap.size + 1) (.cells #[.slice none 0 0, .slice none 0 0, .slice none 0 0, .slice none 0 0, .slice none 0 0] 32) :: .box w.heap.size (.cells #[.slice x0 n0 c0, .slice x1 n1 c1, .slice x2 n2 c2, .slice x3 n3 c3, .slice x4 n4 c4] 32) :: .row 63 2 (.slice a0 n0 k0) r0 n0 ((p0.map rVn).flatMap varC) :: .row 63 2 (.slice a1 n1 k1) r1 n1 ((p1.map rVn).flatMap varC) :: .row 9 1 (.slice a2 n2 k2) r2 n2 ((mapTo dz p2 k).flatMap strC) :: .row 78 2 (.slice a3 n3 k3) r3 n3 (p3.flatMap varC) :: .row 67 3 (.slice a4 n4 k4) r4 n4 (ts.flatMap thrC) :: zs.flatMap thRows)))
          case atStart => exact ⟨0, by omega, rfl, hid (by rw [mapTo_zero]; exact HK1.out)⟩
          case round =>
            obtain ⟨k, hgk, rfl, H⟩ := hrel
            have u2 := H.out.cell (i := 0) rfl 2
            simp only [List.getElem?_toArray, List.getElem?_cons_zero, List.getElem?_cons_succ] at u2
            by_cases hlt : k < n2
            · obtain ⟨g, rfl, rfl, hcv⟩ := (H.out.rowAt (i := 5) rfl).slice (by omega)
              have hki : k < p2.length := by rw [HN.out.2.2.1]; exact hlt
              obtain ⟨x, hx⟩ : ∃ x, p2[k]'hki = x := ⟨_, rfl⟩
              have hgx : (mapTo dz p2 k)[k]'(by rw [mapTo_len]; exact hki) = x := by rw [mapTo_get _ _ hki, hx]
              have y0 := Row.atf strC_len (H.out.rowAt (i := 5) rfl) (by rw [mapTo_len]; exact HN.out.2.2.1) (i := k) (by rw [mapTo_len]; exact hki) (j := 0) (by omega)
              rw [hgx] at y0
              have z0 : wr.cell? ⟨g, k, none⟩ = some (.string x) := by rw [Nat.mul_one] at y0; exact y0
              have gf := (Row.cellk (H.out.rowAt (i := 5) rfl)).2.1
              have hxs : x.size ≤ 1048576 := (HSM.out.2.2.1 _ (by rw [← hx]; exact List.getElem_mem _))
              have hng : g ≠ w1.heap.size := fun e => H.out.ne (i := 0) (j := 5) rfl rfl (by decide) rfl (by rw [e]; rfl)
              have HX := hid (And.intro hx hgx)
              clear y0 hx hgx
              by_cases hz : x.size = 0
              · have e1 : min (1 : Int) (x.size : Int) = 0 := by omega
                have e2 : dz x = ByteArray.empty := by unfold dz; rw [if_pos hz]
                have E2 := hid e2
                clear e2
                go_upto_region 13 with fail
                go_region
                have hf := (H.out.putf strC_len 5 rfl (i := k) (by rw [mapTo_len]; exact hki) (dz x) (j := 0) (by omega) (u := .string (ByteArray.empty)) (by rw [HX.out.2]; rw [← E2.out]; rfl) rfl).same (Chg.refl [] _).drew
                simp only [List.set_cons_succ, List.set_cons_zero] at hf
                rw [← HX.out.1, mapTo_set _ _ hki] at hf
                have HF := hid hf
                clear hf
                go_wp2_with fail
                go_roundg (gk - 1)
                case measure => omega
                case rel => exact ⟨k + 1, by omega, by go_num, hid (by (try rw [HX.out.1] at HF); have h9 := HF.out; rw [Nat.mul_one] at h9; exact h9)⟩
              · have e1 : min (1 : Int) (x.size : Int) = 1 := by omega
                have e2 : dz x = x.extract 1 x.size := by unfold dz; rw [if_neg hz]
                have e4 : (1 : Int) ≤ (x.size : Int) := by omega
                have E2 := hid e2
                clear e2
                go_upto_region 13 with fail
                go_region
                have hf := (H.out.putf strC_len 5 rfl (i := k) (by rw [mapTo_len]; exact hki) (dz x) (j := 0) (by omega) (u := .string (x.extract 1 x.size)) (by rw [HX.out.2]; rw [← E2.out]; rfl) rfl).same (Chg.refl [] _).drew
                simp only [List.set_cons_succ, List.set_cons_zero] at hf
                rw [← HX.out.1, mapTo_set _ _ hki] at hf
                have HF := hid hf
                clear hf
                go_wp2_with fail
                go_roundg (gk - 1)
                case measure => omega
                case rel => exact ⟨k + 1, by omega, by go_num, hid (by (try rw [HX.out.1] at HF); have h9 := HF.out; rw [Nat.mul_one] at h9; exact h9)⟩
            · obtain rfl : k = n2 := by omega
              have h1 := H.out
              rw [mapTo_all _ _ (by rw [HN.out.2.2.1]; exact Nat.le_refl _)] at h1
              have HK2 := hid h1
              clear h1 H
              obtain ⟨n2, hq2⟩ : ∃ n, n = k := ⟨_, rfl⟩
              subst hq2
              go_upto_region 15 with fail
              go_loopg [9] n3 (fun gk vi wr => ∃ k : Nat, gk + k = n3 ∧ vi = .int .i64 k ∧ Hid (Hp [] w wr (.box w1.heap.size (.cells #[.slice a0 n0 k0, .slice a1 n1 k1, .slice a2 n2 k2, .slice a3 n3 k3, .slice a4 n4 k4] 32) :: .box (w.heap.size + 1) (.cells #[.slice none 0 0, .slice none 0 0, .slice none 0 0, .slice none 0 0, .slice none 0 0] 32) :: .box w.heap.size (.cells #[.slice x0 n0 c0, .slice x1 n1 c1, .slice x2 n2 c2, .slice x3 n3 c3, .slice x4 n4 c4] 32) :: .row 63 2 (.slice a0 n0 k0) r0 n0 ((p0.map rVn).flatMap varC) :: .row 63 2 (.slice a1 n1 k1) r1 n1 ((p1.map rVn).flatMap varC) :: .row 9 1 (.slice a2 n2 k2) r2 n2 ((p2.map dz).flatMap strC) :: .row 78 2 (.slice a3 n3 k3) r3 n3 ((mapTo rVn p3 k).flatMap varC) :: .row 67 3 (.slice a4 n4 k4) r4 n4 (ts.flatMap thrC) :: zs.flatMap thRows)))
              case atStart => exact ⟨0, by omega, rfl, hid (by rw [mapTo_zero]; exact HK2.out)⟩
              case round =>
                obtain ⟨k, hgk, rfl, H⟩ := hrel
                have u3 := H.out.cell (i := 0) rfl 3
                simp only [List.getElem?_toArray, List.getElem?_cons_zero, List.getElem?_cons_succ] at u3
                by_cases hlt : k < n3
                · obtain ⟨g, rfl, rfl, hcv⟩ := (H.out.rowAt (i := 6) rfl).slice (by omega)
                  have hki : k < p3.length := by rw [HN.out.2.2.2.1]; exact hlt
                  obtain ⟨x, hx⟩ : ∃ x, p3[k]'hki = x := ⟨_, rfl⟩
                  have hgx : (mapTo rVn p3 k)[k]'(by rw [mapTo_len]; exact hki) = x := by rw [mapTo_get _ _ hki, hx]
                  have y0 := Row.atf varC_len (H.out.rowAt (i := 6) rfl) (by rw [mapTo_len]; exact HN.out.2.2.2.1) (i := k) (by rw [mapTo_len]; exact hki) (j := 0) (by omega)
                  rw [hgx] at y0
                  have z0 : wr.cell? ⟨g, k * 2, none⟩ = some (.string x.name) := y0
                  have gf := (Row.cellk (H.out.rowAt (i := 6) rfl)).2.1
                  have hxs : x.name.size ≤ 1048576 := (HSM.out.2.2.2.1 _ (by rw [← hx]; exact List.getElem_mem _))
                  have hng : g ≠ w1.heap.size := fun e => H.out.ne (i := 0) (j := 6) rfl rfl (by decide) rfl (by rw [e]; rfl)
                  have HX := hid (And.intro hx hgx)
                  clear y0 hx hgx
                  by_cases hz : x.name.size = 0
                  · have e1 : min (1 : Int) (x.name.size : Int) = 0 := by omega
                    have e2 : dz x.name = ByteArray.empty := by unfold dz; rw [if_pos hz]
                    have E2 := hid e2
                    clear e2
                    go_upto_region 17 with fail
                    go_region
                    have hf := (H.out.putf varC_len 6 rfl (i := k) (by rw [mapTo_len]; exact hki) (rVn x) (j := 0) (by omega) (u := .string (ByteArray.empty)) (by rw [HX.out.2]; rw [← E2.out]; rfl) rfl).same (Chg.refl [] _).drew
                    simp only [List.set_cons_succ, List.set_cons_zero] at hf
                    rw [← HX.out.1, mapTo_set _ _ hki] at hf
                    have HF := hid hf
                    clear hf
                    go_wp2_with fail
                    go_roundg (gk - 1)
                    case measure => omega
                    case rel => exact ⟨k + 1, by omega, by go_num, hid (by (try rw [HX.out.1] at HF); exact HF.out)⟩
                  · have e1 : min (1 : Int) (x.name.size : Int) = 1 := by omega
                    have e2 : dz x.name = x.name.extract 1 x.name.size := by unfold dz; rw [if_neg hz]
                    have e4 : (1 : Int) ≤ (x.name.size : Int) := by omega
                    have E2 := hid e2
                    clear e2
                    go_upto_region 17 with fail
                    go_region
                    have hf := (H.out.putf varC_len 6 rfl (i := k) (by rw [mapTo_len]; exact hki) (rVn x) (j := 0) (by omega) (u := .string (x.name.extract 1 x.name.size)) (by rw [HX.out.2]; rw [← E2.out]; rfl) rfl).same (Chg.refl [] _).drew
                    simp only [List.set_cons_succ, List.set_cons_zero] at hf
                    rw [← HX.out.1, mapTo_set _ _ hki] at hf
                    have HF := hid hf
                    clear hf
                    go_wp2_with fail
                    go_roundg (gk - 1)
                    case measure => omega
                    case rel => exact ⟨k + 1, by omega, by go_num, hid (by (try rw [HX.out.1] at HF); exact HF.out)⟩
                · obtain rfl : k = n3 := by omega
                  have h1 := H.out
                  rw [mapTo_all _ _ (by rw [HN.out.2.2.2.1]; exact Nat.le_refl _)] at h1
                  have HK3 := hid h1
                  clear h1 H
                  obtain ⟨n3, hq3⟩ : ∃ n, n = k := ⟨_, rfl⟩
                  subst hq3
                  go_upto_region 19 with fail
                  go_loopg [10] n4 (fun gk vi wr => ∃ k : Nat, gk + k = n4 ∧ vi = .int .i64 k ∧ Hid (Hp [] w wr (.box w1.heap.size (.cells #[.slice a0 n0 k0, .slice a1 n1 k1, .slice a2 n2 k2, .slice a3 n3 k3, .slice a4 n4 k4] 32) :: .box (w.heap.size + 1) (.cells #[.slice none 0 0, .slice none 0 0, .slice none 0 0, .slice none 0 0, .slice none 0 0] 32) :: .box w.heap.size (.cells #[.slice x0 n0 c0, .slice x1 n1 c1, .slice x2 n2 c2, .slice x3 n3 c3, .slice x4 n4 c4] 32) :: .row 63 2 (.slice a0 n0 k0) r0 n0 ((p0.map rVn).flatMap varC) :: .row 63 2 (.slice a1 n1 k1) r1 n1 ((p1.map rVn).flatMap varC) :: .row 9 1 (.slice a2 n2 k2) r2 n2 ((p2.map dz).flatMap strC) :: .row 78 2 (.slice a3 n3 k3) r3 n3 ((p3.map rVn).flatMap varC) :: .row 67 3 (.slice a4 n4 k4) r4 n4 ((mapTo rTn ts k).flatMap thrC) :: zs.flatMap thRows)))
                  case atStart => exact ⟨0, by omega, rfl, hid (by rw [mapTo_zero]; exact HK3.out)⟩
                  case round =>
                    obtain ⟨k, hgk, rfl, H⟩ := hrel
                    have u4 := H.out.cell (i := 0) rfl 4
                    simp only [List.getElem?_toArray, List.getElem?_cons_zero, List.getElem?_cons_succ] at u4
                    by_cases hlt : k < n4
                    · obtain ⟨g, rfl, rfl, hcv⟩ := (H.out.rowAt (i := 7) rfl).slice (by omega)
                      have hki : k < ts.length := by rw [HTS.out.2]; exact hlt
                      obtain ⟨x, hx⟩ : ∃ x, ts[k]'hki = x := ⟨_, rfl⟩
                      have hgx : (mapTo rTn ts k)[k]'(by rw [mapTo_len]; exact hki) = x := by rw [mapTo_get _ _ hki, hx]
                      have y0 := Row.atf thrC_len (H.out.rowAt (i := 7) rfl) (by rw [mapTo_len]; exact HTS.out.2) (i := k) (by rw [mapTo_len]; exact hki) (j := 0) (by omega)
                      rw [hgx] at y0
                      have z0 : wr.cell? ⟨g, k * 3, none⟩ = some (.string x.t.name) := y0
                      have gf := (Row.cellk (H.out.rowAt (i := 7) rfl)).2.1
                      have hxs : x.t.name.size ≤ 1048576 := (HSM.out.2.2.2.2 _ (by rw [← HZT.out, ← hx]; have := HTS.out.1; subst this; rw [List.getElem_map]; exact List.mem_map.2 ⟨_, List.getElem_mem _, rfl⟩)).1
                      have hng : g ≠ w1.heap.size := fun e => H.out.ne (i := 0) (j := 7) rfl rfl (by decide) rfl (by rw [e]; rfl)
                      have HX := hid (And.intro hx hgx)
                      clear y0 hx hgx
                      by_cases hz : x.t.name.size = 0
                      · have e1 : min (1 : Int) (x.t.name.size : Int) = 0 := by omega
                        have e2 : dz x.t.name = ByteArray.empty := by unfold dz; rw [if_pos hz]
                        have E2 := hid e2
                        clear e2
                        go_upto_region 21 with fail
                        go_region
                        have hf := (H.out.putf thrC_len 7 rfl (i := k) (by rw [mapTo_len]; exact hki) (rTn x) (j := 0) (by omega) (u := .string (ByteArray.empty)) (by rw [HX.out.2]; rw [← E2.out]; rfl) rfl).same (Chg.refl [] _).drew
                        simp only [List.set_cons_succ, List.set_cons_zero] at hf
                        rw [← HX.out.1, mapTo_set _ _ hki] at hf
                        have HF := hid hf
                        clear hf
                        go_wp2_with fail
                        go_roundg (gk - 1)
                        case measure => omega
                        case rel => exact ⟨k + 1, by omega, by go_num, hid (by (try rw [HX.out.1] at HF); exact HF.out)⟩
                      · have e1 : min (1 : Int) (x.t.name.size : Int) = 1 := by omega
                        have e2 : dz x.t.name = x.t.name.extract 1 x.t.name.size := by unfold dz; rw [if_neg hz]
                        have e4 : (1 : Int) ≤ (x.t.name.size : Int) := by omega
                        have E2 := hid e2
                        clear e2
                        go_upto_region 21 with fail
                        go_region
                        have hf := (H.out.putf thrC_len 7 rfl (i := k) (by rw [mapTo_len]; exact hki) (rTn x) (j := 0) (by omega) (u := .string (x.t.name.extract 1 x.t.name.size)) (by rw [HX.out.2]; rw [← E2.out]; rfl) rfl).same (Chg.refl [] _).drew
                        simp only [List.set_cons_succ, List.set_cons_zero] at hf
                        rw [← HX.out.1, mapTo_set _ _ hki] at hf
                        have HF := hid hf
                        clear hf
                        go_wp2_with fail
                        go_roundg (gk - 1)
                        case measure => omega
                        case rel => exact ⟨k + 1, by omega, by go_num, hid (by (try rw [HX.out.1] at HF); exact HF.out)⟩
                    · obtain rfl : k = n4 := by omega
                      have h1 := H.out
                      rw [mapTo_all _ _ (by rw [HTS.out.2]; exact Nat.le_refl _)] at h1
                      have HK4 := hid h1
                      clear h1 H
                      obtain ⟨n4, hq4⟩ : ∃ n, n = k := ⟨_, rfl⟩
                      subst hq4
                      have u0 := HK4.out.cell (i := 0) rfl 0
                      have u1 := HK4.out.cell (i := 0) rfl 1
                      have u2 := HK4.out.cell (i := 0) rfl 2
                      have u3 := HK4.out.cell (i := 0) rfl 3
                      have u4 := HK4.out.cell (i := 0) rfl 4
                      have z0 := HK4.out.cell (i := 1) rfl 0
                      have z1 := HK4.out.cell (i := 1) rfl 1
                      have z2 := HK4.out.cell (i := 1) rfl 2
                      have z3 := HK4.out.cell (i := 1) rfl 3
                      have z4 := HK4.out.cell (i := 1) rfl 4
                      have zf := HK4.out.free (i := 1) rfl
                      simp only [List.getElem?_toArray, List.getElem?_cons_zero, List.getElem?_cons_succ] at u0 u1 u2 u3 u4 z0 z1 z2 z3 z4
                      have q5 := (((((HK4.out.put 1 rfl 0 (.slice a0 n0 k0) rfl).put 1 rfl 1 (.slice a1 n1 k1) rfl).put 1 rfl 2 (.slice a2 n2 k2) rfl).put 1 rfl 3 (.slice a3 n3 k3) rfl).put 1 rfl 4 (.slice a4 n4 k4) rfl)
                      simp only [List.set_cons_zero, List.set_cons_succ, List.setIfInBounds_toArray] at q5
                      have HQ5 := hid q5
                      clear q5
                      go_wp2_with fail
                      obtain ⟨wC, hwC⟩ : ∃ wC, (((((wr.setCell ⟨w.heap.size + 1, 0, none⟩ (.slice a0 n0 k0)).setCell ⟨w.heap.size + 1, 1, none⟩ (.slice a1 n1 k1)).setCell ⟨w.heap.size + 1, 2, none⟩ (.slice a2 n2 k2)).setCell ⟨w.heap.size + 1, 3, none⟩ (.slice a3 n3 k3)).setCell ⟨w.heap.size + 1, 4, none⟩ (.slice a4 n4 k4)) = wC := ⟨_, rfl⟩
                      rw [hwC] at HQ5
                      try rw [hwC]
                      clear hwC
                      have d0 := HQ5.out.cell (i := 1) rfl 0
                      have d1 := HQ5.out.cell (i := 1) rfl 1
                      have d2 := HQ5.out.cell (i := 1) rfl 2
                      have d3 := HQ5.out.cell (i := 1) rfl 3
                      have d4 := HQ5.out.cell (i := 1) rfl 4
                      simp only [List.getElem?_toArray, List.getElem?_cons_zero, List.getElem?_cons_succ] at d0 d1 d2 d3 d4
                      refine bodyPost_ret (v := .agg #[.slice a0 n0 k0, .slice a1 n1 k1, .slice a2 n2 k2, .slice a3 n3 k3, .slice a4 n4 k4]) (by simp [results, Try.results13, go_sem, d0, d1, d2, d3, d4]) rfl ⟨_, rfl, ⟨_, _, _, _, _, r0, r1, r2, r3, r4, zs.map (fun z => (rTn z.1, z.2)), rfl, ?_, ?_⟩⟩
                      · have h9 := HQ5.out.sub (.cons _ (.cons _ (.cons _ (.refl _))))
                        unfold prgRows lessD
                        simp only [List.length_map, HN.out.1, HN.out.2.1, HN.out.2.2.1, HN.out.2.2.2.1, HN.out.2.2.2.2]
                        have e8 : (zs.map (fun z => (rTn z.1, z.2))).map Prod.fst = ts.map rTn := by rw [← HTS.out.1, List.map_map, List.map_map]; rfl
                        have e9 : (zs.map (fun z => (rTn z.1, z.2))).flatMap thRows = zs.flatMap thRows := by rw [List.flatMap_map]; rfl
                        rw [e8, e9]
                        exact h9
                      · show (zs.map (fun z => (rTn z.1, z.2))).map (fun z => z.1.t) = pt.map rTd
                        rw [← HZT.out, List.map_map, List.map_map]
                        rfl
end Go.Proofs.Ytaknmhipaifdkaa
