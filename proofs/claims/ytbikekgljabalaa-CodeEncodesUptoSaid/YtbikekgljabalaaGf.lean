/- Walks of the code layer: is it plain? The reference's, whole. -/
import Derived.Test.YtbikekgljabalaaGe
namespace Go.Proofs.Ytbikekgljabalaa
open Go.RowKit Go.AB
set_option linter.unusedSimpArgs false
set_option linter.unusedVariables false

set_option maxHeartbeats 8000000 in
set_option maxRecDepth 100000 in
theorem r_plain_calls (p : PrgD) (hs : SmallP p) {v : Value} (w : World) (hv : PrgV w v p) :
    Calls Try.prog 17 #[v] w fun e w' => e = .returned (.bool (prgB p)) ∧ Chg [] w w' := by
  obtain ⟨a, b, c, d, e, ts, rfl, h1, h2, h3, h4, h5, h6, h7⟩ := hv
  have htl : ts.length = p.thrs.length := by rw [← h6, List.length_map]
  obtain ⟨a1, c1, rfl, _⟩ := h1.len
  obtain ⟨a2, c2, rfl, _⟩ := h2.len
  obtain ⟨a3, c3, rfl, _⟩ := h3.len
  obtain ⟨a4, c4, rfl, _⟩ := h4.len
  obtain ⟨a5, c5, rfl, _⟩ := h5.len
  have HH5 := hid h5
  have HH3 := hid h3
  have HH4 := hid h4
  rw [htl] at h5 ⊢
  have q1 := hid fun u (hu : Chg [] w u) => r_vars_calls p.vars hs.nvars hs.vars u (h1.keep hu)
  have q2 := hid fun u (hu : Chg [] w u) => r_vars_calls p.vols hs.nvols hs.vols u (h2.keep hu)
  have hP := prgB_chk p
  rw [show locksB p.locks = (decide (p.locks.length ≤ 4096) && p.locks.all fun v => decide (v.size ≤ 24)) from rfl, show varsB p.bars = (decide (p.bars.length ≤ 4096) && p.bars.all fun v => decide (v.name.size ≤ 24)) from rfl] at hP
  obtain ⟨n1, hn1⟩ : ∃ n, p.vars.length = n := ⟨_, rfl⟩
  obtain ⟨n2, hn2⟩ : ∃ n, p.vols.length = n := ⟨_, rfl⟩
  obtain ⟨n3, hn3⟩ : ∃ n, p.locks.length = n := ⟨_, rfl⟩
  obtain ⟨n4, hn4⟩ : ∃ n, p.bars.length = n := ⟨_, rfl⟩
  obtain ⟨n5, hn5⟩ : ∃ n, p.thrs.length = n := ⟨_, rfl⟩
  have sv := hs.vars
  have so := hs.vols
  have sl := hs.locks
  have sb := hs.bars
  have st := hs.thrs
  rw [hn1] at q1 sv ⊢
  rw [hn2] at q2 so ⊢
  rw [hn3] at hP sl ⊢
  rw [hn4] at hP sb ⊢
  rw [hn5] at hP st ⊢
  have HTL : Hid (ts.length = n5) := hid (htl.trans hn5)
  have HN := hid (And.intro hn3 hn4)
  have HT := hid (And.intro h6 (And.intro h7 hs.nthrs))
  have HNN := hid (And.intro hs.nlocks hs.nbars)
  clear h1 h2 h3 h4 h5 h6 h7 hn1 hn2 hn3 hn4 hn5 htl hs
  obtain ⟨b1, hb1⟩ : ∃ b, varsB p.vars = b := ⟨_, rfl⟩
  obtain ⟨b2, hb2⟩ : ∃ b, varsB p.vols = b := ⟨_, rfl⟩
  rw [hb1] at q1 hP
  rw [hb2] at q2 hP
  obtain ⟨T, hT⟩ : ∃ x, p.thrs = x := ⟨_, rfl⟩
  obtain ⟨L, hL⟩ : ∃ x, p.locks = x := ⟨_, rfl⟩
  obtain ⟨G, hG⟩ : ∃ x, p.bars = x := ⟨_, rfl⟩
  rw [hT] at hP HT
  rw [hL] at hP HNN HH3 HN
  rw [hG] at hP HNN HH4 HN
  obtain ⟨R, hR⟩ : ∃ x, prgB p = x := ⟨_, rfl⟩
  rw [hR] at hP ⊢
  have HP := hid hP
  clear hP hb1 hb2 hT hL hG hR
  have box : ∀ u, Chg [] (w.alloc (.cells #[.slice a1 n1 c1, .slice a2 n2 c2, .slice a3 n3 c3, .slice a4 n4 c4, .slice a5 n5 c5] 28)) u → u.cell? ⟨w.heap.size, 4, none⟩ = some (.slice a5 n5 c5) := fun u hu => hu.cell (by simp) (by simp)
  have BOX := hid box
  clear box
  cases b1
  case false =>
    have HF : Hid (R = false) := hid (by rw [HP.out]; rfl)
    go_enter Try.func17, Try.ntmps17
    go_wp2_with (go_at_call 40; (with_reducible refine (q1.out _ ((Chg.refl _ _).alloc _)).mono ?_); rintro e w' ⟨rfl, rfl⟩)
    go_ret
    exact ⟨by rw [HF.out]; rfl, (Chg.refl _ _).alloc _⟩
  cases b2
  case false =>
    have HF : Hid (R = false) := hid (by rw [HP.out]; rfl)
    go_enter Try.func17, Try.ntmps17
    go_wp2_with (first
      | (go_at_call 40; (with_reducible refine (q1.out _ ((Chg.refl _ _).alloc _)).mono ?_); rintro e w' ⟨rfl, rfl⟩)
      | (go_at_call 40; (with_reducible refine (q2.out _ ((Chg.refl _ _).alloc _)).mono ?_); rintro e w' ⟨rfl, rfl⟩))
    go_ret
    exact ⟨by rw [HF.out]; rfl, (Chg.refl _ _).alloc _⟩
  by_cases g3 : 4096 < n3
  · have HF : Hid (R = false) := hid (by rw [HP.out, decide_eq_false (show ¬ n3 ≤ 4096 by omega)]; simp)
    have g3' : (4096 : Int) < (n3 : Int) := by omega
    go_enter Try.func17, Try.ntmps17
    go_wp2_with (first
      | (go_at_call 40; (with_reducible refine (q1.out _ ((Chg.refl _ _).alloc _)).mono ?_); rintro e w' ⟨rfl, rfl⟩)
      | (go_at_call 40; (with_reducible refine (q2.out _ ((Chg.refl _ _).alloc _)).mono ?_); rintro e w' ⟨rfl, rfl⟩))
    go_ret
    exact ⟨by rw [HF.out]; rfl, (Chg.refl _ _).alloc _⟩
  have g3' : (n3 : Int) ≤ 4096 := by omega
  by_cases g4 : 4096 < n4
  · have HF : Hid (R = false) := hid (by rw [HP.out, decide_eq_false (show ¬ n4 ≤ 4096 by omega)]; simp)
    have g4' : (4096 : Int) < (n4 : Int) := by omega
    go_enter Try.func17, Try.ntmps17
    go_wp2_with (first
      | (go_at_call 40; (with_reducible refine (q1.out _ ((Chg.refl _ _).alloc _)).mono ?_); rintro e w' ⟨rfl, rfl⟩)
      | (go_at_call 40; (with_reducible refine (q2.out _ ((Chg.refl _ _).alloc _)).mono ?_); rintro e w' ⟨rfl, rfl⟩))
    go_ret
    exact ⟨by rw [HF.out]; rfl, (Chg.refl _ _).alloc _⟩
  have g4' : (n4 : Int) ≤ 4096 := by omega
  by_cases g5 : 65535 < n5
  · have HF : Hid (R = false) := hid (by rw [HP.out, decide_eq_false (show ¬ n5 ≤ 65535 by omega)]; simp)
    have g5' : (65535 : Int) < (n5 : Int) := by omega
    go_enter Try.func17, Try.ntmps17
    go_wp2_with (first
      | (go_at_call 40; (with_reducible refine (q1.out _ ((Chg.refl _ _).alloc _)).mono ?_); rintro e w' ⟨rfl, rfl⟩)
      | (go_at_call 40; (with_reducible refine (q2.out _ ((Chg.refl _ _).alloc _)).mono ?_); rintro e w' ⟨rfl, rfl⟩))
    go_ret
    exact ⟨by rw [HF.out]; rfl, (Chg.refl _ _).alloc _⟩
  have g5' : (n5 : Int) ≤ 65535 := by omega
  have HR : Hid (R = ((L.all fun v => decide (v.size ≤ 24)) && ((G.all fun v => decide (v.name.size ≤ 24)) && chkT 0 T))) := hid (by
    rw [HP.out, decide_eq_true (show n3 ≤ 4096 by omega), decide_eq_true (show n4 ≤ 4096 by omega), decide_eq_true (show n5 ≤ 65535 by omega)]
    simp [Bool.and_assoc])
  clear HP
  go_enter Try.func17, Try.ntmps17
  go_wp2_with (first
      | (go_at_call 40; (with_reducible refine (q1.out _ ((Chg.refl _ _).alloc _)).mono ?_); rintro e w' ⟨rfl, rfl⟩)
      | (go_at_call 40; (with_reducible refine (q2.out _ ((Chg.refl _ _).alloc _)).mono ?_); rintro e w' ⟨rfl, rfl⟩))
  go_loop [3] (fun vi => ∃ k : Nat, k ≤ n3 ∧ vi = .int .i64 k ∧ Hid (R = (((L.drop k).all fun v => decide (v.size ≤ 24)) && ((G.all fun v => decide (v.name.size ≤ 24)) && chkT 0 T)))) (fun vi => n3 - (intOf vi).toNat)
  case atStart => exact ⟨0, Nat.zero_le _, rfl, HR.out⟩
  case round =>
    obtain ⟨k, hk, rfl, hh⟩ := hrel
    by_cases hlt : k < n3
    · have hkl : k < L.length := by rw [HN.out.1]; exact hlt
      obtain ⟨b, off, hao, hcl⟩ := HH3.out.at strC_len hkl (by omega)
      have zl : (k : Int) < (n3 : Int) := by omega
      have c0 := ((Chg.refl [] w).alloc (.cells #[.slice a1 n1 c1, .slice a2 n2 c2, .slice a3 n3 c3, .slice a4 n4 c4, .slice a5 n5 c5] 28)).cell (hcl 0 (by omega)) (by simp)
      have hbx := HNN.out.1 _ (List.getElem_mem hkl)
      have hdr : L.drop k = L[k] :: L.drop (k + 1) := List.drop_eq_getElem_cons hkl
      have hh2 := hh.out
      rw [hdr, List.all_cons] at hh2
      obtain ⟨S, hS⟩ : ∃ S, L[k] = S := ⟨_, rfl⟩
      rw [hS] at c0 hbx hh2
      change World.cell? _ _ = some (Value.string S) at c0
      rw [Nat.mul_one, Nat.add_zero] at c0
      have HH := hid hh2
      have HAO := hid hao
      subst hao
      clear hcl hh hh2 hdr hS
      by_cases hs : 24 < S.size
      · have HF : Hid (R = false) := hid (by rw [HH.out, decide_eq_false (show ¬ S.size ≤ 24 by omega), Bool.false_and, Bool.false_and])
        have hs' : (24 : Int) < (S.size : Int) := by omega
        go_wp2
        go_ret
        exact ⟨by rw [HF.out]; rfl, (Chg.refl _ _).alloc _⟩
      · have HF := hid (show R = (((L.drop (k + 1)).all fun v => decide (v.size ≤ 24)) && ((G.all fun v => decide (v.name.size ≤ 24)) && chkT 0 T)) by rw [HH.out, decide_eq_true (show S.size ≤ 24 by omega), Bool.true_and])
        have hs' : (S.size : Int) ≤ 24 := by omega
        go_wp2
        refine ⟨⟨k + 1, by omega, by go_num, HF⟩, by simp [intOf]; omega⟩
    · obtain rfl : k = n3 := by omega
      have HR2 : Hid (R = ((G.all fun v => decide (v.name.size ≤ 24)) && chkT 0 T)) := hid (by rw [hh.out, List.drop_eq_nil_of_le (by rw [HN.out.1]; exact Nat.le_refl _)]; rfl)
      clear hh
      go_wp2
      go_loop [4] (fun vi => ∃ k2 : Nat, k2 ≤ n4 ∧ vi = .int .i64 k2 ∧ Hid (R = (((G.drop k2).all fun v => decide (v.name.size ≤ 24)) && chkT 0 T))) (fun vi => n4 - (intOf vi).toNat)
      case atStart => exact ⟨0, Nat.zero_le _, rfl, HR2.out⟩
      case round =>
        obtain ⟨k2, hk2, rfl, hh⟩ := hrel
        by_cases hlt2 : k2 < n4
        · have hkl : k2 < G.length := by rw [HN.out.2]; exact hlt2
          obtain ⟨b, off, hao, hcl⟩ := HH4.out.at varC_len hkl (by omega)
          have zl : (k2 : Int) < (n4 : Int) := by omega
          have c0 := ((Chg.refl [] w).alloc (.cells #[.slice a1 n1 c1, .slice a2 n2 c2, .slice a3 k c3, .slice a4 n4 c4, .slice a5 n5 c5] 28)).cell (hcl 0 (by omega)) (by simp)
          have hbx := HNN.out.2 _ (List.getElem_mem hkl)
          have hdr : G.drop k2 = G[k2] :: G.drop (k2 + 1) := List.drop_eq_getElem_cons hkl
          have hh2 := hh.out
          rw [hdr, List.all_cons] at hh2
          obtain ⟨S, hS⟩ : ∃ S, G[k2] = S := ⟨_, rfl⟩
          rw [hS] at c0 hbx hh2
          change World.cell? _ _ = some (Value.string S.name) at c0
          rw [Nat.add_zero] at c0
          have HH := hid hh2
          have HAO := hid hao
          subst hao
          clear hcl hh hh2 hdr hS
          by_cases hs : 24 < S.name.size
          · have HF : Hid (R = false) := hid (by rw [HH.out, decide_eq_false (show ¬ S.name.size ≤ 24 by omega), Bool.false_and, Bool.false_and])
            have hs' : (24 : Int) < (S.name.size : Int) := by omega
            go_wp2
            go_ret
            exact ⟨by rw [HF.out]; rfl, (Chg.refl _ _).alloc _⟩
          · have HF := hid (show R = (((G.drop (k2 + 1)).all fun v => decide (v.name.size ≤ 24)) && chkT 0 T) by rw [HH.out, decide_eq_true (show S.name.size ≤ 24 by omega), Bool.true_and])
            have hs' : (S.name.size : Int) ≤ 24 := by omega
            go_wp2
            refine ⟨⟨k2 + 1, by omega, by go_num, HF⟩, by simp [intOf]; omega⟩
        · obtain rfl : k2 = n4 := by omega
          have HR3 : Hid (R = chkT 0 T) := hid (by rw [hh.out, List.drop_eq_nil_of_le (by rw [HN.out.2]; exact Nat.le_refl _)]; rfl)
          clear hh
          go_wp2
          go_loopw [5, 6] (fun vs vi wx => ∃ j s : Nat, j ≤ n5 ∧ vs = .int .i64 s ∧ vi = .int .i64 j ∧ s ≤ 262144 ∧ Chg [] (w.alloc (.cells #[.slice a1 n1 c1, .slice a2 n2 c2, .slice a3 k c3, .slice a4 k2 c4, .slice a5 n5 c5] 28)) wx ∧ Hid (R = chkT s (T.drop j))) (fun _ vi _ => n5 - (intOf vi).toNat)
          case atStart => exact ⟨0, 0, Nat.zero_le _, rfl, rfl, by omega, Chg.refl _ _, HR3.out⟩
          case round =>
            obtain ⟨j, s, hj, rfl, rfl, hs, hch, hh⟩ := hrel
            have m4 := BOX.out _ hch
            by_cases hlt3 : j < n5
            · have hkt : j < ts.length := by rw [HTL.out]; exact hlt3
              have hkT : j < T.length := by rw [← HT.out.1, List.length_map]; exact hkt
              have hox : Chg [] w wr := ((Chg.refl _ _).alloc _).trans' hch
              obtain ⟨bt, ot, hao, hcl⟩ := (HH5.out.keep hox).at thrC_len hkt (by omega)
              have c0 : wr.cell? ⟨bt, ot + j * 3, none⟩ = some (.string ts[j].t.name) := hcl 0 (by omega)
              have c1' : wr.cell? ⟨bt, ot + j * 3 + 1, none⟩ = some ts[j].code := hcl 1 (by omega)
              have c2' : wr.cell? ⟨bt, ot + j * 3 + 2, none⟩ = some ts[j].places := hcl 2 (by omega)
              have hx := HT.out.2.1 ts[j] (List.getElem_mem hkt)
              have hTk : T[j] = ts[j].t := by
                have := HT.out.1
                subst this
                simp
              have hnt := HT.out.2.2 T[j] (List.getElem_mem hkT)
              have hdr : T.drop j = T[j] :: T.drop (j + 1) := List.drop_eq_getElem_cons hkT
              have hh2 := hh.out
              rw [hdr] at hh2
              have hh3 : R = (thrB T[j] && (decide (s + T[j].code.length ≤ 262144) && chkT (s + T[j].code.length) (T.drop (j + 1)))) := hh2
              rw [hTk] at hh3 hnt
              obtain ⟨X, hX⟩ : ∃ X, ts[j] = X := ⟨_, rfl⟩
              rw [hX] at c0 c1' c2' hx hh3 hnt
              obtain ⟨⟨nm, code, places⟩, vc, vp⟩ := X
              simp only at c0 c1' c2' hx hh3 hnt
              have hth := r_thread_calls nm code places hnt.1 hnt.2.1 hnt.2.2 wr (hx.1.keep hox) (hx.2.keep hox)
              obtain ⟨qt, hqt⟩ : ∃ q, thrB ⟨nm, code, places⟩ = q := ⟨_, rfl⟩
              rw [hqt] at hh3 hth
              obtain ⟨ac, cc, rfl, _⟩ := hx.1.len
              obtain ⟨nc, hnc⟩ : ∃ n, code.length = n := ⟨_, rfl⟩
              rw [hnc] at c1' hth hh3 hnt
              have HTH := hid hth
              have HHR := hid hh3
              have KP := hid (And.intro m4 c1')
              have HCH := hid hch
              have HAO := hid hao
              have zl : (j : Int) < (n5 : Int) := by omega
              have t2 := hnt.2.1
              subst hao
              clear hh hh2 hh3 hdr hcl hTk hX hx hth hqt hnc hch hnt hox
              cases qt
              case false =>
                have HF : Hid (R = false) := hid (by rw [HHR.out, Bool.false_and])
                go_wp2_with (go_at_call 41; refine HTH.out.mono ?_; rintro e w7 ⟨rfl, hc7⟩; have n4' := hc7.cell KP.out.1 (by simp); have n5' := hc7.cell KP.out.2 (by simp))
                go_ret
                exact ⟨by rw [HF.out]; rfl, (((Chg.refl _ _).alloc _).trans' HCH.out).trans' hc7⟩
              by_cases g6 : 262144 < s + nc
              · have HF : Hid (R = false) := hid (by rw [HHR.out, decide_eq_false (show ¬ s + nc ≤ 262144 by omega)]; simp)
                have g6' : (262144 : Int) < (s : Int) + (nc : Int) := by omega
                go_wp2_with (go_at_call 41; refine HTH.out.mono ?_; rintro e w7 ⟨rfl, hc7⟩; have n4' := hc7.cell KP.out.1 (by simp); have n5' := hc7.cell KP.out.2 (by simp))
                go_ret
                exact ⟨by rw [HF.out]; rfl, (((Chg.refl _ _).alloc _).trans' HCH.out).trans' hc7⟩
              have g6' : (s : Int) + (nc : Int) ≤ 262144 := by omega
              have HF : Hid (R = chkT (s + nc) (T.drop (j + 1))) := hid (by rw [HHR.out, decide_eq_true (show s + nc ≤ 262144 by omega)]; simp)
              go_wp2_with (go_at_call 41; refine HTH.out.mono ?_; rintro e w7 ⟨rfl, hc7⟩; have n4' := hc7.cell KP.out.1 (by simp); have n5' := hc7.cell KP.out.2 (by simp))
              go_roundw
              case rel => exact ⟨j + 1, s + nc, by omega, by go_num, by go_num, by omega, HCH.out.trans' hc7, HF.out⟩
              case measure => simp [intOf]; omega
            · obtain rfl : j = n5 := by omega
              have HF : Hid (R = true) := hid (by
                rw [hh.out, List.drop_eq_nil_of_le (by rw [← HT.out.1, List.length_map, HTL.out]; exact Nat.le_refl _)]
                rfl)
              have HCH := hid hch
              clear hh hch
              go_wp2
              go_ret
              exact ⟨by rw [HF.out]; rfl, ((Chg.refl _ _).alloc _).trans' HCH.out⟩
end Go.Proofs.Ytbikekgljabalaa
