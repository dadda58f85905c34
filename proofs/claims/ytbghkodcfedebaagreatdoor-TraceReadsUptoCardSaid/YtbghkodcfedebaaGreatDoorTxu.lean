/- Walks of the trace layer's reference: a body read. (Printed by gen_rbodied.py.) -/
import Derived.Test.YtbghkodcfedebaaGreatDoorTxm
import Derived.Test.YtbghkodcfedebaaGreatDoorQe
import Derived.Deep.CutBlock
set_option linter.unusedVariables false
set_option linter.unusedSectionVars false
set_option linter.unusedSimpArgs false
namespace Go.AB
open Go.RowKit
theorem ev_room {L : List UInt8} {t q q2 : Nat} {x : Ev} (hq : q ≤ L.length) (h : dEv L t q = some (x, q2)) : q2 ≤ L.length ∧ q + 1 ≤ q2 := by
  obtain ⟨_, h2, h3⟩ := (c_ev (L := L) t).fwd q x q2 hq h
  have hl := congrArg List.length h3
  rw [List.length_append, List.length_take, List.length_take] at hl
  have hb : 1 ≤ (evB x).length := by unfold evB; simp
  exact ⟨h2, by omega⟩
theorem rShort_go {m : Nat} {L : List UInt8} {s : RS} : s.pos ≤ (rShort m L s).2.pos := by
  unfold rShort
  repeat' split
  all_goals simp_all [RS.fails]
theorem wrapN {x : Nat} (h : x ≤ 16777216) : IntKind.i64.wrap (x : Int) = (x : Int) := by rw [IntKind.wrap_i64]; omega
theorem wrapN64 {x : Nat} (h : x ≤ 16777216) : wrap64 (x : Int) = (x : Int) := IntWalk.wrap64_in _ (by omega)
theorem ne11 {x : Nat} (h : x ≠ 11) : ((x : Int) != 11) = true := by simpa using (show (x : Int) ≠ 11 by omega)
theorem run_thr {ys : List Ev} {t : Int} (hne : ys ≠ []) (h : ∀ e ∈ ys, e.t = t) : thrE ys = t := by
  cases ys with
  | nil => exact absurd rfl hne
  | cons a l => exact h a (by simp)
end Go.AB
namespace Go.Proofs.YtbghkodcfedebaaGreatDoor
open Go.RowKit Go.AB
set_option linter.unusedSimpArgs false
set_option linter.unusedVariables false
set_option linter.unusedSectionVars false
/-- What holds while a body is read: the reader b, the list so far. -/
structure QV (w u : World) (N b : Nat) (l : List UInt8) (ao : Option Addr) (cap p h bd : Nat) (av : Option Addr) (cv : Nat) (rr : Option Nat) (xs : List Ev) : Prop where
  rd : Rd 161 u b l ao cap p h bd
  lt : ∀ g, (Value.slice ao l.length cap).ownBlock = some g → g < N
  bl : b < N ∧ w.heap.size ≤ b
  nl : N ≤ u.heap.size
  wn : w.heap.size ≤ N
  row : Row u 28 3 (.slice av xs.length cv) rr xs.length (xs.flatMap evC)
  fr : ∀ g, rr = some g → N ≤ g
  chg : Chg [] w u
section
variable {w u u' : World} {N b : Nat} {l : List UInt8} {ao : Option Addr} {cap p h bd p' h' bd' : Nat} {av av' : Option Addr} {cv cv' : Nat} {rr rr' : Option Nat} {xs : List Ev} {x : Ev}
theorem QV.take (k : QV w u N b l ao cap p h bd av cv rr xs) (hc : Chg [b] u u') (hr : Rd 161 u' b l ao cap p' h' bd') : QV w u' N b l ao cap p' h' bd' av cv rr xs :=
  ⟨hr, k.lt, k.bl, Nat.le_trans k.nl hc.size, k.wn, k.row.keep hc (fun g hg => by have := k.fr g hg; have := k.bl; simp; omega), k.fr, k.chg.trans hc (fun x hx => .inr (by simp at hx; subst hx; exact k.bl.2))⟩
theorem QV.same (k : QV w u N b l ao cap p h bd av cv rr xs) (hc : Chg [] u u') : QV w u' N b l ao cap p h bd av cv rr xs :=
  k.take hc.nil (k.rd.keep hc (by simp) (by simp))
theorem QV.other {E : Nat} (k : QV w u N b l ao cap p h bd av cv rr xs) (hc : Chg [E] u u') (hE : N ≤ E) (hEr : rr ≠ some E) : QV w u' N b l ao cap p h bd av cv rr xs := by
  have hb := k.bl
  have hw := k.wn
  exact ⟨k.rd.keep hc (by simp; omega) (fun g hg => by have := k.lt g hg; simp; omega), k.lt, k.bl, Nat.le_trans k.nl hc.size, k.wn, k.row.keep hc (fun g hg hm => by simp at hm; subst hm; exact hEr hg), k.fr, k.chg.trans hc (fun g hg => .inr (by simp at hg; omega))⟩
theorem QV.app (k : QV w u N b l ao cap p h bd av cv rr xs) (hr : Row u' 28 3 (.slice av' (xs.length + 1) cv') rr' (xs.length + 1) ((xs ++ [x]).flatMap evC)) {u1 : World} (hc : Chg [] u u1) (hg : Grew u1 u' rr rr') : QV w u' N b l ao cap p h bd av' cv' rr' (xs ++ [x]) := by
  have hm : ∀ g, g < N → g ∉ rr.toList := fun g hg hm => by
    have := k.fr g (by simpa using hm)
    omega
  have hw := k.wn
  refine ⟨(k.rd.keep hc (by simp) (by simp)).keep hg.chg (hm _ k.bl.1) (fun g hg => hm g (k.lt g hg)), k.lt, k.bl, Nat.le_trans k.nl (Nat.le_trans hc.size hg.chg.size), k.wn, ?_, fun g h => ?_, (k.chg.trans' hc).trans hg.chg (fun g h => .inr (by have := k.fr g (by simpa using h); omega))⟩
  · rw [List.length_append]; exact hr
  · rcases hg.fresh g h with h1 | h1
    · exact k.fr g h1
    · have := hc.size; have := k.nl; omega
end
/-- What bodied answers. -/
def BodP (w : World) (D : Option (List Ev)) (e : Ending) (w' : World) : Prop :=
  (∃ xs v, D = some xs ∧ e = .returned (.tuple #[v, .bool true]) ∧ NewE w xs v w') ∨ (D = none ∧ ∃ v, e = .returned (.tuple #[v, .bool false]) ∧ Chg [] w w')
set_option maxHeartbeats 32000000 in
set_option maxRecDepth 100000 in
theorem rbodied_calls (v : Value) (L : List UInt8) (w : World) (hv : Bytes w v L) (hl : L.length ≤ 16777216) : Calls Tryz.prog 61 #[v] w (BodP w (dBodyE L)) := by
  obtain ⟨D, hD⟩ : ∃ D, dBodyE L = D := ⟨_, rfl⟩
  rw [hD]
  have HNR := hid (q_new_calls v L w hv (by omega))
  have HD := hid hD
  clear hv hD
  go_enter Tryz.func61, Tryz.ntmps61
  go_upto_region 2 with (go_at_call 95; refine (HNR.out).mono ?_; rintro e w2 ⟨b, lb, aor, capr, rfl, hR2, hb2, hg2, hc2, HLb⟩; refine halt (fun XX hXX => ?_); obtain rfl : lb = L := HLb.out; rw [hXX.out]; clear hXX XX)
  have hV0 : QV w w2 w2.heap.size b lb aor capr 0 0 0 none 0 none [] := ⟨hR2, fun g h => (hg2 g h).2, ⟨blk_lt hR2.blk, hb2⟩, Nat.le_refl _, hc2.size, Row.nil _ _ _, by simp, hc2⟩
  have HV0 := hid hV0
  obtain ⟨N, hN⟩ : ∃ N, w2.heap.size = N := ⟨_, rfl⟩
  rw [hN] at HV0
  clear hV0 hR2 hb2 hg2 hc2 HNR HLb hN
  obtain ⟨n, p1, h1, b1, hS⟩ : ∃ t p h b, rShort 16777216 lb ⟨0, 0, 0⟩ = (t, ⟨p, h, b⟩) := ⟨_, _, _, _, rfl⟩
  have hn : n ≤ 16777216 := by have := rShort_leT 16777216 lb ⟨0, 0, 0⟩; rw [hS] at this; exact this
  have hsh := q_short_calls HV0.out.rd (by omega) 16777216
  rw [hS] at hsh
  have HSH := hid hsh
  have HS := hid hS
  have HW : Hid (b1 = 0 → h1 = 0) := hid fun e => by
    subst e
    have a := rShort_whT (m := 16777216) (L := lb) (s := ⟨0, 0, 0⟩) (by rw [hS])
    rw [hS] at a
    exact a.1
  have HN0 : Hid (b1 ≠ 0 → n = 0) := hid fun e => by
    have a := rShort_bad0 (m := 16777216) (L := lb) (s := ⟨0, 0, 0⟩) (by rw [hS]; exact e)
    rw [hS] at a
    exact a
  clear hsh hS
  go_upto_region 5 with (go_at_call 96; refine HSH.out.mono ?_; rintro e w3 ⟨rfl, hR3, hc3⟩; have HV1 := hid (HV0.out.take hc3 hR3); clear hR3 hc3)
  clear HSH HV0
  go_loopg [5, 7] n (fun gk v5 v7 wr => ∃ (j q hh bb m : Nat) (lst : Int) (rs : List (List Ev)) (al : Option Addr) (cl : Nat) (rr : Option Nat), v5 = .slice al m cl ∧ v7 = .int .u64 j ∧ Hid (gk + j = n ∧ (j < n → bb = 0 ∧ hh = 0) ∧ (bb = 0 → b1 = 0) ∧ (b1 = 0 → bb = 0 ∧ hh = 0)) ∧ Hid (TQ (dRun lb) thrE n (-1) p1 j lst q rs) ∧
      Hid (rs.flatten.length = m ∧ m ≤ q ∧ ((j = 0 ∧ lst = -1) ∨ (0 < j ∧ ∃ ys x, rs.flatten = ys ++ [x] ∧ x.t = lst))) ∧ Hid (QV w wr N b lb aor capr q hh bb al cl rr rs.flatten))
  case atStart =>
    refine ⟨0, p1, h1, b1, 0, -1, [], none, 0, none, rfl, rfl, hid ⟨by omega, fun h => ?_, id, fun h => ⟨h, HW.out h⟩⟩, hid (TQ.start _ _ _ _ _), hid ⟨rfl, by omega, .inl ⟨rfl, rfl⟩⟩, HV1⟩
    have hb : b1 = 0 := by
      by_cases e : b1 = 0
      · exact e
      · have := HN0.out e; omega
    exact ⟨hb, HW.out hb⟩
  case round =>
    clear HV1
    obtain ⟨j, q, hh, bb, m, lst, rs, al, cl, rr, rfl, rfl, HG, HQ, HX, HV⟩ := hrel
    by_cases hj : j < n
    · obtain ⟨rfl, rfl⟩ := HG.out.2.1 hj
      have hju : decide ((j : Int) < (n : Int)) = true := decide_eq_true (by omega)
      have hji : (j : Int) < (n : Int) := by omega
      have hb0 : b1 = 0 := HG.out.2.2.1 rfl
      have HDN : Hid (dRun lb lst q = none → D = none) := hid fun hd => by
        rw [← HD.out]
        have h2 := HS.out
        rw [hb0] at h2
        unfold dBodyE
        rw [dRuns_rest h2, HQ.out.stop hj hd]
        rfl
      have c3 : wr.cell? ⟨b, 3, none⟩ = some (.int .i64 0) := by simpa using HV.out.rd.c3
      obtain ⟨t, pa, ha, ba, hS1⟩ : ∃ t p h b, rShort 65534 lb ⟨q, 0, 0⟩ = (t, ⟨p, h, b⟩) := ⟨_, _, _, _, rfl⟩
      obtain ⟨mm, pb, hb, bb2, hS2⟩ : ∃ t p h b, rShort 16777216 lb ⟨pa, ha, ba⟩ = (t, ⟨p, h, b⟩) := ⟨_, _, _, _, rfl⟩
      have ht : t ≤ 65534 := by have := rShort_leT 65534 lb ⟨q, 0, 0⟩; rw [hS1] at this; exact this
      have hmm : mm ≤ 16777216 := by have := rShort_leT 16777216 lb ⟨pa, ha, ba⟩; rw [hS2] at this; exact this
      have hP : pRun lb ⟨q, 0, 0⟩ = ((t, mm), ⟨pb, hb, bb2⟩) := by unfold pRun; rw [hS1]; simp only; rw [hS2]
      have hwh : bb2 = 0 → hb = 0 := fun e => by
        subst e
        have a := rShort_whT (m := 16777216) (L := lb) (s := ⟨pa, ha, ba⟩) (by rw [hS2])
        rw [hS2] at a
        have c := rShort_whT (m := 65534) (L := lb) (s := ⟨q, 0, 0⟩) (by rw [hS1]; exact a.2.1)
        rw [hS1] at c
        exact a.1.trans c.1
      have hpos : bb2 = 0 → q ≤ pb := fun e => by
        subst e
        have a2 := rShort_whT (m := 16777216) (L := lb) (s := ⟨pa, ha, ba⟩) (by rw [hS2])
        rw [hS2] at a2
        have s1 := rShort_go (m := 65534) (L := lb) (s := ⟨q, 0, 0⟩)
        have s2 := rShort_go (m := 16777216) (L := lb) (s := ⟨pa, ha, ba⟩)
        rw [hS1] at s1
        rw [hS2] at s2
        exact Nat.le_trans s1 s2
      have HSA := hid (by have h := q_short_calls HV.out.rd (by omega) 65534; rw [hS1] at h; exact h)
      have HSB := hid fun u (hr : Rd 161 u b lb aor capr pa ha ba) => (by have h := q_short_calls hr (by omega) 16777216; rw [hS2] at h; exact h : Calls Tryz.prog 96 #[.pointer (some ⟨b, 0, none⟩), .int .u64 ((16777216 : Nat) : Int)] u (RdPost 161 u b lb aor capr (.int .u64 mm) ⟨pb, hb, bb2⟩))
      have HP := hid hP
      have HWH := hid (And.intro hwh hpos)
      clear hP hwh hpos hS1 hS2
      go_upto_region 8 with (go_at_call 96; refine (HSA.out).mono ?_; rintro e u1 ⟨rfl, hR1, hc1⟩; have HV1 := hid (HV.out.take hc1 hR1); have HSB1 := hid (HSB.out u1 hR1); clear hR1 hc1)
      clear HSA HSB HV c3
      go_upto_region 9 with (go_at_call 96; refine (HSB1.out).mono ?_; rintro e u2 ⟨rfl, hR2, hc2⟩; have HV2 := hid (HV1.out.take hc2 hR2); clear hR2 hc2)
      clear HSB1 HV1
      have c3 : u2.cell? ⟨b, 3, none⟩ = some (.int .i64 bb2) := HV2.out.rd.c3
      have z1 : IntKind.i64.wrap (t : Int) = (t : Int) := by rw [IntKind.wrap_i64]; omega
      have z2 : wrap64 (t : Int) = (t : Int) := IntWalk.wrap64_in _ (by omega)
      by_cases hb2 : bb2 = 0
      · subst hb2
        obtain rfl := HWH.out.1 rfl
        have c3' : u2.cell? ⟨b, 3, none⟩ = some (.int .i64 0) := by simpa using c3
        clear c3
        by_cases hm0 : mm = 0
        · have q2 : ((mm : Int) == 0) = true := by simp [hm0]
          have HDD := hid (HDN.out (dRun_none HP.out (.inr (.inl hm0))))
          clear hm0
          go_wp2_with fail
          first | go_ret2 | go_ret | go_ret3
          exact .inr ⟨HDD.out, _, rfl, HV2.out.chg⟩
        · have q2 : ((mm : Int) == 0) = false := by simpa using hm0
          have HXO := HX.out.2.2
          have hway : (¬ (0 < j) ∧ ¬ ((0 : Int) < (j : Int)) ∧ lst = -1) ∨ ((0 : Int) < (j : Int) ∧ 0 < j ∧ ∃ ys x, rs.flatten = ys ++ [x] ∧ x.t = lst) := by
            rcases HXO with ⟨a, c⟩ | ⟨a, c⟩
            · exact .inl ⟨by omega, by omega, c⟩
            · exact .inr ⟨by omega, a, c⟩
          by_cases htl : (t : Int) = lst
          · have HDD := hid (HDN.out (dRun_none HP.out (.inr (.inr htl))))
            rcases hway with ⟨a1, a2, a3⟩ | ⟨a1, a2, ys, x, hys, hx⟩
            · exfalso; omega
            · have hxl : rs.flatten.length = ys.length + 1 := by rw [hys]; simp
              have hgx : ys.length < rs.flatten.length := by omega
              obtain ⟨b1', o1, hbo, x0, x1, x2⟩ := ev_at (show Lst evC 3 u2 (.slice al rs.flatten.length cl) rs.flatten from HV2.out.row.view) hgx
              have hge : rs.flatten[ys.length] = x := by simp [hys]
              rw [hge, hx] at x1
              have hmy : m = ys.length + 1 := by have := HX.out.1; omega
              have hmq : m ≤ 16777216 := by have := HX.out.2.1; have := HWH.out.2 rfl; have := HV2.out.rd.ok; omega
              subst hbo
              have x1' : u2.cell? ⟨b1', o1 + (m - 1) * 3 + 1, none⟩ = some (.int .i64 (t : Int)) := by rw [htl, hmy, Nat.add_sub_cancel]; exact x1
              obtain ⟨pm, hpm⟩ : ∃ pm, m = pm + 1 := ⟨m - 1, by omega⟩
              have hpmi : (m : Int) - 1 = (pm : Int) := by omega
              have hpw : wrap64 ((m : Int) - 1) = (pm : Int) := by rw [hpmi]; exact IntWalk.wrap64_in _ (by omega)
              have hp0 : (0 : Int) ≤ (pm : Int) := by omega
              have hp1 : (pm : Int) < (m : Int) := by omega
              have x3 : u2.cell? ⟨b1', o1 + pm * 3 + 1, none⟩ = some (.int .i64 (t : Int)) := by rw [hpm, Nat.add_sub_cancel] at x1'; exact x1'
              have qt : (((t : Int)) == (t : Int)) = true := by simp
              clear x0 x1 x2 x1' hge hgx hxl hys hx hmy hpm htl HXO
              go_wp2_with fail
              first | go_ret2 | go_ret | go_ret3
              exact .inr ⟨HDD.out, _, rfl, HV2.out.chg⟩
          · have hn0 := hm0
            have HR1 := hid (dRun_rest HP.out hn0 htl)
            have hm1 : mm ≠ 0 := hn0
            go_cut [40, 56] (fun v40 v56 wx => v56 = .bool false ∧ wx = u2)
            case first =>
              rcases hway with ⟨a1, a2, a3⟩ | ⟨a1, a2, ys, x, hys, hx⟩
              · go_wp2_with fail
                go_meet
                exact ⟨rfl, rfl⟩
              · have hxl : rs.flatten.length = ys.length + 1 := by rw [hys]; simp
                have hgx : ys.length < rs.flatten.length := by omega
                obtain ⟨b1', o1, hbo, x0, x1, x2⟩ := ev_at (show Lst evC 3 u2 (.slice al rs.flatten.length cl) rs.flatten from HV2.out.row.view) hgx
                have hge : rs.flatten[ys.length] = x := by simp [hys]
                rw [hge, hx] at x1
                have hmy : m = ys.length + 1 := by have := HX.out.1; omega
                have hmq : m ≤ 16777216 := by have := HX.out.2.1; have := HWH.out.2 rfl; have := HV2.out.rd.ok; omega
                subst hbo
                obtain ⟨pm, hpm⟩ : ∃ pm, m = pm + 1 := ⟨m - 1, by omega⟩
                have hpmi : (m : Int) - 1 = (pm : Int) := by omega
                have hpw : wrap64 ((m : Int) - 1) = (pm : Int) := by rw [hpmi]; exact IntWalk.wrap64_in _ (by omega)
                have hp0 : (0 : Int) ≤ (pm : Int) := by omega
                have hp1 : (pm : Int) < (m : Int) := by omega
                have x3 : u2.cell? ⟨b1', o1 + pm * 3 + 1, none⟩ = some (.int .i64 lst) := by rw [show pm = ys.length from by omega]; exact x1
                have qt : (lst == (t : Int)) = false := by simp; exact fun e => htl e.symm
                clear x0 x1 x2 hge hgx hxl hys hx hmy hpm HXO
                go_wp2_with fail
                go_meet
                exact ⟨rfl, rfl⟩
            case rest =>
            obtain ⟨rfl, hwc⟩ := hcut
            subst hwc
            have hpbl := HV2.out.rd.ok
            have hmpb : m ≤ pb := Nat.le_trans HX.out.2.1 (HWH.out.2 rfl)
            have HXL := hid (And.intro HX.out.1 hmpb)
            have HZ := hid (And.intro z1 z2)
            clear z1 z2
            clear hway HXO c3' HX HWH HP hpbl hmpb htl hm1 q2
            obtain ⟨gq, rfl⟩ : ∃ gq, gq = gk := ⟨_, rfl⟩
            obtain ⟨wq, rfl⟩ : ∃ wq : World, wq = wr := ⟨_, rfl⟩
            go_wp2_with fail
            go_loopg [5, 10] mm (fun gk v5 v10 wr => ∃ (k qq mz : Nat) (ys : List Ev) (av : Option Addr) (cv : Nat) (rr2 : Option Nat), v5 = .slice av mz cv ∧ v10 = .int .u64 k ∧ Hid (gk + k = mm ∧ ys.length = k ∧ (rs.flatten ++ ys).length = mz ∧ mz ≤ qq ∧ ∀ e ∈ ys, e.t = (t : Int)) ∧ Hid (TQ (fun _ : Unit => dEv lb t) (fun _ => ()) mm () pb k () qq ys) ∧ Hid (QV w wr N b lb aor capr qq 0 0 av cv rr2 (rs.flatten ++ ys)))
            case atStart => exact ⟨0, pb, m, [], al, cl, rr, rfl, rfl, hid ⟨by omega, rfl, by rw [List.append_nil]; exact HXL.out.1, HXL.out.2, by simp⟩, hid (TQ.start _ _ _ _ _), hid (by rw [List.append_nil]; exact HV2.out)⟩
            case round =>
              obtain ⟨k, qq, mz, ys, av, cv, rr2, rfl, rfl, HG2, HQ2, HV⟩ := hrel
              by_cases hk : k < mm
              · have hku : decide ((k : Int) < (mm : Int)) = true := decide_eq_true (by omega)
                have hki : (k : Int) < (mm : Int) := by omega
                obtain ⟨kv, pc, hc, bc, hT⟩ : ∃ o p h b, rFixed 1 lb ⟨qq, 0, 0⟩ = (o, ⟨p, h, b⟩) := ⟨_, _, _, _, rfl⟩
                have hk256 : kv < 256 := by have := rFixed_ltT (L := lb) ⟨qq, 0, 0⟩; rw [hT] at this; exact this
                have HTK := hid (by have h := q_fixed_calls HV.out.rd (Nat.le_trans hl (by decide)) 1 (by decide); rw [hT] at h; exact h : Calls Tryz.prog 97 #[.pointer (some ⟨b, 0, none⟩), .int .i64 1] wr (RdPost 161 wr b lb aor capr (.int .u64 kv) ⟨pc, hc, bc⟩))
                have HT := hid hT
                have z3 : wrap64 (kv : Int) = (kv : Int) := wrapN64 (Nat.le_trans (Nat.le_of_lt hk256) (by decide))
                have z4 : IntKind.i64.wrap (kv : Int) = (kv : Int) := wrapN (Nat.le_trans (Nat.le_of_lt hk256) (by decide))
                clear hT
                have z1 := HZ.out.1
                have z2 := HZ.out.2
                go_upto_region 15 with (go_at_call 97; refine HTK.out.mono ?_; rintro e u5 ⟨rfl, hr5, hc5⟩; have HV5 := hid (HV.out.take hc5 hr5); clear hr5 hc5)
                have hbx := heap_alloc_new u5 (.cells #[.int .i64 kv, .int .i64 t, .int .i64 0] 28)
                have hV6 := HV5.out.same ((Chg.refl [] u5).alloc (.cells #[.int .i64 kv, .int .i64 t, .int .i64 0] 28))
                have hEb : u5.heap.size ≠ b := by have := blk_lt HV5.out.rd.blk; omega
                have hEr : rr2 ≠ some u5.heap.size := fun e => by have := HV5.out.row.lt _ e; omega
                have hEN : N ≤ u5.heap.size := HV5.out.nl
                generalize u5.alloc (.cells #[.int .i64 kv, .int .i64 t, .int .i64 0] 28) = u6 at hbx hV6 ⊢
                generalize u5.heap.size = E at hbx hEb hEr hEN ⊢
                have HV6 := hid hV6
                have HB6 := hid hbx
                have x0 : u6.cell? ⟨E, 0, none⟩ = some (.int .i64 kv) := (blk_cell hbx 0).trans rfl
                clear hbx hV6 HTK HV5 z1 z2 z3 z4
                go_upto_if 70 with fail
                go_cut [11] from 57 to 88 (fun v11 wx => v11 = .pointer (some ⟨E, 0, none⟩) ∧ ∃ (ov pd hd bd : Nat), ov ≤ 65535 ∧ Hid (pEv lb ⟨qq, 0, 0⟩ = ((kv, ov), ⟨pd, hd, bd⟩)) ∧ Hid (wx.heap[E]? = some (.cells #[.int .i64 kv, .int .i64 t, .int .i64 ov] 28 (0, 0))) ∧ Hid (QV w wx N b lb aor capr pd hd bd av cv rr2 (rs.flatten ++ ys)))
                case first =>
                  by_cases h11 : kv = 11
                  · have hq : ((kv : Int) != 11) = false := by simp [h11]
                    have HPE := hid (pEv_11 HT.out h11)
                    clear h11
                    go_wp2_with fail
                    go_meet
                    exact ⟨rfl, 0, pc, hc, bc, Nat.zero_le _, HPE, HB6, HV6⟩
                  · have hq : ((kv : Int) != 11) = true := ne11 h11
                    obtain ⟨ov, pd, hd, bd, hS⟩ : ∃ o p h b, rShort 65535 lb ⟨pc, hc, bc⟩ = (o, ⟨p, h, b⟩) := ⟨_, _, _, _, rfl⟩
                    have hov : ov ≤ 65535 := by have := rShort_leT 65535 lb ⟨pc, hc, bc⟩; rw [hS] at this; exact this
                    have HPE := hid (pEv_no HT.out h11 hS)
                    have HSH := hid (by have h := q_short_calls HV6.out.rd (Nat.le_trans hl (by decide)) 65535; rw [hS] at h; exact h)
                    have z5 : IntKind.i64.wrap (ov : Int) = (ov : Int) := wrapN (Nat.le_trans hov (by decide))
                    have z6 : wrap64 (ov : Int) = (ov : Int) := wrapN64 (Nat.le_trans hov (by decide))
                    clear hS h11
                    go_wp2_with (go_at_call 96; refine HSH.out.mono ?_; rintro e u4 ⟨rfl, hr4, hc4⟩; have HV4 := hid (HV6.out.take hc4 hr4); have HB4 := hid (hc4.heap HB6.out (by simp; exact hEb)); have y2 := (blk_cell HB4.out 2).trans rfl; have yf := blk_free HB4.out 2; clear hr4 hc4)
                    go_meet
                    exact ⟨rfl, ov, pd, hd, bd, hov, HPE, hid (blk_set HB4.out 2 (.int .i64 ov)), hid (HV4.out.other ((Chg.refl [E] u4).setCell (p := ⟨E, 2, none⟩) (.inl (by simp)) (.int .i64 ov)) hEN hEr)⟩
                case rest =>
                obtain ⟨rfl, ov, pd, hd, bd, hov, HPE, HBX7, HV7⟩ := hcut
                obtain ⟨u7, rfl⟩ : ∃ x : World, x = wc := ⟨_, rfl⟩
                clear x0 HV6 HB6
                have HDV := hid (fun (h : bd ≠ 0 ∨ plainE ⟨(kv : Int), (t : Int), (ov : Int)⟩ = false) => HDN.out (HR1.out.trans (HQ2.out.stop hk (dEv_none HPE.out h))))
                have c3 : u7.cell? ⟨b, 3, none⟩ = some (.int .i64 bd) := HV7.out.rd.c3
                by_cases hb0' : bd = 0
                · subst hb0'
                  obtain rfl := pEv_wh HPE.out
                  have c3' : u7.cell? ⟨b, 3, none⟩ = some (.int .i64 0) := by simpa using c3
                  clear c3
                  have HPL := hid fun W => rplain_calls ⟨(kv : Int), (t : Int), (ov : Int)⟩ W
                  unfold evV at HPL
                  simp only at HPL
                  have y0 := (blk_cell HBX7.out 0).trans rfl
                  have y1 := (blk_cell HBX7.out 1).trans rfl
                  have y2 := (blk_cell HBX7.out 2).trans rfl
                  cases hp : plainE ⟨(kv : Int), (t : Int), (ov : Int)⟩ with
                  | false =>
                    rw [hp] at HPL
                    have HDD := hid (HDV.out (.inr hp))
                    clear hp
                    go_wp2_with (go_at_call 12; refine (HPL.out _).mono ?_; rintro e u8 ⟨rfl, hc8⟩; have HV2 := hid (HV7.out.same hc8); clear hc8)
                    first | go_ret2 | go_ret | go_ret3
                    exact .inr ⟨HDD.out, _, rfl, HV2.out.chg⟩
                  | true =>
                    rw [hp] at HPL
                    have HST := hid (HQ2.out.step hk (dEv_some HPE.out hp))
                    have HRM := hid (ev_room HV.out.rd.ok (dEv_some HPE.out hp))
                    clear hp
                    go_upto_region 19 with (go_at_call 12; refine (HPL.out _).mono ?_; rintro e u8 ⟨rfl, hc8⟩; have HV8 := hid (HV7.out.same hc8); have HB8 := hid (hc8.heap HBX7.out (by simp)); clear hc8)
                    clear y0 y1 y2 c3'
                    have y0 := (blk_cell HB8.out 0).trans rfl
                    have y1 := (blk_cell HB8.out 1).trans rfl
                    have y2 := (blk_cell HB8.out 2).trans rfl
                    have hmz : mz ≤ 16777216 := by have := HG2.out.2.2.2.1; have := HV.out.rd.ok; omega
                    have hrow8 := HV8.out.row
                    rw [HG2.out.2.2.1] at hrow8
                    have HRW8 := hid hrow8
                    clear hrow8
                    go_wp2_with (at_builtin; refine wpList_grew rfl _ _ 22 rfl elem_ev rfl (HRW8.out.keep ((Chg.refl [] u8).alloc _) (by simp)) rfl (View.struct _ [.int .i64 kv, .int .i64 t, .int .i64 ov] 28 rfl) (by simp [Value.oneCell']) (by unfold maxLen; omega) (by omega) (fun ao' cap' r' u9 hr9 hg9 => halt (fun X hX => ?_)))
                    have hr9' : Row u9 28 3 (.slice ao' ((rs.flatten ++ ys).length + 1) cap') r' ((rs.flatten ++ ys).length + 1) (((rs.flatten ++ ys) ++ [(⟨(kv : Int), (t : Int), (ov : Int)⟩ : Ev)]).flatMap evC) := by rw [HG2.out.2.2.1, ← evs_snoc]; exact hr9
                    have hv9 := HV8.out.app hr9' ((Chg.refl [] u8).alloc _) hg9
                    rw [List.append_assoc] at hv9
                    have HV9 := hid hv9
                    clear hr9 hg9 hr9' hv9 y0 y1 y2
                    rw [hX.out]; clear hX
                    go_wp2_with fail
                    go_roundg (gk - 1)
                    case measure => have := HG2.out; omega
                    case rel =>
                      refine ⟨k + 1, pd, mz + 1, ys ++ [⟨(kv : Int), (t : Int), (ov : Int)⟩], ao', cap', r', rfl, by go_num, hid ?_, HST, HV9⟩
                      obtain ⟨g1, g2, g3, g4, g5⟩ := HG2.out
                      refine ⟨by omega, by simp [g2], by rw [← List.append_assoc, List.length_append, g3]; rfl, by have := HRM.out.2; omega, fun e he => ?_⟩
                      rcases List.mem_append.1 he with h | h
                      · exact g5 e h
                      · simp only [List.mem_singleton] at h; subst h; rfl
                · have hbb : ((bd : Int) != 0) = true := by simpa using hb0'
                  have HDD := hid (HDV.out (.inl hb0'))
                  have HV2 := HV7
                  clear hb0'
                  go_wp2_with fail
                  first | go_ret2 | go_ret | go_ret3
                  exact .inr ⟨HDD.out, _, rfl, HV2.out.chg⟩
              · obtain rfl : k = mm := by have := HG2.out; omega
                have hku : decide ((k : Int) < (k : Int)) = false := decide_eq_false (by omega)
                have HST := hid (HQ.out.step hj (HR1.out.trans HQ2.out.done))
                have hyne : ys ≠ [] := fun e => by have := HG2.out.2.1; rw [e] at this; simp at this; omega
                have hth := run_thr hyne HG2.out.2.2.2.2
                obtain ⟨ys', x, hys⟩ := (snoc_cases ys).resolve_left hyne
                have hxt : x.t = (t : Int) := HG2.out.2.2.2.2 x (by rw [hys]; simp)
                have HEND : Hid ((rs ++ [ys]).flatten = rs.flatten ++ ys ∧ (rs.flatten ++ ys = (rs.flatten ++ ys') ++ [x]) ∧ x.t = thrE ys) := hid ⟨by simp, by rw [hys]; simp, by rw [hth]; exact hxt⟩
                clear hyne hth hys hxt
                go_wp2_with fail
                go_roundg (gq - 1)
                case measure => have := HG.out; omega
                case rel =>
                  refine ⟨j + 1, qq, 0, 0, mz, thrE ys, rs ++ [ys], av, cv, rr2, rfl, by go_num, hid ⟨by have := HG.out; omega, fun _ => ⟨rfl, rfl⟩, fun _ => hb0, fun _ => ⟨rfl, rfl⟩⟩, HST, hid ⟨?_, HG2.out.2.2.2.1, .inr ⟨by omega, rs.flatten ++ ys', x, ?_, HEND.out.2.2⟩⟩, hid ?_⟩
                  · rw [HEND.out.1]; exact HG2.out.2.2.1
                  · rw [HEND.out.1]; exact HEND.out.2.1
                  · rw [HEND.out.1]; exact HV.out
      · have q1 : ((bb2 : Int) != 0) = true := by simpa using hb2
        have HDD := hid (HDN.out (dRun_none HP.out (.inl hb2)))
        clear hb2
        go_wp2_with fail
        first | go_ret2 | go_ret | go_ret3
        exact .inr ⟨HDD.out, _, rfl, HV2.out.chg⟩
    · obtain rfl : j = n := by have := HG.out; omega
      have hju : decide ((j : Int) < (j : Int)) = false := decide_eq_false (by omega)
      have HE := hid (q_end_calls HV.out.rd)
      obtain ⟨re, hre⟩ : ∃ re, rEnd lb ⟨q, hh, bb⟩ = re := ⟨_, rfl⟩
      rw [hre] at HE
      by_cases hgood : b1 = 0 ∧ q = lb.length
      · obtain ⟨hb0, hq⟩ := hgood
        obtain ⟨rfl, rfl⟩ := HG.out.2.2.2 hb0
        have hr0 : re = 0 := by rw [← hre]; unfold rEnd; rw [if_neg (by simp), if_neg (by simp only; omega)]
        subst hr0
        have HDD : Hid (D = some rs.flatten) := hid (by
          rw [← HD.out]
          have h2 := HS.out
          rw [hb0] at h2
          unfold dBodyE
          rw [dRuns_rest h2, HQ.out.done]
          simp only [Option.bind_some]
          rw [if_pos hq])
        clear hre hq
        go_wp2_with (go_at_call 98; refine HE.out.mono ?_; rintro e u1 ⟨rfl, hd1⟩; have HV1 := hid (HV.out.same hd1.chg); clear hd1)
        first | go_ret2 | go_ret | go_ret3
        have hf : Fresh w none rr := fun g hg => .inr (Nat.le_trans HV1.out.wn (HV1.out.fr g hg))
        have hrw := HV1.out.row
        refine .inl ⟨rs.flatten, _, HDD.out, ?_, al, cl, rr, rfl, hrw, hf, HV1.out.chg⟩
        rw [HX.out.1]
        rfl
      · have hr0 : re ≠ 0 := by
          rw [← hre]
          intro he
          unfold rEnd at he
          split at he
          · rename_i h5
            exact h5 he
          · rename_i h5
            have h6 : bb = 0 := by simpa using h5
            have h7 := HG.out.2.2.1 h6
            split at he
            · omega
            · rename_i h8
              have := HV.out.rd.ok
              exact hgood ⟨h7, by simp only at h8; omega⟩
        have HDD : Hid (D = none) := hid (by
          rw [← HD.out]
          unfold dBodyE
          by_cases hb0 : b1 = 0
          · have h2 := HS.out
            rw [hb0] at h2
            rw [dRuns_rest h2, HQ.out.done]
            simp only [Option.bind_some]
            rw [if_neg (fun e => hgood ⟨hb0, e⟩)]
          · rw [dRuns_none HS.out hb0]
            rfl)
        have hre2 : ((re : Int) == 0) = false := by simpa using hr0
        clear hre hgood hr0
        go_wp2_with (go_at_call 98; refine HE.out.mono ?_; rintro e u1 ⟨rfl, hd1⟩; have HV1 := hid (HV.out.same hd1.chg); clear hd1)
        first | go_ret2 | go_ret | go_ret3
        exact .inr ⟨HDD.out, _, rfl, HV1.out.chg⟩
end Go.Proofs.YtbghkodcfedebaaGreatDoor
