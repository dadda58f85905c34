/- Walks of the epochs' laws: EpochLasts. -/
import Derived.Test.YtngpfoddeebbmaaDoorEe
import Derived.Deep.RegionHeld3
namespace Go.Proofs.YtngpfoddeebbmaaDoor
open Go.RowKit Go.AB
set_option linter.unusedSimpArgs false
set_option linter.unusedVariables false

theorem info_epoch : (Tryd.prog.info? 23).map (fun i => (i.zero, i.size, i.bytes)) = some (some (.int .u64 0), 1, 8) := by kernel_rfl
theorem elem_epoch : ElemOk Tryd.prog 37 23 1 8 := .of Tryd.underlying37 info_epoch rfl (by decide)
/-- The next number of 64 bits. -/
def nxt (x : Int) : Int := IntKind.u64.wrap (x + 1)
theorem nxt_bd (x : Int) : 0 ≤ nxt x ∧ nxt x < 18446744073709551616 := by unfold nxt; rw [IntKind.wrap_u64]; omega
/-- Two lists that grow side by side. -/
structure Two (w wr : World) (n1 : Nat) (xs ys : List Int) (k1 k2 : Nat) (v1 v2 : Value) (r1 r2 : Option Nat) : Prop where
  a : Row wr 23 1 v1 r1 k1 (xs.map (Value.int .u64))
  b : Row wr 23 1 v2 r2 k2 (ys.map (Value.int .u64))
  fa : Fresh w none r1
  fb : Fresh w none r2
  ne : ∀ g, r1 = some g → r2 ≠ some g
  chg : Chg [] w wr
theorem Two.growA {w wr wr' w2 : World} {n1 : Nat} {xs ys : List Int} {k1 k2 : Nat} {v1 v2 v1' : Value} {r1 r2 r1' : Option Nat} (h : Two w wr n1 xs ys k1 k2 v1 v2 r1 r2) (hc : Chg [] wr wr') {x : Int} (hr : Row w2 23 1 v1' r1' (k1 + 1) (xs.map (Value.int .u64) ++ [.int .u64 x])) (hg : Grew wr' w2 r1 r1') :
    Two w w2 n1 (xs ++ [x]) ys (k1 + 1) k2 v1' v2 r1' r2 := by
  have hlb := h.b.lt
  refine ⟨by rw [List.map_append]; exact hr, (h.b.keep hc (by simp)).keep hg.chg (fun g hg2 hm => h.ne g (by simpa using hm) hg2), fresh_step h.chg h.fa hc hg.fresh, h.fb, fun g hg1 hg2 => ?_, own_step h.chg h.fa hc hg.chg⟩
  rcases hg.fresh g hg1 with h3 | h3
  · exact h.ne g h3 hg2
  · have := hlb g hg2; have := hc.size; omega
theorem Two.growB {w wr wr' w2 : World} {n1 : Nat} {xs ys : List Int} {k1 k2 : Nat} {v1 v2 v2' : Value} {r1 r2 r2' : Option Nat} (h : Two w wr n1 xs ys k1 k2 v1 v2 r1 r2) (hc : Chg [] wr wr') {x : Int} (hr : Row w2 23 1 v2' r2' (k2 + 1) (ys.map (Value.int .u64) ++ [.int .u64 x])) (hg : Grew wr' w2 r2 r2') :
    Two w w2 n1 xs (ys ++ [x]) k1 (k2 + 1) v1 v2' r1 r2' := by
  have hla := h.a.lt
  refine ⟨(h.a.keep hc (by simp)).keep hg.chg (fun g hg2 hm => h.ne g hg2 (by simpa using hm)), by rw [List.map_append]; exact hr, h.fa, fresh_step h.chg h.fb hc hg.fresh, fun g hg1 hg2 => ?_, own_step h.chg h.fb hc hg.chg⟩
  rcases hg.fresh g hg2 with h3 | h3
  · exact h.ne g hg1 h3
  · have := hla g hg1; have := hc.size; omega
theorem set_nxt (xs : List Int) (k : Nat) (hk : k < xs.length) (C : List Value) : (((xs.take k).map nxt ++ xs.drop k).map (Value.int .u64) ++ C).set k (.int .u64 (nxt xs[k])) = ((xs.take (k + 1)).map nxt ++ xs.drop (k + 1)).map (Value.int .u64) ++ C := by
  have h1 : ((xs.take k).map nxt).length = k := by simp; omega
  rw [List.take_succ_eq_append_getElem hk, List.drop_eq_getElem_cons hk, List.map_append, List.append_assoc, List.set_append_right _ _ (by rw [List.length_map, h1]; exact Nat.le_refl _), List.length_map, h1, Nat.sub_self, List.map_cons, List.cons_append, List.set_cons_zero]
  simp only [List.map_append, List.map_cons, List.map_nil, List.append_assoc, List.cons_append, List.nil_append]

set_option maxHeartbeats 8000000 in
set_option maxRecDepth 100000 in
theorem lasts_walk (t : Int) (es : List Int) (he : ∀ e ∈ es, 0 ≤ e ∧ e < 18446744073709551616) (hn : es.length ≤ 1048576) {ao : Option Addr} {cap : Nat} (w : World) (hv : View w 1 (.slice ao es.length cap) es.length (es.map (Value.int .u64))) :
    Calls Tryd.prog 5 #[.int .i64 t, .slice ao es.length cap] w fun e w' => e = .returned (.bool true) ∧ Chg [] w w' := by
  have HL := hid lives_calls
  have HV := hid hv
  have HE := hid he
  have HA := hid (fun xs (hx : ∀ e ∈ xs, 0 ≤ e ∧ e < 18446744073709551616) (hn : xs.length ≤ 16777216) {ao : Option Addr} {cap : Nat} u hv => last_calls (ao := ao) (cap := cap) t xs hx hn u hv)
  have HB := hid (fun xs (hx : ∀ e ∈ xs, 0 ≤ e ∧ e < 18446744073709551616) (hn : xs.length ≤ 16777216) {ao : Option Addr} {cap : Nat} u hv => r_last_calls (ao := ao) (cap := cap) t xs hx hn u hv)
  clear hv he
  obtain ⟨n, hnn⟩ : ∃ n, es.length = n := ⟨_, rfl⟩
  have HN := hid hnn
  rw [hnn] at HV hn ⊢
  clear hnn
  go_enter Tryd.func5, Tryd.ntmps5
  go_wp2_with fail
  go_loopw [5, 6, 7] (fun l m i wr => ∃ (k : Nat) (a1 a2 : Option Addr) (c1 c2 : Nat) (r1 r2 : Option Nat), k ≤ n ∧ i = .int .i64 k ∧ l = .slice a1 k c1 ∧ m = .slice a2 k c2 ∧ Two w wr 0 (es.take k) (es.take k) k k (.slice a1 k c1) (.slice a2 k c2) r1 r2) (fun _ _ i _ => n - (intOf i).toNat)
  case atStart => exact ⟨0, none, none, 0, 0, none, none, Nat.zero_le _, rfl, rfl, rfl, ⟨Row.nil _ _ _, Row.nil _ _ _, Fresh.refl _ _, Fresh.refl _ _, fun g hg => (by cases hg), Chg.refl _ _⟩⟩
  case round =>
    obtain ⟨k, a1, a2, c1, c2, r1, r2, hk, rfl, rfl, rfl, hT⟩ := hrel
    by_cases hlt : k < n
    · have hke : k < es.length := by rw [HN.out]; exact hlt
      have hvw := HV.out
      rw [← HN.out] at hvw
      obtain ⟨b, off, hao, hcl⟩ := nums_at hvw (by omega)
      have cx0 := hcl k hke
      rw [show es.getD k 0 = es[k] from by simp [List.getD, hke]] at cx0
      have cx := hT.chg.cell cx0 (by simp)
      have hts : es.take (k + 1) = es.take k ++ [es[k]] := List.take_succ_eq_append_getElem hke
      have cx2 : ∀ u, Chg [] w u → u.cell? ⟨b, off + k, none⟩ = some (.int .u64 es[k]) := fun u hu => hu.cell cx0 (by simp)
      obtain ⟨x, hx⟩ : ∃ x, es[k] = x := ⟨_, rfl⟩
      rw [hx] at cx hts cx2
      have HTS := hid hts
      have HCX := hid cx2
      have HT := hid hT
      have z1 : (k : Int) < (n : Int) := by omega
      have hra := fun o => hT.a.keep ((Chg.refl [] wr).alloc o) (by simp)
      have HAO := hid hao
      subst hao
      clear hvw hcl hts cx2 hx hT cx0
      go_wp2_with (at_builtin; refine wpList_grew rfl _ _ 37 rfl elem_epoch rfl (hra _) rfl (View.one _ _ _) (by simp [Value.oneCell']) (by unfold maxLen; omega) (by omega) (fun a3 c3 r3 w3 hr3 hg3 => halt (fun X hX => ?_)))
      rw [hX.out]; clear hX
      have hT3 := HT.out.growA ((Chg.refl [] wr).alloc _) hr3 hg3
      have cx3 := HCX.out w3 hT3.chg
      have hrb := fun o => hT3.b.keep ((Chg.refl [] w3).alloc o) (by simp)
      have HT3 := hid hT3
      clear hT3 hra hr3 hg3 cx
      go_wp2_with (at_builtin; refine wpList_grew rfl _ _ 37 rfl elem_epoch rfl (hrb _) rfl (View.one _ _ _) (by simp [Value.oneCell']) (by unfold maxLen; omega) (by omega) (fun a4 c4 r4 w4 hr4 hg4 => halt (fun X hX => ?_)))
      rw [hX.out]; clear hX
      have hT4 := HT3.out.growB ((Chg.refl [] w3).alloc _) hr4 hg4
      rw [← HTS.out] at hT4
      have HT4 := hid hT4
      clear hT4 hrb hr4 hg4 cx3
      go_wp2
      go_roundw
      case rel => exact ⟨k + 1, a3, a4, c3, c4, r3, r4, by omega, by go_num, rfl, rfl, HT4.out⟩
      case measure => simp [intOf]; omega
    · obtain rfl : k = n := by omega
      have hT' := hT
      rw [List.take_of_length_le (by rw [HN.out]; exact Nat.le_refl _)] at hT'
      have HT := hid hT'
      have hra := fun o => hT'.a.keep ((Chg.refl [] wr).alloc o) (by simp)
      clear hT hT'
      go_wp2_with (at_builtin; refine wpList_grew rfl _ _ 37 rfl elem_epoch rfl (hra _) rfl (View.one _ _ _) (by simp [Value.oneCell']) (by unfold maxLen; omega) (by omega) (fun a3 c3 r3 w3 hr3 hg3 => halt (fun X hX => ?_)))
      rw [hX.out]; clear hX
      have hT3 := HT.out.growA ((Chg.refl [] wr).alloc _) hr3 hg3
      obtain ⟨g, hg, hgr, hcell, _⟩ := hT3.a.atk (by omega)
      have c77 := hcell k (by omega)
      rw [show (List.map (Value.int .u64) (es ++ [(77 : Int)])).getD k undef = Value.int .u64 77 from by rw [List.map_append]; simp only [List.getD]; rw [List.getElem?_append_right (by rw [List.length_map, HN.out]; exact Nat.le_refl _)]; simp [HN.out]] at c77
      obtain ⟨hnc, hcm⟩ : k + 1 ≤ c3 ∧ c3 ≤ maxLen := by
        rcases hT3.a.form with ⟨hv, h0, _⟩ | ⟨g', cap', cur, hv, _, hnc, hcm, _⟩
        · omega
        · simp only [Value.slice.injEq, true_and] at hv
          exact ⟨by rw [hv.2]; exact hnc, by rw [hv.2]; exact hcm⟩
      subst hg hgr
      have hvp := hT3.a.viewPre (m := k) (cap := c3) (by omega) (by omega) hcm
      rw [Nat.mul_one, List.map_append, List.take_left' (by rw [List.length_map, HN.out])] at hvp
      have hla := HA.out es HE.out (by rw [HN.out]; omega) w3 (by rw [HN.out]; exact hvp)
      rw [HN.out] at hla
      have hlb := HB.out es HE.out (by rw [HN.out]; omega) w3 (by rw [HN.out]; exact hT3.b.view)
      rw [HN.out] at hlb
      have HLA := hid hla
      have HLB := hid hlb
      have HT3 := hid hT3
      have HCM := hid hcm
      have z0 : (k : Int) < (k : Int) + 1 := by omega
      have hcap : k ≤ c3 := by omega
      clear hla hlb hT3 hcm hvp hcell hra hr3 hg3 hnc
      go_wp2_with (first
        | (go_at_call 17; refine HLA.out.mono ?_; rintro e w' ⟨rfl, rfl⟩)
        | (go_at_call 18; refine HLB.out.mono ?_; rintro e w' ⟨rfl, rfl⟩))
      have hrow0 : Row w3 23 1 (.slice (some ⟨g, 0, none⟩) (k + 1) c3) (some g) (k + 1) (((es.take 0).map nxt ++ es.drop 0).map (Value.int .u64) ++ [.int .u64 77]) := by
        have := HT3.out.a
        rw [List.map_append] at this
        exact this
      clear c77
      go_loopw [9] (fun i wx => ∃ q : Nat, q ≤ k ∧ i = .int .i64 q ∧ Row wx 23 1 (.slice (some ⟨g, 0, none⟩) (k + 1) c3) (some g) (k + 1) (((es.take q).map nxt ++ es.drop q).map (Value.int .u64) ++ [.int .u64 77]) ∧ Chg [g] w3 wx) (fun i _ => k - (intOf i).toNat)
      case atStart => exact ⟨0, Nat.zero_le _, rfl, hrow0, Chg.refl _ _⟩
      case round =>
        obtain ⟨q, hq, rfl, hrow, hch⟩ := hrel
        have hkb := HT3.out.b.keep hch (fun g' hg' hm => HT3.out.ne g rfl (by have hm2 : g' = g := (by simpa using hm); rw [← hm2]; exact hg'))
        by_cases hqk : q < k
        · have hqe : q < es.length := by rw [HN.out]; exact hqk
          obtain ⟨g', hg', hgr', hcl, hfz⟩ := hrow.atk (by omega)
          simp only [Option.some.injEq] at hgr'
          subst hgr'
          have f0 := hcl q (by omega)
          rw [show (List.map (Value.int .u64) ((es.take q).map nxt ++ es.drop q) ++ [Value.int .u64 77]).getD q undef = Value.int .u64 (es[q]'hqe) from by
            simp only [List.getD]
            rw [List.getElem?_append_left (by simp; omega), List.getElem?_map, List.getElem?_append_right (by simp; omega)]
            have h5 : ((es.take q).map nxt).length = q := by simp; omega
            rw [h5, Nat.sub_self, List.drop_eq_getElem_cons hqe]
            rfl] at f0
          obtain ⟨gb, hgb, hgrb, hclb, _⟩ := hkb.atk (by omega)
          have b0 := hclb q (by omega)
          rw [show (es.map (Value.int .u64)).getD q undef = Value.int .u64 (es[q]'hqe) from by simp [List.getD, hqe]] at b0
          have hst := hrow.setk q (.int .u64 (nxt (es[q]'hqe)))
          rw [set_nxt es q hqe] at hst
          have hchs := hch.trans' (Chg.set1 g wr q (.int .u64 (nxt (es[q]'hqe))))
          have hnx : IntKind.u64.wrap (es[q]'hqe + 1) = nxt (es[q]'hqe) := rfl
          obtain ⟨x, hx⟩ : ∃ x, es[q]'hqe = x := ⟨_, rfl⟩
          obtain ⟨y, hy⟩ : ∃ y, nxt (es[q]'hqe) = y := ⟨_, rfl⟩
          rw [hy] at hst hchs hnx
          rw [hx] at f0 b0 hnx
          have hxb := HE.out _ (List.getElem_mem hqe)
          rw [hx] at hxb
          have hx0 := hxb.1
          have HST := hid (And.intro hst hchs)
          have HNX := hid hnx
          have z1 : (q : Int) < (k : Int) := by omega
          have z2 : (q : Int) < (k : Int) + 1 := by omega
          have HGB := hid (And.intro hgb hgrb)
          subst hgb
          clear hg' hst hchs hx hy hcl hclb hrow hkb hxb hgrb
          go_wp2_with fail
          go_quiet (fail)
          go_wp2
          go_roundw
          case rel => exact ⟨q + 1, by omega, by go_num, HST.out.1.keep (Chg.of_drewN [] _ _) (by simp), HST.out.2.drewN _⟩
          case measure => simp [intOf]; omega
        · obtain rfl : q = k := by omega
          have hrowF : Row wr 23 1 (.slice (some ⟨g, 0, none⟩) (q + 1) c3) (some g) (q + 1) ((es.map nxt).map (Value.int .u64) ++ [.int .u64 77]) := by
            have := hrow
            rw [List.take_of_length_le (by rw [HN.out]; exact Nat.le_refl _), List.drop_of_length_le (by rw [HN.out]; exact Nat.le_refl _), List.append_nil] at this
            exact this
          have hvp2 := hrowF.viewPre (m := q) (cap := c3) (by omega) (by omega) HCM.out
          rw [Nat.mul_one, List.take_left' (by rw [List.length_map, List.length_map, HN.out])] at hvp2
          have hnl : (es.map nxt).length = q := by rw [List.length_map, HN.out]
          have hnb : ∀ e ∈ es.map nxt, 0 ≤ e ∧ e < 18446744073709551616 := fun e he => by
            obtain ⟨x, _, rfl⟩ := List.mem_map.1 he
            exact nxt_bd x
          have hla := fun u (hu : Chg [] wr u) => HA.out (es.map nxt) hnb (by rw [hnl]; omega) u (by rw [hnl]; exact hvp2.keep hu (by simp))
          have hlb := fun u (hu : Chg [] wr u) => HB.out (es.map nxt) hnb (by rw [hnl]; omega) u (by rw [hnl]; exact hvp2.keep hu (by simp))
          rw [hnl] at hla hlb
          have HLA2 := hid hla
          have HLB2 := hid hlb
          have hfin : Chg [] w wr := HT3.out.chg.trans hch (fun x hx => .inr (by have hx2 : x = g := (by simpa using hx); have := (HT3.out.fa g rfl).resolve_left (by simp); omega))
          have HFIN := hid hfin
          clear hla hlb hnb hnl hvp2 hrowF hrow hch hkb hfin hrow0
          go_wp2_with fail
          go_region_held3 (fun w' => True) (first | exact trivial)
            (first
              | (go_at_call 17; refine (HLA2.out _ (Chg.of_drewN _ _ _)).mono ?_; rintro e w' ⟨rfl, rfl⟩)
              | (go_at_call 18; refine (HLB2.out _ (Chg.of_drewN _ _ _)).mono ?_; rintro e w' ⟨rfl, rfl⟩)
              | (go_at_call 15; refine (HL.out _).mono ?_; rintro e w5 ⟨rfl, hc5⟩))
          go_wp2
          go_ret
          exact ⟨rfl, (HFIN.out.drewN _).trans' hc5⟩
theorem lasts_walk' (t : Int) (es : List Int) (he : ∀ e ∈ es, 0 ≤ e ∧ e < 18446744073709551616) (hn : es.length ≤ 1048576) {v : Value} (w : World) (hv : View w 1 v es.length (es.map (Value.int .u64))) :
    Calls Tryd.prog 5 #[.int .i64 t, v] w fun e w' => e = .returned (.bool true) ∧ Chg [] w w' := by
  have h := hv
  obtain ⟨_, _, ao, cap, rfl, _⟩ := h
  exact lasts_walk t es he hn w hv
end Go.Proofs.YtngpfoddeebbmaaDoor
