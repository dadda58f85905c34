/- Walks of the lexer's laws: LexPlaces. -/
import Derived.Test.YtppijmpdoejdmaaCr
import Derived.Deep.QuietTactic
import Derived.BigQuiet
namespace Go.Proofs.Ytppijmpdoejdmaa
open Go.RowKit Go.AB
set_option linter.unusedSimpArgs false
set_option linter.unusedVariables false
set_option linter.unusedSectionVars false

theorem plC_flat (qs : List (Nat × Nat)) : (qs.flatMap plC).length = qs.length * 2 := by
  induction qs with
  | nil => rfl
  | cons x ts ih => rw [List.flatMap_cons, List.length_append, ih, List.length_cons]; simp [plC]; omega
theorem plC_get (qs : List (Nat × Nat)) (i j : Nat) (hi : i < qs.length) (hj : j < 2) : (qs.flatMap plC).getD (i * 2 + j) undef = (plC qs[i]).getD j undef := by
  induction qs generalizing i with
  | nil => simp at hi
  | cons x ts ih =>
    rw [List.flatMap_cons]
    cases i with
    | zero => simp only [Nat.zero_mul, Nat.zero_add, List.getD]; rw [List.getElem?_append_left (by simp [plC]; omega)]; rfl
    | succ i =>
      have := ih i (by simpa using hi)
      simp only [List.getD] at this ⊢
      rw [List.getElem?_append_right (by simp [plC]; omega), show (i + 1) * 2 + j - (plC x).length = i * 2 + j from by simp [plC]; omega, this]
      rfl

set_option maxHeartbeats 2000000 in
set_option maxRecDepth 100000 in
theorem pl_same_calls (w : World) {aa ab : Option Addr} {ca cb : Nat} (qs : List (Nat × Nat)) (ha : View w 2 (.slice aa qs.length ca) qs.length (qs.flatMap plC)) (hb : View w 2 (.slice ab qs.length cb) qs.length (qs.flatMap plC)) (hn : qs.length ≤ 16777216) :
    Calls Try.prog 21 #[.slice aa qs.length ca, .slice ab qs.length cb] w fun e w' => e = .returned (.bool true) ∧ ∃ n, w' = w.drewN n := by
  have HA := hid ha
  have HB := hid hb
  clear ha hb
  go_enter Try.func21, Try.ntmps21
  go_wp2
  go_loopw [5] (fun i wr => ∃ k m : Nat, k ≤ qs.length ∧ i = .int .i64 k ∧ wr = w.drewN m) (fun i _ => qs.length - (intOf i).toNat)
  case atStart => exact ⟨0, 0, Nat.zero_le _, rfl, rfl⟩
  case round =>
    obtain ⟨k, m, hk, rfl, rfl⟩ := hrel
    by_cases hlt : k < qs.length
    · obtain ⟨ba, oa, hba, cA⟩ := view_at HA.out (by omega)
      obtain ⟨bb, ob, hbb, cB⟩ := view_at HB.out (by omega)
      have a0 := cA (k * 2 + 0) (by omega)
      have a1 := cA (k * 2 + 1) (by omega)
      have b0 := cB (k * 2 + 0) (by omega)
      have b1 := cB (k * 2 + 1) (by omega)
      rw [plC_get qs k 0 hlt (by omega)] at a0 b0
      rw [plC_get qs k 1 hlt (by omega), ← Nat.add_assoc] at a1 b1
      rw [Nat.add_zero] at a0 b0
      change _ = some (Value.int .i64 (qs[k].1 : Nat)) at a0 b0
      change _ = some (Value.int .i64 (qs[k].2 : Nat)) at a1 b1
      have z1 : (k : Int) < (qs.length : Int) := by omega
      have H1 := hid hba
      have H2 := hid hbb
      subst hba hbb
      clear cA cB
      go_wp2_with fail
      go_quiet (fail)
      go_wp2
      go_roundw
      case rel => exact ⟨k + 1, _, by omega, by go_num, rfl⟩
      case measure => simp [intOf]; omega
    · go_wp2
      go_ret
      exact ⟨rfl, _, rfl⟩

def iotaI (k : Nat) : List Int := (List.range k).map fun (q : Nat) => (q : Int)
/-- One of the first numbers is written over. -/
theorem set_iota (xs : List Int) (k : Nat) (hk : k < xs.length) (C : List Value) : ((iotaI k ++ xs.drop k).map (Value.int .i64) ++ C).set k (.int .i64 (k : Int)) = (iotaI (k + 1) ++ xs.drop (k + 1)).map (Value.int .i64) ++ C := by
  have h1 : (iotaI k).length = k := by simp [iotaI]
  have h2 : iotaI (k + 1) = iotaI k ++ [(k : Int)] := by simp [iotaI, List.range_succ]
  rw [h2, List.drop_eq_getElem_cons hk, List.map_append, List.append_assoc, List.set_append_right _ _ (by simp [h1]), List.length_map, h1, Nat.sub_self, List.map_cons, List.cons_append, List.set_cons_zero]
  simp only [List.map_append, List.map_cons, List.map_nil, List.append_assoc, List.cons_append, List.nil_append]
theorem iotaI_len (k : Nat) : (iotaI k).length = k := by simp [iotaI]

set_option maxHeartbeats 8000000 in
set_option maxRecDepth 100000 in
theorem lexPlaces_walk {s : ByteArray} (w : World) (hs : s.size ≤ 1048576) (L : List UInt8) (hL : Hid (s.data.toList = L)) {ao : Option Addr} {cap : Nat} (xs : List Int) (hn : xs.length ≤ 1048576) (hv : View w 1 (.slice ao xs.length cap) xs.length (xs.map (Value.int .i64))) :
    Calls Try.prog 9 #[.string s, .slice ao xs.length cap] w fun e w' => e = .returned (.bool true) ∧ Chg [] w w' := by
  have HV := hid hv
  have HP := hid (fun W {ao : Option Addr} {cap : Nat} ys (hn : ys.length ≤ 16777216) hv => places_calls hs L hL W (ao := ao) (cap := cap) ys hn hv)
  have HQ := hid (fun W {ao : Option Addr} {cap : Nat} ys (hn : ys.length ≤ 16777216) hv => r_places_calls hs L hL W (ao := ao) (cap := cap) ys hn hv)
  have HK := hid known_calls
  clear hv hL
  obtain ⟨n, hnn⟩ : ∃ n, xs.length = n := ⟨_, rfl⟩
  have HN := hid hnn
  rw [hnn] at HV hn ⊢
  clear hnn
  go_enter Try.func9, Try.ntmps9
  go_wp2_with (at_builtin; refine halt (fun X hX => ?_))
  rw [hX.out]; clear hX
  refine wpList_grew rfl _ _ 46 rfl elem_int rfl (Row.nil w _ _) rfl HV.out (by simp [Value.oneCell']) (by unfold maxLen; omega) (by omega) (fun ao1 cap1 r1 w1 hr1 hg1 => ?_)
  rw [List.nil_append] at hr1
  simp only [Nat.zero_add] at hr1 ⊢
  have hr1' := fun o => hr1.keep ((Chg.refl [] w1).alloc o) (by simp)
  have hc1 : Chg [] w w1 := hg1.chg
  have hf1 := hg1.fresh
  clear hg1 hr1
  go_wp2_with (at_builtin; refine halt (fun X hX => ?_))
  rw [hX.out]; clear hX
  refine wpList_grew rfl _ _ 46 rfl elem_int rfl (hr1' _) rfl (View.one _ _ _) (by simp [Value.oneCell']) (by unfold maxLen; omega) (by omega) (fun ao2 cap2 r2 w2 hr2 hg2 => ?_)
  have hc12 : Chg [] w1 (w1.alloc (.cells #[.int .i64 (-71)] 3)) := (Chg.refl [] w1).alloc _
  have hc2 := own_step hc1 hf1 hc12 hg2.chg
  have hf2 := fresh_step hc1 hf1 hc12 hg2.fresh
  clear hg2 hc12 hr1' hc1 hf1
  obtain ⟨g, hg, hgr, hcell, hfz⟩ := hr2.atk (by omega)
  obtain ⟨hnc, hcm⟩ : n + 1 ≤ cap2 ∧ cap2 ≤ maxLen := by
    rcases hr2.form with ⟨hv, h0, _⟩ | ⟨g', cap', cur, hv, _, hnc, hcm, _⟩
    · omega
    · simp only [Value.slice.injEq, true_and] at hv
      exact ⟨by rw [hv.2]; exact hnc, by rw [hv.2]; exact hcm⟩
  have hgw : w.heap.size ≤ g := (hf2 g hgr).resolve_left (by simp)
  subst hg hgr
  have hlen : (xs.map (Value.int .i64)).length = n := by rw [List.length_map, HN.out]
  have hvp := hr2.viewPre (m := n) (cap := cap2) (by omega) (by omega) hcm
  rw [Nat.mul_one, List.take_left' hlen] at hvp
  have hgl : g < w2.heap.size := hr2.lt g rfl
  have HR2 := hid hr2
  have HC2 := hid hc2
  have hcap : n ≤ cap2 := by omega
  clear hcell hfz hf2 hlen hr2 hc2 hnc hcm
  have hp3 := HP.out w2 xs (by rw [HN.out]; omega) (by rw [HN.out]; exact hvp)
  rw [HN.out] at hp3
  have HP3 := hid hp3
  clear hp3 hvp
  go_wp2_with (go_at_call 20; refine halt (fun X hX => ?_))
  rw [hX.out]; clear hX
  refine HP3.out.mono ?_
  rintro e w3 ⟨q3, ao3, cap3, r3, rfl, hr3, hf3, hc3, H3⟩
  have hq4 := HQ.out w3 xs (by rw [HN.out]; omega) (by rw [HN.out]; exact HV.out.keep (HC2.out.trans' hc3) (by simp))
  rw [HN.out] at hq4
  have HQ4 := hid hq4
  have HR3 := hid (And.intro hr3 (And.intro hf3 hc3))
  clear hq4 hr3 hf3 hc3 HP3
  go_wp2_with (go_at_call 22; refine halt (fun X hX => ?_))
  rw [hX.out]; clear hX
  refine HQ4.out.mono ?_
  rintro e w4 ⟨q4, ao4, cap4, r4, rfl, hr4, hf4, hc4, H4⟩
  have hql : q3.length = n := by rw [H3.out, List.length_map, HN.out]
  have h34 : q4 = q3 := H4.out.trans H3.out.symm
  subst h34
  have HS := hid (pl_same_calls w4 q4 (HR3.out.1.keep hc4 (by simp)).view hr4.view (by omega))
  have hcg := fun m => HR2.out.keep ((HR3.out.2.2.trans' hc4).drewN m) (by simp)
  have HCG := hid hcg
  have HQL := hid hql
  have HR4 := hid (And.intro hr4 (And.intro hf4 hc4))
  have hg71 : ∀ m, (w4.drewN m).cell? ⟨g, n, none⟩ = some (.int .i64 (-71)) := fun m => by
    obtain ⟨g', hg', hgr', hcl, _⟩ := (HCG.out m).atk (by omega)
    simp only [Option.some.injEq] at hgr'
    subst hgr'
    rw [hcl n (by omega)]
    simp only [List.getD]
    rw [List.getElem?_append_right (by rw [List.length_map, HN.out]; omega)]
    simp [HN.out]
  have z0 : (n : Int) < (n : Int) + 1 := by omega
  clear hcg hql hr4 hf4 hc4 H4 HQ4
  go_wp2_with (go_at_call 21; ((with_reducible refine HS.out.mono ?_); rintro e w5 ⟨rfl, m5, rfl⟩))
  obtain ⟨v5, hv5⟩ : ∃ v5, w4.drewN m5 = v5 := ⟨_, rfl⟩
  have hrow5 : Row v5 3 1 (.slice (some ⟨g, 0, none⟩) (n + 1) cap2) (some g) (n + 1) ((iotaI 0 ++ xs.drop 0).map (Value.int .i64) ++ [.int .i64 (-71)]) := by rw [← hv5]; exact HCG.out m5
  have hc45 : Chg [] w4 v5 := by rw [← hv5]; exact Chg.of_drewN _ _ _
  have HC5 := hid (HC2.out.trans' (HR3.out.2.2.trans' (HR4.out.2.2.trans' hc45)))
  have HC45 := hid hc45
  rw [hv5]
  clear hg71 hv5 hc45
  go_loopw [7] (fun i wr => ∃ k : Nat, k ≤ n ∧ i = .int .i64 k ∧ Row wr 3 1 (.slice (some ⟨g, 0, none⟩) (n + 1) cap2) (some g) (n + 1) ((iotaI k ++ xs.drop k).map (Value.int .i64) ++ [.int .i64 (-71)]) ∧ Chg [g] v5 wr) (fun i _ => n - (intOf i).toNat)
  case atStart => exact ⟨0, Nat.zero_le _, rfl, hrow5, Chg.refl _ _⟩
  case round =>
    obtain ⟨k, hk, rfl, hrow, hch⟩ := hrel
    by_cases hlt : k < n
    · have hkx : k < xs.length := by rw [HN.out]; exact hlt
      obtain ⟨b, off, hao, hcv⟩ := view_at ((HV.out.keep HC5.out (by simp)).keep hch (fun g' hg' hm => by
        have hm2 : g' = g := by simpa using hm
        subst hm2
        have := HV.out
        obtain ⟨_, _, ao', cap', hvv, _, _, _, hcc⟩ := this
        simp only [Value.slice.injEq, true_and] at hvv
        obtain ⟨rfl, rfl⟩ := hvv
        obtain ⟨b, off, hb, hc⟩ := hcc (by omega)
        subst hb
        have h1 := World.block_lt_of_cell? _ _ (hc 0 (by omega))
        simp [Value.ownBlock] at hg'
        subst hg'
        simp at h1
        omega)) (by omega)
      have c0 := hcv k (by omega)
      rw [show (xs.map (Value.int .i64)).getD k undef = Value.int .i64 (xs[k]'hkx) from by simp [List.getD, hkx]] at c0
      obtain ⟨g', hg', hgr', hcl, hfz⟩ := hrow.atk (by omega)
      simp only [Option.some.injEq] at hgr'
      subst hgr'
      have f0 := hcl k (by omega)
      rw [show ((iotaI k ++ xs.drop k).map (Value.int .i64) ++ [Value.int .i64 (-71)]).getD k undef = Value.int .i64 (xs[k]'hkx) from by
        simp only [List.getD]
        rw [List.getElem?_append_left (by simp [iotaI_len]; omega), List.getElem?_map, List.getElem?_append_right (by simp [iotaI_len]), iotaI_len, Nat.sub_self, List.drop_eq_getElem_cons hkx]
        rfl] at f0
      have hst := hrow.setk k (.int .i64 (k : Int))
      rw [set_iota xs k hkx] at hst
      have hchs := hch.trans' (Chg.set1 g wr k (.int .i64 (k : Int)))
      have HST := hid (And.intro hst hchs)
      have z1 : (k : Int) < (n : Int) := by omega
      have z2 : (k : Int) < (n : Int) + 1 := by omega
      have HAO := hid hao
      obtain ⟨x, hx⟩ : ∃ x, xs[k] = x := ⟨_, rfl⟩
      rw [hx] at f0 c0
      subst hao
      clear hcv hcl hst hchs hx hg' hrow
      go_wp2_with fail
      go_quiet (fail)
      go_wp2
      go_roundw
      case rel => exact ⟨k + 1, by omega, by go_num, HST.out.1.keep (Chg.of_drewN [] _ _) (by simp), HST.out.2.drewN _⟩
      case measure => simp [intOf]; omega
    · obtain rfl : k = n := by omega
      have hrowF : Row wr 3 1 (.slice (some ⟨g, 0, none⟩) (k + 1) cap2) (some g) (k + 1) ((iotaI k).map (Value.int .i64) ++ [.int .i64 (-71)]) := by
        have := hrow
        rw [List.drop_of_length_le (by rw [HN.out]; omega), List.append_nil] at this
        exact this
      have hlen : ((iotaI k).map (Value.int .i64)).length = k := by rw [List.length_map, iotaI_len]
      have hvp := hrowF.viewPre (m := k) (cap := cap2) (by omega) (by omega) (by
        rcases HR2.out.form with ⟨hv, h0, _⟩ | ⟨g', cap', cur, hv, _, hnc, hcm, _⟩
        · omega
        · simp only [Value.slice.injEq, true_and] at hv
          rw [hv.2]; exact hcm)
      rw [Nat.mul_one, List.take_left' hlen] at hvp
      have HVP := hid hvp
      have HCH := hid (And.intro hch hrowF)
      clear hvp hrowF hrow hch hlen
      go_wp2_with (at_builtin; refine halt (fun X hX => ?_))
      rw [hX.out]; clear hX
      refine wpList_grew rfl _ _ 46 rfl elem_int rfl (Row.nil wr _ _) rfl HVP.out (by simp [Value.oneCell']) (by unfold maxLen; omega) (by omega) (fun ao6 cap6 r6 w6 hr6 hg6 => ?_)
      rw [List.nil_append] at hr6
      simp only [Nat.zero_add] at hr6 ⊢
      have hc6 : Chg [] wr w6 := hg6.chg
      have hf6 := hg6.fresh
      have hp7 := HP.out w6 (iotaI k) (by rw [iotaI_len]; omega) (by rw [iotaI_len]; exact HVP.out.keep hc6 (by simp))
      rw [iotaI_len] at hp7
      have HP7 := hid hp7
      clear hp7 hg6
      go_wp2_with (go_at_call 20; refine halt (fun X hX => ?_))
      rw [hX.out]; clear hX
      refine HP7.out.mono ?_
      rintro e w7 ⟨q7, ao7, cap7, r7, rfl, hr7, hf7, hc7, H7⟩
      have hall : Chg [g] w w7 := (HC5.out.nil.trans' HCH.out.1).trans (hc6.trans' hc7) (fun x hx => by simp at hx)
      have hva : View w7 1 (.slice ao k cap) k (xs.map (Value.int .i64)) := HV.out.below (hall.below (fun x hx => by have hx2 : x = g := (by simpa using hx); omega) (Nat.le_refl _))
      have hr3g : ∀ x, r3 = some x → x ∉ [g] := fun x hx hm => by
        have hm2 : x = g := by simpa using hm
        have := (HR3.out.2.1 x hx).resolve_left (by simp)
        omega
      have hra := (((HR3.out.1.keep (HR4.out.2.2.trans' HC45.out) (by simp)).keep HCH.out.1 hr3g).keep (hc6.trans' hc7) (by simp))
      have hrn := hr6.keep hc7 (by simp)
      have hq8 := HQ.out w7 xs (by rw [HN.out]; omega) (by rw [HN.out]; exact hva)
      rw [HN.out] at hq8
      have HQ8 := hid hq8
      have HALL := hid hall
      have H67 := hid (And.intro hra (And.intro hrn hr7))
      clear hq8 hall hva hr3g hra hrn hr7 hf7 hc7 hr6 hc6 hf6 HP7
      go_wp2_with (go_at_call 22; refine halt (fun X hX => ?_))
      rw [hX.out]; clear hX
      refine HQ8.out.mono ?_
      rintro e w8 ⟨q8, ao8, cap8, r8, rfl, hr8, hf8, hc8, H8⟩
      have e8 : q8 = xs.map (plOf L) := H8.out
      have e4 : q4 = xs.map (plOf L) := H3.out
      have h84 : q8 = q4 := by rw [e8, e4]
      subst h84
      have HS8 := hid (pl_same_calls w8 q8 (H67.out.1.keep hc8 (by simp)).view hr8.view (by have := HQL.out; omega))
      have HC8 := hid (And.intro hc8 (And.intro H67.out.2.1 H67.out.2.2))
      clear e8 e4 hr8 hf8 hc8 H8 HQ8
      go_wp2_with (first
        | (go_at_call 21; ((with_reducible refine HS8.out.mono ?_); rintro e w9 ⟨rfl, m9, rfl⟩))
        | (go_at_call 22; refine halt (fun X hX => ?_)))
      rw [hX.out]; clear hX
      have hq10 := HQ.out (w8.drewN m9) (iotaI k) (by rw [iotaI_len]; omega) (by rw [iotaI_len]; exact (HC8.out.2.1.keep (HC8.out.1.drewN m9) (by simp)).view)
      rw [iotaI_len] at hq10
      refine hq10.mono ?_
      rintro e w10 ⟨q10, ao10, cap10, r10, rfl, hr10, hf10, hc10, H10⟩
      have e10 : q10 = (iotaI k).map (plOf L) := H10.out
      have e7 : q7 = (iotaI k).map (plOf L) := H7.out
      have h107 : q10 = q7 := by rw [e10, e7]
      have hl7 : q7.length ≤ 16777216 := by rw [e7, List.length_map, iotaI_len]; omega
      subst h107
      have HS10 := hid (pl_same_calls w10 q10 (HC8.out.2.2.keep ((HC8.out.1.drewN m9).trans' hc10) (by simp)).view hr10.view hl7)
      have hfin : Chg [] w w10 := (HALL.out.mono (fun x hx => .inr (by have hx2 : x = g := (by simpa using hx); omega))).trans' ((HC8.out.1.drewN m9).trans' hc10)
      have HFIN := hid hfin
      clear hq10 e10 e7 hl7 hr10 hf10 hc10 H10 hfin
      go_wp2_with (first
        | (go_at_call 21; ((with_reducible refine HS10.out.mono ?_); rintro e w11 ⟨rfl, m11, rfl⟩))
        | (go_at_call 14; refine (HK.out _).mono ?_; rintro e w12 ⟨rfl, hc12⟩))
      go_ret
      exact ⟨rfl, (HFIN.out.drewN m11).trans' hc12⟩
theorem lexPlaces_walk' {s : ByteArray} (w : World) (hs : s.size ≤ 1048576) (L : List UInt8) (hL : Hid (s.data.toList = L)) {v : Value} (xs : List Int) (hn : xs.length ≤ 1048576) (hv : View w 1 v xs.length (xs.map (Value.int .i64))) :
    Calls Try.prog 9 #[.string s, v] w fun e w' => e = .returned (.bool true) ∧ Chg [] w w' := by
  have h := hv
  obtain ⟨_, _, ao, cap, rfl, _⟩ := h
  exact lexPlaces_walk w hs L hL xs hn hv
end Go.Proofs.Ytppijmpdoejdmaa
