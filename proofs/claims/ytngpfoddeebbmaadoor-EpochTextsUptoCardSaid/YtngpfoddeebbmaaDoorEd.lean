/- Walks of the epochs' laws: EpochLeq. -/
import Derived.Test.YtngpfoddeebbmaaDoorEc
import Derived.Test.YtngpfoddeebbmaaDoorMk
namespace Go.Proofs.YtngpfoddeebbmaaDoor
open Go.RowKit Go.AB
set_option linter.unusedSimpArgs false
set_option linter.unusedVariables false

theorem info_u64 : (Tryd.prog.info? 22).map (fun i => (i.zero, i.size, i.bytes)) = some (some (.int .u64 0), 1, 8) := by kernel_rfl
theorem elem_u64 : ElemOk Tryd.prog 34 22 1 8 := .of Tryd.underlying34 info_u64 rfl (by decide)
theorem atE_nonneg {cs : List Int} (h : ∀ x ∈ cs, 0 ≤ x) (t : Int) : 0 ≤ atE cs t := by
  unfold atE
  split
  · decide
  · simp only [List.getD]
    rw [List.getElem?_eq_getElem (by omega)]
    exact h _ (List.getElem_mem _)
theorem atE_in {cs : List Int} {t : Int} (h0 : 0 ≤ t) (h1 : t < (cs.length : Int)) : atE cs t = cs.getD t.toNat 0 := by unfold atE; rw [if_neg (by omega)]
theorem atE_out {cs : List Int} {t : Int} (h1 : (cs.length : Int) ≤ t) : atE cs t = 0 := by unfold atE; rw [if_pos (.inr h1)]
theorem leqE_none {cs : List Int} (h : ∀ x ∈ cs, 0 ≤ x) : leqE 0 cs = true := by
  unfold leqE
  rw [partsE_zero]
  exact decide_eq_true (atE_nonneg h 0)
theorem leqE_pack {t c : Int} (h0 : 0 ≤ t) (h : t < 65535) (h1 : 0 < c) (h2 : c ≤ 281474976710655) (cs : List Int) : leqE (t * 281474976710656 + c) cs = decide (c ≤ atE cs t) := by
  unfold leqE
  rw [partsE_pack h0 h h1 h2]

set_option maxHeartbeats 8000000 in
set_option maxRecDepth 100000 in
theorem leq_walk (t c : Int) (hc : 0 ≤ c) (xs ys : List Int) (hx0 : ∀ x ∈ xs, 0 ≤ x) (hxn : xs.length ≤ 1048576) (hyn : ys.length ≤ 1048576) {ao bo : Option Addr} {cap dap : Nat} (w : World)
    (hv : View w 1 (.slice ao xs.length cap) xs.length (xs.map (Value.int .u64))) (hu : View w 1 (.slice bo ys.length dap) ys.length (ys.map (Value.int .u64))) :
    Calls Tryd.prog 4 #[.int .i64 t, .int .u64 c, .slice ao xs.length cap, .slice bo ys.length dap] w fun e w' => e = .returned (.bool true) ∧ Chg [] w w' := by
  have HL := hid lives_calls
  have HV := hid hv
  have HU := hid hu
  have HLQ := hid (fun E h0 h1 cs {ao : Option Addr} {cap : Nat} w hv hm => leq_calls E h0 h1 cs (ao := ao) (cap := cap) w hv hm)
  have h0n := leqE_none hx0
  have hp := pack_calls t c hc
  have HX0 := hid hx0
  clear hv hu hx0
  have hq0 := fun u (hu : Chg [] w u) => HLQ.out 0 (by decide) (by decide) xs u (HV.out.keep hu (by simp)) (by omega)
  rw [h0n] at hq0
  have HQ0 := hid hq0
  clear hq0 h0n
  by_cases hok : 0 ≤ t ∧ t < 65535 ∧ c ≠ 0 ∧ c ≤ 281474976710655
  · obtain ⟨t0, t1, c1, c2⟩ := hok
    rw [packE_yes t0 t1 c1 c2] at hp
    have hL := leqE_pack t0 t1 (by omega) c2
    have hE1 : 0 ≤ t * 281474976710656 + c ∧ t * 281474976710656 + c < 18446744073709551616 := by omega
    have hPE := partsE_pack t0 t1 (by omega) c2
    obtain ⟨E, hE⟩ : ∃ E, t * 281474976710656 + c = E := ⟨_, rfl⟩
    have hL2 := fun (h : c + 1 ≤ 281474976710655) => leqE_pack (t := t) (c := c + 1) t0 t1 (by omega) h
    rw [show t * 281474976710656 + (c + 1) = E + 1 from by rw [← hE]; omega] at hL2
    rw [hE] at hp hL hE1 hPE
    have HP := hid hp
    have HLE := hid hL
    have HL2 := hid hL2
    have HE1 := hid hE1
    have HPE := hid hPE
    have HN := hid (next_calls E hE1.1 hE1.2)
    have hnx : nextE E = if c = 281474976710655 then (0, 20) else (E + 1, 0) := by
      unfold nextE
      rw [hPE]
      simp only
      rw [if_neg c1]
    have HNX := hid hnx
    have hqx := fun u (hu : Chg [] w u) => HLQ.out E hE1.1 hE1.2 xs u (HV.out.keep hu (by simp)) (by omega)
    rw [HLE.out] at hqx
    have hc0 : 0 < c := by omega
    clear hp hL hL2 hE1 hPE hnx hE c1
    -- where the thread's clock stands, and what is asked of it
    have hcase : ∃ b : Bool, (b = true → ∀ zs : List Int, xs.length ≤ zs.length → (∀ j, j < xs.length → xs.getD j 0 ≤ zs.getD j 0) → leqE E zs = true) ∧ (b = false → c ≤ 281474976710654 → leqE (E + 1) xs = false) ∧ decide (c ≤ atE xs t) = b ∧
        ((t < (xs.length : Int) ∧ ∃ x bb off, xs.getD t.toNat 0 = x ∧ ao = some ⟨bb, off, none⟩ ∧ (∀ u, Chg [] w u → u.cell? ⟨bb, off + t.toNat, none⟩ = some (.int .u64 x)) ∧ decide (c ≤ x) = b) ∨ ((xs.length : Int) ≤ t ∧ b = false)) := by
      by_cases hlt : t < (xs.length : Int)
      · have ha := atE_in t0 hlt
        refine ⟨decide (c ≤ xs.getD t.toNat 0), fun hb zs hz hj => ?_, fun hb hcc => ?_, by rw [ha], .inl ⟨hlt, ?_⟩⟩
        · have h1 := of_decide_eq_true hb
          rw [HLE.out, atE_in t0 (by omega)]
          have h2 := hj t.toNat (by omega)
          exact decide_eq_true (by omega)
        · have h1 := of_decide_eq_false hb
          rw [HL2.out (by omega), ha]
          exact decide_eq_false (by omega)
        · obtain ⟨bb, off, hao, hcl⟩ := nums_at HV.out (by omega)
          exact ⟨_, bb, off, rfl, hao, fun u hu => hu.cell (hcl t.toNat (by omega)) (by simp), rfl⟩
      · have ha := atE_out (cs := xs) (t := t) (by omega)
        refine ⟨false, (fun hb => by cases hb), fun _ hcc => ?_, by rw [ha]; exact decide_eq_false (by omega), .inr ⟨by omega, rfl⟩⟩
        rw [HL2.out (by omega), ha]
        exact decide_eq_false (by omega)
    obtain ⟨b, hb1, hb2, hb3, hcase⟩ := hcase
    have HB1 := hid hb1
    have HB2 := hid hb2
    rw [hb3] at hqx
    have HQX := hid hqx
    clear hb1 hb2 hb3 hqx
    rcases hcase with ⟨hlt, x, bb, off, hxe, hao, hcx, hdx⟩ | ⟨hge, rfl⟩
    · have HCX := hid hcx
      have HAO := hid hao
      subst hao
      clear hcx hxe
      cases b
      case false =>
        go_enter Tryd.func4, Tryd.ntmps4
        go_wp2_with (first
          | (go_at_call 15; refine (HL.out _).mono ?_; rintro e w1 ⟨rfl, hc1⟩; have cx1 := HCX.out _ hc1)
          | (go_at_call 10; refine (HP.out _).mono ?_; rintro e w' ⟨rfl, rfl⟩)
          | (go_at_call 16; ((with_reducible refine (HQ0.out _ hc1).mono ?_); rintro e w' ⟨rfl, rfl⟩))
          | (go_at_call 16; ((with_reducible refine (HQX.out _ hc1).mono ?_); rintro e w' ⟨rfl, rfl⟩))
          | (at_builtin; refine halt (fun X hX => ?_)))
        rw [hX.out]; clear hX
        refine wpList_grew rfl _ _ 34 rfl elem_u64 rfl (Row.nil w1 _ _) rfl (HV.out.keep hc1 (by simp)) (by simp [Value.oneCell']) (by unfold maxLen; omega) (by omega) (fun ao2 cap2 r2 w2 hr2 hg2 => ?_)
        rw [List.nil_append] at hr2
        simp only [Nat.zero_add] at hr2 ⊢
        have hf2 := hg2.fresh
        have hc2 : Chg [] w w2 := hc1.trans' hg2.chg
        have hf2' : Fresh w none r2 := hf2.mono hc1.size
        have HR2 := hid (And.intro hr2 (And.intro hf2' hc2))
        clear hr2 hg2 hf2 hf2' hc2
        go_wp2_with fail
        go_loopw [12, 13] (fun v i wr => ∃ (k : Nat) (zs : List Int) (ao' : Option Addr) (cap' : Nat) (r : Option Nat), k ≤ ys.length ∧ i = .int .i64 k ∧ v = .slice ao' zs.length cap' ∧ Row wr 22 1 (.slice ao' zs.length cap') r zs.length (zs.map (Value.int .u64)) ∧ Fresh w none r ∧ Chg [] w wr ∧ zs.length ≤ xs.length + k ∧ Hid (xs.length ≤ zs.length ∧ ∀ j, j < xs.length → xs.getD j 0 ≤ zs.getD j 0)) (fun _ i _ => ys.length - (intOf i).toNat)
        case atStart => exact ⟨0, xs, ao2, cap2, r2, Nat.zero_le _, rfl, rfl, HR2.out.1, HR2.out.2.1, HR2.out.2.2, by omega, hid ⟨Nat.le_refl _, fun j _ => Int.le_refl _⟩⟩
        case round =>
          obtain ⟨k, zs, ao', cap', r, hk, rfl, rfl, hrow, hf, hch, hzl, HZ⟩ := hrel
          by_cases hkl : k < ys.length
          · obtain ⟨b2, o2, hbo, hcl⟩ := nums_at (HU.out.keep hch (by simp)) (by omega)
            have cy := hcl k hkl
            have z1 : (k : Int) < (ys.length : Int) := by omega
            obtain ⟨y, hy⟩ : ∃ y, ys.getD k 0 = y := ⟨_, rfl⟩
            rw [hy] at cy
            have HBO := hid hbo
            subst hbo
            clear hcl hy
            by_cases hkz : k < zs.length
            · obtain ⟨g, hg, hgr, hcell, hfz⟩ := hrow.atk (by omega)
              have cz := hcell k (by omega)
              rw [show (zs.map (Value.int .u64)).getD k undef = .int .u64 (zs.getD k 0) from by simp [List.getD, hkz]] at cz
              subst hgr
              have hst := hrow.setk k (.int .u64 y)
              have hcs := (hch.nil (T := [g])).trans' (Chg.set1 g wr k (.int .u64 y))
              have hgn : w.heap.size ≤ g := (hf g rfl).resolve_left (by simp)
              rw [← List.map_set] at hst
              have HST := hid (And.intro hst (hcs.mono (T := []) (fun x hx => .inr (by have hx2 : x = g := (by simpa using hx); omega))))
              have HRW := hid (And.intro hrow (And.intro hf hch))
              obtain ⟨z, hz⟩ : ∃ z, zs.getD k 0 = z := ⟨_, rfl⟩
              rw [hz] at cz
              have HZK := hid hz
              have z2 : (k : Int) < (zs.length : Int) := by omega
              subst hg
              clear hst hcs hz hcell hrow hf hch
              by_cases hyz : z < y
              · have d1 : decide (z < y) = true := decide_eq_true hyz
                go_wp2_with fail
                go_quiet (fail)
                go_wp2
                go_roundw
                case rel => exact ⟨k + 1, zs.set k y, _, cap', some g, by omega, by go_num, by rw [List.length_set], by rw [List.length_set]; exact HST.out.1.keep (Chg.of_drewN [] _ _) (by simp), HRW.out.2.1, HST.out.2.drewN _, by rw [List.length_set]; omega, hid ⟨by rw [List.length_set]; exact HZ.out.1, fun j hj => by
                  have h1 := HZ.out.2 j hj
                  by_cases hjk : k = j
                  · subst hjk
                    rw [HZK.out] at h1
                    rw [show (zs.set k y).getD k 0 = y from by simp [List.getD, hkz]]
                    omega
                  · rw [show (zs.set k y).getD j 0 = zs.getD j 0 from by simp [List.getD, List.getElem?_set, hjk]]
                    exact h1⟩⟩
                case measure => simp [intOf]; omega
              · have d1 : decide (z < y) = false := decide_eq_false hyz
                go_wp2_with fail
                go_quiet (fail)
                go_wp2
                go_roundw
                case rel => exact ⟨k + 1, zs, _, cap', some g, by omega, by go_num, rfl, HRW.out.1.keep (Chg.of_drewN [] _ _) (by simp), HRW.out.2.1, HRW.out.2.2.drewN _, by omega, HZ⟩
                case measure => simp [intOf]; omega
            · have hrow' := fun o => hrow.keep ((Chg.refl [] wr).alloc o) (by simp)
              have HF := hid (And.intro hf hch)
              clear hrow hf hch
              go_wp2_with (at_builtin; refine wpList_grew rfl _ _ 34 rfl elem_u64 rfl (hrow' _) rfl (View.one _ _ _) (by simp [Value.oneCell']) (by unfold maxLen; omega) (by omega) (fun ao3 cap3 r3 w3 hr3 hg3 => halt (fun X hX => ?_)))
              rw [hX.out]; clear hX
              have hc3 : Chg [] wr (wr.alloc (.cells #[.int .u64 y] 22)) := (Chg.refl [] wr).alloc _
              have hfs := fresh_step HF.out.2 HF.out.1 hc3 hg3.fresh
              have hcs := own_step HF.out.2 HF.out.1 hc3 hg3.chg
              have hr3' : Row w3 22 1 (.slice ao3 (zs ++ [y]).length cap3) r3 (zs ++ [y]).length ((zs ++ [y]).map (Value.int .u64)) := by
                rw [List.length_append, List.map_append]; exact hr3
              have HR3 := hid (And.intro hr3' (And.intro hfs hcs))
              clear hr3 hr3' hfs hcs hg3 hc3 hrow'
              go_wp2
              go_roundw
              case rel => exact ⟨k + 1, zs ++ [y], ao3, cap3, r3, by omega, by go_num, by simp, HR3.out.1, HR3.out.2.1, HR3.out.2.2, by simp; omega, hid ⟨by have := HZ.out.1; simp; omega, fun j hj => by
                have h1 := HZ.out.2 j hj
                have h2 := HZ.out.1
                rw [show (zs ++ [y]).getD j 0 = zs.getD j 0 from by simp only [List.getD]; rw [List.getElem?_append_left (by omega)]]
                exact h1⟩⟩
              case measure => simp [intOf]; omega
          · have HQX2 := HQX.out _ hch
            have hzq := HLQ.out E HE1.out.1 HE1.out.2 zs wr hrow.view (by omega)
            have hnq := fun (h1 : 0 ≤ E + 1) (h2 : E + 1 < 18446744073709551616) => HLQ.out (E + 1) h1 h2 xs wr (HV.out.keep hch (by simp)) (by omega)
            clear HQX2
            have HZQ := hid hzq
            clear hzq
            have HCH := hid hch
            clear hch hrow hf
            by_cases hcm : c = 281474976710655
            · have hn := HN.out wr
              rw [HNX.out, if_pos hcm] at hn
              have HN2 := hid hn
              clear hn hcm hnq
              go_wp2_with (first
                | (go_at_call 16; refine HZQ.out.mono ?_; rintro e w' ⟨rfl, rfl⟩)
                | (go_at_call 13; refine HN2.out.mono ?_; rintro e w' ⟨rfl, rfl⟩))
              go_ret
              exact ⟨rfl, HCH.out⟩
            · have hn := HN.out wr
              rw [HNX.out, if_neg hcm] at hn
              have hE2 : 0 ≤ E + 1 ∧ E + 1 < 18446744073709551616 := ⟨by have := HE1.out.1; omega, by
                have h1 := HLE.out [0]
                have h2 := HPE.out
                have h3 : E < 65535 * 281474976710656 := by
                  unfold partsE at h2
                  split at h2
                  · simp at h2; omega
                  split at h2
                  · simp at h2
                  · omega
                omega⟩
              have hq := hnq hE2.1 hE2.2
              rw [HB2.out (by simp) (by omega)] at hq
              obtain ⟨E2, hE2'⟩ : ∃ E2, E + 1 = E2 := ⟨_, rfl⟩
              rw [hE2'] at hn hq
              have HN2 := hid hn
              have HQ2 := hid hq
              clear hn hq hnq hcm hE2 hE2'
              go_wp2_with (first
                | (go_at_call 13; refine HN2.out.mono ?_; rintro e w' ⟨rfl, rfl⟩)
                | (go_at_call 16; ((with_reducible refine HZQ.out.mono ?_); rintro e w' ⟨rfl, rfl⟩))
                | (go_at_call 16; ((with_reducible refine HQ2.out.mono ?_); rintro e w' ⟨rfl, rfl⟩)))
              all_goals go_ret
              all_goals exact ⟨rfl, HCH.out⟩
      case true =>
        go_enter Tryd.func4, Tryd.ntmps4
        go_wp2_with (first
          | (go_at_call 15; refine (HL.out _).mono ?_; rintro e w1 ⟨rfl, hc1⟩; have cx1 := HCX.out _ hc1)
          | (go_at_call 10; refine (HP.out _).mono ?_; rintro e w' ⟨rfl, rfl⟩)
          | (go_at_call 16; ((with_reducible refine (HQ0.out _ hc1).mono ?_); rintro e w' ⟨rfl, rfl⟩))
          | (go_at_call 16; ((with_reducible refine (HQX.out _ hc1).mono ?_); rintro e w' ⟨rfl, rfl⟩))
          | (at_builtin; refine halt (fun X hX => ?_)))
        rw [hX.out]; clear hX
        refine wpList_grew rfl _ _ 34 rfl elem_u64 rfl (Row.nil w1 _ _) rfl (HV.out.keep hc1 (by simp)) (by simp [Value.oneCell']) (by unfold maxLen; omega) (by omega) (fun ao2 cap2 r2 w2 hr2 hg2 => ?_)
        rw [List.nil_append] at hr2
        simp only [Nat.zero_add] at hr2 ⊢
        have hf2 := hg2.fresh
        have hc2 : Chg [] w w2 := hc1.trans' hg2.chg
        have hf2' : Fresh w none r2 := hf2.mono hc1.size
        have HR2 := hid (And.intro hr2 (And.intro hf2' hc2))
        clear hr2 hg2 hf2 hf2' hc2
        go_wp2_with fail
        go_loopw [12, 13] (fun v i wr => ∃ (k : Nat) (zs : List Int) (ao' : Option Addr) (cap' : Nat) (r : Option Nat), k ≤ ys.length ∧ i = .int .i64 k ∧ v = .slice ao' zs.length cap' ∧ Row wr 22 1 (.slice ao' zs.length cap') r zs.length (zs.map (Value.int .u64)) ∧ Fresh w none r ∧ Chg [] w wr ∧ zs.length ≤ xs.length + k ∧ Hid (xs.length ≤ zs.length ∧ ∀ j, j < xs.length → xs.getD j 0 ≤ zs.getD j 0)) (fun _ i _ => ys.length - (intOf i).toNat)
        case atStart => exact ⟨0, xs, ao2, cap2, r2, Nat.zero_le _, rfl, rfl, HR2.out.1, HR2.out.2.1, HR2.out.2.2, by omega, hid ⟨Nat.le_refl _, fun j _ => Int.le_refl _⟩⟩
        case round =>
          obtain ⟨k, zs, ao', cap', r, hk, rfl, rfl, hrow, hf, hch, hzl, HZ⟩ := hrel
          by_cases hkl : k < ys.length
          · obtain ⟨b2, o2, hbo, hcl⟩ := nums_at (HU.out.keep hch (by simp)) (by omega)
            have cy := hcl k hkl
            have z1 : (k : Int) < (ys.length : Int) := by omega
            obtain ⟨y, hy⟩ : ∃ y, ys.getD k 0 = y := ⟨_, rfl⟩
            rw [hy] at cy
            have HBO := hid hbo
            subst hbo
            clear hcl hy
            by_cases hkz : k < zs.length
            · obtain ⟨g, hg, hgr, hcell, hfz⟩ := hrow.atk (by omega)
              have cz := hcell k (by omega)
              rw [show (zs.map (Value.int .u64)).getD k undef = .int .u64 (zs.getD k 0) from by simp [List.getD, hkz]] at cz
              subst hgr
              have hst := hrow.setk k (.int .u64 y)
              have hcs := (hch.nil (T := [g])).trans' (Chg.set1 g wr k (.int .u64 y))
              have hgn : w.heap.size ≤ g := (hf g rfl).resolve_left (by simp)
              rw [← List.map_set] at hst
              have HST := hid (And.intro hst (hcs.mono (T := []) (fun x hx => .inr (by have hx2 : x = g := (by simpa using hx); omega))))
              have HRW := hid (And.intro hrow (And.intro hf hch))
              obtain ⟨z, hz⟩ : ∃ z, zs.getD k 0 = z := ⟨_, rfl⟩
              rw [hz] at cz
              have HZK := hid hz
              have z2 : (k : Int) < (zs.length : Int) := by omega
              subst hg
              clear hst hcs hz hcell hrow hf hch
              by_cases hyz : z < y
              · have d1 : decide (z < y) = true := decide_eq_true hyz
                go_wp2_with fail
                go_quiet (fail)
                go_wp2
                go_roundw
                case rel => exact ⟨k + 1, zs.set k y, _, cap', some g, by omega, by go_num, by rw [List.length_set], by rw [List.length_set]; exact HST.out.1.keep (Chg.of_drewN [] _ _) (by simp), HRW.out.2.1, HST.out.2.drewN _, by rw [List.length_set]; omega, hid ⟨by rw [List.length_set]; exact HZ.out.1, fun j hj => by
                  have h1 := HZ.out.2 j hj
                  by_cases hjk : k = j
                  · subst hjk
                    rw [HZK.out] at h1
                    rw [show (zs.set k y).getD k 0 = y from by simp [List.getD, hkz]]
                    omega
                  · rw [show (zs.set k y).getD j 0 = zs.getD j 0 from by simp [List.getD, List.getElem?_set, hjk]]
                    exact h1⟩⟩
                case measure => simp [intOf]; omega
              · have d1 : decide (z < y) = false := decide_eq_false hyz
                go_wp2_with fail
                go_quiet (fail)
                go_wp2
                go_roundw
                case rel => exact ⟨k + 1, zs, _, cap', some g, by omega, by go_num, rfl, HRW.out.1.keep (Chg.of_drewN [] _ _) (by simp), HRW.out.2.1, HRW.out.2.2.drewN _, by omega, HZ⟩
                case measure => simp [intOf]; omega
            · have hrow' := fun o => hrow.keep ((Chg.refl [] wr).alloc o) (by simp)
              have HF := hid (And.intro hf hch)
              clear hrow hf hch
              go_wp2_with (at_builtin; refine wpList_grew rfl _ _ 34 rfl elem_u64 rfl (hrow' _) rfl (View.one _ _ _) (by simp [Value.oneCell']) (by unfold maxLen; omega) (by omega) (fun ao3 cap3 r3 w3 hr3 hg3 => halt (fun X hX => ?_)))
              rw [hX.out]; clear hX
              have hc3 : Chg [] wr (wr.alloc (.cells #[.int .u64 y] 22)) := (Chg.refl [] wr).alloc _
              have hfs := fresh_step HF.out.2 HF.out.1 hc3 hg3.fresh
              have hcs := own_step HF.out.2 HF.out.1 hc3 hg3.chg
              have hr3' : Row w3 22 1 (.slice ao3 (zs ++ [y]).length cap3) r3 (zs ++ [y]).length ((zs ++ [y]).map (Value.int .u64)) := by
                rw [List.length_append, List.map_append]; exact hr3
              have HR3 := hid (And.intro hr3' (And.intro hfs hcs))
              clear hr3 hr3' hfs hcs hg3 hc3 hrow'
              go_wp2
              go_roundw
              case rel => exact ⟨k + 1, zs ++ [y], ao3, cap3, r3, by omega, by go_num, by simp, HR3.out.1, HR3.out.2.1, HR3.out.2.2, by simp; omega, hid ⟨by have := HZ.out.1; simp; omega, fun j hj => by
                have h1 := HZ.out.2 j hj
                have h2 := HZ.out.1
                rw [show (zs ++ [y]).getD j 0 = zs.getD j 0 from by simp only [List.getD]; rw [List.getElem?_append_left (by omega)]]
                exact h1⟩⟩
              case measure => simp [intOf]; omega
          · have HQX2 := HQX.out _ hch
            have hzq := HLQ.out E HE1.out.1 HE1.out.2 zs wr hrow.view (by omega)
            have hnq := fun (h1 : 0 ≤ E + 1) (h2 : E + 1 < 18446744073709551616) => HLQ.out (E + 1) h1 h2 xs wr (HV.out.keep hch (by simp)) (by omega)
            rw [HB1.out (by simp) zs HZ.out.1 HZ.out.2] at hzq
            have HZQ := hid hzq
            clear hzq HQX2
            have HCH := hid hch
            clear hch hrow hf
            by_cases hcm : c = 281474976710655
            · have hn := HN.out wr
              rw [HNX.out, if_pos hcm] at hn
              have HN2 := hid hn
              clear hn hcm hnq
              go_wp2_with (first
                | (go_at_call 16; refine HZQ.out.mono ?_; rintro e w' ⟨rfl, rfl⟩)
                | (go_at_call 13; refine HN2.out.mono ?_; rintro e w' ⟨rfl, rfl⟩))
              go_ret
              exact ⟨rfl, HCH.out⟩
            · have hn := HN.out wr
              rw [HNX.out, if_neg hcm] at hn
              have hE2 : 0 ≤ E + 1 ∧ E + 1 < 18446744073709551616 := ⟨by have := HE1.out.1; omega, by
                have h1 := HLE.out [0]
                have h2 := HPE.out
                have h3 : E < 65535 * 281474976710656 := by
                  unfold partsE at h2
                  split at h2
                  · simp at h2; omega
                  split at h2
                  · simp at h2
                  · omega
                omega⟩
              have hq := hnq hE2.1 hE2.2
              obtain ⟨qb, hqb⟩ : ∃ qb, leqE (E + 1) xs = qb := ⟨_, rfl⟩
              rw [hqb] at hq
              clear hqb
              obtain ⟨E2, hE2'⟩ : ∃ E2, E + 1 = E2 := ⟨_, rfl⟩
              rw [hE2'] at hn hq
              have HN2 := hid hn
              have HQ2 := hid hq
              clear hn hq hnq hcm hE2 hE2'
              cases qb
              all_goals
                go_wp2_with (first
                  | (go_at_call 13; refine HN2.out.mono ?_; rintro e w' ⟨rfl, rfl⟩)
                  | (go_at_call 16; ((with_reducible refine HZQ.out.mono ?_); rintro e w' ⟨rfl, rfl⟩))
                  | (go_at_call 16; ((with_reducible refine HQ2.out.mono ?_); rintro e w' ⟨rfl, rfl⟩)))
                all_goals go_ret
                all_goals exact ⟨rfl, HCH.out⟩
    ·
      go_enter Tryd.func4, Tryd.ntmps4
      go_wp2_with (first
        | (go_at_call 15; refine (HL.out _).mono ?_; rintro e w1 ⟨rfl, hc1⟩)
        | (go_at_call 10; refine (HP.out _).mono ?_; rintro e w' ⟨rfl, rfl⟩)
        | (go_at_call 16; ((with_reducible refine (HQ0.out _ hc1).mono ?_); rintro e w' ⟨rfl, rfl⟩))
        | (go_at_call 16; ((with_reducible refine (HQX.out _ hc1).mono ?_); rintro e w' ⟨rfl, rfl⟩))
        | (at_builtin; refine halt (fun X hX => ?_)))
      rw [hX.out]; clear hX
      refine wpList_grew rfl _ _ 34 rfl elem_u64 rfl (Row.nil w1 _ _) rfl (HV.out.keep hc1 (by simp)) (by simp [Value.oneCell']) (by unfold maxLen; omega) (by omega) (fun ao2 cap2 r2 w2 hr2 hg2 => ?_)
      rw [List.nil_append] at hr2
      simp only [Nat.zero_add] at hr2 ⊢
      have hf2 := hg2.fresh
      have hc2 : Chg [] w w2 := hc1.trans' hg2.chg
      have hf2' : Fresh w none r2 := hf2.mono hc1.size
      have HR2 := hid (And.intro hr2 (And.intro hf2' hc2))
      clear hr2 hg2 hf2 hf2' hc2
      go_wp2_with fail
      go_loopw [12, 13] (fun v i wr => ∃ (k : Nat) (zs : List Int) (ao' : Option Addr) (cap' : Nat) (r : Option Nat), k ≤ ys.length ∧ i = .int .i64 k ∧ v = .slice ao' zs.length cap' ∧ Row wr 22 1 (.slice ao' zs.length cap') r zs.length (zs.map (Value.int .u64)) ∧ Fresh w none r ∧ Chg [] w wr ∧ zs.length ≤ xs.length + k ∧ Hid (xs.length ≤ zs.length ∧ ∀ j, j < xs.length → xs.getD j 0 ≤ zs.getD j 0)) (fun _ i _ => ys.length - (intOf i).toNat)
      case atStart => exact ⟨0, xs, ao2, cap2, r2, Nat.zero_le _, rfl, rfl, HR2.out.1, HR2.out.2.1, HR2.out.2.2, by omega, hid ⟨Nat.le_refl _, fun j _ => Int.le_refl _⟩⟩
      case round =>
        obtain ⟨k, zs, ao', cap', r, hk, rfl, rfl, hrow, hf, hch, hzl, HZ⟩ := hrel
        by_cases hkl : k < ys.length
        · obtain ⟨b2, o2, hbo, hcl⟩ := nums_at (HU.out.keep hch (by simp)) (by omega)
          have cy := hcl k hkl
          have z1 : (k : Int) < (ys.length : Int) := by omega
          obtain ⟨y, hy⟩ : ∃ y, ys.getD k 0 = y := ⟨_, rfl⟩
          rw [hy] at cy
          have HBO := hid hbo
          subst hbo
          clear hcl hy
          by_cases hkz : k < zs.length
          · obtain ⟨g, hg, hgr, hcell, hfz⟩ := hrow.atk (by omega)
            have cz := hcell k (by omega)
            rw [show (zs.map (Value.int .u64)).getD k undef = .int .u64 (zs.getD k 0) from by simp [List.getD, hkz]] at cz
            subst hgr
            have hst := hrow.setk k (.int .u64 y)
            have hcs := (hch.nil (T := [g])).trans' (Chg.set1 g wr k (.int .u64 y))
            have hgn : w.heap.size ≤ g := (hf g rfl).resolve_left (by simp)
            rw [← List.map_set] at hst
            have HST := hid (And.intro hst (hcs.mono (T := []) (fun x hx => .inr (by have hx2 : x = g := (by simpa using hx); omega))))
            have HRW := hid (And.intro hrow (And.intro hf hch))
            obtain ⟨z, hz⟩ : ∃ z, zs.getD k 0 = z := ⟨_, rfl⟩
            rw [hz] at cz
            have HZK := hid hz
            have z2 : (k : Int) < (zs.length : Int) := by omega
            subst hg
            clear hst hcs hz hcell hrow hf hch
            by_cases hyz : z < y
            · have d1 : decide (z < y) = true := decide_eq_true hyz
              go_wp2_with fail
              go_quiet (fail)
              go_wp2
              go_roundw
              case rel => exact ⟨k + 1, zs.set k y, _, cap', some g, by omega, by go_num, by rw [List.length_set], by rw [List.length_set]; exact HST.out.1.keep (Chg.of_drewN [] _ _) (by simp), HRW.out.2.1, HST.out.2.drewN _, by rw [List.length_set]; omega, hid ⟨by rw [List.length_set]; exact HZ.out.1, fun j hj => by
                have h1 := HZ.out.2 j hj
                by_cases hjk : k = j
                · subst hjk
                  rw [HZK.out] at h1
                  rw [show (zs.set k y).getD k 0 = y from by simp [List.getD, hkz]]
                  omega
                · rw [show (zs.set k y).getD j 0 = zs.getD j 0 from by simp [List.getD, List.getElem?_set, hjk]]
                  exact h1⟩⟩
              case measure => simp [intOf]; omega
            · have d1 : decide (z < y) = false := decide_eq_false hyz
              go_wp2_with fail
              go_quiet (fail)
              go_wp2
              go_roundw
              case rel => exact ⟨k + 1, zs, _, cap', some g, by omega, by go_num, rfl, HRW.out.1.keep (Chg.of_drewN [] _ _) (by simp), HRW.out.2.1, HRW.out.2.2.drewN _, by omega, HZ⟩
              case measure => simp [intOf]; omega
          · have hrow' := fun o => hrow.keep ((Chg.refl [] wr).alloc o) (by simp)
            have HF := hid (And.intro hf hch)
            clear hrow hf hch
            go_wp2_with (at_builtin; refine wpList_grew rfl _ _ 34 rfl elem_u64 rfl (hrow' _) rfl (View.one _ _ _) (by simp [Value.oneCell']) (by unfold maxLen; omega) (by omega) (fun ao3 cap3 r3 w3 hr3 hg3 => halt (fun X hX => ?_)))
            rw [hX.out]; clear hX
            have hc3 : Chg [] wr (wr.alloc (.cells #[.int .u64 y] 22)) := (Chg.refl [] wr).alloc _
            have hfs := fresh_step HF.out.2 HF.out.1 hc3 hg3.fresh
            have hcs := own_step HF.out.2 HF.out.1 hc3 hg3.chg
            have hr3' : Row w3 22 1 (.slice ao3 (zs ++ [y]).length cap3) r3 (zs ++ [y]).length ((zs ++ [y]).map (Value.int .u64)) := by
              rw [List.length_append, List.map_append]; exact hr3
            have HR3 := hid (And.intro hr3' (And.intro hfs hcs))
            clear hr3 hr3' hfs hcs hg3 hc3 hrow'
            go_wp2
            go_roundw
            case rel => exact ⟨k + 1, zs ++ [y], ao3, cap3, r3, by omega, by go_num, by simp, HR3.out.1, HR3.out.2.1, HR3.out.2.2, by simp; omega, hid ⟨by have := HZ.out.1; simp; omega, fun j hj => by
              have h1 := HZ.out.2 j hj
              have h2 := HZ.out.1
              rw [show (zs ++ [y]).getD j 0 = zs.getD j 0 from by simp only [List.getD]; rw [List.getElem?_append_left (by omega)]]
              exact h1⟩⟩
            case measure => simp [intOf]; omega
        · have HQX2 := HQX.out _ hch
          have hzq := HLQ.out E HE1.out.1 HE1.out.2 zs wr hrow.view (by omega)
          have hnq := fun (h1 : 0 ≤ E + 1) (h2 : E + 1 < 18446744073709551616) => HLQ.out (E + 1) h1 h2 xs wr (HV.out.keep hch (by simp)) (by omega)
          clear HQX2
          have HZQ := hid hzq
          clear hzq
          have HCH := hid hch
          clear hch hrow hf
          by_cases hcm : c = 281474976710655
          · have hn := HN.out wr
            rw [HNX.out, if_pos hcm] at hn
            have HN2 := hid hn
            clear hn hcm hnq
            go_wp2_with (first
              | (go_at_call 16; refine HZQ.out.mono ?_; rintro e w' ⟨rfl, rfl⟩)
              | (go_at_call 13; refine HN2.out.mono ?_; rintro e w' ⟨rfl, rfl⟩))
            go_ret
            exact ⟨rfl, HCH.out⟩
          · have hn := HN.out wr
            rw [HNX.out, if_neg hcm] at hn
            have hE2 : 0 ≤ E + 1 ∧ E + 1 < 18446744073709551616 := ⟨by have := HE1.out.1; omega, by
              have h1 := HLE.out [0]
              have h2 := HPE.out
              have h3 : E < 65535 * 281474976710656 := by
                unfold partsE at h2
                split at h2
                · simp at h2; omega
                split at h2
                · simp at h2
                · omega
              omega⟩
            have hq := hnq hE2.1 hE2.2
            rw [HB2.out (by simp) (by omega)] at hq
            obtain ⟨E2, hE2'⟩ : ∃ E2, E + 1 = E2 := ⟨_, rfl⟩
            rw [hE2'] at hn hq
            have HN2 := hid hn
            have HQ2 := hid hq
            clear hn hq hnq hcm hE2 hE2'
            go_wp2_with (first
              | (go_at_call 13; refine HN2.out.mono ?_; rintro e w' ⟨rfl, rfl⟩)
              | (go_at_call 16; ((with_reducible refine HZQ.out.mono ?_); rintro e w' ⟨rfl, rfl⟩))
              | (go_at_call 16; ((with_reducible refine HQ2.out.mono ?_); rintro e w' ⟨rfl, rfl⟩)))
            all_goals go_ret
            all_goals exact ⟨rfl, HCH.out⟩
  · rw [packE_no (by omega)] at hp
    have HP := hid hp
    clear hp hok
    go_enter Tryd.func4, Tryd.ntmps4
    go_wp2_with (first
      | (go_at_call 15; refine (HL.out _).mono ?_; rintro e w1 ⟨rfl, hc1⟩)
      | (go_at_call 10; refine (HP.out _).mono ?_; rintro e w' ⟨rfl, rfl⟩)
      | (go_at_call 16; refine (HQ0.out _ hc1).mono ?_; rintro e w' ⟨rfl, rfl⟩))
    go_ret
    exact ⟨rfl, hc1⟩
theorem leq_walk' (t c : Int) (hc : 0 ≤ c) (xs ys : List Int) (hx0 : ∀ x ∈ xs, 0 ≤ x) (hxn : xs.length ≤ 1048576) (hyn : ys.length ≤ 1048576) {v u : Value} (w : World)
    (hv : View w 1 v xs.length (xs.map (Value.int .u64))) (hu : View w 1 u ys.length (ys.map (Value.int .u64))) :
    Calls Tryd.prog 4 #[.int .i64 t, .int .u64 c, v, u] w fun e w' => e = .returned (.bool true) ∧ Chg [] w w' := by
  have h := hv
  have h2 := hu
  obtain ⟨_, _, ao, cap, rfl, _⟩ := h
  obtain ⟨_, _, bo, dap, rfl, _⟩ := h2
  exact leq_walk t c hc xs ys hx0 hxn hyn w hv hu
end Go.Proofs.YtngpfoddeebbmaaDoor
