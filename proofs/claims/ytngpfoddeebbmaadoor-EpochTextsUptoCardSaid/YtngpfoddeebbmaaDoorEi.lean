/- Walks of the epochs' laws: EpochFrom. -/
import Derived.Test.YtngpfoddeebbmaaDoorEh
namespace Go.Proofs.YtngpfoddeebbmaaDoor
open Go.RowKit Go.AB
set_option linter.unusedSimpArgs false
set_option linter.unusedVariables false

theorem info_u8 : (Tryd.prog.info? 5).map (fun i => (i.zero, i.size, i.bytes)) = some (some (.int .u8 0), 1, 1) := by kernel_rfl
theorem elem_u8 : ElemOk Tryd.prog 50 5 1 1 := .of Tryd.underlying50 info_u8 rfl (by decide)
theorem leI_cons {b : Int} {r : List Int} (h0 : 0 ≤ b) (h1 : b ≤ 255) : leI (b :: r) % 256 = b ∧ leI (b :: r) / 256 = leI r := by
  simp only [leI]
  omega
theorem b8_le {x0 x1 x2 x3 x4 x5 x6 x7 : Int} (p0 : 0 ≤ x0) (q0 : x0 ≤ 255) (p1 : 0 ≤ x1) (q1 : x1 ≤ 255) (p2 : 0 ≤ x2) (q2 : x2 ≤ 255) (p3 : 0 ≤ x3) (q3 : x3 ≤ 255) (p4 : 0 ≤ x4) (q4 : x4 ≤ 255) (p5 : 0 ≤ x5) (q5 : x5 ≤ 255) (p6 : 0 ≤ x6) (q6 : x6 ≤ 255) (p7 : 0 ≤ x7) (q7 : x7 ≤ 255) :
    b8 (leI [x0, x1, x2, x3, x4, x5, x6, x7]) = #[.int .u8 x0, .int .u8 x1, .int .u8 x2, .int .u8 x3, .int .u8 x4, .int .u8 x5, .int .u8 x6, .int .u8 x7] := by
  unfold b8
  rw [(leI_cons p0 q0).2, (leI_cons p0 q0).1, (leI_cons p1 q1).2, (leI_cons p1 q1).1, (leI_cons p2 q2).2, (leI_cons p2 q2).1, (leI_cons p3 q3).2, (leI_cons p3 q3).1, (leI_cons p4 q4).2, (leI_cons p4 q4).1, (leI_cons p5 q5).2, (leI_cons p5 q5).1, (leI_cons p6 q6).2, (leI_cons p6 q6).1, (leI_cons p7 q7).1]
/-- A new block without cells is an owned row of no element. -/
theorem Row.none8 (w : World) (e : Nat) : Row (w.alloc (.cells #[] e)) e 1 (.slice (some ⟨w.heap.size, 0, none⟩) 0 0) (some w.heap.size) 0 [] :=
  ⟨⟨rfl, .inr ⟨w.heap.size, 0, #[], rfl, Nat.zero_le _, blk_alloc_new w _, Nat.le_refl _, by simp [maxLen], rfl, rfl⟩⟩, rfl⟩
theorem fromE_ok {bs : List Int} (h : (fromE bs).2 = 0) : bs.length = 8 ∧ (partsE (leI bs)).2.2 = true ∧ (fromE bs).1 = leI bs := by
  unfold fromE at h ⊢
  split at h
  · simp at h
  · rename_i h1
    split at h
    · simp at h
    · rename_i h2
      rw [if_neg h1, if_neg h2]
      exact ⟨by simpa using h1, by simpa using h2, rfl⟩

set_option maxHeartbeats 8000000 in
set_option maxRecDepth 100000 in
theorem froms_walk {ao : Option Addr} {cap : Nat} (bs : List Int) (hb : ∀ x ∈ bs, 0 ≤ x ∧ x ≤ 255) (hn : bs.length ≤ 1048576) (w : World) (hv : View w 1 (.slice ao bs.length cap) bs.length (bs.map (Value.int .u8))) :
    Calls Tryd.prog 7 #[.slice ao bs.length cap] w fun e w' => e = .returned (.bool true) ∧ Chg [] w w' := by
  have HL := hid lives_calls
  have HV := hid hv
  have HB := hid hb
  clear hv hb
  obtain ⟨n, hnn⟩ : ∃ n, bs.length = n := ⟨_, rfl⟩
  have HN := hid hnn
  rw [hnn] at HV hn ⊢
  clear hnn
  have hcE : Chg [] w (w.alloc (.cells #[] 5)) := (Chg.refl [] w).alloc _
  have hre := Row.none8 w 5
  go_enter Tryd.func7, Tryd.ntmps7
  go_wp2_with (at_builtin; refine halt (fun X hX => ?_))
  rw [hX.out]; clear hX
  refine wpList_grew rfl _ _ 50 rfl elem_u8 rfl hre rfl (HV.out.keep hcE (by simp)) (by simp [Value.oneCell']) (by unfold maxLen; omega) (by omega) (fun ao1 cap1 r1 w1 hr1 hg1 => ?_)
  rw [List.nil_append] at hr1
  simp only [Nat.zero_add] at hr1 ⊢
  have hc1 : Chg [] w w1 := hcE.trans hg1.chg (fun x hx => .inr (by simp at hx; omega))
  have hf1 : Fresh w none r1 := fun g hg => .inr (by
    rcases hg1.fresh g hg with h | h
    · simp at h; omega
    · simp at h; omega)
  have hr1' := fun o => hr1.keep ((Chg.refl [] w1).alloc o) (by simp)
  have hv2 := View.news w1 [.int .u8 77, .int .u8 78] 5 (by simp [maxLen])
  clear hg1 hre hr1
  go_wp2_with (at_builtin; refine halt (fun X hX => ?_))
  rw [hX.out]; clear hX
  refine wpList_grew rfl _ _ 50 rfl elem_u8 rfl (hr1' _) rfl hv2 (by simp [Value.oneCell']) (by unfold maxLen; simp; omega) (by simp; omega) (fun ao2 cap2 r2 w2 hr2 hg2 => ?_)
  have hc12 : Chg [] w1 (w1.alloc (.cells #[.int .u8 77, .int .u8 78] 5)) := (Chg.refl [] w1).alloc _
  have hc2 := own_step hc1 hf1 hc12 hg2.chg
  have hf2 := fresh_step hc1 hf1 hc12 hg2.fresh
  change Row w2 _ 1 (.slice ao2 (n + 2) cap2) r2 (n + 2) (bs.map (Value.int .u8) ++ [.int .u8 77, .int .u8 78]) at hr2
  clear hg2 hc12 hr1' hc1 hf1 hv2
  obtain ⟨g, hg, hgr, hcell, hfz⟩ := hr2.atk (by omega)
  obtain ⟨hnc, hcm⟩ : n + 2 ≤ cap2 ∧ cap2 ≤ maxLen := by
    rcases hr2.form with ⟨hv, h0, _⟩ | ⟨g', cap', cur, hv, _, hnc, hcm, _⟩
    · omega
    · simp only [Value.slice.injEq, true_and] at hv
      exact ⟨by rw [hv.2]; exact hnc, by rw [hv.2]; exact hcm⟩
  have hlen : (bs.map (Value.int .u8)).length = n := by rw [List.length_map, HN.out]
  have c77 := hcell n (by omega)
  rw [show (bs.map (Value.int .u8) ++ [Value.int .u8 77, Value.int .u8 78]).getD n undef = Value.int .u8 77 from by simp only [List.getD]; rw [List.getElem?_append_right (by omega), hlen, Nat.sub_self]; rfl] at c77
  have c78 := hcell (n + 1) (by omega)
  rw [show (bs.map (Value.int .u8) ++ [Value.int .u8 77, Value.int .u8 78]).getD (n + 1) undef = Value.int .u8 78 from by simp only [List.getD]; rw [List.getElem?_append_right (by omega), hlen, show n + 1 - n = 1 from by omega]; rfl] at c78
  subst hg hgr
  have hvp := hr2.viewPre (m := n) (cap := cap2) (by omega) (by omega) hcm
  rw [Nat.mul_one, List.take_left' hlen] at hvp
  have hfa := from_calls bs HB.out (by rw [HN.out]; omega) w2 (by rw [HN.out]; exact hvp)
  rw [HN.out] at hfa
  have hfb := fun u (hu : Chg [] w u) => r_from_calls bs HB.out (by rw [HN.out]; omega) u (by rw [HN.out]; exact HV.out.keep hu (by simp))
  rw [HN.out] at hfb
  obtain ⟨⟨N, f⟩, hfe⟩ : ∃ p : Int × Int, fromE bs = p := ⟨_, rfl⟩
  rw [hfe] at hfa hfb
  have hok := fun (h : f = 0) => fromE_ok (bs := bs) (by rw [hfe]; exact h)
  rw [hfe] at hok
  have HFA := hid hfa
  have HFB := hid hfb
  have HOK := hid hok
  have HR2 := hid hr2
  have HC2 := hid hc2
  have z0 : (n : Int) < (n : Int) + 2 := by omega
  have z1 : (n : Int) + 1 < (n : Int) + 2 := by omega
  have hcap : n ≤ cap2 := by omega
  clear hfa hfb hok hfe hr2 hc2 hvp hcell hf2 hlen hcm hnc hcE
  go_wp2_with (first
    | (go_at_call 32; refine HFA.out.mono ?_; rintro e w3 ⟨rfl, hc3⟩; have d77 := hc3.cell c77 (by simp); have d78 := hc3.cell c78 (by simp))
    | (go_at_call 33; refine (HFB.out _ (HC2.out.trans' hc3)).mono ?_; rintro e w' ⟨rfl, rfl⟩)
    | (go_at_call 12; refine (num_calls _ _).mono ?_; rintro e w' ⟨rfl, rfl⟩))
  have hc23 := HC2.out.trans' hc3
  have hrow3 := HR2.out.keep hc3 (by simp)
  have HC3 := hid hc23
  have HR3 := hid hrow3
  clear hc23 hrow3 hc3 d77 d78 c77 c78
  go_loopw [8] (fun i wr => ∃ k m : Nat, k ≤ n ∧ i = .int .i64 k ∧ wr = w3.drewN m) (fun i _ => n - (intOf i).toNat)
  case atStart => exact ⟨0, 0, Nat.zero_le _, rfl, rfl⟩
  case round =>
    obtain ⟨k, m, hk, rfl, rfl⟩ := hrel
    by_cases hlt : k < n
    · have hkb : k < bs.length := by rw [HN.out]; exact hlt
      have hvw := HV.out.keep HC3.out (by simp)
      rw [← HN.out] at hvw
      obtain ⟨b, off, hao, hcl⟩ := nums_at hvw (by omega)
      have b0 := hcl k hkb
      obtain ⟨g', hg', hgr', hcf, _⟩ := HR3.out.atk (by omega)
      simp only [Option.some.injEq] at hgr'
      subst hgr'
      have f0 := hcf k (by omega)
      rw [show (bs.map (Value.int .u8) ++ [Value.int .u8 77, Value.int .u8 78]).getD k undef = Value.int .u8 (bs.getD k 0) from by simp only [List.getD]; rw [List.getElem?_append_left (by rw [List.length_map]; exact hkb)]; simp [hkb]] at f0
      obtain ⟨x, hx⟩ : ∃ x, bs.getD k 0 = x := ⟨_, rfl⟩
      rw [hx] at b0 f0
      have z2 : (k : Int) < (n : Int) := by omega
      have z3 : (k : Int) < (n : Int) + 2 := by omega
      have HAO := hid hao
      subst hao
      clear hcl hcf hvw hx hg'
      go_wp2_with fail
      go_quiet (fail)
      go_wp2
      go_roundw
      case rel => exact ⟨k + 1, _, by omega, by go_num, rfl⟩
      case measure => simp [intOf]; omega
    · obtain rfl : k = n := by omega
      by_cases hf0 : f = 0
      · obtain ⟨hl8, hvv, hNe⟩ := HOK.out hf0
        have hnn8 : k = 8 := by rw [← HN.out]; exact hl8
        have hbd : 0 ≤ N ∧ N < 18446744073709551616 := by
          obtain ⟨x0, x1, x2, x3, x4, x5, x6, x7, rfl⟩ := eight bs hl8
          have hb := HB.out
          have := leI_bd8 (hb x0 (by simp)).1 (hb x0 (by simp)).2 (hb x1 (by simp)).1 (hb x1 (by simp)).2 (hb x2 (by simp)).1 (hb x2 (by simp)).2 (hb x3 (by simp)).1 (hb x3 (by simp)).2 (hb x4 (by simp)).1 (hb x4 (by simp)).2 (hb x5 (by simp)).1 (hb x5 (by simp)).2 (hb x6 (by simp)).1 (hb x6 (by simp)).2 (hb x7 (by simp)).1 (hb x7 (by simp)).2
          rw [hNe]; exact this
        have hby := bytes_calls N hbd.1 hbd.2
        have hbe : bytesE N = (bs.map (Value.int .u8)).toArray := by
          unfold bytesE
          rw [hNe, if_pos hvv]
          obtain ⟨x0, x1, x2, x3, x4, x5, x6, x7, rfl⟩ := eight bs hl8
          have hb := HB.out
          rw [b8_le (hb x0 (by simp)).1 (hb x0 (by simp)).2 (hb x1 (by simp)).1 (hb x1 (by simp)).2 (hb x2 (by simp)).1 (hb x2 (by simp)).2 (hb x3 (by simp)).1 (hb x3 (by simp)).2 (hb x4 (by simp)).1 (hb x4 (by simp)).2 (hb x5 (by simp)).1 (hb x5 (by simp)).2 (hb x6 (by simp)).1 (hb x6 (by simp)).2 (hb x7 (by simp)).1 (hb x7 (by simp)).2]
          rfl
        rw [hbe] at hby
        subst hf0
        obtain ⟨x0, x1, x2, x3, x4, x5, x6, x7, hbs⟩ := eight bs hl8
        have hby2 : ∀ u, Calls Tryd.prog 27 #[.int .u64 N] u fun e w' => e = .returned (.agg #[.int .u8 x0, .int .u8 x1, .int .u8 x2, .int .u8 x3, .int .u8 x4, .int .u8 x5, .int .u8 x6, .int .u8 x7]) ∧ Chg [] u w' := fun u => by
          have := hby u
          rw [hbs] at this
          exact this
        have HBY := hid hby2
        have HBS := hid hbs
        have H8 := hid hnn8
        have hc3d := HC3.out.drewN m
        have HC3D := hid hc3d
        clear hby hbe hbd hNe hvv hl8 hby2 hbs hc3d
        go_wp2_with (first
          | (go_at_call 12; refine (num_calls _ _).mono ?_; rintro e w' ⟨rfl, rfl⟩)
          | (go_at_call 27; refine (HBY.out _).mono ?_; rintro e w4 ⟨rfl, hc4⟩))
        have hvc := View.news w4 [.int .u8 x0, .int .u8 x1, .int .u8 x2, .int .u8 x3, .int .u8 x4, .int .u8 x5, .int .u8 x6, .int .u8 x7] 45 (by simp [maxLen])
        obtain ⟨v5, hv5⟩ : ∃ v5, w4.alloc (.cells #[.int .u8 x0, .int .u8 x1, .int .u8 x2, .int .u8 x3, .int .u8 x4, .int .u8 x5, .int .u8 x6, .int .u8 x7] 45) = v5 := ⟨_, rfl⟩
        have hc5 : Chg [] w v5 := by rw [← hv5]; exact (HC3D.out.trans' hc4).alloc _
        change View (w4.alloc (.cells #[.int .u8 x0, .int .u8 x1, .int .u8 x2, .int .u8 x3, .int .u8 x4, .int .u8 x5, .int .u8 x6, .int .u8 x7] 45)) 1 (.slice (some ⟨w4.heap.size, 0, none⟩) 8 8) 8 ([x0, x1, x2, x3, x4, x5, x6, x7].map (Value.int .u8)) at hvc
        rw [hv5] at hvc ⊢
        have HC5 := hid hc5
        have HVC := hid hvc
        clear hc5 hvc hv5 hc4
        obtain rfl : k = 8 := H8.out
        go_loopw [10] (fun i wr => ∃ q m' : Nat, q ≤ 8 ∧ i = .int .i64 q ∧ wr = v5.drewN m') (fun i _ => 8 - (intOf i).toNat)
        case atStart => exact ⟨0, 0, by omega, rfl, rfl⟩
        case round =>
          obtain ⟨q, m', hq, rfl, rfl⟩ := hrel
          by_cases hq8 : q < 8
          · have hvw := HV.out.keep HC5.out (by simp)
            have hvw2 : View v5 1 (.slice ao 8 cap) bs.length (bs.map (Value.int .u8)) := by rw [HN.out]; exact hvw
            obtain ⟨b, off, hao, hcl⟩ := nums_at hvw2 (by rw [HN.out]; omega)
            have b0 := hcl q (by rw [HN.out]; exact hq8)
            rw [HBS.out] at b0
            have hvc2 : View v5 1 (.slice (some ⟨w4.heap.size, 0, none⟩) 8 8) [x0, x1, x2, x3, x4, x5, x6, x7].length ([x0, x1, x2, x3, x4, x5, x6, x7].map (Value.int .u8)) := HVC.out
            obtain ⟨b', off', hao', hcl'⟩ := nums_at hvc2 (by simp)
            simp only [Option.some.injEq, Addr.mk.injEq, and_true] at hao'
            obtain ⟨rfl, rfl⟩ := hao'
            have f0 := hcl' q (by simpa using hq8)
            rw [Nat.zero_add] at f0
            obtain ⟨x, hx⟩ : ∃ x, [x0, x1, x2, x3, x4, x5, x6, x7].getD q 0 = x := ⟨_, rfl⟩
            rw [hx] at b0 f0
            have z2 : (q : Int) < 8 := by omega
            have HAO := hid hao
            subst hao
            clear hcl hcl' hvw hvw2 hvc2 hx
            go_wp2_with fail
            go_quiet (fail)
            go_wp2
            go_roundw
            case rel => exact ⟨q + 1, _, by omega, by go_num, rfl⟩
            case measure => simp [intOf]; omega
          · have HC6 := hid (HC5.out.drewN m')
            go_wp2_with (go_at_call 15; refine (HL.out _).mono ?_; rintro e w6 ⟨rfl, hc6⟩)
            go_ret
            exact ⟨rfl, HC6.out.trans' hc6⟩
      · have d1 : (f == 0) = false := by simpa using hf0
        have HC6 := hid (HC3.out.drewN m)
        clear hf0
        go_wp2_with (first
          | (go_at_call 12; refine (num_calls _ _).mono ?_; rintro e w' ⟨rfl, rfl⟩)
          | (go_at_call 15; refine (HL.out _).mono ?_; rintro e w6 ⟨rfl, hc6⟩))
        go_ret
        exact ⟨rfl, HC6.out.trans' hc6⟩
theorem froms_walk' (bs : List Int) (hb : ∀ x ∈ bs, 0 ≤ x ∧ x ≤ 255) (hn : bs.length ≤ 1048576) {v : Value} (w : World) (hv : View w 1 v bs.length (bs.map (Value.int .u8))) :
    Calls Tryd.prog 7 #[v] w fun e w' => e = .returned (.bool true) ∧ Chg [] w w' := by
  have h := hv
  obtain ⟨_, _, ao, cap, rfl, _⟩ := h
  exact froms_walk bs hb hn w hv
end Go.Proofs.YtngpfoddeebbmaaDoor
