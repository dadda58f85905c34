/- The law WireFrames: its walk. -/
import Derived.Test.YtdakcphkaljghaaKf
import Derived.Test.YtdakcphkaljghaaLaw2
import Derived.Test.YtdakcphkaljghaaLadds
import Derived.BigQuiet
namespace Go.Proofs.Ytdakcphkaljghaa
open Go.RowKit Go.AB
set_option linter.unusedSimpArgs false
set_option linter.unusedVariables false

set_option maxHeartbeats 8000000 in
set_option maxRecDepth 100000 in
theorem frames_walk (kind : UInt8) (vb vr : Value) (body raw : List UInt8) (W : World) (hb : Bytes W vb body) (hr : Bytes W vr raw) (hl : body.length ≤ 1048576) (hlr : raw.length ≤ 1048576) :
    Calls Try.prog 6 #[.int .u8 kind.toNat, vb, vr] W fun e W' => e = .returned (.bool true) ∧ Below W.heap.size W W' := by
  have HV := hid hb
  have HR := hid hr
  have HRO : Hid (0 < raw.length → ∀ g, vr.ownBlock = some g → g < W.heap.size) := hid (fun h0 => View.own_lt hr (by omega))
  obtain ⟨aob, capb, rfl⟩ : ∃ ao cap, vb = .slice ao body.length cap := by obtain ⟨ao, cap, h, _⟩ := hb.out; exact ⟨ao, cap, h⟩
  have hr0 : Row W 5 1 (.slice none 0 0) none 0 [] := Row.nil _ _ _
  have HS1 := hid (sumAll_calls (.slice aob body.length capb) body W HV.out (by omega))
  have HS2 := hid (q_sum_calls (.slice aob body.length capb) body W HV.out (by omega))
  obtain ⟨sv, hsv⟩ : ∃ s, sumB body = s := ⟨_, rfl⟩
  rw [hsv] at HS1 HS2
  have z0 : ((sv : Int) != (sv : Int)) = false := by simp
  clear hb hr hsv
  go_enter Try.func6, Try.ntmps6
  go_wp2_with (first
    | (go_at_call 22; refine HS1.out.mono ?_; rintro e w1 ⟨rfl, rfl⟩)
    | (go_at_call 23; refine HS2.out.mono ?_; rintro e w1 ⟨rfl, rfl⟩)
    | (at_builtin; refine wpList_app rfl _ _ 25 rfl elem_u8 rfl (hr0) rfl (HV.out) (B_one _) (by unfold maxLen; omega) (by omega) (fun ao' cap' r' w2 hr2 hc2 hf2 hnil2 => halt (fun X hX => ?_))))
  rw [hX.out]; clear hX
  clear hnil2 hr0 HS1 HS2 z0
  simp only [Nat.zero_add, List.nil_append] at hr2
  have hcl2 : Chg [] W w2 := hc2
  have hf2' := hf2
  have hra := fun o => hr2.keep ((Chg.refl [] w2).alloc o) (by simp)
  clear hc2 hf2
  go_wp2_with (at_builtin; refine wpList_app rfl _ _ 25 rfl elem_u8 rfl (hra _) rfl (View.one _ _ _) (by simp [Value.oneCell']) (by unfold maxLen; omega) (by omega) (fun ao3 cap3 r3 w3 hr3 hc3 hf3 hnil3 => halt (fun X hX => ?_)))
  rw [hX.out]; clear hX
  clear hnil3 hra
  have hF : Row w3 5 1 (.slice ao3 (body ++ [90]).length cap3) r3 (body ++ [90]).length ((body ++ [90]).map B) := by
    rw [List.length_append, List.map_append]; exact hr3
  have hfW : Fresh W none r' := hf2'
  have hc3W : Chg [] W w3 := own_step hcl2 hfW ((Chg.refl [] w2).alloc _) hc3
  have hf3W : Fresh W none r3 := fresh_step hcl2 hfW ((Chg.refl [] w2).alloc _) hf3
  clear hr3 hc3 hf3 hr2
  have hcap : body.length + 1 ≤ cap3 := by
    obtain ⟨_, _, _, _, e, h, _⟩ := hF.view
    simp only [Value.slice.injEq, true_and] at e
    obtain ⟨rfl, rfl⟩ := e
    simp at h; omega
  have hcap1 : (body.length : Int) ≤ (cap3 : Int) := by omega
  have HQ := hid (q_frame_calls kind (.slice aob body.length capb) body w3 (HV.out.keep hc3W (by simp)) (by omega))
  go_wp2_with (go_at_call 24; refine HQ.out.mono ?_; rintro e w4 ⟨l0, ao4, cap4, r4, rfl, hr4, hf4, hc4, HL0⟩; refine halt (fun X hX => ?_))
  rw [hX.out]; clear hX
  have hb4 := fun o => hr4.keep ((Chg.refl [] w4).alloc o) (by simp)
  obtain ⟨wb, hwb⟩ : ∃ w, w4.alloc (.cells #[.slice none 0 0, .slice none 0 0, .slice none 0 0] 31) = w := ⟨_, rfl⟩
  have hBK := Bk.new w4
  have hcwb : Chg [] w4 wb := by rw [← hwb]; exact (Chg.refl [] w4).alloc _
  have hswb : w4.heap.size + 1 = wb.heap.size := by rw [← hwb]; simp
  rw [hwb] at hBK
  have hFwb := hF.keep (hc4.trans' hcwb) (by simp)
  have hpre := fun (wn : World) (hc : Chg [] wb wn) => by
    have h1 := ((hFwb.keep hc (by simp)).view).pre (m := body.length) (by simp)
    rw [List.map_append, List.take_left' (by simp)] at h1
    exact h1
  have HF1 := hid (frame_calls kind (.slice ao3 body.length cap3) body wb (hpre wb (Chg.refl _ _)) (by omega))
  go_wp2_with (go_at_call 19; refine HF1.out.mono ?_; rintro e w5 ⟨l1, ao5, cap5, r5, rfl, hr5, hf5, hc5, HL1⟩; refine halt (fun X hX => ?_))
  rw [hX.out]; clear hX
  obtain rfl : l0 = l1 := HL0.out.trans HL1.out.symm
  have HF2 := hid (frame_calls kind (.slice ao3 body.length cap3) body w5 (hpre w5 hc5) (by omega))
  go_wp2_with (go_at_call 19; refine HF2.out.mono ?_; rintro e w6 ⟨l2, ao6, cap6, r6, rfl, hr6, hf6, hc6, HL2⟩; refine halt (fun X hX => ?_))
  rw [hX.out]; clear hX
  obtain rfl : l0 = l2 := HL0.out.trans HL2.out.symm
  have hF6 := hpre w6 (hc5.trans' hc6)
  have hcW4 : Chg [] W w4 := hc3W.trans' hc4
  have hcWb : Chg [] W wb := hcW4.trans' hcwb
  have hs5 := hc5.size
  have hs6 := hc6.size
  have hsW4 := hcW4.size
  have hnl : l0.length = body.length + 11 := by rw [HL0.out]; exact frameB_length _ _
  have HNL := hid hnl
  have n1 : l0.length ≤ body.length + 11 := by omega
  have hG6 : Grown wb w4.heap.size [] none none w6 [] none none := (Grown.refl wb w4.heap.size [] none none).step (hc5.trans' hc6)
  have hB6 := hBK.keep (hc5.trans' hc6) (by simp)
  have hwant : ∀ (wn : World), Chg [w4.heap.size] wb wn → View wn 1 (.slice ao4 l0.length cap4) l0.length (l0.map B) := fun wn hc => by
    refine ((hr4.keep hcwb (by simp)).keep hc (fun g hg hm => ?_)).view
    have h1 := hr4.lt g hg
    have h2 : g = w4.heap.size := by simpa using hm
    omega
  have hwo : ∀ g, (Value.slice ao4 l0.length cap4).ownBlock = some g → g < w4.heap.size := fun g hg => hr4.lt g (hr4.blk.symm.trans hg)
  have hnew5 : ∀ g, r5 = some g → wb.heap.size ≤ g := fun g hg => (hf5 g hg).resolve_left (by simp)
  have hnew6 : ∀ g, r6 = some g → w5.heap.size ≤ g := fun g hg => (hf6 g hg).resolve_left (by simp)
  have hbl0 : ∀ g, g ∈ bkBlocks w4.heap.size [] none none → g = w4.heap.size := fun g hg => by
    rcases bk_mem.1 hg with h1 | h1 | h1 | ⟨e, he, _⟩
    · exact h1
    · cases h1
    · cases h1
    · simp at he
  have v1 := fun n => run_conv_view (P := Try.prog) Try.underlying25 Try.underlying5 Try.underlying9 (View.keepLt hF6 (Chg.of_drewN [] w6 n) (fun _ _ _ => by simp)) (w6.drewN n) rfl
  have v2 := fun n => run_conv_view (P := Try.prog) Try.underlying25 Try.underlying5 Try.underlying9 (View.keepLt (HV.out.keep (hcWb.trans' (hc5.trans' hc6)) (by simp)) (Chg.of_drewN [] w6 n) (fun _ _ _ => by simp)) (w6.drewN n) rfl
  obtain ⟨g, rfl, rfl, x1, _⟩ := (hFwb.keep (hc5.trans' hc6) (by simp)).at (k := body.length) (by simp)
  have e1 : (body ++ [90])[body.length]'(by simp) = 90 := by simp
  rw [e1] at x1
  have z2 : (body.length : Int) < ((body.length + 1 : Nat) : Int) := by omega
  have z3 : (body.length : Int) < (body.length : Int) + 1 := by omega
  have HKX := hid (fun n => keeps_grownX (hG6.step (Chg.of_drewN [] w6 n)) (hB6.keep (Chg.of_drewN [] w6 n) (by simp)) (by simp) rfl ((hr5.keep hc6 (by simp)).keep (Chg.of_drewN [] w6 n) (by simp)) (fun g hg hm => by
    have h1 := hnew5 g hg
    have h2 := hbl0 g hm
    omega) hnew5 (hwant _ (((hc5.trans' hc6).drewN n).nil)) (fun g hg hm => by
    have h1 := hwo g hg
    have h2 : g = w4.heap.size := by simpa using hm
    omega) (by omega))
  clear e1 hG6 hF hF6 hFwb hpre HF1 HF2 hb4 hwb
  have HSW := hid hswb
  have HALL := hid (And.intro hc3W (And.intro hc4 (And.intro hc5 (And.intro hc6 (And.intro hcwb (And.intro hcWb (And.intro hBK (And.intro hB6 (And.intro hr4 (And.intro hr5 (And.intro hr6 (And.intro hwant (And.intro hwo (And.intro hnew5 (And.intro hnew6 (And.intro hbl0 (And.intro hcW4 (And.intro hf4 (And.intro hf5 hf6)))))))))))))))))))
  clear hc3W hc4 hc5 hc6 hcwb hswb hcWb hBK hB6 hr4 hr5 hr6 hwant hwo hnew5 hnew6 hbl0 hcW4 hsW4 hs5 hs6 hf4 hf5 hf6 hcl2 hfW hf3W hf2' hnl HQ
  go_wp2_with fail
  go_quiet (fail)
  clear v1 v2 x1 z2 z3
  go_wp2_with (go_at_call 15; refine (HKX.out _).mono ?_; rintro e w7 ⟨rfl, es7, rl7, rw7, al7, aw7, cl7, cw7, hB7, hG7, hl7, hb7, hc7, hm7⟩; refine halt (fun X hX => ?_))
  rw [hX.out]; clear hX
  obtain ⟨hc3W, hc4, hc5, hc6, hcwb, hcWb, hBK, hB6, hr4, hr5, hr6, hwant, hwo, hnew5, hnew6, hbl0, hcW4, hf4, hf5, hf6⟩ := HALL.out
  have hs5 := hc5.size
  have hs6 := hc6.size
  have hsW4 := hcW4.size
  have hsw := HSW.out
  have hs67 : w6.heap.size ≤ w7.heap.size := hc7.size
  have hnl := HNL.out
  have hes7 : es7.length ≤ 1 := by simp at hl7; omega
  have hkx2 := keeps_grownX hG7 hB7 (by omega) rfl ((hr6.keep (Chg.of_drewN [] w6 _) (by simp)).keep hc7 (fun g hg hm => by
      have h1 := hnew6 g hg
      have h2 : g = w4.heap.size := by simpa using hm
      omega)) (fun g hg hm => by
      have h1 := hnew6 g hg
      have h4 := hr6.lt g hg
      rcases hm7 g hm with h2 | h2 | h2
      · have := hbl0 g h2; omega
      · have := hr5.lt g h2; omega
      · have h2 : w6.heap.size ≤ g := h2
        omega) (fun g hg => by have := hnew6 g hg; omega) (hwant _ (by have := hG7.chg; simpa using this)) (fun g hg hm => by
      have h1 := hwo g hg
      rcases hG7.mem g hm with h2 | h2
      · have h3 : g = w4.heap.size := by simpa using h2
        omega
      · omega) (by omega)
  have HKY := hid hkx2
  have HE7 := hid hl7
  have HEB7 := hid hb7
  clear hb7 hkx2 hbl0 hf4 hf5 hf6 hr5 hr6 hnew5 hnew6 hc5 hc6 hB6 hnl hsw hs67 hs5 hs6 hsW4 HKX hl7 hes7
  have HALL2 := hid (And.intro hc3W (And.intro hc4 (And.intro hcwb (And.intro hcWb (And.intro hr4 (And.intro hwant (And.intro hwo hcW4)))))))
  clear hc3W hc4 hcwb hcWb hr4 hwant hwo hcW4 HALL hBK
  go_wp2_with (go_at_call 15; refine HKY.out.mono ?_; rintro e w8 ⟨rfl, es8, rl8, rw8, al8, aw8, cl8, cw8, hB8, hG8, hl8, hb8, hc8, hm8⟩; refine halt (fun X hX => ?_))
  rw [hX.out]; clear hX
  obtain ⟨hc3W, hc4, hcwb, hcWb, hr4, hwant, hwo, hcW4⟩ := HALL2.out
  have hsW4 := hcW4.size
  have hsw := HSW.out
  have hes8 : es8.length ≤ 2 := by rw [hl8, HE7.out]; simp
  have hlen8 : ∀ e, e ∈ es8 → e.l.length ≤ 16777216 := fun e he => by
    rcases hb8 e he with h1 | h1
    · rcases HEB7.out e h1 with h2 | h2
      · simp at h2
      · omega
    · omega
  have hback : ∀ (wn : World) es' rl' rw', Grown wb w4.heap.size [] none none wn es' rl' rw' → Chg [] W wn := fun wn es' rl' rw' h => hcWb.trans h.chg (fun x hx => .inr (by
    have h2 : x = w4.heap.size := by simpa using hx
    omega))
  have HO1 := hid (opens_calls hG8 hB8 (by omega) (.slice ao4 l0.length cap4) l0 (hwant _ (by have := hG8.chg; simpa using this)) (fun _ g hg hm => by
      have h1 := hwo g hg
      rcases hG8.mem g hm with h2 | h2
      · have h3 : g = w4.heap.size := by simpa using h2
        omega
      · omega) (by omega))
  have HO2 := hid (fun (wn : World) (es' : List Ent) (rl' rw' : Option Nat) (al' aw' : Option Addr) (cl' cw' : Nat) (h : Bk wn w4.heap.size es' rl' rw' al' aw' cl' cw') (k : Grown wb w4.heap.size [] none none wn es' rl' rw') (hn : es'.length ≤ 8388608) =>
    opens_calls k h hn vr raw (HR.out.keep (hback wn es' rl' rw' k) (by simp)) (fun h0 g hg hm => by
      have h1 := HRO.out h0 g hg
      rcases k.mem g hm with h2 | h2
      · have h3 : g = w4.heap.size := by simpa using h2
        omega
      · omega) (by omega))
  have hend : ∀ (wn wz : World) (es' : List Ent) (rl' rw' : Option Nat), Grown wb w4.heap.size [] none none wn es' rl' rw' → Chg (w4.heap.size :: LB es') wn wz → Below W.heap.size W wz := fun wn wz es' rl' rw' k h => by
    refine ((hback wn es' rl' rw' k).trans h (fun x hx => .inr ?_)).to_below
    rcases List.mem_cons.1 hx with h1 | h1
    · omega
    · obtain ⟨e, he, h2⟩ := mem_LB.1 h1
      rcases k.es e he with h3 | h3
      · simp at h3
      · have := h3.1 x h2
        omega
  have HBACK := hid hback
  have HEND := hid hend
  have HE8 := hid hes8
  have HLN8 := hid hlen8
  clear hback hend hes8 hlen8 hc3W hc4 hcwb hcWb hr4 hwant hwo hcW4 HALL2 hsW4 hsw hB8 hG8 hl8 hb8 hc8 hm8 hB7 hG7 HKY hc7 hm7
  go_wp2_with (first
    | (go_at_call 25; refine HO1.out.mono ?_; rintro e w9 ⟨rfl, es9, rl9, rw9, al9, aw9, cl9, cw9, hB9, hG9, hl9, hb9⟩; have h9 : es9.length ≤ 8388608 := (by have := HE8.out; omega); have HO3 := hid (HO2.out w9 es9 rl9 rw9 al9 aw9 cl9 cw9 hB9 hG9 h9); clear hB9 hG9 HO1; have HL9 := hid hl9; clear hl9; refine halt (fun X hX => ?_))
    | fail)
  rw [hX.out]; clear hX
  clear HO2
  go_wp2_with (first
    | (go_at_call 25; refine HO3.out.mono ?_; rintro e w10 ⟨rfl, es10, rl10, rw10, al10, aw10, cl10, cw10, hB10, hG10, hl10, hb10⟩; clear HO3; refine halt (fun X hX => ?_))
    | fail)
  rw [hX.out]; clear hX
  have hn10 : es10.length ≤ 16777216 := by have h1 := HE8.out; have h2 := HL9.out; omega
  have HA := hid (apart_calls hB10 hn10 (fun e he => by
    rcases hb10 e he with h1 | h1
    · rcases hb9 e h1 with h2 | h2
      · have := HLN8.out e h2; omega
      · omega
    · omega))
  have HG10 := hid hG10
  clear hB10 hG10 hl10 hn10 hb10 hb9
  go_wp2_with (first
    | (go_at_call 17; refine HA.out.mono ?_; rintro e w11 ⟨rfl, hc11⟩)
    | fail)
  go_ret
  exact ⟨rfl, HEND.out w10 _ es10 rl10 rw10 HG10.out hc11⟩

theorem wf_u8f {n : Int} (h : (Lit.int .u8 n).wf = true) : ∃ x : UInt8, n = (x.toNat : Int) := by
  have h2 : 0 ≤ n ∧ n ≤ 255 := by simpa [Lit.wf, IntKind.min, IntKind.max, IntKind.signed, IntKind.bits] using h
  exact ⟨UInt8.ofNat n.toNat, by simp; omega⟩
theorem cells_num {v : Value} {c : Value} {k : IntKind} {n : Int} (hv : v = .int k n) (h : v.cells.toList = [c]) : c = v := by
  subst hv
  simpa [Value.cells] using h.symm
theorem frames_data (k : Int) (hk : (Lit.int .u8 k).wf = true) (vb vr : Value) (body raw : List UInt8) (W : World) (hb : Bytes W vb body) (hr : Bytes W vr raw) (hl : body.length ≤ 1048576) (hlr : raw.length ≤ 1048576) :
    Calls Try.prog 6 #[.int .u8 k, vb, vr] W fun e W' => e = .returned (.bool true) ∧ Below W.heap.size W W' := by
  obtain ⟨x, rfl⟩ := wf_u8f hk
  exact frames_walk x vb vr body raw W hb hr hl hlr
end Go.Proofs.Ytdakcphkaljghaa
