/- Walks of the lexer's laws: LexTokens. -/
import Derived.Test.YtppijmpdoejdmaaCg
namespace Go.Proofs.Ytppijmpdoejdmaa
open Go.RowKit Go.AB
set_option linter.unusedSimpArgs false
set_option linter.unusedVariables false
set_option linter.unusedSectionVars false

theorem same_refl (w : World) (va vb : Value) (ts : List Tok) (ha : TView w va ts) (hb : TView w vb ts) (hn : ts.length ≤ 16777216) :
    Calls Try.prog 12 #[va, vb, .bool true] w fun e w' => e = .returned (.bool true) ∧ ∃ n, w' = w.drewN n :=
  same_calls w va vb ts ts true ha hb rfl hn (fun i h1 h2 => ⟨rfl, rfl, rfl, fun _ => ⟨rfl, rfl⟩⟩)
theorem tokensB_len (L : List UInt8) (h : L.length ≤ 1048576) : (tokensB L).1.length ≤ 1048577 := by
  unfold tokensB
  have := scanD_len L 1 1
  split
  · simp only; omega
  · simp

set_option maxHeartbeats 4000000 in
set_option maxRecDepth 100000 in
theorem lexTokens_walk {s : ByteArray} (w : World) (hs : s.size ≤ 1048576) (L : List UInt8) (hL : Hid (s.data.toList = L)) : Calls Try.prog 4 #[.string s] w fun e w' => e = .returned (.bool true) ∧ Chg [] w w' := by
  have hR := r_tokens_calls (s := s) w hs L hL
  have hT := fun W => tokens_calls (s := s) W hs L hL
  have hlen := tokensB_len L (by rw [len_of hL]; exact hs)
  obtain ⟨T, f0, f1, f2, hp⟩ : ∃ T f0 f1 f2, tokensB L = (T, (f0, f1, f2)) := ⟨_, _, _, _, rfl⟩
  rw [hp] at hR hT hlen
  have HR := hid hR
  have HT := hid hT
  have hlT : T.length ≤ 1048577 := hlen
  have HK := hid known_calls
  clear hR hT hp hlen hL
  go_enter Try.func4, Try.ntmps4
  go_wp2_with (go_at_call 10; refine halt (fun X hX => ?_))
  rw [hX.out]; clear hX
  refine HR.out.mono ?_
  rintro e w1 ⟨T1, ao1, cap1, r1, rfl, hr1, hf1, hc1, H1⟩
  have h1 : T1 = T := H1.out
  subst h1
  clear H1
  go_wp2_with (go_at_call 11; refine halt (fun X hX => ?_))
  rw [hX.out]; clear hX
  refine (HT.out _).mono ?_
  rintro e w2 ⟨T2, ao2, cap2, r2, rfl, hr2, hf2, hc2, H2⟩
  have h2 : T2 = T1 := H2.out
  subst h2
  clear H2
  go_wp2_with (go_at_call 11; refine halt (fun X hX => ?_))
  rw [hX.out]; clear hX
  refine (HT.out _).mono ?_
  rintro e w3 ⟨T3, ao3, cap3, r3, rfl, hr3, hf3, hc3, H3⟩
  have h3 : T3 = T2 := H3.out
  subst h3
  clear H3
  have b1 := hc3.heap (blk_alloc_old (hc2.heap (blk_alloc_new w1 (.cells #[.int .i64 f0, .int .i64 f1, .int .i64 f2] 28)) (by simp)) (.cells #[.int .i64 f0, .int .i64 f1, .int .i64 f2] 28)) (by simp)
  have b2 := hc3.heap (blk_alloc_new w2 (.cells #[.int .i64 f0, .int .i64 f1, .int .i64 f2] 28)) (by simp)
  have p10 := fun o => (blk_cell (blk_alloc_old b1 o) 0).trans rfl
  have p11 := fun o => (blk_cell (blk_alloc_old b1 o) 1).trans rfl
  have p12 := fun o => (blk_cell (blk_alloc_old b1 o) 2).trans rfl
  have p20 := fun o => (blk_cell (blk_alloc_old b2 o) 0).trans rfl
  have p21 := fun o => (blk_cell (blk_alloc_old b2 o) 1).trans rfl
  have p22 := fun o => (blk_cell (blk_alloc_old b2 o) 2).trans rfl
  have hca : ∀ u : World, Chg [] u (u.alloc (.cells #[.int .i64 f0, .int .i64 f1, .int .i64 f2] 28)) := fun u => (Chg.refl [] u).alloc _
  have k23 := (hca w2).trans' (hc3.trans' (hca w3))
  have k13 := (hca w1).trans' (hc2.trans' k23)
  have v1 := hr1.keep k13 (by simp)
  have v2 := hr2.keep k23 (by simp)
  have v3 := hr3.keep (hca w3) (by simp)
  have HS1 := hid (same_refl _ _ _ _ v2.view v1.view (by omega))
  have HS2 := hid (fun n => same_refl _ _ _ _ (v3.view.keep (Chg.of_drewN [] _ n) (by simp)) (v1.view.keep (Chg.of_drewN [] _ n) (by simp)) (by omega))
  have B1 := hid b1
  have B2 := hid b2
  have V1 := hid v1
  have V2 := hid v2
  have V3 := hid v3
  have HF := hid (And.intro hf1 (And.intro hf2 hf3))
  have HC := hid (And.intro hc1 (And.intro hc2 hc3))
  have HRL := hid (And.intro hr1 (And.intro hr2 hr3))
  clear b1 b2 v1 v2 v3 k13 k23 hca hf1 hf2 hf3 hc1 hc2 hc3 hr1 hr2 hr3
  go_wp2_with (first
    | (go_at_call 12; ((with_reducible refine HS1.out.mono ?_); rintro e w4 ⟨rfl, n1, rfl⟩))
    | (go_at_call 12; ((with_reducible refine (HS2.out _).mono ?_); rintro e w4 ⟨rfl, n2, rfl⟩))
    | (go_at_call 13; refine halt (fun X hX => ?_)))
  rw [hX.out]; clear hX
  have r1lt := HRL.out.1.lt
  have r2lt := HRL.out.2.1.lt
  have r3lt := HRL.out.2.2.lt
  have r1w : ∀ g, r1 = some g → w.heap.size ≤ g := fun g hg => (HF.out.1 g hg).resolve_left (by simp)
  have r2w : ∀ g, r2 = some g → w1.heap.size + 1 ≤ g := fun g hg => by have := (HF.out.2.1 g hg).resolve_left (by simp); simpa using this
  have r3w : ∀ g, r3 = some g → w2.heap.size + 1 ≤ g := fun g hg => by have := (HF.out.2.2 g hg).resolve_left (by simp); simpa using this
  have s1 := HC.out.1.size
  have s2 : w1.heap.size + 1 ≤ w2.heap.size := by have := HC.out.2.1.size; simpa using this
  have s3 : w2.heap.size + 1 ≤ w3.heap.size := by have := HC.out.2.2.size; simpa using this
  obtain ⟨W4, hW4⟩ : ∃ W4, ((w3.alloc (.cells #[.int .i64 f0, .int .i64 f1, .int .i64 f2] 28)).drewN (n1 + n2)).alloc (.cells #[.slice ao2 T3.length cap2, .slice ao3 T3.length cap3] 23) = W4 := ⟨_, rfl⟩
  have hc34 : Chg [] (w3.alloc (.cells #[.int .i64 f0, .int .i64 f1, .int .i64 f2] 28)) W4 := by rw [← hW4]; exact ((Chg.refl [] _).drewN _).alloc _
  have hvn : View W4 1 (.slice (some ⟨w3.heap.size + 1, 0, none⟩) 2 2) 2 [.slice ao2 T3.length cap2, .slice ao3 T3.length cap3] := by
    rw [← hW4]
    have := View.news ((w3.alloc (.cells #[.int .i64 f0, .int .i64 f1, .int .i64 f2] 28)).drewN (n1 + n2)) [.slice ao2 T3.length cap2, .slice ao3 T3.length cap3] 23 (by simp [maxLen])
    rw [show ((w3.alloc (.cells #[.int .i64 f0, .int .i64 f1, .int .i64 f2] 28)).drewN (n1 + n2)).heap.size = w3.heap.size + 1 from by simp [World.drewN]] at this
    exact this
  have v1 := V1.out.keep hc34 (by simp)
  have v2 := V2.out.keep hc34 (by simp)
  have v3 := V3.out.keep hc34 (by simp)
  have hown : Owns W4 38 5 [⟨.slice ao2 T3.length cap2, r2, T3.length, T3.flatMap tokC⟩, ⟨.slice ao3 T3.length cap3, r3, T3.length, T3.flatMap tokC⟩] := by
    refine ((Owns.nil W4 38 5).snoc (o := ⟨.slice ao2 T3.length cap2, r2, T3.length, T3.flatMap tokC⟩) v2 (fun i hi => by simp at hi)).snoc (o := ⟨.slice ao3 T3.length cap3, r3, T3.length, T3.flatMap tokC⟩) v3 (fun i hi g hg hg2 => ?_)
    have hi0 : i = 0 := by simpa using hi
    subst hi0
    have h1 := r2lt g hg
    have h2 := r3w g hg2
    omega
  have hOB : ∀ g, g ∈ OB [(⟨.slice ao2 T3.length cap2, r2, T3.length, T3.flatMap tokC⟩ : Own), ⟨.slice ao3 T3.length cap3, r3, T3.length, T3.flatMap tokC⟩] → r2 = some g ∨ r3 = some g := fun g hg => by
    obtain ⟨o, ho, hr⟩ := mem_OB.1 hg
    simp only [List.mem_cons, List.not_mem_nil, or_false] at ho
    rcases ho with rfl | rfl
    · exact .inl hr
    · exact .inr hr
  have hMk := marked_calls (os := [⟨.slice ao2 T3.length cap2, r2, T3.length, T3.flatMap tokC⟩, ⟨.slice ao3 T3.length cap3, r3, T3.length, T3.flatMap tokC⟩]) hvn hown (fun g hg hm => by
      simp [Value.ownBlock] at hg
      rcases hOB g hm with h1 | h1
      · have := r2lt g h1; omega
      · have := r3lt g h1; omega) (by simp) (fun o ho => by
      simp only [List.mem_cons, List.not_mem_nil, or_false] at ho
      rcases ho with rfl | rfl <;> (show T3.length ≤ _; omega))
  have HMk := hid hMk
  have HOB := hid hOB
  have HCC := hid hc34
  have HV1 := hid v1
  have HSZ := hid (And.intro s1 (And.intro s2 (And.intro s3 (And.intro r1lt (And.intro r2w (And.intro r3w r1w))))))
  clear hMk hOB hc34 v1 v2 v3 hown hvn r1lt r2lt r3lt r1w r2w r3w s1 s2 s3 HS1 HS2
  rw [hW4]
  refine (show Calls Try.prog 13 #[.slice (some ⟨w3.heap.size + 1, 0, none⟩) 2 2] W4 _ from HMk.out).mono ?_
  rintro e w5 ⟨rfl, hc5⟩
  have HC5 := hid hc5
  have hb5 := hc5.heap (HCC.out.heap (blk_alloc_old B1.out (.cells #[.int .i64 f0, .int .i64 f1, .int .i64 f2] 28)) (by simp)) (fun hm => by
    have h := HSZ.out
    rcases HOB.out _ hm with h1 | h1
    · have := h.2.2.2.2.1 _ h1; omega
    · have := h.2.2.2.2.2.1 _ h1; omega)
  have hv5 := HV1.out.keep hc5 (fun g hg hm => by
    have h := HSZ.out
    have h0 := h.2.2.2.1 g hg
    rcases HOB.out _ hm with h1 | h1
    · have := h.2.2.2.2.1 _ h1; omega
    · have := h.2.2.2.2.2.1 _ h1; omega)
  have HB5 := hid hb5
  have HV5 := hid hv5
  clear hc5 hb5 hv5 hW4
  go_wp2_with (go_at_call 11; refine halt (fun X hX => ?_))
  rw [hX.out]; clear hX
  refine (HT.out _).mono ?_
  rintro e w6 ⟨T6, ao6, cap6, r6, rfl, hr6, hf6, hc6, H6⟩
  have h6 : T6 = T3 := H6.out
  subst h6
  clear H6
  have b1 := hc6.heap HB5.out (by simp)
  have q10 := fun o => (blk_cell (blk_alloc_old b1 o) 0).trans rfl
  have q11 := fun o => (blk_cell (blk_alloc_old b1 o) 1).trans rfl
  have q12 := fun o => (blk_cell (blk_alloc_old b1 o) 2).trans rfl
  have hca6 : Chg [] w6 (w6.alloc (.cells #[.int .i64 f0, .int .i64 f1, .int .i64 f2] 28)) := (Chg.refl [] w6).alloc _
  have HS6 := hid (same_refl _ _ _ _ (hr6.keep hca6 (by simp)).view (HV5.out.keep (hc6.trans' hca6) (by simp)).view (by omega))
  have hc56 : Chg [] w5 (w6.alloc (.cells #[.int .i64 f0, .int .i64 f1, .int .i64 f2] 28)) := hc6.trans' hca6
  have hfin : Chg [] w (w6.alloc (.cells #[.int .i64 f0, .int .i64 f1, .int .i64 f2] 28)) := by
    have h := HSZ.out
    have hca : ∀ u : World, Chg [] u (u.alloc (.cells #[.int .i64 f0, .int .i64 f1, .int .i64 f2] 28)) := fun u => (Chg.refl [] u).alloc _
    have h1 := (((((HC.out.1.trans' (hca w1)).trans' HC.out.2.1).trans' (hca w2)).trans' HC.out.2.2).trans' (hca w3)).trans' HCC.out
    refine (h1.trans HC5.out (fun x hx => .inr ?_)).trans' hc56
    rcases HOB.out _ hx with h1 | h1
    · have := h.2.2.2.2.1 _ h1; omega
    · have := h.2.2.2.2.2.1 _ h1; omega
  have HFIN := hid hfin
  clear b1 hca6 hc56 hfin hr6 hf6 hc6 p10 p11 p12 p20 p21 p22
  go_wp2_with (first
    | (go_at_call 12; ((with_reducible refine HS6.out.mono ?_); rintro e w7 ⟨rfl, n6, rfl⟩))
    | (go_at_call 14; refine (HK.out _).mono ?_; rintro e w8 ⟨rfl, hc8⟩))
  go_ret
  exact ⟨rfl, (HFIN.out.drewN n6).trans' hc8⟩
end Go.Proofs.Ytppijmpdoejdmaa
