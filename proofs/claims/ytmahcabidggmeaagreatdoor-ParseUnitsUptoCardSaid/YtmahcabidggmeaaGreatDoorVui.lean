/- The reference's reader: a unit. -/
import Derived.Test.YtmahcabidggmeaaGreatDoorVuh
import Derived.Test.YtmahcabidggmeaaGreatDoorVpl
import Derived.Test.YtmahcabidggmeaaGreatDoorPk7
set_option linter.unusedVariables false
set_option linter.unusedSectionVars false
set_option linter.unusedSimpArgs false
namespace Go.AB
open Go.RowKit
theorem endD_ends {ts ts' : List Tok} {u u' : UnD} (h : endD ts u = .ok (ts', u')) : ∃ t r, ts' = t :: r ∧ endsB t = true := by
  cases ts with
  | nil => unfold endD at h; cases h
  | cons t r =>
    rw [end_cons] at h
    split at h
    · next hc => cases h; exact ⟨t, r, rfl, hc⟩
    · cases h
theorem line_ends {ts ts' : List Tok} {u u' : UnD} (h : lineD ts u = .ok (ts', u')) : ∃ t r, ts' = t :: r ∧ endsB t = true := by
  cases hl : labelsD ts u.blocks false with
  | error f => rw [line_bad hl] at h; cases h
  | ok p =>
    obtain ⟨tl, bs, any⟩ := p
    cases tl with
    | nil =>
      unfold lineD at h
      rw [hl] at h
      cases h
    | cons t r =>
      rw [line_on hl] at h
      unfold lineT at h
      split at h
      · next hc => cases h; exact ⟨t, r, rfl, hc⟩
      · split at h
        · split at h
          · cases h
          · exact endD_ends h
        · split at h
          · cases h
          · split at h
            · split at h
              · cases h
              · exact endD_ends h
            · split at h
              · cases h
              · exact endD_ends h
end Go.AB
namespace Go.Proofs.YtmahcabidggmeaaGreatDoor
open Go.RowKit Go.AB
set_option linter.unusedSimpArgs false
set_option linter.unusedVariables false
set_option linter.unusedSectionVars false
/-- A reader is made. -/
theorem RY.start {W : World} {ts : List Tok} {tb off tc : Nat} (ht : Lst tkC 5 W (.slice (some ⟨tb, off, none⟩) ts.length tc) ts) (he : End7 ts) (hl : ts.length ≤ 2097151) (hx : ∀ t ∈ ts, t.text.length ≤ 1048576) :
    RY W (W.alloc (.cells #[.slice (some ⟨tb, off, none⟩) ts.length tc, .int .i64 0, .slice none 0 0, .slice none 0 0, .int .i64 0, .int .i64 0, .int .i64 0] 60)) W.heap.size ts 0 [] ⟨tb, off, tc, none, 0, none, none, 0, none, []⟩ ts.length ⟨0, 0, 0⟩ [] := by
  have h1 := ((Hp.start (S0 := []) W (by simp)).box (.cells #[.slice (some ⟨tb, off, none⟩) ts.length tc, .int .i64 0, .slice none 0 0, .slice none 0 0, .int .i64 0, .int .i64 0, .int .i64 0] 60)).nil 50 4
  have h2 := h1.nil 47 5
  refine ⟨h2.perm ?_, ht, he, by simp, by simp, by simp, ⟨by omega, by omega⟩, hx⟩
  exact List.perm_middle (l₁ := [_, _])
theorem ry_done {w w3 wr W : World} {P b m k : Nat} {all : List Tok} {ds : List DcD} {q : RQ} {f : Flt} {X : List It} (h : RY w3 wr b all k ds q m f X) (hc : Chg [] w w3) (hP : w.heap.size ≤ P) (hP1 : P + 1 < w3.heap.size) (hs : Chg [P, P + 1] wr W) : Hp [] w W (unI ds q) := by
  have h1 : Hp [] w3 wr (unI ds q) := h.hp.sub (List.Sublist.trans (.cons _ (.refl _)) (List.sublist_append_left _ X))
  refine ⟨fun x hx => It.keep (h1.ok x hx) hs (fun g hg hm => by have := h1.lo x hx g hg; simp at hm; omega), fun x hx g hg => Nat.le_trans hc.size (h1.lo x hx g hg), h1.nd, (hc.trans' h1.chg).trans hs (fun x hx => .inr (by simp at hx; omega)), by simp⟩
theorem r_unit_results {P : Nat} {v0 v1 v5 v6 v7 : Value} {w : World} {tmps : Array Value} (h0 : w.heap[P]? = some (.cells #[v0, v1] 25 (0, 0))) (h1 : w.heap[P + 1]? = some (.cells #[v5, v6, v7] 30 (0, 0)))
    (t2 : tmps[2]?.getD undef = .pointer (some ⟨P, 0, none⟩)) (t3 : tmps[3]?.getD undef = .pointer (some ⟨P + 1, 0, none⟩)) :
    (results Tryz.f5 tmps).run Tryz.prog w = .ok (.tuple #[.agg #[v0, v1], .agg #[v5, v6, v7]]) w := by
  have c0 : w.cell? ⟨P, 0, none⟩ = some v0 := blk_cell h0 0
  have c1 : w.cell? ⟨P, 1, none⟩ = some v1 := blk_cell h0 1
  have d0 : w.cell? ⟨P + 1, 0, none⟩ = some v5 := blk_cell h1 0
  have d1 : w.cell? ⟨P + 1, 1, none⟩ = some v6 := blk_cell h1 1
  have d2 : w.cell? ⟨P + 1, 2, none⟩ = some v7 := blk_cell h1 2
  simp [results, Tryz.results5, go_sem, t2, t3, c0, c1, d0, d1, d2]

set_option maxHeartbeats 16000000 in
set_option maxRecDepth 100000 in
theorem r_unit_calls (L : List UInt8) (hL : L.length ≤ 1048576) (w : World) (hv : VarsP w) : Calls Tryz.prog 5 #[.string (bA L)] w (UnitP w (sourceD L)) := by
  obtain ⟨wa, hwa⟩ : ∃ wa, ((w.alloc (.cells #[.slice none 0 0, .slice none 0 0] 25)).alloc (.cells #[.int .i64 0, .int .i64 0, .int .i64 0] 30)) = wa := ⟨_, rfl⟩
  have hca : Chg [] w wa := by rw [← hwa]; exact ((Chg.refl [] w).alloc _).alloc _
  have hPb : wa.heap[w.heap.size]? = some (.cells #[.slice none 0 0, .slice none 0 0] 25 (0, 0)) := by rw [← hwa]; exact blk_alloc_old (heap_alloc_new w _) _
  have hFb : wa.heap[w.heap.size + 1]? = some (.cells #[.int .i64 0, .int .i64 0, .int .i64 0] 30 (0, 0)) := by
    rw [← hwa]
    have h := heap_alloc_new (w.alloc (.cells #[.slice none 0 0, .slice none 0 0] 25)) (.cells #[.int .i64 0, .int .i64 0, .int .i64 0] 30)
    simpa only [World.size_alloc] using h
  have hT := r_tokens_calls (s := bA L) wa (by rw [bA_size]; exact hL) L (hid rfl)
  obtain ⟨D, hD⟩ : ∃ D, sourceD L = D := ⟨_, rfl⟩
  rw [hD]
  obtain ⟨P, hP⟩ : ∃ P, w.heap.size = P := ⟨_, rfl⟩
  have HPF := hid (And.intro hPb hFb)
  have HT := hid hT
  have HC := hid hca
  have HV := hid (hv.keep hca)
  have HP := hid hP
  have HL := hid hL
  clear hPb hFb hT hca hv hP hL
  by_cases hz : (scanD L 1 1).2.1 = 0
  · rw [source_ok hz] at hD
    have hlx := lexed_of_scan (L.length + 1) L (1, 1) (by omega) hz
    have hll := scanD_len L 1 1
    have hfx := lexed_facts hlx
    have htk : tokensB L = ((scanD L 1 1).1, (0, 0, 0)) := by unfold tokensB; rw [if_pos hz]
    rw [htk] at HT
    obtain ⟨ts, hts⟩ : ∃ ts, (scanD L 1 1).1 = ts := ⟨_, rfl⟩
    rw [hts] at HT hD hll
    simp only at hfx
    rw [hts] at hfx
    have HD := hid hD
    have HFX := hid (And.intro hfx.1 (And.intro (fun t ht => Nat.le_trans (hfx.2 t ht) HL.out) (show ts.length ≤ 2097151 by have := HL.out; omega)))
    clear hD htk hz hlx hll hfx hts
    go_enter Tryz.func5, Tryz.ntmps5
    go_wp2_with (go_at_call 15; refine halt (fun X hX => ?_))
    try rw [hwa] at hX
    rw [hX.out]; clear hX
    try rw [hwa]
    have hPF := HPF.out
    rw [HP.out] at hPF ⊢
    refine HT.out.mono ?_
    rintro e w2 ⟨ts', ao, cap, rr, rfl, hrow, hfr, hc2, hts⟩
    obtain rfl : ts' = ts := hts.out
    have h0 := hc2.heap hPF.1 (by simp)
    have h1 := hc2.heap hPF.2 (by simp)
    obtain ⟨g, rfl⟩ : ∃ g, ao = some ⟨g, 0, none⟩ := by
      rcases hrow.form with ⟨_, hn, _⟩ | ⟨g, cap', cur, hv, _⟩
      · exact absurd (List.eq_nil_of_length_eq_zero hn) HFX.out.1.ne
      · simp only [Value.slice.injEq] at hv
        exact ⟨g, hv.1⟩
    have hls : Lst tkC 5 w2 (.slice (some ⟨g, 0, none⟩) ts'.length cap) ts' := hrow.view
    have HLS := hid hls
    have HS := hid (And.intro h0 (And.intro h1 hc2))
    have hrs := RY.start (W := w2.alloc (.cells #[.int .i64 0, .int .i64 0, .int .i64 0] 30)) (HLS.out.keep ((Chg.refl [] w2).alloc _)) HFX.out.1 HFX.out.2.2 HFX.out.2.1
    rw [show (w2.alloc (.cells #[.int .i64 0, .int .i64 0, .int .i64 0] 30)).heap.size = w2.heap.size + 1 from by simp] at hrs
    have hc3 : Chg [] w2 (w2.alloc (.cells #[.int .i64 0, .int .i64 0, .int .i64 0] 30)) := (Chg.refl [] w2).alloc _
    have H3 := hid (And.intro hrs hc3)
    have hv3 := (HV.out.keep hc2).keep hc3
    have hsz3 : w2.heap.size < (w2.alloc (.cells #[.int .i64 0, .int .i64 0, .int .i64 0] 30)).heap.size := by simp
    clear h0 h1 hc2 hPF hls hrow hfr hts HT hrs hc3 hwa
    go_upto_region 4 with fail
    have hsz4 : (w2.alloc (.cells #[.int .i64 0, .int .i64 0, .int .i64 0] 30)).heap.size = w2.heap.size + 1 := by simp
    generalize w2.alloc (.cells #[.int .i64 0, .int .i64 0, .int .i64 0] 30) = w3 at H3 hv3 hsz3 hsz4 ⊢
    obtain ⟨b, hb⟩ : ∃ b, w2.heap.size + 1 = b := ⟨_, rfl⟩
    rw [hb] at H3 hsz4
    have HZ : Hid (w.heap.size ≤ P ∧ P + 1 < w3.heap.size ∧ Chg [] w w3 ∧ w3.heap[P]? = some (.cells #[.slice none 0 0, .slice none 0 0] 25 (0, 0)) ∧ w3.heap[P + 1]? = some (.cells #[.int .i64 0, .int .i64 0, .int .i64 0] 30 (0, 0))) := hid (by
      obtain ⟨h0, h1, hc2⟩ := HS.out
      have := blk_lt h1
      exact ⟨by have := HP.out; omega, by omega, (HC.out.trans' hc2).trans' H3.out.2, H3.out.2.heap h0 (by simp), H3.out.2.heap h1 (by simp)⟩)
    have HV3 := hid hv3
    have HDD : Hid (linesD ts'.length ts' ⟨[], []⟩ = D) := HD
    have HSM := hid HFX.out.2.2
    have HSZ4 := hid hsz4
    have HPb := hid (show P + 1 < b from by have := HZ.out.2.1; omega)
    clear hsz3 hsz4 hv3 hb HD HLS HS HFX HC HV HP
    have HDD2 : Hid (linesD (ts'.length + 1 - 1) (ts'.drop 0) ⟨[], []⟩ = D) := HDD
    have hrs0 := H3.out.1
    have hln := hrs0.lt
    obtain ⟨f0, hf0⟩ : ∃ f0, ts'.length = f0 + 1 := ⟨ts'.length - 1, by omega⟩
    have HF0 : Hid (linesD (f0 + 1) (ts'.drop 0) ⟨[], []⟩ = D) := hid (by rw [← hf0]; exact HDD.out)
    have HFL := hid hf0
    obtain ⟨w4, hw4⟩ : ∃ w4, w3.alloc (.cells #[.slice (some ⟨g, 0, none⟩) ts'.length cap, .int .i64 0, .slice none 0 0, .slice none 0 0, .int .i64 0, .int .i64 0, .int .i64 0] 60) = w4 := ⟨_, rfl⟩
    rw [hw4] at hrs0
    have HR4 := hid hrs0
    clear hrs0 H3 HDD HDD2 hf0 hln
    go_upto_region 4 with fail
    obtain ⟨N, hN⟩ : ∃ N, ts'.length = N := ⟨_, rfl⟩
    have HN := hid hN
    rw [hN] at hw4
    rw [hN]
    clear hN
    go_wp2_with fail
    rw [HSZ4.out]
    try rw [hw4]
    clear hw4
    go_loopg [] N (fun gk wr => ∃ (k' m' fuel : Nat) (ds' : List DcD) (q' : RQ), Hid (gk = N - k' ∧ m' < 2097152 ∧ N - k' ≤ fuel + 1 ∧ linesD (fuel + 1) (ts'.drop k') ⟨ds', q'.bks⟩ = D) ∧ Hid (RY w3 wr b ts' k' ds' q' m' ⟨0, 0, 0⟩ []))
    case atStart => exact ⟨0, ts'.length, f0, [], ⟨g, 0, cap, none, 0, none, none, 0, none, []⟩, hid ⟨by omega, by have := HSM.out; omega, by have := HFL.out; have := HN.out; omega, HF0.out⟩, HR4⟩
    case round =>
      obtain ⟨k', m', fuel, ds', q', HI, HR⟩ := hrel
      have HLN := hid (y_line_calls HR.out rfl HI.out.2.1 HV3.out)
      go_upto_region 6 with (go_at_call 16; refine HLN.out.mono ?_; rintro e w5 ⟨k2, ds2, q2, m2, f2, rfl, h2, hm2, hr2⟩)
      have H2 := hid h2
      have hw5 := h2.hp.chg
      have h0 := hw5.heap HZ.out.2.2.2.1 (by simp)
      have h1 := hw5.heap HZ.out.2.2.2.2 (by simp)
      have c0 : w5.cell? ⟨P, 0, none⟩ = some (.slice none 0 0) := blk_cell h0 0
      have c1 : w5.cell? ⟨P, 1, none⟩ = some (.slice none 0 0) := blk_cell h0 1
      have cf : ∀ i, w5.frozen? ⟨P, i, none⟩ = false := fun i => blk_free h0 i
      have d0 : w5.cell? ⟨P + 1, 0, none⟩ = some (.int .i64 0) := blk_cell h1 0
      have d1 : w5.cell? ⟨P + 1, 1, none⟩ = some (.int .i64 0) := blk_cell h1 1
      have d2 : w5.cell? ⟨P + 1, 2, none⟩ = some (.int .i64 0) := blk_cell h1 2
      have df : ∀ i, w5.frozen? ⟨P + 1, i, none⟩ = false := fun i => blk_free h1 i
      have HH01 := hid (And.intro h0 h1)
      have n1 : P ≠ b := by have := HPb.out; omega
      have n2 : P + 1 ≠ b := by have := HPb.out; omega
      have n3 : b ≠ P := by omega
      have n4 : b ≠ P + 1 := by omega
      have HM2 := hid hm2
      clear hw5 h0 h1 HLN hm2
      rcases hr2 with ⟨hz, hr2⟩ | ⟨hf2, hr2⟩
      · have HOK := hid (y_ok_no H2.out hz)
        have HDE : Hid (D = .error f2) := hid (by rw [← HI.out.2.2.2]; exact lines_bad hr2)
        have e4 := h2.c4
        have e5 := h2.c5
        have e6 := h2.c6
        obtain ⟨fc, fl, fk⟩ := f2
        simp only at e4 e5 e6
        clear hz hr2 h2
        go_wp2_with (go_at_call 17; refine HOK.out.mono ?_; rintro e w6 ⟨rfl, rfl⟩)
        go_region
        all_goals go_wp2
        all_goals
          obtain ⟨h0, h1⟩ := HH01.out
          obtain ⟨s1, s2, s3⟩ := set5 h0 h1 (.slice none 0 0) (.slice none 0 0) (.int .i64 fc) (.int .i64 fl) (.int .i64 fk)
          generalize ((((((w5.setCell ⟨P, 0, none⟩ (.slice none 0 0)).setCell ⟨P, 1, none⟩ (.slice none 0 0)).setCell ⟨P + 1, 0, none⟩ (.int .i64 fc)).setCell ⟨P + 1, 1, none⟩ (.int .i64 fl)).setCell ⟨P + 1, 2, none⟩ (.int .i64 fk))) = W at s1 s2 s3 ⊢
          have hd := HDE.out
          subst hd
          refine bodyPost_ret (v := .tuple #[.agg #[.slice none 0 0, .slice none 0 0], .agg #[.int .i64 fc, .int .i64 fl, .int .i64 fk]]) (r_unit_results (w := W.drew) s1 s2 rfl rfl) rfl ⟨rfl, ?_⟩
          have hz := HZ.out
          exact ((hz.2.2.1.trans' H2.out.hp.chg).trans s3 (fun x hx => .inr (by simp at hx; omega))).drew
      · subst hf2
        have HOK := hid (y_ok_yes H2.out rfl)
        obtain ⟨t2, r2, hd2, he2⟩ := line_ends hr2
        obtain ⟨hi2, hr22⟩ := drop_head hd2
        rw [hd2] at hr2
        have a0 := h2.c0
        have a1 := h2.c1
        have ak := (h2.head_at hi2).1
        have a2 := h2.c2
        have a3 := h2.c3
        have af := h2.fr 1
        have hlt := h2.lt
        rw [HN.out] at a0 hlt
        have hki : (k2 : Int) < (N : Int) := by omega
        by_cases hk7 : t2.kind = 7
        · have e7 : ((t2.kind : Int) == 7) = true := by simp; omega
          have HDO : Hid (D = .ok ⟨ds2, q2.bks⟩) := hid (by rw [← HI.out.2.2.2]; exact lines_end hr2 (by omega))
          obtain ⟨n1', hn1⟩ : ∃ n1, ds2.length = n1 := ⟨_, rfl⟩
          obtain ⟨n2', hn2⟩ : ∃ n2, q2.bs.length = n2 := ⟨_, rfl⟩
          rw [hn1] at a2
          rw [hn2] at a3
          have HNN := hid (And.intro hn1 hn2)
          clear hr2 hk7 hd2 he2 hi2 hr22 h2 hn1 hn2
          go_upto_region 8 with (go_at_call 17; refine HOK.out.mono ?_; rintro e w6 ⟨rfl, rfl⟩)
          go_quiet (fail)
          go_wp2_with fail
          obtain ⟨h0, h1⟩ := HH01.out
          obtain ⟨hn1, hn2⟩ := HNN.out
          have hs5 := fun n => set5 ((Chg.of_drewN [] w5 n).heap h0 (by simp)) ((Chg.of_drewN [] w5 n).heap h1 (by simp)) (.slice q2.a0 n1' q2.c0) (.slice q2.a1 n2' q2.c1) (.int .i64 0) (.int .i64 0) (.int .i64 0)
          have hd := HDO.out
          subst hd
          have hz := HZ.out
          refine bodyPost_ret (v := .tuple #[.agg #[.slice q2.a0 n1' q2.c0, .slice q2.a1 n2' q2.c1], .agg #[.int .i64 0, .int .i64 0, .int .i64 0]]) (r_unit_results (hs5 _).1 (hs5 _).2.1 rfl rfl) rfl ⟨_, rfl, q2, rfl, by rw [hn1, hn2], ?_⟩
          exact ry_done (H2.out.same (Chg.of_drewN [] w5 _)) hz.2.2.1 hz.1 hz.2.1 (hs5 _).2.2
        · have e7 : ((t2.kind : Int) == 7) = false := by simp; omega
          have hk6 : t2.kind = 6 := by unfold endsB at he2; simp only [decide_eq_true_eq] at he2; omega
          have HLM := hid (show linesD fuel (ts'.drop (k2 + 1)) ⟨ds2, q2.bks⟩ = D from by rw [← HI.out.2.2.2, hr22]; exact (lines_more hr2 hk6).symm)
          have HI2 := hid (And.intro hi2 hk6)
          have hll := line_len hr2
          rw [← hd2, List.length_drop, List.length_drop, HN.out] at hll
          have hnx := H2.out.next hi2 (by omega) (z := (k2 : Int) + 1) rfl
          have hlt3 := hnx.1.lt
          rw [HN.out] at hlt3
          have HLL := hid (And.intro hll hlt3)
          clear hr2 hk7 hd2 he2 hi2 hr22 h2 hk6 hll hnx hlt3
          go_upto_region 8 with (go_at_call 17; refine HOK.out.mono ?_; rintro e w6 ⟨rfl, rfl⟩)
          go_quiet (fail)
          go_wp2_with fail
          have hnx := fun n z (hz : z = (k2 : Int) + 1) => (H2.out.same (Chg.of_drewN [] w5 n)).next HI2.out.1 (by have := HI2.out.2; omega) hz
          obtain ⟨fl, hfl⟩ : ∃ fl, fuel = fl + 1 := ⟨fuel - 1, by have := HI.out; have := HLL.out; omega⟩
          have HFF := hid hfl
          clear hfl
          go_roundg (N - (k2 + 1))
          case measure => have := HI.out; have := HLL.out; omega
          case rel => exact ⟨k2 + 1, m2 - 1, fl, ds2, q2, hid ⟨rfl, by have := HI.out; have := HM2.out; omega, by have := HI.out; have := HLL.out; have := HFF.out; omega, by have h9 := HLM.out; rw [HFF.out] at h9; exact h9⟩, hid (hnx _ _ (by first | rfl | exact IntWalk.wrap64_in _ (by have := HSM.out; have := HN.out; have := HLL.out; omega))).1⟩
  · rw [source_bad hz] at hD
    have HD := hid hD
    have htk : tokensB L = ([], (scanD L 1 1).2) := by unfold tokensB; rw [if_neg hz]
    rw [htk] at HT
    obtain ⟨p0, p1, p2, hp⟩ : ∃ p0 p1 p2, (scanD L 1 1).2 = (p0, p1, p2) := ⟨_, _, _, rfl⟩
    rw [hp] at HT HD hz
    have g1 : ((p0 : Int) == 0) = false := by simp; simp only at hz; omega
    have g2 : decide ((p0 : Int) = 0) = false := decide_eq_false (by simp only at hz; omega)
    clear hD htk hp hz
    go_enter Tryz.func5, Tryz.ntmps5
    go_wp2_with (go_at_call 15; refine halt (fun X hX => ?_))
    try rw [hwa] at hX
    rw [hX.out]; clear hX
    try rw [hwa]
    have hPF := HPF.out
    rw [HP.out] at hPF ⊢
    refine HT.out.mono ?_
    rintro e w2 ⟨ts, ao, cap, r, rfl, _, _, hc2, _⟩
    have h0 := hc2.heap hPF.1 (by simp)
    have h1 := hc2.heap hPF.2 (by simp)
    have h0' := (((Chg.refl [] w2).alloc (.cells #[.int .i64 p0, .int .i64 p1, .int .i64 p2] 30))).heap h0 (by simp)
    have h1' := (((Chg.refl [] w2).alloc (.cells #[.int .i64 p0, .int .i64 p1, .int .i64 p2] 30))).heap h1 (by simp)
    have hC3 := HC.out.trans' (hc2.alloc (.cells #[.int .i64 p0, .int .i64 p1, .int .i64 p2] 30))
    have hP1 := blk_lt h1
    have hnew := heap_alloc_new w2 (.cells #[.int .i64 p0, .int .i64 p1, .int .i64 p2] 30)
    clear hwa hPF
    go_upto_region 2 with fail
    obtain ⟨B, hB⟩ : ∃ B, w2.heap.size = B := ⟨_, rfl⟩
    rw [hB] at hnew hP1 ⊢
    generalize w2.alloc (.cells #[.int .i64 p0, .int .i64 p1, .int .i64 p2] 30) = w3 at h0' h1' hC3 hnew ⊢
    have c0 : w3.cell? ⟨P, 0, none⟩ = some (.slice none 0 0) := blk_cell h0' 0
    have c1 : w3.cell? ⟨P, 1, none⟩ = some (.slice none 0 0) := blk_cell h0' 1
    have cf : ∀ i, w3.frozen? ⟨P, i, none⟩ = false := fun i => blk_free h0' i
    have d0 : w3.cell? ⟨P + 1, 0, none⟩ = some (.int .i64 0) := blk_cell h1' 0
    have d1 : w3.cell? ⟨P + 1, 1, none⟩ = some (.int .i64 0) := blk_cell h1' 1
    have d2 : w3.cell? ⟨P + 1, 2, none⟩ = some (.int .i64 0) := blk_cell h1' 2
    have df : ∀ i, w3.frozen? ⟨P + 1, i, none⟩ = false := fun i => blk_free h1' i
    have t0 : w3.cell? ⟨B, 0, none⟩ = some (.int .i64 p0) := blk_cell hnew 0
    have t1 : w3.cell? ⟨B, 1, none⟩ = some (.int .i64 p1) := blk_cell hnew 1
    have t2 : w3.cell? ⟨B, 2, none⟩ = some (.int .i64 p2) := blk_cell hnew 2
    have n1 : P ≠ B := by omega
    have n2 : P + 1 ≠ B := by omega
    have n3 : B ≠ P := by omega
    have n4 : B ≠ P + 1 := by omega
    have HS := hid (And.intro h0' (And.intro h1' hC3))
    clear h0 h1 h0' h1' hC3 hc2 hnew hB HC
    go_wp2
    go_region
    all_goals go_wp2
    all_goals
      obtain ⟨h0, h1, hc2⟩ := HS.out
      obtain ⟨s1, s2, s3⟩ := set5 h0 h1 (.slice none 0 0) (.slice none 0 0) (.int .i64 p0) (.int .i64 p1) (.int .i64 p2)
      generalize ((((((w3.setCell ⟨P, 0, none⟩ (.slice none 0 0)).setCell ⟨P, 1, none⟩ (.slice none 0 0)).setCell ⟨P + 1, 0, none⟩ (.int .i64 p0)).setCell ⟨P + 1, 1, none⟩ (.int .i64 p1)).setCell ⟨P + 1, 2, none⟩ (.int .i64 p2))) = W at s1 s2 s3 ⊢
      have hd := HD.out
      subst hd
      have hp := HP.out
      refine bodyPost_ret (v := .tuple #[.agg #[.slice none 0 0, .slice none 0 0], .agg #[.int .i64 p0, .int .i64 p1, .int .i64 p2]]) (r_unit_results (w := W.drew) s1 s2 rfl rfl) rfl ⟨rfl, ?_⟩
      exact (hc2.trans s3 (fun x hx => .inr (by simp at hx; omega))).drew
end Go.Proofs.YtmahcabidggmeaaGreatDoor
