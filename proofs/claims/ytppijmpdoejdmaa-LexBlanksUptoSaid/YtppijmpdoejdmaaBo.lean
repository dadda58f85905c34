/- The law LexPieces: its walk. -/
import Derived.Test.YtppijmpdoejdmaaBn
import Derived.Lib.Strings
namespace Go.Proofs.Ytppijmpdoejdmaa
open Go.RowKit Go.AB
set_option linter.unusedSimpArgs false
set_option linter.unusedVariables false
set_option linter.unusedSectionVars false

/-- Behind o bytes k tokens are done. -/
def Stands (L : List UInt8) (ts : List Tok) (k o : Nat) : Prop := (k < ts.length ∧ Lexed (L.drop o) (pos (1, 1) (L.take o)) (ts.drop k)) ∨ (k = ts.length ∧ o = L.length)
theorem pieces_step {L : List UInt8} {ts : List Tok} {k o : Nat} (h : Stands L ts k o) (hk : k < ts.length) (ho : o ≤ L.length) :
    ∃ A kk t v n, o ≤ A ∧ A ≤ L.length ∧ gapB ((L.drop o).take (A - o)) = true ∧ act1 (L.drop A) = .tok kk t v n ∧ A + n ≤ L.length ∧ ts[k] = ⟨kk, t, v, (pos (1, 1) (L.take A)).1, (pos (1, 1) (L.take A)).2⟩ ∧
      ((kk = 7 ∧ k + 1 = ts.length) ∨ (kk ≠ 7 ∧ k + 1 < ts.length)) ∧ Stands L ts (k + 1) (A + n) := by
  rcases h with ⟨_, h⟩ | ⟨h, _⟩
  · obtain ⟨g, hg, hgap, hr⟩ := h.head
    rw [List.length_drop] at hg
    have hpos : pos (pos (1, 1) (L.take o)) ((L.drop o).take g) = pos (1, 1) (L.take (o + g)) := by rw [← pos_append, ← List.take_add]
    have hdk : ts.drop k = ts[k] :: ts.drop (k + 1) := List.drop_eq_getElem_cons hk
    have e1 : o + g - o = g := by omega
    rcases hr with ⟨h1, h2⟩ | ⟨kk, t, v, n, us, h1, h2, h3, h4⟩
    · rw [hpos, hdk] at h2
      simp only [List.cons.injEq] at h2
      have hlen : k + 1 = ts.length := by have := congrArg List.length h2.2; simp only [List.length_drop, List.length_nil] at this; omega
      rw [List.drop_drop] at h1
      have hA : o + g = L.length := by have := congrArg List.length h1; simp only [List.length_drop, List.length_nil] at this; omega
      exact ⟨o + g, 7, [], 0, 0, by omega, by omega, by rw [e1]; exact hgap, by rw [h1]; rfl, by omega, h2.1, .inl ⟨rfl, hlen⟩, .inr ⟨hlen, hA⟩⟩
    · rw [hpos, hdk] at h3
      simp only [List.cons.injEq] at h3
      rw [List.drop_drop] at h1
      have hl := (tok_le h1 h2).2.1
      rw [List.length_drop] at hl
      have hus : us ≠ [] := by
        have key : ∀ {d p ts}, Lexed d p ts → ts ≠ [] := fun h => by induction h <;> simp_all
        exact key h4
      have hlen : k + 1 < ts.length := by
        rw [← h3.2] at hus
        by_cases hx : k + 1 < ts.length
        · exact hx
        · exact absurd (List.drop_of_length_le (by omega)) hus
      refine ⟨o + g, kk, t, v, n, by omega, by omega, by rw [e1]; exact hgap, h1, by omega, h3.1, .inr ⟨h2, hlen⟩, .inl ⟨hlen, ?_⟩⟩
      rw [← h3.2, List.drop_drop, ← pos_append, ← List.take_add] at h4
      rw [Nat.add_assoc]
      exact h4
  · omega
theorem piece_any {d : List UInt8} {k : Nat} {t : List UInt8} {v : Int} {n : Nat} (h : act1 d = .tok k t v n) : ∃ P, scanD (d.take n) 1 1 = (P, (0, 0, 0)) ∧ P.length = (if k = 7 then 1 else 2) ∧ ∃ h0 : 0 < P.length, P[0] = ⟨k, t, v, 1, 1⟩ := by
  by_cases hk : k = 7
  · subst hk
    rcases act1_tok h with ⟨_, _, rfl, rfl, rfl⟩ | ⟨_, _, h1, _⟩
    · exact ⟨[⟨7, [], 0, 1, 1⟩], by rw [List.take_zero, scanD_eq]; rfl, rfl, by simp, rfl⟩
    · omega
  · obtain ⟨x, hx⟩ := piece_scan h hk
    exact ⟨_, hx, by rw [if_neg hk]; rfl, by simp, rfl⟩

section
variable {s : ByteArray} (W : World) (hs : s.size ≤ 1048576) (L : List UInt8) (hL : Hid (s.data.toList = L))
include hs hL

set_option maxHeartbeats 4000000 in
set_option maxRecDepth 100000 in
theorem pieces_bad (hf : (scanD L 1 1).2.1 ≠ 0) : Calls Try.prog 5 #[.string s] W fun e W' => e = .returned (.bool true) ∧ Below W.heap.size W W' := by
  have HT1 := hid (tokens_bad W hs hL hf)
  clear hf
  go_enter Try.func5, Try.ntmps5
  go_wp2_with (go_at_call 11; refine HT1.out.mono ?_; rintro e w1 ⟨ao1, cap1, f0, f1, f2, g1, g2, rfl, hc1⟩; refine halt (fun X hX => ?_))
  rw [hX.out]; clear hX
  go_wp2_with (go_at_call 14; refine (known_calls _).mono ?_; rintro e w3 ⟨rfl, hc3⟩)
  go_ret
  exact ⟨rfl, (hc1.trans' (((Chg.refl [] w1).alloc _).trans' hc3)).to_below⟩

set_option maxHeartbeats 8000000 in
set_option maxRecDepth 100000 in
theorem pieces_main {ts : List Tok} (hlx : Lexed L (1, 1) ts) (hn0 : 0 < ts.length) (hn : ts.length ≤ 1048577) : Calls Try.prog 5 #[.string s] W fun e W' => e = .returned (.bool true) ∧ Below W.heap.size W W' := by
  have HT1 := hid (tokens_ok W hs hL hlx.scan rfl)
  have HLN := hid (len_of hL)
  have HS0 : Hid (Stands L ts 0 0) := hid (.inl ⟨hn0, hlx⟩)
  have g4 : ((ts.length : Int) == 0) = false := by rw [beq_eq_false_iff_ne]; omega
  have g5 : (ts.length == 0) = false := by rw [beq_eq_false_iff_ne]; omega
  have hne : ts ≠ [] := by intro e; rw [e] at hn0; simp at hn0
  clear hlx
  go_enter Try.func5, Try.ntmps5
  go_wp2_with (go_at_call 11; refine HT1.out.mono ?_; rintro e w1 ⟨ao1, cap1, r1, rfl, hr1, hf1, hc1⟩; refine halt (fun X hX => ?_))
  rw [hX.out]; clear hX
  have HV : Hid (TView w1 (.slice ao1 ts.length cap1) ts) := hid hr1.view
  have hCa : Chg [] w1 (w1.alloc (.cells #[.int .i64 0, .int .i64 0, .int .i64 0] 28)) := (Chg.refl [] w1).alloc _
  clear hr1 hf1
  go_wp2_with fail
  go_loopw [5, 6] (fun l i wr => ∃ k o : Nat, k ≤ ts.length ∧ o ≤ s.size ∧ i = .int .i64 k ∧ l = .int .i64 o ∧ Hid (Stands L ts k o) ∧ Chg [] w1 wr) (fun _ i _ => ts.length - (intOf i).toNat)
  case atStart => exact ⟨0, 0, Nat.zero_le _, Nat.zero_le _, rfl, rfl, HS0, hCa⟩
  case round =>
    obtain ⟨k, o, hk, ho, rfl, rfl, HK, hch⟩ := hrel
    by_cases hlt : k < ts.length
    · obtain ⟨A, kk, t, v, n, hoA, hA, hgap, hact, hAn, htk, hkk, hst⟩ := pieces_step HK.out hlt (by rw [HLN.out]; exact ho)
      rw [HLN.out] at hA hAn
      obtain ⟨P, hP, hPl, hP0, hPg⟩ := piece_any hact
      obtain ⟨ln, col, hpp⟩ : ∃ ln col, pos (1, 1) (L.take A) = (ln, col) := ⟨_, _, rfl⟩
      rw [hpp] at htk
      have hv := tview_chg HV.out hch
      obtain ⟨bb, ob, rfl, a0, a1, a2, a3, a4⟩ := hv.at hlt
      rw [htk] at a0 a1 a2 a3 a4
      simp only at a0 a1 a2 a3 a4
      have HOF := hid fun u => offset_calls u (by omega) L hL A ln col hA hpp
      have HGP := hid fun u => gap_calls (s := s.extract o A) u (by simp; omega) ((L.drop o).take (A - o)) (hid (by rw [Lib.extract_data, hL.out])) hgap
      have HWD := hid fun u => width_calls u (by omega) L hL A hA hact ln col
      have HTP := hid fun u => tokens_ok (s := s.extract A (A + n)) u (by simp; omega) (L := (L.drop A).take n) (hid (by rw [Lib.extract_data, hL.out]; congr 1; omega)) hP hPl
      have HPG := hid hPg
      have HST := hid hst
      have j1 : (k : Int) < (ts.length : Int) := by omega
      have j2 : decide ((A : Int) < (o : Int)) = false := by simp; omega
      have j3 : decide (A < o) = false := by simp; omega
      clear hpp htk hgap hact hst hP hPg hv HK
      rcases hkk with ⟨rfl, hlast⟩ | ⟨hk7, hnl⟩
      · have q1 : ((k : Int) == (ts.length : Int) - 1) = true := by rw [beq_iff_eq]; omega
        rw [if_pos rfl] at HTP hPl
        go_wp2_with (first
          | (go_at_call 15; refine (HOF.out _).mono ?_; rintro e w2 ⟨rfl, hc2⟩; have b0 := hc2.cell a0 (by simp); have b1 := hc2.cell a1 (by simp); have b2 := hc2.cell a2 (by simp); have b3 := hc2.cell a3 (by simp); have b4 := hc2.cell a4 (by simp))
          | (go_at_call 16; refine (HGP.out _).mono ?_; rintro e w2' ⟨rfl, rfl⟩)
          | (go_at_call 17; refine (HWD.out _).mono ?_; rintro e w3 ⟨rfl, hc3⟩; refine halt (fun X hX => ?_)))
        rw [hX.out]; clear hX
        have c0 := hc3.cell b0 (by simp)
        have c1 := hc3.cell b1 (by simp)
        have c2 := hc3.cell b2 (by simp)
        have hch3 := (hch.trans' hc2).trans' hc3
        clear a0 a1 a2 a3 a4 b0 b1 b2 b3 b4 HOF HGP HWD
        go_wp2_with (go_at_call 11; refine (HTP.out _).mono ?_; rintro e w4 ⟨aoP, capP, rP, rfl, hrP, hfP, hc4⟩; refine halt (fun X hX => ?_))
        rw [hX.out]; clear hX
        have d0 := fun o => ((Chg.refl [] w4).alloc o).cell (hc4.cell c0 (by simp)) (by simp)
        have d1 := fun o => ((Chg.refl [] w4).alloc o).cell (hc4.cell c1 (by simp)) (by simp)
        have d2 := fun o => ((Chg.refl [] w4).alloc o).cell (hc4.cell c2 (by simp)) (by simp)
        have hpv : TView w4 (.slice aoP 1 capP) P := by unfold TView; rw [hPl]; exact hrP.view
        obtain ⟨bP, oP, rfl, p0, p1, p2, _, _⟩ := hpv.at hP0
        rw [HPG.out] at p0 p1 p2
        simp only [Nat.zero_mul, Nat.add_zero] at p0 p1 p2
        have r0 := fun o => ((Chg.refl [] w4).alloc o).cell p0 (by simp)
        have r1' := fun o => ((Chg.refl [] w4).alloc o).cell p1 (by simp)
        have r2 := fun o => ((Chg.refl [] w4).alloc o).cell p2 (by simp)
        have hch4 := (hch3.trans' hc4).alloc (.cells #[.int .i64 0, .int .i64 0, .int .i64 0] 28)
        clear c0 c1 c2 p0 p1 p2 hrP hfP hpv HTP
        go_wp2_with fail
        go_quiet (fail)
        go_wp2
        go_roundw
        case rel => exact ⟨k + 1, A + n, by omega, hAn, by go_num, by go_num, HST, hch4.drewN _⟩
        case measure => simp [intOf]; omega
      · have q1 : ((k : Int) == (ts.length : Int) - 1) = false := by rw [beq_eq_false_iff_ne]; omega
        have q2 : ((kk : Int) == 7) = false := by rw [beq_eq_false_iff_ne]; omega
        rw [if_neg hk7] at HTP hPl
        clear hk7
        go_wp2_with (first
          | (go_at_call 15; refine (HOF.out _).mono ?_; rintro e w2 ⟨rfl, hc2⟩; have b0 := hc2.cell a0 (by simp); have b1 := hc2.cell a1 (by simp); have b2 := hc2.cell a2 (by simp); have b3 := hc2.cell a3 (by simp); have b4 := hc2.cell a4 (by simp))
          | (go_at_call 16; refine (HGP.out _).mono ?_; rintro e w2' ⟨rfl, rfl⟩)
          | (go_at_call 17; refine (HWD.out _).mono ?_; rintro e w3 ⟨rfl, hc3⟩; refine halt (fun X hX => ?_)))
        rw [hX.out]; clear hX
        have c0 := hc3.cell b0 (by simp)
        have c1 := hc3.cell b1 (by simp)
        have c2 := hc3.cell b2 (by simp)
        have hch3 := (hch.trans' hc2).trans' hc3
        clear a0 a1 a2 a3 a4 b0 b1 b2 b3 b4 HOF HGP HWD
        go_wp2_with (go_at_call 11; refine (HTP.out _).mono ?_; rintro e w4 ⟨aoP, capP, rP, rfl, hrP, hfP, hc4⟩; refine halt (fun X hX => ?_))
        rw [hX.out]; clear hX
        have d0 := fun o => ((Chg.refl [] w4).alloc o).cell (hc4.cell c0 (by simp)) (by simp)
        have d1 := fun o => ((Chg.refl [] w4).alloc o).cell (hc4.cell c1 (by simp)) (by simp)
        have d2 := fun o => ((Chg.refl [] w4).alloc o).cell (hc4.cell c2 (by simp)) (by simp)
        have hpv : TView w4 (.slice aoP 2 capP) P := by unfold TView; rw [hPl]; exact hrP.view
        obtain ⟨bP, oP, rfl, p0, p1, p2, _, _⟩ := hpv.at hP0
        rw [HPG.out] at p0 p1 p2
        simp only [Nat.zero_mul, Nat.add_zero] at p0 p1 p2
        have r0 := fun o => ((Chg.refl [] w4).alloc o).cell p0 (by simp)
        have r1' := fun o => ((Chg.refl [] w4).alloc o).cell p1 (by simp)
        have r2 := fun o => ((Chg.refl [] w4).alloc o).cell p2 (by simp)
        have hch4 := (hch3.trans' hc4).alloc (.cells #[.int .i64 0, .int .i64 0, .int .i64 0] 28)
        clear c0 c1 c2 p0 p1 p2 hrP hfP hpv HTP
        go_wp2_with fail
        go_quiet (fail)
        go_wp2
        go_roundw
        case rel => exact ⟨k + 1, A + n, by omega, hAn, by go_num, by go_num, HST, hch4.drewN _⟩
        case measure => simp [intOf]; omega
    · have ho2 : o = s.size := by
        rcases HK.out with ⟨h1, _⟩ | ⟨_, h1⟩
        · omega
        · rw [h1, HLN.out]
      have q3 : ((o : Int) == (s.size : Int)) = true := by rw [beq_iff_eq]; omega
      have q4 : (o == s.size) = true := by rw [beq_iff_eq]; omega
      clear ho2 HK
      go_wp2_with (go_at_call 14; refine (known_calls _).mono ?_; rintro e w5 ⟨rfl, hc5⟩)
      go_ret
      exact ⟨rfl, ((hc1.trans' hch).trans' hc5).to_below⟩

theorem pieces_walk : Calls Try.prog 5 #[.string s] W fun e W' => e = .returned (.bool true) ∧ Below W.heap.size W W' := by
  have e1 := len_of hL
  rcases lexed_or L with ⟨t1, hl1, hs1, hne1, hn1⟩ | hf
  · exact pieces_main W hs L hL hl1 (List.length_pos_iff.2 hne1) (by omega)
  · exact pieces_bad W hs L hL hf
end
end Go.Proofs.Ytppijmpdoejdmaa
