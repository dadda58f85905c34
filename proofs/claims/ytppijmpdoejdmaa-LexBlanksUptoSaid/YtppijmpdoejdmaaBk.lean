/- The law LexJoined: its walk. -/
import Derived.Test.YtppijmpdoejdmaaBj
namespace Go.Proofs.Ytppijmpdoejdmaa
open Go.RowKit Go.AB
set_option linter.unusedSimpArgs false
set_option linter.unusedVariables false
set_option linter.unusedSectionVars false

theorem take_succ_lfs {L : List UInt8} {s : ByteArray} (hL : Hid (s.data.toList = L)) {k : Nat} (hk : k < s.size) : lfs (L.take (k + 1)) = lfs (L.take k) + if s[k].toNat = 10 then 1 else 0 := by
  have h := hL.out
  subst h
  have hlt : k < s.data.toList.length := by rw [Array.length_toList]; exact hk
  rw [take_snoc _ _ hlt]
  unfold lfs
  rw [List.filter_append, List.length_append]
  congr 1
  have e : s.data.toList[k] = s[k] := rfl
  rw [e]
  by_cases hx : s[k].toNat = 10 <;> simp [List.filter_cons, hx]

theorem tview_pre {w : World} {ao : Option Addr} {n cap : Nat} {ts : List Tok} (h : TView w (.slice ao n cap) ts) {m : Nat} (hm : m ≤ ts.length) : TView w (.slice ao m cap) (ts.take m) := by
  obtain ⟨h1, h2, ao', cap', hv, h3, h4, h5, h6⟩ := h
  simp only [Value.slice.injEq] at hv
  obtain ⟨rfl, rfl, rfl⟩ := hv
  have hl : (ts.take m).length = m := by rw [List.length_take]; omega
  have hfl : ((ts.take m).flatMap tokC).length = m * 5 := by rw [tokC_flat, hl]
  refine ⟨by rw [hfl, hl], by rw [hl]; omega, ao, cap, by rw [hl], by rw [hl]; omega, h4, fun e => ⟨by rw [hl]; have := (h5 e).1; omega, (h5 e).2⟩, fun h0 => ?_⟩
  rw [hl] at h0
  obtain ⟨b, off, hb, hc⟩ := h6 (by omega)
  refine ⟨b, off, hb, fun j hj => ?_⟩
  rw [hl] at hj
  rw [hc j (by omega)]
  congr 1
  have e : ts.flatMap tokC = (ts.take m).flatMap tokC ++ (ts.drop m).flatMap tokC := by rw [← List.flatMap_append, List.take_append_drop]
  rw [e]
  simp only [List.getD]
  rw [List.getElem?_append_left (by omega)]
theorem tview_alloc {w : World} {v : Value} {ts : List Tok} (h : TView w v ts) (o : Obj) : TView (w.alloc o) v ts := View.below h (((Chg.refl [] w).alloc o).to_below)
theorem tview_drew {w : World} {v : Value} {ts : List Tok} (h : TView w v ts) (n : Nat) : TView (w.drewN n) v ts := View.below h ((Chg.of_drewN [] w n).to_below)
theorem tview_chg {w w' : World} {v : Value} {ts : List Tok} (h : TView w v ts) (hc : Chg [] w w') : TView w' v ts := View.below h hc.to_below
/-- Same, in a region that only reads. -/
theorem same_quiet (w : World) (va vb : Value) (ta tb : List Tok) (p : Bool) (ha : TView w va ta) (hb : TView w vb tb) (hl : ta.length = tb.length) (hn : ta.length ≤ 16777216) (hs : ∀ i (h1 : i < ta.length) (h2 : i < tb.length), alike p ta[i] tb[i]) (n : Nat) :
    Calls Try.prog 12 #[va, vb, .bool p] (w.drewN n) fun e w' => e = .returned (.bool true) ∧ ∃ m, w' = w.drewN m :=
  (same_calls (w.drewN n) va vb ta tb p (tview_drew ha n) (tview_drew hb n) hl hn hs).mono fun e w' ⟨h1, m, h2⟩ => ⟨h1, n + m, by rw [h2]; simp [World.drewN, Nat.add_assoc]⟩
theorem slice_cap {w : World} {k n cap : Nat} {ao : Option Addr} {xs : List Value} (h : View w k (.slice ao n cap) n xs) : n ≤ cap := by
  obtain ⟨_, _, _, _, hv, h3, _⟩ := h
  simp only [Value.slice.injEq] at hv
  obtain ⟨_, _, rfl⟩ := hv
  exact h3

section
variable {s1 s2 : ByteArray} (W : World) (h1 : s1.size ≤ 1048576) (h2 : s2.size ≤ 1048576) (L1 L2 : List UInt8) (hL1 : Hid (s1.data.toList = L1)) (hL2 : Hid (s2.data.toList = L2))
include h1 h2 hL1 hL2

set_option maxHeartbeats 4000000 in
set_option maxRecDepth 100000 in
theorem joined_bad1 (hf : (scanD L1 1 1).2.1 ≠ 0) : Calls Try.prog 7 #[.string s1, .string s2] W fun e W' => e = .returned (.bool true) ∧ Below W.heap.size W W' := by
  have HT1 := hid (tokens_bad W h1 hL1 hf)
  have HT2 := hid fun w => tokens_calls w h2 L2 hL2
  clear hf
  go_enter Try.func7, Try.ntmps7
  go_wp2_with (go_at_call 11; refine HT1.out.mono ?_; rintro e w1 ⟨ao1, cap1, f0, f1, f2, g1, g2, rfl, hc1⟩; refine halt (fun X hX => ?_))
  rw [hX.out]; clear hX
  go_wp2_with (go_at_call 11; refine (HT2.out _).mono ?_; rintro e w2 ⟨ts2, ao2, cap2, r2, rfl, hr2, hf2, hc2, HL2⟩; refine halt (fun X hX => ?_))
  rw [hX.out]; clear hX
  have y0 := fun o => ((Chg.refl [] w2).alloc o).cell (hc2.cell (p := ⟨w1.heap.size, 0, none⟩) (v := .int .i64 f0) (by simp) (by simp)) (by simp)
  have hC := hc1.trans' (((Chg.refl [] w1).alloc _).trans' hc2)
  go_wp2_with (go_at_call 14; refine (known_calls _).mono ?_; rintro e w3 ⟨rfl, hc3⟩)
  go_ret
  exact ⟨rfl, (hC.trans' (((Chg.refl [] w2).alloc _).trans' hc3)).to_below⟩

set_option maxHeartbeats 4000000 in
set_option maxRecDepth 100000 in
theorem joined_bad2 {t1 : List Tok} (hf1 : scanD L1 1 1 = (t1, (0, 0, 0))) (hf : (scanD L2 1 1).2.1 ≠ 0) : Calls Try.prog 7 #[.string s1, .string s2] W fun e W' => e = .returned (.bool true) ∧ Below W.heap.size W W' := by
  have HT1 := hid (tokens_ok W h1 hL1 hf1 rfl)
  have HT2 := hid fun w => tokens_bad w h2 hL2 hf
  clear hf hf1
  go_enter Try.func7, Try.ntmps7
  go_wp2_with (go_at_call 11; refine HT1.out.mono ?_; rintro e w1 ⟨ao1, cap1, r1, rfl, hr1, hf1, hc1⟩; refine halt (fun X hX => ?_))
  rw [hX.out]; clear hX
  go_wp2_with (go_at_call 11; refine (HT2.out _).mono ?_; rintro e w2 ⟨ao2, cap2, f0, f1, f2, g1, g2, rfl, hc2⟩; refine halt (fun X hX => ?_))
  rw [hX.out]; clear hX
  have y0 := fun o => ((Chg.refl [] w2).alloc o).cell (hc2.cell (p := ⟨w1.heap.size, 0, none⟩) (v := .int .i64 0) (by simp) (by simp)) (by simp)
  have hC := hc1.trans' (((Chg.refl [] w1).alloc _).trans' hc2)
  go_wp2_with (go_at_call 14; refine (known_calls _).mono ?_; rintro e w3 ⟨rfl, hc3⟩)
  go_ret
  exact ⟨rfl, (hC.trans' (((Chg.refl [] w2).alloc _).trans' hc3)).to_below⟩

set_option maxHeartbeats 4000000 in
set_option maxRecDepth 100000 in
theorem joined_long {t1 t2 : List Tok} (hf1 : scanD L1 1 1 = (t1, (0, 0, 0))) (hf2 : scanD L2 1 1 = (t2, (0, 0, 0))) (hlong : 1048576 < s1.size + s2.size + 1) : Calls Try.prog 7 #[.string s1, .string s2] W fun e W' => e = .returned (.bool true) ∧ Below W.heap.size W W' := by
  have HT1 := hid (tokens_ok W h1 hL1 hf1 rfl)
  have HT2 := hid fun w => tokens_ok w h2 hL2 hf2 rfl
  clear hf2 hf1
  go_enter Try.func7, Try.ntmps7
  go_wp2_with (go_at_call 11; refine HT1.out.mono ?_; rintro e w1 ⟨ao1, cap1, r1, rfl, hr1, hf1, hc1⟩; refine halt (fun X hX => ?_))
  rw [hX.out]; clear hX
  go_wp2_with (go_at_call 11; refine (HT2.out _).mono ?_; rintro e w2 ⟨ao2, cap2, r2, rfl, hr2, hf2, hc2⟩; refine halt (fun X hX => ?_))
  rw [hX.out]; clear hX
  have y0 := fun o => ((Chg.refl [] w2).alloc o).cell (hc2.cell (p := ⟨w1.heap.size, 0, none⟩) (v := .int .i64 0) (by simp) (by simp)) (by simp)
  have hC := hc1.trans' (((Chg.refl [] w1).alloc _).trans' hc2)
  have g3 : decide ((1048576 : Int) < (s1.size : Int) + (s2.size : Int) + 1) = true := by simp; omega
  go_wp2_with (go_at_call 14; refine (known_calls _).mono ?_; rintro e w3 ⟨rfl, hc3⟩)
  go_ret
  exact ⟨rfl, (hC.trans' (((Chg.refl [] w2).alloc _).trans' hc3)).to_below⟩

set_option maxHeartbeats 4000000 in
set_option maxRecDepth 100000 in
theorem joined_main {t1 t2 t0 : List Tok} {x : Tok} (hx : t1 = t0 ++ [x]) (hf1 : scanD L1 1 1 = (t1, (0, 0, 0))) (hf2 : scanD L2 1 1 = (t2, (0, 0, 0)))
    (hf3 : scanD (L1 ++ 10 :: L2) 1 1 = (t0 ++ { x with kind := 6 } :: t2.map (Tok.down (lfs L1 + 1)), (0, 0, 0))) (hn1 : t0.length ≤ 1048577) (hn2 : t2.length ≤ 1048577) (hlong : s1.size + s2.size + 1 ≤ 1048576) (hln : ∀ t ∈ t2, t.line ≤ 1048577) :
    Calls Try.prog 7 #[.string s1, .string s2] W fun e W' => e = .returned (.bool true) ∧ Below W.heap.size W W' := by
  have HT1 := hid (tokens_ok W h1 hL1 hf1 (n := t0.length + 1) (by rw [hx]; simp))
  have HT2 := hid fun w => tokens_ok w h2 hL2 hf2 rfl
  have hL3 : Hid (((s1 ++ ⟨#[10]⟩) ++ s2).data.toList = L1 ++ 10 :: L2) := hid (by rw [← hL1.out, ← hL2.out]; simp)
  have HT3 := hid fun w => tokens_ok (s := ((s1 ++ ⟨#[10]⟩) ++ s2)) w (by simp only [ByteArray.size_append]; show s1.size + 1 + s2.size ≤ _; omega) hL3 hf3 (n := t0.length + 1 + t2.length) (by simp; omega)
  have HX := hid hx
  have hlfs : lfs L1 ≤ s1.size := by have := List.length_filter_le (fun c : UInt8 => c.toNat == 10) L1; unfold lfs; rw [len_of hL1] at this; exact this
  clear hf2 hf1 hf3 hL3 hx
  go_enter Try.func7, Try.ntmps7
  go_wp2_with (go_at_call 11; refine HT1.out.mono ?_; rintro e w1 ⟨ao1, cap1, r1, rfl, hr1, hf1, hc1⟩; refine halt (fun X hX => ?_))
  rw [hX.out]; clear hX
  go_wp2_with (go_at_call 11; refine (HT2.out _).mono ?_; rintro e w2 ⟨ao2, cap2, r2, rfl, hr2, hf2, hc2⟩; refine halt (fun X hX => ?_))
  rw [hX.out]; clear hX
  have y0 := fun o => ((Chg.refl [] w2).alloc o).cell (hc2.cell (p := ⟨w1.heap.size, 0, none⟩) (v := .int .i64 0) (by simp) (by simp)) (by simp)
  have hC := hc1.trans' (((Chg.refl [] w1).alloc _).trans' hc2)
  have hr1' := hid <| hr1.keep (((Chg.refl [] w1).alloc (.cells #[.int .i64 0, .int .i64 0, .int .i64 0] 28)).trans' hc2) (by simp)
  have g3 : decide ((1048576 : Int) < (s1.size : Int) + (s2.size : Int) + 1) = false := by simp; omega
  have g4 : (((t0.length : Int) + 1) == 0) = false := by rw [beq_eq_false_iff_ne]; omega
  go_wp2_with fail
  go_loop [9, 10] (fun l i => ∃ k : Nat, k ≤ s1.size ∧ i = .int .i64 k ∧ l = .int .i64 (1 + lfs (L1.take k) : Nat)) (fun _ i => s1.size - (intOf i).toNat)
  case atStart => exact ⟨0, Nat.zero_le _, rfl, rfl⟩
  case round =>
    obtain ⟨k, hk, rfl, rfl⟩ := hrel
    by_cases hlt : k < s1.size
    · have hs := take_succ_lfs hL1 hlt
      have hle : lfs (L1.take k) ≤ k := by have := List.length_filter_le (fun c : UInt8 => c.toNat == 10) (L1.take k); unfold lfs; rw [List.length_take] at this; omega
      obtain ⟨m, hm⟩ : ∃ m, lfs (L1.take k) = m := ⟨_, rfl⟩
      rw [hm] at hs hle ⊢
      have HS := hid hs
      clear hs hm
      by_cases h10 : s1[k].toNat = 10
      · have e1 : ((s1[k].toNat : Int) == 10) = true := by simp; omega
        have HH := hid h10
        clear h10
        go_wp2
        go_round
        case rel => exact ⟨k + 1, by omega, by go_num, by rw [HS.out, if_pos HH.out]; go_num⟩
        case measure => simp [intOf]; omega
      · have e1 : ((s1[k].toNat : Int) == 10) = false := by simp; omega
        have HH := hid h10
        clear h10
        go_wp2
        go_round
        case rel => exact ⟨k + 1, by omega, by go_num, by rw [HS.out, if_neg HH.out]; rfl⟩
        case measure => simp [intOf]; omega
    · have hk2 : L1.take k = L1 := List.take_of_length_le (by rw [len_of hL1]; omega)
      rw [hk2]
      clear hk2
      go_wp2_with (go_at_call 11; refine (HT3.out _).mono ?_; rintro e w3 ⟨ao3, cap3, r3, rfl, hr3, hf3, hc3⟩; refine halt (fun X hX => ?_))
      rw [hX.out]; clear hX
      have hva : TView w3 (.slice ao1 (t0.length + 1) cap1) (t0 ++ [x]) := by
        have := (hr1'.out.keep (((Chg.refl [] w2).alloc (.cells #[.int .i64 0, .int .i64 0, .int .i64 0] 28)).trans' hc3) (by simp)).view
        rw [HX.out] at this
        unfold TView
        simpa using this
      have hvl : TView w3 (.slice ao3 (t0.length + 1 + t2.length) cap3) (t0 ++ { x with kind := 6 } :: t2.map (Tok.down (lfs L1 + 1))) := by
        have := hr3.view
        unfold TView
        rw [show (t0 ++ { x with kind := 6 } :: t2.map (Tok.down (lfs L1 + 1))).length = t0.length + 1 + t2.length from by simp; omega]
        exact this
      have hvb : TView w3 (.slice ao2 t2.length cap2) t2 := (hr2.keep (((Chg.refl [] w2).alloc (.cells #[.int .i64 0, .int .i64 0, .int .i64 0] 28)).trans' hc3) (by simp)).view
      have hsm := fun n => same_quiet (w3.alloc (.cells #[.int .i64 0, .int .i64 0, .int .i64 0] 28)) (.slice ao3 t0.length cap3) (.slice ao1 t0.length cap1) t0 t0 true
        (by have := tview_pre (tview_alloc hvl (.cells #[.int .i64 0, .int .i64 0, .int .i64 0] 28)) (m := t0.length) (by simp); rwa [List.take_left] at this)
        (by have := tview_pre (tview_alloc hva (.cells #[.int .i64 0, .int .i64 0, .int .i64 0] 28)) (m := t0.length) (by simp); rwa [List.take_left] at this)
        rfl (by omega) (fun i _ _ => ⟨rfl, rfl, rfl, fun _ => ⟨rfl, rfl⟩⟩) n
      have hla := (tview_alloc hva (.cells #[.int .i64 0, .int .i64 0, .int .i64 0] 28)).at (i := t0.length) (by simp)
      have hll := (tview_alloc hvl (.cells #[.int .i64 0, .int .i64 0, .int .i64 0] 28)).at (i := t0.length) (by simp)
      have ex : (t0 ++ [x])[t0.length]'(by simp) = x := by simp
      have el : (t0 ++ { x with kind := 6 } :: t2.map (Tok.down (lfs L1 + 1)))[t0.length]'(by simp) = { x with kind := 6 } := by simp
      rw [ex] at hla
      rw [el] at hll
      obtain ⟨ba, oa, rfl, a0, a1, a2, a3, a4⟩ := hla
      obtain ⟨bl, ol, rfl, l0, l1, l2, l3, l4⟩ := hll
      have HVA := hid hva
      have HVL := hid hvl
      have HVB := hid hvb
      have k1 : (t0.length : Int) ≤ (cap1 : Int) := by have := slice_cap hr1.view; omega
      have k3 : (t0.length : Int) ≤ (cap3 : Int) := by have := slice_cap hr3.view; omega
      have k4 : (t0.length : Int) < (t0.length : Int) + 1 := by omega
      have k5 : (t0.length : Int) < (t0.length : Int) + 1 + (t2.length : Int) := by omega
      have HSM := hid hsm
      have hCm : Chg [] W (w3.alloc (.cells #[.int .i64 0, .int .i64 0, .int .i64 0] 28)) := (hC.trans' (((Chg.refl [] w2).alloc (.cells #[.int .i64 0, .int .i64 0, .int .i64 0] 28)).trans' hc3)).alloc _
      have HLn := hid hln
      clear ex el hva hvl hvb hsm a0 a1 a2 l1 l2 y0 g3 hr1 hr2 hr3 hln
      go_wp2_with fail
      go_quiet ((go_at_call 12; exact HSM.out _))
      clear a3 a4 l0 l3 l4
      have hCq := hCm.drewN nq
      have HCA := hid (((Chg.refl [] w3).alloc (.cells #[.int .i64 0, .int .i64 0, .int .i64 0] 28)).drewN nq)
      go_wp2_with fail
      go_loopw [14] (fun i wr => ∃ k : Nat, k ≤ t2.length ∧ i = .int .i64 k ∧ Chg [] W wr ∧ Chg [] w3 wr) (fun i _ => t2.length - (intOf i).toNat)
      case atStart => exact ⟨0, Nat.zero_le _, rfl, hCq, HCA.out⟩
      case round =>
        obtain ⟨k, hk, rfl, hcw, hcr⟩ := hrel
        by_cases hlt : k < t2.length
        · have hlb := (tview_chg HVB.out hcr).at hlt
          obtain ⟨bb, ob, rfl, b0, b1, b2, b3, b4⟩ := hlb
          have hll := (tview_chg HVL.out hcr).at (i := t0.length + 1 + k) (by simp; omega)
          have el : (t0 ++ { x with kind := 6 } :: t2.map (Tok.down (lfs L1 + 1)))[t0.length + 1 + k]'(by simp; omega) = Tok.down (lfs L1 + 1) t2[k] := by
            rw [List.getElem_append_right (by omega)]
            simp only [show t0.length + 1 + k - t0.length = k + 1 from by omega, List.getElem_cons_succ, List.getElem_map]
          rw [el] at hll
          obtain ⟨bl', ol', hbo, l0, l1, l2, l3, l4⟩ := hll
          simp only [Option.some.injEq, Addr.mk.injEq, and_true] at hbo
          obtain ⟨rfl, rfl⟩ := hbo
          have hle := HLn.out _ (List.getElem_mem hlt)
          simp only [Tok.down] at l0 l1 l2 l3 l4
          obtain ⟨y, hy⟩ : ∃ y, t2[k] = y := ⟨_, rfl⟩
          rw [hy] at b0 b1 b2 b3 b4 l0 l1 l2 l3 l4 hle
          have q1 := fun o => ((Chg.refl [] wr).alloc o).cell l0 (by simp)
          have q2 := fun o => ((Chg.refl [] wr).alloc o).cell l1 (by simp)
          have q3 := fun o => ((Chg.refl [] wr).alloc o).cell l2 (by simp)
          have q4 := fun o => ((Chg.refl [] wr).alloc o).cell l3 (by simp)
          have q5 := fun o => ((Chg.refl [] wr).alloc o).cell l4 (by simp)
          have j1 : (k : Int) < (t2.length : Int) := by omega
          have j2 : (t0.length : Int) + 1 + (k : Int) < (t0.length : Int) + 1 + (t2.length : Int) := by omega
          have j3 : (0 : Int) ≤ (t0.length : Int) + 1 + (k : Int) := by omega
          clear hy el l0 l1 l2 l3 l4 k1 k3 k4 k5 g4
          go_wp2
          go_quiet (fail)
          go_wp2
          go_roundw
          case rel => exact ⟨k + 1, by omega, by go_num, (hcw.alloc _).drewN _, (hcr.alloc _).drewN _⟩
          case measure => simp [intOf]; omega
        · have hbl : Below W.heap.size W wr := hcw.to_below
          go_wp2_with (go_at_call 14; refine (known_calls _).mono ?_; rintro e w5 ⟨rfl, hc5⟩)
          go_ret
          exact ⟨rfl, (hcw.trans' hc5).to_below⟩

theorem joined_walk : Calls Try.prog 7 #[.string s1, .string s2] W fun e W' => e = .returned (.bool true) ∧ Below W.heap.size W W' := by
  have e1 := len_of hL1
  have e2 := len_of hL2
  rcases lexed_or L1 with ⟨t1, hl1, hs1, hne1, hn1⟩ | hf
  · rcases lexed_or L2 with ⟨t2, hl2, hs2, hne2, hn2⟩ | hf
    · by_cases hlong : 1048576 < s1.size + s2.size + 1
      · exact joined_long W h1 h2 L1 L2 hL1 hL2 hs1 hs2 hlong
      · obtain ⟨t0, x, hx, _, _, _, hs3⟩ := joined_tokens hl1 hl2
        have : t1.length = t0.length + 1 := by rw [hx]; simp
        exact joined_main W h1 h2 L1 L2 hL1 hL2 hx hs1 hs2 hs3 (by omega) (by omega) (by omega) (fun t ht => by have := hl2.line t ht; omega)
    · exact joined_bad2 W h1 h2 L1 L2 hL1 hL2 hs1 hf
  · exact joined_bad1 W h1 h2 L1 L2 hL1 hL2 hf
end
end Go.Proofs.Ytppijmpdoejdmaa
