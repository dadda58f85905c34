/- The law LexBlanks: its walk. -/
import Derived.Test.YtppijmpdoejdmaaBo
import Derived.Test.YtppijmpdoejdmaaBins
import Derived.Test.YtppijmpdoejdmaaLs
import Derived.Deep.DeepCutAuto
import Derived.Deep.RegionWith
namespace Go.Proofs.Ytppijmpdoejdmaa
open Go.RowKit Go.AB
set_option linter.unusedSimpArgs false
set_option linter.unusedVariables false
set_option linter.unusedSectionVars false

theorem Lexed.colb {d : List UInt8} {p : Nat × Nat} {ts : List Tok} (h : Lexed d p ts) : 1 ≤ p.2 → ∀ t ∈ ts, t.col ≤ p.2 + d.length := by
  have key : ∀ (d : List UInt8) (n : Nat) (p : Nat × Nat), 1 ≤ p.2 → 1 ≤ (pos p (d.take n)).2 ∧ (pos p (d.take n)).2 + (d.drop n).length ≤ p.2 + d.length := fun d n p h1 => by
    have h2 := pos_bound (d.take n) p h1
    rw [List.length_take] at h2
    rw [List.length_drop]
    omega
  induction h with
  | stop p => intro _ t ht; rw [List.mem_singleton.1 ht]; simp
  | @pass d n p ts h _ ih => intro h1 t ht; have h2 := key d n p h1; have := ih h2.1 t ht; omega
  | @tok d k t v n p ts h hk _ ih =>
    intro h1 t ht
    rcases List.mem_cons.1 ht with rfl | ht
    · simp
    · have h2 := key d n p h1; have := ih h2.1 t ht; omega
theorem right_alike (ln m : Nat) (t : Tok) : (Tok.right ln m t).kind = t.kind ∧ (Tok.right ln m t).text = t.text ∧ (Tok.right ln m t).num = t.num ∧ (Tok.right ln m t).line = t.line := by
  unfold Tok.right; split <;> exact ⟨rfl, rfl, rfl, rfl⟩
/-- The tokens behind an insertion. -/
def moved (ts : List Tok) (k ln m : Nat) : List Tok := ts.take k ++ (ts.drop k).map (Tok.right ln m)
theorem moved_length (ts : List Tok) (k ln m : Nat) : (moved ts k ln m).length = ts.length := by simp [moved]; omega
theorem moved_get (ts : List Tok) (k ln m i : Nat) (hi : i < ts.length) : (moved ts k ln m)[i]'(by rw [moved_length]; exact hi) = if i < k then ts[i] else Tok.right ln m ts[i] := by
  unfold moved
  by_cases h : i < k
  · rw [if_pos h, List.getElem_append_left (by rw [List.length_take]; omega), List.getElem_take]
  · rw [if_neg h, List.getElem_append_right (by rw [List.length_take]; omega)]
    simp only [List.getElem_map, List.getElem_drop, List.length_take]
    congr 2
    omega
theorem ba_snoc {rm : ByteArray} {R : List UInt8} (hR : Hid (rm.data.toList = R)) {j : Nat} (hj : j < rm.size) : (rm.extract j (j + 1)).data.toList = [rm[j]] := by
  rw [Lib.extract_data, hR.out, show j + 1 - j = 1 from by omega, drop_cons_of hR hj]
  rfl

theorem ext_pre {L : List UInt8} {s : ByteArray} (hL : Hid (s.data.toList = L)) (g : Nat) : (s.extract 0 g).data.toList = L.take g := by
  rw [Lib.extract_data, hL.out, List.drop_zero, Nat.sub_zero]
theorem ext_suf {L : List UInt8} {s : ByteArray} (hL : Hid (s.data.toList = L)) (g : Nat) : (s.extract g s.size).data.toList = L.drop g := by
  rw [Lib.extract_data, hL.out]
  exact List.take_of_length_le (by rw [List.length_drop, len_of hL]; omega)

def PutRel (kd : Nat) (p : Value) : Prop := ∃ (pb : ByteArray) (put : List UInt8), p = .string pb ∧ pb.size ≤ 1048580 ∧ pb.data.toList = put ∧ PutOk kd put
def LexedRel (w1 : World) (n : Nat) (us : List Tok) (v p : Value) (wx : World) : Prop := ∃ ao cap c, v = .slice ao n cap ∧ p = .pointer (some ⟨c, 0, none⟩) ∧ wx.cell? ⟨c, 0, none⟩ = some (.int .i64 0) ∧ TView wx (.slice ao n cap) us ∧ Chg [] w1 wx

section
variable {s rm : ByteArray} (W : World) (hs : s.size ≤ 1048576) (hrm : rm.size ≤ 1048576) (L R : List UInt8) (hL : Hid (s.data.toList = L)) (hR : Hid (rm.data.toList = R)) (at_ : Int) (hat : -9223372036854775808 ≤ at_ ∧ at_ ≤ 9223372036854775807)
include hs hrm hL hR

set_option maxHeartbeats 4000000 in
set_option maxRecDepth 100000 in
theorem blanks_bad (hf : (scanD L 1 1).2.1 ≠ 0) : Calls Try.prog 6 #[.string s, .int .i64 at_, .string rm] W fun e W' => e = .returned (.bool true) ∧ Below W.heap.size W W' := by
  have HT1 := hid (tokens_bad W hs hL hf)
  clear hf
  go_enter Try.func6, Try.ntmps6
  go_wp2_with (go_at_call 11; refine HT1.out.mono ?_; rintro e w1 ⟨ao1, cap1, f0, f1, f2, g1, g2, rfl, hc1⟩; refine halt (fun X hX => ?_))
  rw [hX.out]; clear hX
  go_wp2_with (go_at_call 14; refine (known_calls _).mono ?_; rintro e w3 ⟨rfl, hc3⟩)
  go_ret
  exact ⟨rfl, (hc1.trans' (((Chg.refl [] w1).alloc _).trans' hc3)).to_below⟩

set_option maxHeartbeats 8000000 in
set_option maxRecDepth 100000 in
theorem blanks_main {ts : List Tok} (hlx : Lexed L (1, 1) ts) (hn0 : 0 < ts.length) (hn : ts.length ≤ 1048577) : Calls Try.prog 6 #[.string s, .int .i64 at_, .string rm] W fun e W' => e = .returned (.bool true) ∧ Below W.heap.size W W' := by
  have HT1 := hid (tokens_ok W hs hL hlx.scan rfl)
  have HLN := hid (len_of hL)
  have g4 : ((ts.length : Int) == 0) = false := by rw [beq_eq_false_iff_ne]; omega
  have g5 : (ts.length == 0) = false := by rw [beq_eq_false_iff_ne]; omega
  have hne : ts ≠ [] := by intro e; rw [e] at hn0; simp at hn0
  have HLX := hid hlx
  have hmod1 := Int.tmod_lt_of_pos at_ (show (0 : Int) < ts.length by omega)
  have hmod2 := Int.lt_tmod_of_pos at_ (show (0 : Int) < ts.length by omega)
  have hidx : ∃ k : Nat, k < ts.length ∧ (at_.tmod ts.length = (k : Int) - ts.length ∨ at_.tmod ts.length = k) := by
    by_cases hs : at_.tmod ts.length < 0
    · exact ⟨(at_.tmod ts.length + ts.length).toNat, by omega, .inl (by omega)⟩
    · exact ⟨(at_.tmod ts.length).toNat, by omega, .inr (by omega)⟩
  obtain ⟨k, hk, hq⟩ := hidx
  obtain ⟨g, hg, hpos, _, _, hput⟩ := hlx.insert k hk
  rw [HLN.out] at hg
  have hcol := Lexed.colb hlx (by simp)
  have HC := hid hcol
  have HPUT := hid hput
  have HOF := hid fun u => offset_calls u (by omega) L hL g ts[k].line ts[k].col hg hpos
  clear hmod1 hmod2 hlx hput hpos hcol
  go_enter Try.func6, Try.ntmps6
  go_wp2_with (go_at_call 11; refine HT1.out.mono ?_; rintro e w1 ⟨ao1, cap1, r1, rfl, hr1, hf1, hc1⟩; refine halt (fun X hX => ?_))
  rw [hX.out]; clear hX
  have HV : Hid (TView w1 (.slice ao1 ts.length cap1) ts) := hid hr1.view
  have hCa : ∀ o, Chg [] w1 (w1.alloc o) := fun o => (Chg.refl [] w1).alloc o
  obtain ⟨bb, ob, rfl, a0, a1, a2, a3, a4⟩ := hr1.view |> fun (h : TView w1 (.slice ao1 ts.length cap1) ts) => h.at hk
  have b0 := fun o => (hCa o).cell a0 (by simp)
  have b3 := fun o => (hCa o).cell a3 (by simp)
  have b4 := fun o => (hCa o).cell a4 (by simp)
  obtain ⟨x, hx⟩ : ∃ x, ts[k] = x := ⟨_, rfl⟩
  rw [hx] at b0 b3 b4 a0 HOF HPUT
  have HX := hid hx
  have j1 : (k : Int) < (ts.length : Int) := by omega
  clear hr1 hf1 a1 a2 a3 a4 hx
  go_upto_if 41 with fail
  go_cut [9] (fun v wx => v = .int .i64 k ∧ wx = w1.alloc (.cells #[.int .i64 0, .int .i64 0, .int .i64 0] 28))
  case first =>
    rcases hq with hq | hq
    all_goals (go_wp2; go_meet; exact ⟨(by first | rfl | rw [hq]), rfl⟩)
  case rest =>
    obtain ⟨rfl, rfl⟩ := hcut
    clear hq
    go_upto_region 9 with (go_at_call 15; refine (HOF.out _).mono ?_; rintro e w2 ⟨rfl, hc2⟩; have c0 := hc2.cell (b0 _) (by simp))
    have hch2 := (hCa _).trans' hc2
    have hpk : (((x.kind : Int) == 6) = true ∧ ((x.kind : Int) == 7) = false ∧ (x.kind = 6 ∨ x.kind = 7)) ∨ (((x.kind : Int) == 6) = false ∧ ((x.kind : Int) == 7) = true ∧ (x.kind = 6 ∨ x.kind = 7)) ∨ (((x.kind : Int) == 6) = false ∧ ((x.kind : Int) == 7) = false ∧ ¬ (x.kind = 6 ∨ x.kind = 7)) := by
      by_cases h6 : x.kind = 6
      · rw [h6]; exact .inl ⟨rfl, rfl, .inl rfl⟩
      · by_cases h7 : x.kind = 7
        · rw [h7]; exact .inr (.inl ⟨rfl, rfl, .inr rfl⟩)
        · exact .inr (.inr ⟨by rw [beq_eq_false_iff_ne]; omega, by rw [beq_eq_false_iff_ne]; omega, by omega⟩)
    obtain ⟨bk, hbk⟩ : ∃ bk : Bool, bk = decide (x.kind = 6 ∨ x.kind = 7) := ⟨_, rfl⟩
    have HBK := hid hbk
    clear hbk
    go_cut [66] (fun v wx => v = .bool bk ∧ w2 = wx)
    case first =>
      rcases hpk with ⟨q1, q2, q3⟩ | ⟨q1, q2, q3⟩ | ⟨q1, q2, q3⟩
      · go_wp2_with fail
        go_meet
        exact ⟨by rw [HBK.out, decide_eq_true q3], rfl⟩
      · go_wp2_with fail
        go_meet
        exact ⟨by rw [HBK.out, decide_eq_true q3], rfl⟩
      · go_wp2_with fail
        go_meet
        exact ⟨by rw [HBK.out, decide_eq_false q3], rfl⟩
    case rest =>
    obtain ⟨rfl, rfl⟩ := hcut
    clear hpk
    go_upto_if 66 with fail
    go_cut [11, 12] (fun p i wx => PutRel x.kind p ∧ w2 = wx)
    case first =>
      rcases Bool.eq_false_or_eq_true bk with hbk | hbk
      rotate_left 1
      · subst hbk
        go_wp2
        go_meet
        exact ⟨⟨_, _, rfl, by show (3 : Nat) ≤ _; omega, rfl, by simp, by decide, .inl (by decide)⟩, rfl⟩
      · subst hbk
        have Q3 : Hid (x.kind = 6 ∨ x.kind = 7) := hid (of_decide_eq_true HBK.out.symm)
        go_wp2_with fail
        go_loop [11, 12] (fun p i => ∃ (j : Nat) (pb : ByteArray), j ≤ rm.size ∧ i = .int .i64 j ∧ p = .string pb ∧ pb.size ≤ j + 2 ∧ Hid (pb.data.toList = 9 :: 59 :: (R.take j).filter notLf)) (fun _ i => rm.size - (intOf i).toNat)
        case atStart => exact ⟨0, _, Nat.zero_le _, rfl, rfl, by show (2 : Nat) ≤ 2; omega, hid rfl⟩
        case round =>
          obtain ⟨j, pb, hj, rfl, rfl, hpz, HPB⟩ := hrel
          by_cases hlt : j < rm.size
          · have he := ba_snoc hR hlt
            have hjR : j < R.length := by rw [len_of hR]; exact hlt
            have hsn := take_snoc R j hjR
            rw [get_eq hR hlt hjR] at hsn
            have HSN := hid hsn
            have HEX := hid he
            have hez : (rm.extract j (j + 1)).size = 1 := by simp; omega
            have HEZ := hid hez
            clear he hsn hez
            by_cases h10 : rm[j].toNat = 10
            · have e1 : ((rm[j].toNat : Int) != 10) = false := by simp; omega
              have e2 : ((rm[j].toNat : Int) == 10) = true := by simp; omega
              have HH := hid (show [rm[j]].filter notLf = [] by simp [notLf, h10])
              clear h10
              go_wp2
              go_round
              case rel => exact ⟨j + 1, pb, by omega, by go_num, rfl, by omega, hid (by rw [HPB.out, HSN.out, List.filter_append, HH.out, List.append_nil])⟩
              case measure => simp [intOf]; omega
            · have e1 : ((rm[j].toNat : Int) != 10) = true := by simp; omega
              have e2 : ((rm[j].toNat : Int) == 10) = false := by simp; omega
              have HH := hid (show [rm[j]].filter notLf = [rm[j]] by simp [notLf, h10])
              clear h10
              go_wp2
              go_round
              case rel => exact ⟨j + 1, pb ++ rm.extract j (j + 1), by omega, by go_num, rfl, by rw [ByteArray.size_append, HEZ.out]; omega, hid (by rw [ByteArray.data_append, Array.toList_append, HPB.out, HEX.out, HSN.out, List.filter_append, HH.out]; rfl)⟩
              case measure => simp [intOf]; omega
          · have HPO : Hid (PutOk x.kind (9 :: 59 :: (R.take j).filter notLf)) := hid (by
              refine ⟨by simp, fun c hc => ?_, .inr ⟨Q3.out, _, rfl⟩⟩
              simp only [List.mem_cons, List.mem_filter] at hc
              rcases hc with rfl | rfl | ⟨_, hc⟩
              · decide
              · decide
              · simpa [notLf] using hc)
            go_wp2_with fail
            go_meet
            exact ⟨⟨pb, _, rfl, by omega, HPB.out, HPO.out⟩, rfl⟩
    case rest =>
      obtain ⟨⟨pb, put, rfl, hpz, hpb, hpo⟩, rfl⟩ := hcut
      have HPB := hid hpb
      have HPS := hid (len_of HPB)
      have HSC := hid (HPUT.out put hpo).scan
      clear hpb hpo
      by_cases hlong : 1048576 < s.size + pb.size
      · have d1 : decide ((1048576 : Int) < (s.size : Int) + (pb.size : Int)) = true := by simp; omega
        go_wp2_with (go_at_call 14; refine (known_calls _).mono ?_; rintro e w5 ⟨rfl, hc5⟩)
        go_ret
        exact ⟨rfl, ((hc1.trans' hch2).trans' hc5).to_below⟩
      · have d1 : decide ((1048576 : Int) < (s.size : Int) + (pb.size : Int)) = false := by simp; omega
        have HT3 := hid fun u => tokens_ok (s := s.extract 0 g ++ pb ++ s.extract g s.size) u (by simp only [ByteArray.size_append, ByteArray.size_extract]; omega) (L := L.take g ++ put ++ L.drop g) (hid (by rw [ByteArray.data_append, ByteArray.data_append, Array.toList_append, Array.toList_append, ext_pre hL, ext_suf hL, HPB.out])) (ts := moved ts k x.line put.length) HSC.out (n := ts.length) (moved_length _ _ _ _)
        have z1 : (0 : Int) ≤ (g : Int) := by omega
        have z2 : (g : Int) ≤ (s.size : Int) := by omega
        go_upto_region 18 with fail
        go_cut [13, 14] (fun v p wx => LexedRel w2 ts.length (moved ts k x.line put.length) v p wx)
        case first =>
          go_region_with (go_at_call 11; refine (HT3.out _).mono ?_; rintro e w4 ⟨ao3, cap3, r3, rfl, hr3, hf3, hc4⟩; (try have yb : w4.heap[w2.heap.size]? = some (.cells #[.int .i64 0, .int .i64 0, .int .i64 0] 28 (0, 0)) := hc4.heap (heap_alloc_new w2 _) (by simp)); (try have y0 : w4.cell? ⟨w2.heap.size, 0, none⟩ = some (.int .i64 0) := (blk_cell yb 0).trans rfl); (try have y1 : w4.cell? ⟨w2.heap.size, 1, none⟩ = some (.int .i64 0) := (blk_cell yb 1).trans rfl); (try have y2 : w4.cell? ⟨w2.heap.size, 2, none⟩ = some (.int .i64 0) := (blk_cell yb 2).trans rfl); (try have yf := fun i => blk_free yb i))
          all_goals
            go_wp2_with fail
            go_meet
            have hvm : TView w4 (.slice ao3 ts.length cap3) (moved ts k x.line put.length) := by
              have := hr3.view
              unfold TView
              rw [moved_length]
              exact this
            first
              | exact ⟨ao3, cap3, w4.heap.size, rfl, rfl, by simp, tview_alloc hvm _, ((Chg.of_drewN [] w2 1).trans' hc4).alloc _⟩
              | (have hcz : Chg [w2.heap.size] w4 (((w4.setCell ⟨w2.heap.size, 0, none⟩ (.int .i64 0)).setCell ⟨w2.heap.size, 1, none⟩ (.int .i64 0)).setCell ⟨w2.heap.size, 2, none⟩ (.int .i64 0)) := (by repeat (first | with_reducible exact Chg.refl _ _ | with_reducible exact Chg.refl _ _ | with_reducible refine Chg.setCell ?_ (by first | exact .inr (Nat.le_refl _) | (refine .inr ?_; first | omega | (simp; done) | (simp; omega)) | (refine .inl ?_; simp; done)) _ | with_reducible refine Chg.drewN ?_ _ | with_reducible refine Chg.drew ?_ | with_reducible refine Chg.alloc ?_ _))
                 have hfr3 := fun q (hq : r3 = some q) => (hf3 q hq).resolve_left (by intro h; cases h)
                 have hvm2 : TView (((w4.setCell ⟨w2.heap.size, 0, none⟩ (.int .i64 0)).setCell ⟨w2.heap.size, 1, none⟩ (.int .i64 0)).setCell ⟨w2.heap.size, 2, none⟩ (.int .i64 0)) (.slice ao3 ts.length cap3) (moved ts k x.line put.length) := by
                   have := (hr3.keep hcz (fun q hq hm => by have h1 := hfr3 q hq; have hm2 : q = w2.heap.size := (by simpa using hm); have h2 : w2.heap.size + 1 ≤ q := (by simpa using h1); omega)).view
                   unfold TView
                   rw [moved_length]
                   exact this
                 exact ⟨ao3, cap3, w2.heap.size, rfl, rfl, (blk_cell (blk_set (blk_set (blk_set yb 0 (.int .i64 0)) 1 (.int .i64 0)) 2 (.int .i64 0)) 0).trans rfl, hvm2, ((((Chg.refl [] w2).alloc _).drewN 1).trans' hc4).trans hcz (fun q hq => .inr (by simp at hq; omega))⟩)
        case rest =>
          obtain ⟨ao3, cap3, c3, rfl, rfl, z0, hvm, hch3⟩ := hcut
          have hvl : TView wc (.slice (some ⟨bb, ob, none⟩) ts.length cap1) ts := tview_chg HV.out (hch2.trans' hch3)
          have HVM := hid hvm
          have HSM := hid (same_calls wc _ _ ts (moved ts k x.line put.length) false hvl hvm (moved_length _ _ _ _).symm (by omega) (fun i h1 h2 => by
            rw [moved_get _ _ _ _ i h1]
            split
            · exact ⟨rfl, rfl, rfl, fun h => by cases h⟩
            · have h3 := right_alike x.line put.length ts[i]
              exact ⟨h3.1.symm, h3.2.1.symm, h3.2.2.1.symm, fun h => by cases h⟩))
          have hC3 := (hc1.trans' hch2).trans' hch3
          clear hvm HT3 d1 z1 z2 hlong
          go_wp2_with (go_at_call 12; refine HSM.out.mono ?_; rintro e w6 ⟨rfl, n6, rfl⟩)
          go_loopw [15] (fun i wr => ∃ j : Nat, j ≤ ts.length ∧ i = .int .i64 j ∧ Chg [] wc wr) (fun i _ => ts.length - (intOf i).toNat)
          case atStart => exact ⟨0, Nat.zero_le _, rfl, Chg.of_drewN _ _ _⟩
          case round =>
            obtain ⟨j, hj, rfl, hch⟩ := hrel
            by_cases hlt : j < ts.length
            · have hlj := (tview_chg hvl hch).at hlt
              obtain ⟨bb1, ob1, hbo, l0, l1, l2, l3, l4⟩ := hlj
              simp only [Option.some.injEq, Addr.mk.injEq, and_true] at hbo
              obtain ⟨rfl, rfl⟩ := hbo
              have hlk := (tview_chg hvl hch).at hk
              obtain ⟨bb1, ob1, hbo, _, _, _, k3, _⟩ := hlk
              simp only [Option.some.injEq, Addr.mk.injEq, and_true] at hbo
              obtain ⟨rfl, rfl⟩ := hbo
              rw [HX.out] at k3
              have hmj := (tview_chg HVM.out hch).at (i := j) (by rw [moved_length]; exact hlt)
              rw [moved_get _ _ _ _ j hlt] at hmj
              have hcy := HC.out _ (List.getElem_mem hlt)
              rw [HLN.out] at hcy
              obtain ⟨y, hy⟩ : ∃ y, ts[j] = y := ⟨_, rfl⟩
              rw [hy] at l3 l4 hmj hcy
              obtain ⟨bm, om, hbm, m0, m1, m2, m3, m4⟩ := hmj
              have j2 : (j : Int) < (ts.length : Int) := by omega
              have p3 := fun o => ((Chg.refl [] wr).alloc o).cell l3 (by simp)
              have p4 := fun o => ((Chg.refl [] wr).alloc o).cell l4 (by simp)
              have pk := fun o => ((Chg.refl [] wr).alloc o).cell k3 (by simp)
              subst hbm
              by_cases hkj : j < k
              · rw [if_pos hkj] at m3 m4
                have u3 := fun o => ((Chg.refl [] wr).alloc o).cell m3 (by simp)
                have u4 := fun o => ((Chg.refl [] wr).alloc o).cell m4 (by simp)
                have d2 : decide ((k : Int) ≤ (j : Int)) = false := by simp; omega
                have d2n : decide (k ≤ j) = false := by simp; omega
                clear hy l0 l1 l2 k3 m0 m1 m2 m3 m4
                go_wp2
                go_quiet (fail)
                go_wp2
                go_quiet (fail)
                go_wp2
                go_roundw
                case rel => exact ⟨j + 1, by omega, by go_num, ((hch.alloc _).drewN _)⟩
                case measure => simp [intOf]; omega
              · rw [if_neg hkj] at m3 m4
                have d2 : decide ((k : Int) ≤ (j : Int)) = true := by simp; omega
                have d2n : decide (k ≤ j) = true := by simp; omega
                have hws := hch.size
                have d3 : (k : Int) ≤ (j : Int) := by omega
                have hr := right_alike x.line put.length y
                rw [hr.2.2.2] at m3
                by_cases hln : y.line = x.line
                · have hcol : (Tok.right x.line put.length y).col = y.col + pb.size := by unfold Tok.right; rw [if_pos hln, HPS.out]
                  rw [hcol] at m4
                  have u3 := fun o => ((Chg.refl [] wr).alloc o).cell m3 (by simp)
                  have u4 := fun o => ((Chg.refl [] wr).alloc o).cell m4 (by simp)
                  have d4 : ((y.line : Int) == (x.line : Int)) = true := by rw [beq_iff_eq, hln]
                  clear hy l0 l1 l2 k3 m0 m1 m2 m3 m4 hr hcol hln
                  go_wp2
                  go_quiet (fail)
                  go_wp2
                  go_quiet (fail)
                  go_wp2
                  go_roundw
                  case rel => exact ⟨j + 1, by omega, by go_num, (by repeat (first | with_reducible exact Chg.refl _ _ | with_reducible exact hch | with_reducible refine Chg.setCell ?_ (by first | exact .inr (Nat.le_refl _) | (refine .inr ?_; first | omega | (simp; done) | (simp; omega)) | (refine .inl ?_; simp; done)) _ | with_reducible refine Chg.drewN ?_ _ | with_reducible refine Chg.drew ?_ | with_reducible refine Chg.alloc ?_ _))⟩
                  case measure => simp [intOf]; omega
                · have hcol : (Tok.right x.line put.length y).col = y.col := by unfold Tok.right; rw [if_neg hln]
                  rw [hcol] at m4
                  have u3 := fun o => ((Chg.refl [] wr).alloc o).cell m3 (by simp)
                  have u4 := fun o => ((Chg.refl [] wr).alloc o).cell m4 (by simp)
                  have d4 : ((y.line : Int) == (x.line : Int)) = false := by rw [beq_eq_false_iff_ne]; omega
                  clear hy l0 l1 l2 k3 m0 m1 m2 m3 m4 hr hcol hln
                  go_wp2
                  go_quiet (fail)
                  go_wp2
                  go_quiet (fail)
                  go_wp2
                  go_roundw
                  case rel => exact ⟨j + 1, by omega, by go_num, ((hch.alloc _).drewN _)⟩
                  case measure => simp [intOf]; omega
            · go_wp2_with (go_at_call 14; refine (known_calls _).mono ?_; rintro e w9 ⟨rfl, hc9⟩)
              go_ret
              exact ⟨rfl, ((hC3.trans' hch).trans' hc9).to_below⟩

theorem blanks_walk : Calls Try.prog 6 #[.string s, .int .i64 at_, .string rm] W fun e W' => e = .returned (.bool true) ∧ Below W.heap.size W W' := by
  have e1 := len_of hL
  rcases lexed_or L with ⟨t1, hl1, hs1, hne1, hn1⟩ | hf
  · exact blanks_main W hs hrm L R hL hR at_ hl1 (List.length_pos_iff.2 hne1) (by omega)
  · exact blanks_bad W hs hrm L R hL hR at_ hf
end
end Go.Proofs.Ytppijmpdoejdmaa
