/- The walk of the law TraceReads. -/
import Derived.Test.YtbghkodcfedebaaGreatDoorTxs
import Derived.Test.YtbghkodcfedebaaGreatDoorTxt
import Derived.Test.YtbghkodcfedebaaGreatDoorTxv
set_option linter.unusedVariables false
set_option linter.unusedSectionVars false
set_option linter.unusedSimpArgs false
namespace Go.AB
open Go.RowKit
theorem Row.zero2 (w : World) (e k : Nat) : Row (w.alloc (.cells #[] e)) e k (.slice (some ⟨w.heap.size, 0, none⟩) 0 0) (some w.heap.size) 0 [] :=
  ⟨⟨by simp, .inr ⟨w.heap.size, 0, #[], rfl, by simp, heap_alloc_new w _, Nat.le_refl _, by simp [maxLen], by simp, by simp⟩⟩, rfl⟩
/-- What is read of a text: the list, the line, the number of the fault. -/
def parX (p : Except Nat (List Ev)) : List Ev × Nat × Nat := match p with
  | .error n => ([], n, 180)
  | .ok l => (l, 0, 0)
theorem parX_len {s : List UInt8} (hs : s.length ≤ 16777216) : (parX (parseD s)).1.length ≤ 16777216 := by
  cases h : parseD s with
  | error n => simp [parX]
  | ok l =>
    have h1 := text_size (text_again h hs)
    show l.length ≤ _
    omega
theorem dec_len {L : List UInt8} (hL : L.length ≤ 16777216) : (decE L).1.length ≤ 16777216 := by
  cases h : decE L with
  | mk l c =>
    by_cases hc : c = 0
    · subst hc
      have := enc_size (enc_again h hL)
      show l.length ≤ _
      omega
    · have : l = [] := by
        unfold decE at h
        split at h
        · simp only [Prod.mk.injEq] at h; exact h.1.symm
        · split at h
          · simp only [Prod.mk.injEq] at h; exact h.1.symm
          · split at h
            · simp only [Prod.mk.injEq] at h; exact absurd h.2.symm hc
            · simp only [Prod.mk.injEq] at h; exact h.1.symm
      subst this
      simp
end Go.AB
namespace Go.Proofs.YtbghkodcfedebaaGreatDoor
open Go.RowKit Go.AB
set_option linter.unusedSimpArgs false
set_option linter.unusedVariables false
set_option linter.unusedSectionVars false
theorem newE_nil {w w' : World} (hc : Chg [] w w') : NewE w [] (.slice none 0 0) w' := ⟨none, 0, none, rfl, Row.nil _ _ _, Fresh.refl _ _, hc⟩
theorem par_new {w w' : World} {p : Except Nat (List Ev)} {e : Ending} (h : ParP w p e w') : ∃ v, e = .returned (.tuple #[v, .int .i64 (parX p).2.1, .int .i64 (parX p).2.2]) ∧ NewE w (parX p).1 v w' := by
  cases p with
  | error n => obtain ⟨rfl, hc⟩ := h; exact ⟨_, rfl, newE_nil hc⟩
  | ok l => obtain ⟨v, rfl, hn⟩ := h; exact ⟨v, rfl, hn⟩
theorem dec_new {w w' : World} {d : List Ev × Nat} {e : Ending} (h : DecE w d e w') : ∃ v, e = .returned (.tuple #[v, .int .i64 d.2]) ∧ NewE w d.1 v w' := by
  rcases h with ⟨c, rfl, _, rfl, hc⟩ | ⟨xs, v, rfl, rfl, hn⟩
  · exact ⟨_, rfl, newE_nil hc⟩
  · exact ⟨v, rfl, hn⟩
/-- A list in new memory, with what is kept. -/
theorem newE_hp {w0 w w' : World} {I : List It} {l : List Ev} {v : Value} (h : Hp [] w0 w I) (hn : NewE w l v w') : ∃ o : OL, v = o.v ∧ o.n = l.length ∧ o.xs = l.flatMap evC ∧ Hp [] w0 w' (itE o :: I) := by
  obtain ⟨ao, cap, r, rfl, hr, hf, hc⟩ := hn
  exact ⟨⟨ao, l.length, cap, r, l.flatMap evC⟩, rfl, rfl, rfl, h.fresh hc hr hf⟩
theorem ol_lst {w : World} {o : OL} {l : List Ev} (h : (itE o).ok w) (h1 : o.n = l.length) (h2 : o.xs = l.flatMap evC) : Lst evC 3 w o.v l := by
  have h : Row w 28 3 o.v o.r o.n o.xs := h
  rw [h1, h2] at h
  exact h.view
theorem ol_fine {w : World} {o : OL} {l : List Ev} (h : (itE o).ok w) (h1 : o.n = l.length) (h2 : o.xs = l.flatMap evC) (hl : l.length ≤ 16777216) : o.ok ∧ o.xs.length = o.n * 3 ∧ o.n ≤ 16777216 := by
  refine ⟨OL.ok_of h, ?_, by omega⟩
  rw [h2, flat_len evC_len, h1]
theorem given_bytes {W : World} {g n cap : Nat} {L : List UInt8} {x : Value} (h : Row W 5 1 (.slice (some ⟨g, 0, none⟩) (n + 1) cap) (some g) (n + 1) (L.map B ++ [x])) (hn : L.length = n) :
    Bytes W (.slice (some ⟨g, 0, none⟩) n cap) L ∧ W.cell? ⟨g, n, none⟩ = some x ∧ n + 1 ≤ cap ∧ cap ≤ maxLen := by
  obtain ⟨h1, _, c', h2, h3, h4⟩ := Row.cellk h
  simp only [Value.slice.injEq, true_and] at h2
  subst h2
  have hv := h.viewPre (m := n) (cap := cap) (by omega) (by omega) h4
  have ht : (L.map B ++ [x]).take (n * 1) = L.map B := by
    rw [Nat.mul_one, ← hn]
    exact List.take_left' (by simp)
  rw [ht] at hv
  refine ⟨?_, ?_, h3, h4⟩
  · unfold Bytes
    rw [hn]
    exact hv
  · rw [h1 n (by omega), List.getD_eq_getElem?_getD, List.getElem?_append_right (by simp; omega)]
    simp [hn]
set_option maxHeartbeats 16000000 in
set_option maxRecDepth 100000 in
theorem reads_walk (s : List UInt8) (hs : s.length ≤ 1048576) {v : Value} (L : List UInt8) (hL : L.length ≤ 1048576) (w : World) (hvl : Bytes w v L) (hv : VarsT w) :
    Calls Tryz.prog 4 #[.string (bA s), v] w fun e w' => e = .returned (.bool true) ∧ Chg [] w w' := by
  obtain ⟨X, nx, cx, hX⟩ : ∃ X nx cx, parX (parseD s) = (X, nx, cx) := ⟨_, _, _, rfl⟩
  obtain ⟨Y, cy, hY⟩ : ∃ Y cy, decE L = (Y, cy) := ⟨_, _, rfl⟩
  have HXL : Hid (X.length ≤ 16777216) := hid (by have := parX_len (s := s) (by omega); rw [hX] at this; exact this)
  have HYL : Hid (Y.length ≤ 16777216) := hid (by have := dec_len (L := L) (by omega); rw [hY] at this; exact this)
  have HPA := hid fun W (hc : Chg [] w W) => parse_calls s (by omega) W (hv.keep hc)
  have HPR := hid fun W => rparse_calls (bA s) s (by simp [bA]) (by omega) W
  have HX := hid hX
  have HY := hid hY
  have HWO := hid (works_calls w hv)
  have HVL := hid hvl
  have HLL : Hid (L.length ≤ 1048576) := hid hL
  obtain ⟨al, cl, rfl, -⟩ := hvl.out
  obtain ⟨n, hn⟩ : ∃ n, L.length = n := ⟨_, rfl⟩
  have HN := hid hn
  have hn20 : n ≤ 1048576 := by omega
  rw [hn] at HVL ⊢
  clear hX hY hs hL hv hvl hn
  go_enter Tryz.func4, Tryz.ntmps4
  go_upto_region 3 with (go_at_call 9; refine HWO.out.mono ?_; rintro e w1 ⟨rfl, hc1⟩; have HC1 := hid hc1; clear hc1)
  have HH0 : Hid (Hp [] w w1 []) := hid ((Hp.start w (by simp)).same HC1.out)
  clear HWO
  go_upto_region 4 with (go_at_call 20; refine (HPA.out _ HC1.out).mono ?_; rintro e w2 hp; obtain ⟨v2, rfl, hn2⟩ := par_new hp; obtain ⟨o1, rfl, e1, f1, hh1⟩ := newE_hp HH0.out hn2; rw [HX.out] at hn2 e1 f1 ⊢; have HO1 := hid (And.intro e1 f1); have HH1 := hid hh1; have HC2 := hid (HC1.out.trans' hn2.choose_spec.choose_spec.choose_spec.2.2.2); clear hp hn2 e1 f1 hh1)
  clear HC1 HH0
  go_upto_region 5 with (go_at_call 20; refine (HPA.out _ HC2.out).mono ?_; rintro e w3 hp; obtain ⟨v3, rfl, hn3⟩ := par_new hp; obtain ⟨o2, rfl, e1, f1, hh1⟩ := newE_hp HH1.out hn3; rw [HX.out] at hn3 e1 f1 ⊢; have HO2 := hid (And.intro e1 f1); have HH2 := hid hh1; have HC3 := hid (HC2.out.trans' hn3.choose_spec.choose_spec.choose_spec.2.2.2); clear hp hn3 e1 f1 hh1)
  clear HC2 HH1 HPA
  go_upto_region 6 with (go_at_call 21; refine (HPR.out _).mono ?_; rintro e w4 hp; obtain ⟨v4, rfl, hn4⟩ := par_new hp; obtain ⟨o3, rfl, e1, f1, hh1⟩ := newE_hp HH2.out hn4; rw [HX.out] at hn4 e1 f1 ⊢; have HO3 := hid (And.intro e1 f1); have HH3 := hid hh1; clear hp hn4 e1 f1 hh1)
  clear HC3 HH2 HPR
  go_wp2_with (go_at_call 22; refine (same_calls o1.v o3.v X X _ (ol_lst (HH3.out.get (i := 2) rfl) HO1.out.1 HO1.out.2) (ol_lst (HH3.out.get (i := 0) rfl) HO3.out.1 HO3.out.2) HXL.out).mono ?_; rintro e w5 ⟨q, rfl, hq, hc⟩; refine halt (fun XX hXX => ?_); obtain rfl : q = true := hq.out.2 rfl; have HH4 := hid (HH3.out.same hc); clear hc hq)
  clear HH3
  rw [hXX.out]; clear hXX XX
  go_wp2_with (go_at_call 22; refine (same_calls o2.v o3.v X X _ (ol_lst (HH4.out.get (i := 1) rfl) HO2.out.1 HO2.out.2) (ol_lst (HH4.out.get (i := 0) rfl) HO3.out.1 HO3.out.2) HXL.out).mono ?_; rintro e w6 ⟨q, rfl, hq, hc⟩; refine halt (fun XX hXX => ?_); obtain rfl : q = true := hq.out.2 rfl; have HH5 := hid (HH4.out.same hc); clear hc hq)
  clear HH4
  rw [hXX.out]; clear hXX XX
  go_upto_region 8 with (go_at_call 17; refine (num_calls _ _).mono ?_; rintro e w7 ⟨rfl, hw7⟩; replace hw7 := hw7.symm; subst hw7)
  have HVW : Hid (View w 1 (.slice al n cl) n (L.map B)) := hid (by
    have h := HVL.out
    unfold Bytes at h
    rw [HN.out] at h
    exact h)
  go_wp2_with (at_builtin; refine wpList_grew rfl _ _ 34 rfl elem_u8 rfl (Row.zero2 w6 5 1) rfl (HVW.out.keep (HH5.out.chg.trans' ((Chg.refl [] w6).alloc (.cells #[] 5))) (by simp)) (B_one _) (by unfold maxLen; omega) (by omega) (fun ao1 cap1 r1 w7 hr1 hg1 => halt (fun XX hXX => ?_)))
  rw [List.nil_append] at hr1
  rw [Nat.zero_add] at hr1 hXX
  have hc7 : Chg [] w6 w7 := ((Chg.refl [] w6).alloc (.cells #[] 5)).trans hg1.chg (fun x hx => .inr (by simp at hx; omega))
  have hf7 : Fresh w6 none r1 := fun g hg => .inr (by
    rcases hg1.fresh g hg with h | h
    · simp at h; omega
    · have : w6.heap.size ≤ (w6.alloc (.cells #[] 5)).heap.size := by simp
      omega)
  have HR7 := hid (And.intro hr1 (And.intro hf7 hc7))
  clear hr1 hg1 hc7 hf7
  rw [hXX.out]; clear hXX XX
  go_wp2_with (at_builtin; refine wpList_grew rfl _ _ 34 rfl elem_u8 rfl (HR7.out.1.keep ((Chg.refl [] w7).alloc _) (by simp)) rfl (View.one _ _ _) (by simp [Value.oneCell']) (by unfold maxLen; omega) (by omega) (fun ao2 cap2 r2 w8 hr2 hg2 => halt (fun XX hXX => ?_)))
  have hh8 := HH5.out.fresh (own_step HR7.out.2.2 HR7.out.2.1 ((Chg.refl [] w7).alloc _) hg2.chg) hr2 (fresh_step HR7.out.2.2 HR7.out.2.1 ((Chg.refl [] w7).alloc _) hg2.fresh)
  obtain ⟨g, hg, hga, -⟩ := Row.slice hr2 (by omega)
  subst hg hga
  have HH8 := hid hh8
  clear hh8 hr2 hg2 HR7 HH5
  rw [hXX.out]; clear hXX XX
  have hcap := (given_bytes (HH8.out.rowAt (i := 0) rfl) HN.out).2.2
  have hcap1 : (n : Int) ≤ (cap2 : Int) := by omega
  have hcap0 : (0 : Int) ≤ (n : Int) := by omega
  have HDE := hid fun W va (hb : Bytes W va L) => (by have h := decode_calls va L W hb (by have := HLL.out; omega); rw [HY.out] at h; exact h : Calls Tryz.prog 23 #[va] W (DecE W (Y, cy)))
  have HRD := hid fun W va (hb : Bytes W va L) => (by have h := rdecode_calls va L W hb (by have := HLL.out; omega); rw [HY.out] at h; exact h : Calls Tryz.prog 24 #[va] W (DecE W (Y, cy)))
  go_upto_region 10 with (go_at_call 23; refine (HDE.out _ _ (given_bytes (HH8.out.rowAt (i := 0) rfl) HN.out).1).mono ?_; rintro e w9 hp; obtain ⟨v2, rfl, hn2⟩ := dec_new hp; obtain ⟨o4, rfl, e1, f1, hh1⟩ := newE_hp HH8.out hn2; have HO4 := hid (And.intro e1 f1); have HH9 := hid hh1; clear hp hn2 e1 f1 hh1)
  clear HH8
  go_upto_region 11 with (go_at_call 23; refine (HDE.out _ _ (given_bytes (HH9.out.rowAt (i := 1) rfl) HN.out).1).mono ?_; rintro e w10 hp; obtain ⟨v2, rfl, hn2⟩ := dec_new hp; obtain ⟨o5, rfl, e1, f1, hh1⟩ := newE_hp HH9.out hn2; have HO5 := hid (And.intro e1 f1); have HH10 := hid hh1; clear hp hn2 e1 f1 hh1)
  clear HH9 HDE
  go_upto_region 12 with (go_at_call 24; refine (HRD.out _ _ (HVL.out.keep HH10.out.chg (by simp))).mono ?_; rintro e w11 hp; obtain ⟨v2, rfl, hn2⟩ := dec_new hp; obtain ⟨o6, rfl, e1, f1, hh1⟩ := newE_hp HH10.out hn2; have HO6 := hid (And.intro e1 f1); have HH11 := hid hh1; clear hp hn2 e1 f1 hh1)
  clear HH10 HRD
  go_wp2_with (go_at_call 22; refine (same_calls o4.v o6.v Y Y _ (ol_lst (HH11.out.get (i := 2) rfl) HO4.out.1 HO4.out.2) (ol_lst (HH11.out.get (i := 0) rfl) HO6.out.1 HO6.out.2) HYL.out).mono ?_; rintro e w12 ⟨q, rfl, hq, hc⟩; refine halt (fun XX hXX => ?_); obtain rfl : q = true := hq.out.2 rfl; have HH12 := hid (HH11.out.same hc); clear hc hq)
  clear HH11
  rw [hXX.out]; clear hXX XX
  go_wp2_with (go_at_call 22; refine (same_calls o5.v o6.v Y Y _ (ol_lst (HH12.out.get (i := 1) rfl) HO5.out.1 HO5.out.2) (ol_lst (HH12.out.get (i := 0) rfl) HO6.out.1 HO6.out.2) HYL.out).mono ?_; rintro e w13 ⟨q, rfl, hq, hc⟩; refine halt (fun XX hXX => ?_); obtain rfl : q = true := hq.out.2 rfl; have HH13 := hid (HH12.out.same hc); clear hc hq)
  clear HH12
  rw [hXX.out]; clear hXX XX
  go_upto_region 14 with (first
    | (go_at_call 17; refine (num_calls _ _).mono ?_; rintro e w14 ⟨rfl, hw14⟩; replace hw14 := hw14.symm; subst hw14)
    | (go_at_call 18; refine (samebytes_calls _ _ L L _ (given_bytes (HH13.out.rowAt (i := 3) rfl) HN.out).1 (HVL.out.keep HH13.out.chg (by simp)) (by have := HLL.out; omega)).mono ?_; rintro e w15 ⟨q, rfl, hq, hc⟩; obtain rfl : q = true := hq.out.2 rfl; have HH15 := hid (HH13.out.same hc); have y1 := (given_bytes (HH15.out.rowAt (i := 3) rfl) HN.out).2.1; clear hc hq))
  clear y1 hcap hcap1 hcap0
  have hrow : Row (w15.alloc (.cells #[o1.v, o2.v, o4.v, o5.v] 22)) 22 1 (.slice (some ⟨w15.heap.size, 0, none⟩) 4 4) (some w15.heap.size) 4 [o1.v, o2.v, o4.v, o5.v] := Row.lit w15 22 [o1.v, o2.v, o4.v, o5.v] (by simp [maxLen])
  have hh := (HH15.out.same ((Chg.refl [] w15).alloc (.cells #[o1.v, o2.v, o4.v, o5.v] 22))).cons (cE (some ⟨w15.heap.size, 0, none⟩) 4 4 (some w15.heap.size) [o1.v, o2.v, o4.v, o5.v]) hrow (fun g hg => by
    simp only [It.blk, Option.some.injEq] at hg
    exact HH15.out.newer (by omega))
  have hh2 : Hp [] w (w15.alloc (.cells #[o1.v, o2.v, o4.v, o5.v] 22)) (cE (some ⟨w15.heap.size, 0, none⟩) 4 4 (some w15.heap.size) ([o1, o2, o4, o5].map OL.v) :: ([o1, o2, o4, o5].map itE ++ [itE o6, It.row 5 1 (Value.slice (some ⟨g, 0, none⟩) (n + 1) cap2) (some g) (n + 1) (List.map B L ++ [Value.int IntKind.u8 119]), itE o3])) := hh.re (fun a => by
    simp only [List.count_append, List.count_cons, List.map_cons, List.map_nil, List.count_nil, itE]
    omega)
  have hal := alone_calls [o1, o2, o4, o5] (fun o ho => by
    simp only [List.mem_cons, List.not_mem_nil, or_false] at ho
    rcases ho with rfl | rfl | rfl | rfl
    · exact ol_fine (HH15.out.get (i := 6) rfl) HO1.out.1 HO1.out.2 HXL.out
    · exact ol_fine (HH15.out.get (i := 5) rfl) HO2.out.1 HO2.out.2 HXL.out
    · exact ol_fine (HH15.out.get (i := 2) rfl) HO4.out.1 HO4.out.2 HYL.out
    · exact ol_fine (HH15.out.get (i := 1) rfl) HO5.out.1 HO5.out.2 HYL.out) (nI := 4) rfl (by omega) hh2
  have HAL := hid hal
  clear hrow hh hh2 hal
  unfold OL.v at HAL ⊢
  go_wp2_with (go_at_call 25; refine HAL.out.mono ?_; rintro e w16 ⟨rfl, hh16⟩; have HC := hid hh16.chg; clear hh16)
  go_ret
  exact ⟨rfl, HC.out⟩
end Go.Proofs.YtbghkodcfedebaaGreatDoor
