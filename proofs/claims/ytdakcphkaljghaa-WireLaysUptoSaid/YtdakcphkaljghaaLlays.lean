/- The law WireLays: its walk. -/
import Derived.Test.YtdakcphkaljghaaKg
import Derived.Test.YtdakcphkaljghaaLlaid
import Derived.Test.YtdakcphkaljghaaLadds
import Derived.BigQuiet
namespace Go.Proofs.Ytdakcphkaljghaa
open Go.RowKit Go.AB
set_option linter.unusedSimpArgs false
set_option linter.unusedVariables false

theorem LI.below {W wb w : World} {bw b : Nat} {rW rQ rl rw : Option Nat} {LW LQ : List UInt8} {aoW aoQ al aw : Option Addr} {capW capQ cl cw : Nat} {es : List Ent}
    (h : LI wb bw b w rW LW aoW capW rQ LQ aoQ capQ es rl rw al aw cl cw) (h0 : Chg [] W wb) (h1 : W.heap.size ≤ bw) (h2 : W.heap.size ≤ b) : Below W.heap.size W w :=
  (h0.trans h.chg (fun x hx => by
    simp only [List.mem_cons, List.not_mem_nil, or_false] at hx
    rcases hx with rfl | rfl
    · exact .inr h1
    · exact .inr h2)).to_below

theorem View.two (w : World) : View (w.alloc (.cells #[.int .u8 172, .int .u8 2] 5)) 1 (.slice (some ⟨w.heap.size, 0, none⟩) 2 2) 2 (([172, 2] : List UInt8).map B) := by
  have hb := heap_alloc_new w (.cells #[.int .u8 172, .int .u8 2] 5)
  refine ⟨rfl, by simp [maxLen], some ⟨w.heap.size, 0, none⟩, 2, rfl, Nat.le_refl _, by simp [maxLen], (fun h => by cases h), fun _ => ⟨w.heap.size, 0, rfl, fun j hj => ?_⟩⟩
  have h2 : j = 0 ∨ j = 1 := by omega
  rcases h2 with rfl | rfl
  · rw [blk_cell hb]; rfl
  · rw [blk_cell hb]; rfl
theorem short300 : ([300] : List Nat).flatMap shortB = [172, 2] := by
  simp [shortB]
theorem LI.after {wb w w' : World} {bw b : Nat} {rW rQ rl rw : Option Nat} {LW LQ : List UInt8} {aoW aoQ al aw : Option Addr} {capW capQ cl cw : Nat} {es : List Ent}
    (h : LI wb bw b w rW LW aoW capW rQ LQ aoQ capQ es rl rw al aw cl cw) (hc : Chg (b :: LB es) w w') : Wr 27 5 w' bw rW LW aoW capW ∧ Row w' 5 1 (.slice aoQ LQ.length capQ) rQ LQ.length (LQ.map B) ∧ Chg [bw, b] wb w' := by
  have hin : ∀ g, g ∈ b :: LB es → g ∈ bkBlocks b es rl rw := fun g hg => by
    rcases List.mem_cons.1 hg with h1 | h1
    · exact bk_mem.2 (.inl h1)
    · obtain ⟨e, he, h2⟩ := mem_LB.1 h1
      exact bk_mem.2 (.inr (.inr (.inr ⟨e, he, .inl h2⟩)))
  refine ⟨h.wr.keep hc (fun hm => h.bwB (hin _ hm)) (fun g hg hm => h.dWB g hg (hin _ hm)), h.q.keep hc (fun g hg hm => h.dQB g hg (hin _ hm)), h.chg.trans hc (fun x hx => ?_)⟩
  rcases h.fB x (hin x hx) with h1 | h1
  · exact .inl (by simp [h1])
  · exact .inr h1

set_option maxHeartbeats 8000000 in
set_option maxRecDepth 100000 in
theorem wlays_walk (va : Value) (adds : List AddD) (W : World) (hva : VL W 4 (addR W) va adds) (hn : (adds.map addSz).sum ≤ 1048576) :
    Calls Try.prog 4 #[va] W fun e W' => e = .returned (.bool true) ∧ Below W.heap.size W W' := by
  have hsz : ∀ a ∈ adds, addSz a ≤ 1048576 := fun a ha => Nat.le_trans (mem_sum_le addSz ha) hn
  have hlen : adds.length ≤ 1048576 := by
    have := sum_ge addSz adds (fun a => by unfold addSz; omega)
    omega
  obtain ⟨aoa, capa, hvs⟩ : ∃ ao cap, va = .slice ao adds.length cap := by obtain ⟨css, ⟨_, _, ao, cap, h, _⟩, _⟩ := hva.ex; exact ⟨ao, cap, h⟩
  have hmem : ∀ a ∈ adds, (∀ m ∈ a.many, U64 m) := fun a ha => by
    obtain ⟨k, hk, rfl⟩ := List.mem_iff_getElem.1 ha
    obtain ⟨_, _, _, _, _, h, _⟩ := add_at hva hvs hk
    exact h
  have htot : ∀ k, ((adds.take k).flatMap laidB).length ≤ 10485760 := fun k => by
    have h1 := laidAll_len (adds.take k) (fun a ha => ⟨hmem a (List.mem_of_mem_take ha), by have := hsz a (List.mem_of_mem_take ha); unfold addSz at this; omega⟩)
    have h2 : ((adds.take k).map addSz).sum ≤ (adds.map addSz).sum := by
      conv => rhs; rw [← List.take_append_drop k adds, List.map_append, List.sum_append]
      omega
    omega
  subst hvs
  obtain ⟨wb, hwb⟩ : ∃ w, (W.alloc (.cells #[.slice none 0 0] 27)).alloc (.cells #[.slice none 0 0, .slice none 0 0, .slice none 0 0] 31) = w := ⟨_, rfl⟩
  have hL0 : LI wb W.heap.size (W.heap.size + 1) wb none [] none 0 none [] none 0 [] none none none none 0 0 := by
    have hW0 : Wr 27 5 (W.alloc (.cells #[.slice none 0 0] 27)) W.heap.size none [] none 0 := ⟨heap_alloc_new W _, Row.nil _ _ _, by simp⟩
    have hb := Bk.new (W.alloc (.cells #[.slice none 0 0] 27))
    have hs : (W.alloc (.cells #[.slice none 0 0] 27)).heap.size = W.heap.size + 1 := by simp
    rw [hs, hwb] at hb
    have hs2 : wb.heap.size = W.heap.size + 2 := by rw [← hwb]; simp
    refine ⟨by rw [← hwb]; exact hW0.keep ((Chg.refl [] _).alloc _) (by simp) (by simp), Row.nil _ _ _, hb, Chg.refl _ _, by omega, by omega, by omega, by simp, by simp, fun g hg => ?_, by simp, by simp, by simp, by simp⟩
    rcases bk_mem.1 hg with h1 | h1 | h1 | ⟨e, he, _⟩
    · exact .inl h1
    · cases h1
    · cases h1
    · simp at he
  have hcb : Chg [] W wb := by rw [← hwb]; exact ((Chg.refl [] W).alloc _).alloc _
  go_enter Try.func4, Try.ntmps4
  go_wp2_with fail
  clear hwb
  go_loopw [4, 6] (fun q i wr => ∃ (k : Nat) (rW : Option Nat) (L : List UInt8) (aoW : Option Addr) (capW : Nat) (rQ : Option Nat) (LQ : List UInt8) (aoQ : Option Addr) (capQ : Nat) (es : List Ent) (rl rw : Option Nat) (al aw : Option Addr) (cl cw : Nat), k ≤ adds.length ∧ i = .int .i64 (k : Nat) ∧ q = .slice aoQ LQ.length capQ ∧ LI wb W.heap.size (W.heap.size + 1) wr rW L aoW capW rQ LQ aoQ capQ es rl rw al aw cl cw ∧ Hid (L = (adds.take k).flatMap laidB) ∧ Hid (LQ = L) ∧ Hid (es.length ≤ 2 * k))
    (fun _ i _ => adds.length - (intOf i).toNat)
  case atStart => exact ⟨0, none, [], none, 0, none, [], none, 0, [], none, none, none, none, 0, 0, by omega, rfl, rfl, hL0, hid (by simp), hid rfl, hid (by simp)⟩
  case round =>
    obtain ⟨k, rW, L, aoW, capW, rQ, LQ, aoQ, capQ, es, rl, rw, al, aw, cl, cw, hk, rfl, rfl, hI, HL, HLQ, HE⟩ := hrel
    clear hL0
    have hLn : L.length ≤ 10485760 := by rw [HL.out]; exact htot k
    by_cases hlt : k < adds.length
    · obtain ⟨bl, off, u, rfl, hview, hmk, hcells⟩ := add_at hva rfl hlt
      have hbl0 := hI.below hcb (by omega) (by omega)
      obtain ⟨x0, x1, x2, x3⟩ := hcells wr hbl0
      have hak := hsz _ (List.getElem_mem hlt)
      have hsn : adds.take (k + 1) = adds.take k ++ [adds[k]] := take_snoc adds k hlt
      have HSN := hid hsn
      have hu := View.own_lt hview
      have hwbs := hcb.size
      have hapart : 0 < adds[k].many.length → ∀ g, u.ownBlock = some g → g ≠ W.heap.size ∧ rW ≠ some g := fun h0 g hg => by
        have h1 := hu (by omega) g hg
        exact ⟨by omega, fun e => by have := hI.fW g e; omega⟩
      have hcall := lays_calls adds[k] hmk u wr W.heap.size rW L aoW capW hI.wr (by omega) (hview.below hbl0) hapart (by unfold addSz at hak; omega) (by unfold addSz at hak; omega)
      have hcallL : ∀ w2, Below W.heap.size W w2 → _ := fun w2 hb2 => laid_calls (w := w2) adds[k] (hview.below hb2) hmk (by unfold addSz at hak; omega) (by unfold addSz at hak; omega)
      have hnext : ((adds.take k).flatMap laidB ++ laidB adds[k]).length ≤ 10485760 := by
        have := htot (k + 1)
        rw [hsn, List.flatMap_append] at this
        simpa using this
      unfold addV at hcall hcallL
      have HC := hid hcall
      have HCL := hid hcallL
      have HX := hid hcells
      have HNX := hid hnext
      clear hcall hcallL hcells hview hmk hu hapart hsn hnext
      obtain ⟨ak, hake⟩ : ∃ a, adds[k] = a := ⟨_, rfl⟩
      simp only [hake] at HC HCL HX HNX HSN x0 x1 x3
      clear hake hak
      go_wp2_with (go_at_call 12; refine HC.out.mono ?_; rintro e w2 ⟨rfl, L2, r2, ao2, cap2, hW2, hc2, hf2, HL2⟩; refine halt (fun X hX => ?_))
      rw [hX.out]; clear hX
      have hI2 := hI.stepW hW2 hc2 hf2
      have hbl2 := hI2.below hcb (by omega) (by omega)
      have hsW2 : W.heap.size ≤ w2.heap.size := hbl2.size
      clear x0 x1 x2 x3 hbl0 hI hW2 hc2 hf2 HC
      obtain ⟨x0, x1, x2, x3⟩ := HX.out w2 hbl2
      have HC3 := hid (HCL.out w2 hbl2)
      clear HCL
      go_wp2_with (go_at_call 13; refine HC3.out.mono ?_; rintro e w3 ⟨l3, ao3, cap3, r3, rfl, hr3, hf3, hc3, HL3⟩; refine halt (fun X hX => ?_))
      rw [hX.out]; clear hX
      have hI3 := hI2.step0 hc3
      clear x0 x1 x2 x3 hbl2 hI2 HC3
      have hl3 : LQ.length + l3.length ≤ 10485760 := by
        have := HNX.out
        rw [List.length_append] at this
        rw [HLQ.out, HL.out, HL3.out]
        omega
      have hq3 := hI3.q
      go_wp2_with (at_builtin; refine wpList_app rfl _ _ 25 rfl elem_u8 rfl (hq3) rfl (hr3.view) (B_one _) (by unfold maxLen; omega) (by omega) (fun ao' cap' r' w2 hr2 hc2 hf2 hnil2 => halt (fun X hX => ?_)))
      rw [hX.out]; clear hX
      have hI4 : LI wb W.heap.size (W.heap.size + 1) w2 r2 L2 ao2 cap2 r' (LQ ++ l3) ao' cap' es rl rw al aw cl cw := by
        refine hI3.stepQ ?_ hc2 hf2
        rw [List.length_append, List.map_append]; exact hr2
      have hLQ4 : LQ ++ l3 = L2 := by rw [HLQ.out, HL3.out, HL2.out]
      obtain ⟨LQ4, hq4⟩ : ∃ l, LQ ++ l3 = l := ⟨_, rfl⟩
      have hlen4 : LQ.length + l3.length = LQ4.length := by rw [← hq4, List.length_append]
      rw [hq4] at hI4 hLQ4
      have HLQ4 := hid hLQ4
      rw [hlen4]
      have HL4 := hid (show L2 = (adds.take (k + 1)).flatMap laidB by rw [HL2.out, HL.out, HSN.out, List.flatMap_append]; simp)
      have hl4 : LQ4.length ≤ 10485760 := by omega
      have hl2 : L2.length ≤ 10485760 := by rw [← HLQ4.out]; exact hl4
      have t4 : ((L2.length : Int) != (LQ4.length : Int)) = false := by rw [HLQ4.out]; simp
      have hbl4 := hI4.below hcb (by omega) (by omega)
      have hsW4 : W.heap.size ≤ w2.heap.size := hbl4.size
      obtain ⟨x0, x1, x2, x3⟩ := HX.out w2 hbl4
      clear hq4 hlen4 hLQ4 hr2 hc2 hf2 hq3 hI3 hr3 hf3 hc3 HX hl3 hbl4
      by_cases h6 : ak.kind = 6
      · have t6 : (ak.kind == 6) = true := by simp [h6]
        have HB5 := hid (bytes_calls w2 W.heap.size r2 L2 ao2 cap2 hI4.wr (by omega))
        have HN5 := hid (len_calls w2 W.heap.size r2 L2 ao2 cap2 hI4.wr)
        go_wp2_with (first
          | (go_at_call 14; refine HN5.out.mono ?_; rintro e w5 ⟨rfl, rfl⟩)
          | (go_at_call 16; refine HB5.out.mono ?_; rintro e w5 ⟨l5, ao5, cap5, r5, rfl, hr5, hf5, hc5, HL5⟩; refine halt (fun X hX => ?_)))
        rw [hX.out]; clear hX
        clear x0 x1 x2 x3
        have hK5 := hI4.keeps (by have := HE.out; omega) (by omega) (HL5.out.trans HLQ4.out.symm) hr5 hf5 hc5
        have HK5 := hid hK5
        clear hK5 hr5 hf5 hc5 HB5 HN5 hI4
        go_wp2_with (go_at_call 15; refine HK5.out.mono ?_; rintro e w6 ⟨rfl, es6, rl6, rw6, al6, aw6, cl6, cw6, hI6, HE6⟩; refine halt (fun X hX => ?_))
        rw [hX.out]; clear hX
        have HB7 := hid (bytes_calls w6 W.heap.size r2 L2 ao2 cap2 hI6.wr (by omega))
        go_wp2_with (go_at_call 16; refine HB7.out.mono ?_; rintro e w7 ⟨l7, ao7, cap7, r7, rfl, hr7, hf7, hc7, HL7⟩; refine halt (fun X hX => ?_))
        rw [hX.out]; clear hX
        have HK7 := hid (hI6.keeps (by have := HE.out; have := HE6.out; omega) (by omega) (HL7.out.trans HLQ4.out.symm) hr7 hf7 hc7)
        clear hr7 hf7 hc7 HB7 HK5 hI6
        go_wp2_with (go_at_call 15; refine HK7.out.mono ?_; rintro e w8 ⟨rfl, es8, rl8, rw8, al8, aw8, cl8, cw8, hI8, HE8⟩)
        go_roundw
        case rel => exact ⟨k + 1, r2, L2, ao2, cap2, r', LQ4, ao', cap', es8, rl8, rw8, al8, aw8, cl8, cw8, by omega, by go_num, rfl, hI8, HL4, HLQ4, hid (by have := HE.out; have := HE6.out; have := HE8.out; omega)⟩
        case measure => simp [intOf]; omega
      · have t6 : (ak.kind == 6) = false := by simp [h6]
        go_wp2
        go_roundw
        case rel => exact ⟨k + 1, r2, L2, ao2, cap2, r', LQ4, ao', cap', es, rl, rw, al, aw, cl, cw, by omega, by go_num, rfl, hI4, HL4, HLQ4, hid (by have := HE.out; omega)⟩
        case measure => simp [intOf]; omega
    · obtain ⟨wo, rfl⟩ : ∃ wo : World, wo = wr := ⟨_, rfl⟩
      obtain rfl : LQ = L := HLQ.out
      have HB5 := hid (bytes_calls wo W.heap.size rW LQ aoW capW hI.wr (by omega))
      have hwbs := hcb.size
      have hel : es.length ≤ 2097152 := by have := HE.out; omega
      clear HE HLQ hLn hmem
      have hLn : LQ.length ≤ 10485760 := by rw [HL.out]; exact htot k
      clear htot HL hva hn hsz
      go_wp2_with (go_at_call 16; refine HB5.out.mono ?_; rintro e w5 ⟨l5, ao5, cap5, r5, rfl, hr5, hf5, hc5, HL5⟩; refine halt (fun X hX => ?_))
      rw [hX.out]; clear hX
      have HK5 := hid (hI.keeps (by omega) (by omega) HL5.out hr5 hf5 hc5)
      clear hr5 hf5 hc5 HB5 hI
      go_wp2_with (go_at_call 15; refine HK5.out.mono ?_; rintro e w6 ⟨rfl, es6, rl6, rw6, al6, aw6, cl6, cw6, hI6, HE6⟩; refine halt (fun X hX => ?_))
      rw [hX.out]; clear hX
      have HB7 := hid (bytes_calls w6 W.heap.size rW LQ aoW capW hI6.wr (by omega))
      go_wp2_with (go_at_call 16; refine HB7.out.mono ?_; rintro e w7 ⟨l7, ao7, cap7, r7, rfl, hr7, hf7, hc7, HL7⟩; refine halt (fun X hX => ?_))
      rw [hX.out]; clear hX
      have HK7 := hid (hI6.keeps (by have := HE6.out; omega) (by omega) HL7.out hr7 hf7 hc7)
      clear hr7 hf7 hc7 HB7 HK5 hI6
      go_wp2_with (go_at_call 15; refine HK7.out.mono ?_; rintro e w8 ⟨rfl, es8, rl8, rw8, al8, aw8, cl8, cw8, hI8, HE8⟩; refine halt (fun X hX => ?_))
      rw [hX.out]; clear hX
      have he8 : es8.length ≤ 16777216 := by have := HE6.out; have := HE8.out; omega
      have HN8 := hid (fun n => len_calls (w8.drewN n) W.heap.size rW LQ aoW capW (hI8.step0 (Chg.of_drewN [] w8 n)).wr)
      have HA8 := hid (fun n => apart_calls (hI8.step0 (Chg.of_drewN [] w8 n)).bk he8 (fun e he => by have := hI8.el e he; omega))
      have HI8 := hid hI8
      clear HE6 HE8 he8 hI8 HK7 HL7 HL5
      go_wp2_with fail
      go_region_with (first
        | (go_at_call 14; refine (HN8.out _).mono ?_; rintro e w9 ⟨rfl, rfl⟩)
        | (go_at_call 17; refine (HA8.out _).mono ?_; rintro e w9 ⟨rfl, hc9⟩; have hz9 := (HI8.out.step0 (Chg.of_drewN [] w8 _)).after hc9; have HZ9 := hid hz9; clear hz9; have vq9 := run_conv_view (P := Try.prog) Try.underlying25 Try.underlying5 Try.underlying9 HZ9.out.2.1.view w9 rfl)
        | (go_at_call 16; refine (bytes_calls _ _ _ _ _ _ HZ9.out.1 (by omega)).mono ?_; rintro e w10 ⟨l10, ao10, cap10, r10, rfl, hr10, hf10, hc10, HL10⟩; obtain rfl : LQ = l10 := HL10.out.symm; have vb10 := run_conv_view (P := Try.prog) Try.underlying25 Try.underlying5 Try.underlying9 hr10.view w10 rfl; have vq10 := run_conv_view (P := Try.prog) Try.underlying25 Try.underlying5 Try.underlying9 (HZ9.out.2.1.keep hc10 (by simp)).view w10 rfl; clear hr10))
      all_goals
        have hI8 := HI8.out
        have hW10 := HZ9.out.1.keep hc10 (by simp) (by simp)
        have hQ10 := HZ9.out.2.1.keep hc10 (by simp)
        have hC10 := HZ9.out.2.2.trans' hc10.nil
        have hs10 := hC10.size
        have hfW := hI8.fW
        have hfQ := hI8.fQ
        have hdWQ := hI8.dWQ
        have hbwlt := hI8.bwlt
        have HSH := hid (shorts_calls [300] (by simp [U64]) (.slice (some ⟨w10.heap.size, 0, none⟩) 1 1) (w10.alloc (.cells #[.int .u64 300] 41)) W.heap.size rW LQ aoW capW (hW10.keep ((Chg.refl [] w10).alloc _) (by simp) (by simp)) (by omega) (View.one _ _ _) (fun _ g hg => by
          have h1 : w10.heap.size = g := by simpa [Value.ownBlock] using hg
          refine ⟨by omega, fun e => ?_⟩
          have := hW10.row.lt g e
          omega) (by simp))
        have HALL := hid (And.intro hW10 (And.intro hQ10 (And.intro hC10 (And.intro hfW (And.intro hfQ (And.intro hdWQ hbwlt))))))
        clear hI8 hW10 hQ10 hC10 hs10 hfW hfQ hdWQ hbwlt vb10 vq10 vq9 HZ9 HI8 HN8 HA8 hc10 hc9 hf10
        go_wp2_with (go_at_call 18; refine HSH.out.mono ?_; rintro e w11 ⟨rfl, l11, r11, ao11, cap11, hW11, hc11, hf11, HL11⟩; refine halt (fun X hX => ?_))
        rw [hX.out]; clear hX
        obtain ⟨hW10, hQ10, hC10, hfW, hfQ, hdWQ, hbwlt⟩ := HALL.out
        have hs10 := hC10.size
        have hL11 : LQ ++ [172, 2] = l11 := by rw [HL11.out, short300]
        have hl11 : l11.length ≤ 10485762 := by rw [← hL11]; simp; omega
        have HL12 := hid hL11
        have hcs : Chg (W.heap.size :: rW.toList) w10 w11 := ((Chg.refl [] w10).alloc _).nil.trans' hc11
        have hQ11 := hQ10.keep hcs (fun g hg hm => by
          rcases List.mem_cons.1 hm with h1 | h1
          · have := hfQ g hg; omega
          · exact hdWQ g (by simpa using h1) hg)
        have hB11 : Below W.heap.size W w11 := (hcb.trans (hC10.trans hcs (T := W.heap.size :: rW.toList) (fun x hx => by
          rcases List.mem_cons.1 hx with h1 | h1
          · exact .inl (by simp [h1])
          · exact .inr (hfW x (by simpa using h1)))) (fun x hx => by
          simp only [List.mem_cons, List.not_mem_nil, or_false] at hx
          rcases hx with h1 | h1
          · exact .inr (by omega)
          · exact .inr (by omega))).to_below
        have hs11 : W.heap.size ≤ w11.heap.size := hB11.size
        have hltQ := hQ11.lt
        have HWP := hid (fun (u : World) (h : Chg [] w11 u) => hW11.keep h (by simp) (by simp))
        have HQP := hid (fun (u : World) (h : Chg [] w11 u) => hQ11.keep h (by simp))
        have hFN : ∀ p u, Chg [] w11 p → Chg rQ.toList p u → Below W.heap.size W u := fun p u h1 h2 => hB11.trans ((h1.nil.trans' h2).below (fun x hx => by have := hfQ x (by simpa using hx); omega) hs11)
        have HFN := hid hFN
        have HLW := hid (show W.heap.size ∉ rQ.toList ∧ (∀ g, r11 = some g → g ∉ rQ.toList) from ⟨fun hm => by
          have := hfQ _ (show rQ = some W.heap.size by simpa using hm)
          omega, fun g hg hm => by
          have h1 : rQ = some g := by simpa using hm
          rcases hf11 g hg with h2 | h2
          · exact hdWQ g h2 h1
          · have h3 := hQ10.lt g h1
            simp at h2
            omega⟩)
        have hrAlt : ∀ p (g : Nat), Chg [] w11 p → p.heap.size ≤ g → g ∉ rQ.toList := fun p g h1 h2 hm => by
          have := hltQ g (by simpa using hm)
          have := h1.size
          omega
        have HLT := hid hrAlt
        clear hW10 hQ10 hC10 hfW hfQ hdWQ hbwlt hs10 hL11 hcs hQ11 hB11 hs11 hltQ hFN hrAlt HALL HSH hW11 hc11 hf11 HL11
        go_wp2_with fail
        go_region_law (first
          | (refine step_app rfl _ _ 25 rfl elem_u8 rfl (HQP.out _ ((Chg.of_drewN [] w11 1).alloc _)) rfl (View.two _) (B_one _) (by unfold maxLen; simp; omega) (by simp; omega) (fun ao' cap' r' w2 hr2 hc2 hf2 => ?_); have hb2 := HFN.out _ w2 ((Chg.of_drewN [] w11 1).alloc _) hc2; rw [← List.map_append, HL12.out] at hr2; have vq2 := run_conv_view (P := Try.prog) Try.underlying25 Try.underlying5 Try.underlying9 hr2.view w2 rfl; have hWa := ((HWP.out _ ((Chg.of_drewN [] w11 1).alloc _)).keep hc2 HLW.out.1 HLW.out.2))
          | (refine step_app rfl _ _ 25 rfl elem_u8 rfl (HQP.out _ (hcA'.alloc _)) rfl (View.two _) (B_one _) (by unfold maxLen; simp; omega) (by simp; omega) (fun ao' cap' r' w2 hr2 hc2 hf2 => ?_); have hb2 := HFN.out _ w2 (hcA'.alloc _) hc2; rw [← List.map_append, HL12.out] at hr2; have vq2 := run_conv_view (P := Try.prog) Try.underlying25 Try.underlying5 Try.underlying9 hr2.view w2 rfl; have vb2 := run_conv_view (P := Try.prog) Try.underlying25 Try.underlying5 Try.underlying9 ((hrA.keep ((Chg.refl [] wA).alloc _) (by simp)).keep hc2 (fun g hg => HrA.out g hg)).view w2 rfl)
          | (refine step_app rfl _ _ 25 rfl elem_u8 rfl (HQP.out _ hcA') rfl ((View.two (w11.drewN 1)).keep hcA (by simp)) (B_one _) (by unfold maxLen; simp; omega) (by simp; omega) (fun ao' cap' r' w2 hr2 hc2 hf2 => ?_); have hb2 := HFN.out _ w2 hcA' hc2; rw [← List.map_append, HL12.out] at hr2; have vq2 := run_conv_view (P := Try.prog) Try.underlying25 Try.underlying5 Try.underlying9 hr2.view w2 rfl; have vb2 := run_conv_view (P := Try.prog) Try.underlying25 Try.underlying5 Try.underlying9 (hrA.keep hc2 (fun g hg => HrA.out g hg)).view w2 rfl)
          | (go_simp; go_at_call 16; refine (bytes_calls _ _ _ _ _ _ (HWP.out _ (Chg.of_drewN [] w11 1)) (by omega)).mono ?_; rintro e wA ⟨lA, aoA, capA, rA, rfl, hrA, hfA, hcA, HLA⟩; obtain rfl : l11 = lA := HLA.out.symm; have hcA' := (Chg.of_drewN [] w11 1).trans' hcA; have HrA := hid (fun g hg => HLT.out _ g (Chg.of_drewN [] w11 1) ((hfA g hg).resolve_left (by simp))); have vA := run_conv_view (P := Try.prog) Try.underlying25 Try.underlying5 Try.underlying9 hrA.view wA rfl; have vA2 := fun o => run_conv_view (P := Try.prog) Try.underlying25 Try.underlying5 Try.underlying9 (hrA.keep ((Chg.refl [] wA).alloc o) (by simp)).view (wA.alloc o) rfl)
          | (go_simp; go_at_call 16; refine (bytes_calls _ _ _ _ _ _ (HWP.out _ ((Chg.of_drewN [] w11 1).alloc _)) (by omega)).mono ?_; rintro e wA ⟨lA, aoA, capA, rA, rfl, hrA, hfA, hcA, HLA⟩; obtain rfl : l11 = lA := HLA.out.symm; have hcA' := ((Chg.of_drewN [] w11 1).alloc _).trans' hcA; have HrA := hid (fun g hg => HLT.out _ g ((Chg.of_drewN [] w11 1).alloc _) ((hfA g hg).resolve_left (by simp))); have vA := run_conv_view (P := Try.prog) Try.underlying25 Try.underlying5 Try.underlying9 hrA.view wA rfl)
          | (go_simp; go_at_call 16; refine (bytes_calls _ _ _ _ _ _ hWa (by omega)).mono ?_; rintro e wA ⟨lA, aoA, capA, rA, rfl, hrA, hfA, hcA, HLA⟩; obtain rfl : l11 = lA := HLA.out.symm; have hbA := hb2.trans (hcA.to_below.mono hb2.size); have vA := run_conv_view (P := Try.prog) Try.underlying25 Try.underlying5 Try.underlying9 hrA.view wA rfl; have vqA := run_conv_view (P := Try.prog) Try.underlying25 Try.underlying5 Try.underlying9 (hr2.keep hcA (by simp)).view wA rfl))
        all_goals
          go_wp2
          go_ret
          first
            | exact ⟨rfl, hbA⟩
            | exact ⟨rfl, hb2⟩
end Go.Proofs.Ytdakcphkaljghaa
