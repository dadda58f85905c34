/- The law WireTakes: its walk. -/
import Derived.Test.YtdakcphkaljghaaQf
import Derived.Test.YtdakcphkaljghaaBase2
import Derived.Test.YtdakcphkaljghaaLaw2
namespace Go.Proofs.Ytdakcphkaljghaa
open Go.RowKit Go.AB
set_option linter.unusedSimpArgs false

set_option maxHeartbeats 4000000 in
set_option maxRecDepth 100000 in
theorem takes_walk (vb : Value) (l : List UInt8) (vt : Value) (ts : List (Int × Int × Int × Int)) (W : World) (hb : Bytes W vb l) (ht : VL W 4 takeR vt ts) (hl : l.length ≤ 1048576) (hn : ts.length ≤ 1048576) :
    Calls Try.prog 8 #[vb, vt] W fun e W' => e = .returned (.bool true) ∧ Below W.heap.size W W' := by
  obtain ⟨css, ⟨hfl, _, aot, capt, rfl, _, _, _, hcells⟩, hcl, hcs⟩ := ht
  obtain ⟨aob, capb, rfl⟩ : ∃ ao cap, vb = .slice ao l.length cap := by obtain ⟨ao, cap, h, _⟩ := hb.out; exact ⟨ao, cap, h⟩
  have hr0 : Row W 5 1 (.slice none 0 0) none 0 [] := Row.nil _ _ _
  have hB := hid hb
  go_enter Try.func8, Try.ntmps8
  go_wp2_with (at_builtin; refine wpList_app rfl _ _ 25 rfl elem_u8 rfl (hr0) rfl (hB.out) (B_one _) (by unfold maxLen; omega) (by omega) (fun ao' cap' r' w2 hr2 hc2 hf2 hnil2 => halt (fun X hX => ?_)))
  rw [hX.out]; clear hX
  clear hnil2 hr0
  simp only [Nat.zero_add, List.nil_append] at hr2
  have hcl2 : Chg [] W w2 := hc2
  have hf2' := hf2
  have hra := fun o => hr2.keep ((Chg.refl [] w2).alloc o) (by simp)
  have hvn := View.news w2 [.int .u8 90, .int .u8 91] 5 (by simp [maxLen])
  have hone : ∀ u ∈ [Value.int .u8 90, Value.int .u8 91], u.oneCell' = true := by simp [Value.oneCell']
  clear hc2 hf2
  go_wp2_with (at_builtin; refine wpList_app rfl _ _ 25 rfl elem_u8 rfl (hra _) rfl hvn hone (by unfold maxLen; simp; omega) (by simp; omega) (fun ao3 cap3 r3 w3 hr3 hc3 hf3 hnil3 => halt (fun X hX => ?_)))
  rw [hX.out]; clear hX
  clear hnil3 hra hvn hone
  have hF : Row w3 5 1 (.slice ao3 (l ++ [90, 91]).length cap3) r3 (l ++ [90, 91]).length ((l ++ [90, 91]).map B) := by
    rw [List.length_append, List.map_append]; exact hr3
  have hfW : Fresh W none r' := hf2'
  have hc3W : Chg [] W w3 := own_step hcl2 hfW ((Chg.refl [] w2).alloc _) hc3
  have hf3W : Fresh W none r3 := fresh_step hcl2 hfW ((Chg.refl [] w2).alloc _) hf3
  clear hr3 hc3 hf3
  have hlen : (l ++ [90, 91]).length = l.length + 2 := by simp
  have hcap : l.length + 2 ≤ cap3 := by
    obtain ⟨_, _, _, _, e, h, _⟩ := hF.view
    simp only [Value.slice.injEq, true_and] at e
    obtain ⟨rfl, rfl⟩ := e
    omega
  have hcap1 : (l.length : Int) ≤ (cap3 : Int) := by omega
  have hpre := (hF.view).pre (m := l.length) (by omega)
  have htk : ((l ++ [90, 91]).map B).take l.length = l.map B := by simp
  rw [htk] at hpre
  have hHN := hid (newReader_calls _ l w3 hpre (by omega))
  have HLEN := hid hlen
  clear hlen htk
  go_wp2_with (go_at_call 27; refine hHN.out.mono ?_; rintro e w4 ⟨br, l4, aoR, capR, rfl, hR, hbr, hown, hc4, HL4⟩; refine halt (fun X hX => ?_))
  rw [hX.out]; clear hX
  obtain rfl : l4 = l := HL4.out
  clear HL4 hHN
  have hF4 := hF.keep hc4 (by simp)
  have hpre4 := hpre.keep hc4 (by simp)
  have hb4 := hB.out.below ((hc3W.trans' hc4).to_below)
  have hcvF : ∀ k, (convert 25 9 (.slice ao3 l4.length cap3)).run Try.prog (w4.drewN k) = .ok (.string ⟨l4.toArray⟩) (w4.drewN k) := fun k => run_conv_view Try.underlying25 Try.underlying5 Try.underlying9 hpre4 _ rfl
  have hcvB : ∀ k, (convert 25 9 (.slice aob l4.length capb)).run Try.prog (w4.drewN k) = .ok (.string ⟨l4.toArray⟩) (w4.drewN k) := fun k => run_conv_view Try.underlying25 Try.underlying5 Try.underlying9 hb4 _ rfl
  obtain ⟨g, rfl, rfl, x1, _⟩ := hF4.at (k := l4.length) (by simp)
  obtain ⟨g2, hg2, _, x2, _⟩ := hF4.at (k := l4.length + 1) (by simp)
  obtain rfl : g = g2 := by simpa using hg2
  clear hg2
  have e1 : (l4 ++ [90, 91])[l4.length]'(by simp) = 90 := by simp
  have e2 : (l4 ++ [90, 91])[l4.length + 1]'(by simp) = 91 := by simp
  rw [e1] at x1
  rw [e2] at x2
  have z0 : (0 : Int) ≤ (l4.length : Int) := by omega
  have z1 : (l4.length : Int) + 1 < ((l4.length + 2 : Nat) : Int) := by omega
  have z1b : (l4.length : Int) + 1 < (l4.length : Int) + 2 := by omega
  have z2 : (l4.length : Int) < ((l4.length + 2 : Nat) : Int) := by omega
  have hgW : W.heap.size ≤ g := (hf3W g rfl).resolve_left (by simp)
  have hg3 : g < w3.heap.size := hF.lt g rfl
  have hc4W : Chg [] W w4 := hc3W.trans' hc4
  have hR4 : Rd 81 (w4.drewN 1) br l4 aoR capR 0 0 0 := Rd_drew hR Drew.refl
  go_wp2_with fail
  go_quiet (fail)
  have hFd := fun n => hF4.keep (Chg.of_drewN [] w4 n) (by simp)
  clear x1 x2 e1 e2 hcvF hcvB
  go_wp2_with fail
  go_loopw [7] (fun i wr => ∃ (k : Nat) (zs : List UInt8), zs.length = l4.length + 2 ∧ k ≤ l4.length + 2 ∧ i = .int .i64 (k : Nat) ∧ Row wr 5 1 (.slice (some ⟨g, 0, none⟩) (l4.length + 2) cap3) (some g) (l4.length + 2) (zs.map B) ∧ Chg [g] w4 wr)
    (fun i _ => l4.length + 2 - (intOf i).toNat)
  case atStart => exact ⟨0, l4 ++ [90, 91], by simp, by omega, rfl, (by have := hFd nq; rw [HLEN.out] at this; exact this), Chg.of_drewN _ _ _⟩
  case round =>
    obtain ⟨k, zs, hzl, hk, rfl, hFk, hch⟩ := hrel
    by_cases hlt : k < l4.length + 2
    · obtain ⟨g2, hg2, _, x1, f1, hst⟩ := Row.at (l := zs) (by rw [hzl]; exact hFk) (k := k) (by omega)
      obtain rfl : g = g2 := by simpa using hg2
      have hx := zs[k].toNat_lt
      have h2 := xor255 zs[k].toNat hx
      obtain ⟨z, hz⟩ : ∃ z, zs[k] = z := ⟨_, rfl⟩
      rw [hz] at x1 hx h2
      clear hz
      have hlz : (k : Int) < ((l4.length + 2 : Nat) : Int) := by omega
      have hlz2 : (k : Int) < (l4.length : Int) + 2 := by omega
      have hlz3 : (k : Int) < (zs.length : Int) := by omega
      obtain ⟨hrow5, hch5⟩ := hst (UInt8.ofNat (255 - z.toNat))
      have hB5 : B (UInt8.ofNat (255 - z.toNat)) = .int .u8 ((255 - z.toNat : Nat) : Int) := by unfold B; congr 1; simp; omega
      rw [hB5] at hrow5 hch5
      clear hst hB5
      rw [hzl] at hrow5
      have HZ := hid hzl
      clear hzl hg2
      go_wp2
      go_roundw
      case rel => exact ⟨k + 1, zs.set k (UInt8.ofNat (255 - z.toNat)), by rw [List.length_set]; exact HZ.out, by omega, by go_num, hrow5, hch.trans' hch5⟩
      case measure => simp [intOf]; omega
    · have hbl : Below W.heap.size W wr := hc4W.to_below.trans (hch.below (by intro x hx; simp at hx; omega) hc4W.size)
      have hRw := hR.keep hch (by simp; omega) (fun q hq => by have := hown q hq; simp; omega)
      have hbw := hB.out.below hbl
      have hsz4 : w4.heap.size ≤ wr.heap.size := hch.size
      have HN := hid (q_new_calls _ _ wr hbw (by omega))
      clear hFd hF4 hF hpre hpre4 hb4 hR4 hfl
      go_wp2_with (go_at_call 30; refine HN.out.mono ?_; rintro e w5 ⟨bd, l5, aoD, capD, rfl, hD, hbd, hownd, hc5, HL5⟩; refine halt (fun X hX => ?_))
      rw [hX.out]; clear hX
      obtain rfl : l5 = l4 := HL5.out
      clear HL5 HN
      have hT : Twin w5 br bd l5 aoR capR aoD capD ⟨0, 0, 0⟩ := ⟨hRw.keep hc5 (by simp) (by simp), hD, by have := blk_lt hRw.blk; omega, fun q hq => by have := (hown q hq).2; omega, fun q hq => by have := (hownd q hq).1; have := blk_lt hRw.blk; omega⟩
      have hbl5 : Below W.heap.size W w5 := hbl.trans (hc5.to_below.mono hbl.size)
      have hbrW : W.heap.size ≤ br := by have := hc3W.size; omega
      have hbdW : W.heap.size ≤ bd := by have := hc4W.size; omega
      clear hRw hbw hR
      go_wp2_with fail
      go_loopw [9] (fun i wx => ∃ (k : Nat) (s : RS), k ≤ ts.length ∧ i = .int .i64 (k : Nat) ∧ Twin wx br bd l5 aoR capR aoD capD s ∧ Chg [br, bd] w5 wx)
        (fun i _ => ts.length - (intOf i).toNat)
      case atStart => exact ⟨0, ⟨0, 0, 0⟩, by omega, rfl, hT, Chg.refl _ _⟩
      case round =>
        obtain ⟨k, s, hk, rfl, hTk, hchk⟩ := hrel
        have hblk : Below W.heap.size W wr := hbl5.trans (hchk.below (by intro x hx; simp at hx; omega) hbl5.size)
        clear hT
        by_cases hlt : k < ts.length
        · obtain ⟨hc4', hck, hi1, hi2, hi3, hm1, hm2⟩ := hcs k hlt (by omega)
          obtain ⟨bl, off, rfl, hcell⟩ := hcells (by omega)
          have hfg := (flat_get (k := 4) css (fun i hi => (hcs i (by omega) hi).1)).2 k
          have cj : ∀ j, j < 4 → wr.cell? ⟨bl, off + k * 4 + j, none⟩ = some (css[k].getD j undef) := fun j hj => by
            have h1 := hcell (k * 4 + j) (by omega)
            rw [← hfg j (by omega) hj, Nat.add_assoc]
            exact (hblk.cell (World.block_lt_of_cell? W _ h1)).trans h1
          rw [hck] at cj
          have x0 := cj 0 (by omega)
          have x1 := cj 1 (by omega)
          have x2 := cj 2 (by omega)
          have x3 := cj 3 (by omega)
          simp only [Nat.add_zero] at x0
          simp only [List.getD, List.getElem?_cons_zero, List.getElem?_cons_succ, Option.getD_some] at x0 x1 x2 x3
          clear cj hcell hcells hcs hck hfg
          obtain ⟨tk, htk⟩ : ∃ t, ts[k] = t := ⟨_, rfl⟩
          rw [htk] at x0 x1 x2 x3 hi1 hi2 hi3 hm1 hm2
          clear htk
          obtain ⟨kind, width, nn, most⟩ := tk
          simp only at x0 x1 x2 x3 hi1 hi2 hi3 hm1 hm2
          obtain ⟨m, rfl⟩ := Int.eq_ofNat_of_zero_le hm1
          clear hm1 hm2
          have HTK := hid (takes_calls hTk (by omega) width nn m kind hi3)
          clear hTk
          go_wp2_with (go_at_call 31; refine HTK.out.mono ?_; rintro e w6 ⟨rfl, s', hT6, hc6⟩)
          go_roundw
          case rel => exact ⟨k + 1, s', by omega, by go_num, hT6, hchk.trans' hc6⟩
          case measure => simp [intOf]; omega
        · have hcb : Chg [] wr (wr.alloc (.cells #[.int .u8 172, .int .u8 2] 5)) := (Chg.refl [] wr).alloc _
          have hB7 : Bytes (wr.alloc (.cells #[.int .u8 172, .int .u8 2] 5)) (.slice (some ⟨wr.heap.size, 0, none⟩) 2 2) [172, 2] := View.news wr [.int .u8 172, .int .u8 2] _ (by simp [maxLen])
          go_wp2_with (go_at_call 27; refine (newReader_calls _ _ _ hB7 (by simp)).mono ?_; rintro e w7 ⟨b1, l1, ao1, cap1, rfl, hR1, hb1, hown1, hc7, HL1⟩; refine halt (fun X hX => ?_))
          rw [hX.out]; clear hX
          obtain rfl : l1 = [172, 2] := HL1.out
          have hT7 := (hTk.keep hcb).keep hc7
          have e2 : rShort 1000 [172, 2] ⟨0, 0, 0⟩ = (300, ⟨2, 0, 0⟩) := by rfl
          have e3 : rEnd [172, 2] ⟨2, 0, 0⟩ = 0 := by decide
          have HS := hid (stands_calls hT7)
          have E2 := hid e2
          have E3 := hid e3
          clear e2 e3 HL1 hB7 hTk
          go_wp2_with (first
            | (go_at_call 32; refine HS.out.mono ?_; rintro e w8 ⟨rfl, hd8⟩; have hR8 := Rd_drew hR1 hd8)
            | (go_at_call 33; refine (rshort_calls hR8 (by simp) 1000).mono ?_; rw [E2.out]; rintro e w9 ⟨rfl, hR9, hc9⟩)
            | (go_at_call 29; refine (end_calls hR9).mono ?_; rw [E3.out]; rintro e w10 ⟨rfl, hd10⟩))
          go_ret
          have hA : Chg [] wr w8 := (hcb.trans' hc7).trans' hd8.chg
          have hBB : Chg [] wr w9 := hA.trans hc9 (fun x hx => .inr (by simp at hx; subst hx; simp at hb1; omega))
          exact ⟨rfl, hblk.trans (((hBB.trans' hd10.chg).to_below).mono hblk.size)⟩
end Go.Proofs.Ytdakcphkaljghaa
