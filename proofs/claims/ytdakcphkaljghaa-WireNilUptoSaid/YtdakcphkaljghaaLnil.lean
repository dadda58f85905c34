/- The law WireNil: its walk. -/
import Derived.Test.YtdakcphkaljghaaNa
import Derived.Test.YtdakcphkaljghaaQf
import Derived.Test.YtdakcphkaljghaaBase2
import Derived.Test.YtdakcphkaljghaaLaw2
import Derived.Test.YtdakcphkaljghaaLadds
namespace Go.Proofs.Ytdakcphkaljghaa
open Go.RowKit Go.AB
set_option linter.unusedSimpArgs false

set_option maxHeartbeats 4000000 in
set_option maxRecDepth 100000 in
theorem nil_walk (va : Value) (adds : List AddD) (vt : Value) (ts : List (Int × Int × Int × Int)) (W : World) (hva : VL W 4 (addR W) va adds) (ht : VL W 4 takeR vt ts) (hna : (adds.map addSz).sum ≤ 1048576) (hn : ts.length ≤ 1048576) :
    Calls Try.prog 10 #[va, vt] W fun e W' => e = .returned (.bool true) ∧ Below W.heap.size W W' := by
  have hsz : ∀ a ∈ adds, addSz a ≤ 1048576 := fun a ha => Nat.le_trans (mem_sum_le addSz ha) hna
  have hlen : adds.length ≤ 1048576 := by
    have := sum_ge addSz adds (fun a => by unfold addSz; omega)
    omega
  obtain ⟨aoa, capa, hvs⟩ : ∃ ao cap, va = .slice ao adds.length cap := by obtain ⟨css, ⟨_, _, ao, cap, h, _⟩, _⟩ := hva.ex; exact ⟨ao, cap, h⟩
  subst hvs
  obtain ⟨css, ⟨hfl, _, aot, capt, rfl, _, _, _, hcells⟩, hcl, hcs⟩ := ht
  have hnil : ∀ u, Bytes u (.slice none 0 0) [] := fun u => (Row.nil u 5 1).view
  have hR0 : Rd 81 (W.alloc (.cells #[.slice none 0 0, .int .i64 0, .int .i64 0, .int .i64 0] 81)) W.heap.size [] none 0 0 0 0 := ⟨heap_alloc_new W _, hnil _, by simp [Value.ownBlock], by simp⟩
  have hc0 : Chg [] W (W.alloc (.cells #[.slice none 0 0, .int .i64 0, .int .i64 0, .int .i64 0] 81)) := (Chg.refl [] W).alloc _
  have HN := hid (fun u => q_new_calls (.slice none 0 0) [] u (hnil u) (by simp))
  clear hfl
  go_enter Try.func10, Try.ntmps10
  go_wp2_with (go_at_call 30; refine (HN.out _).mono ?_; rintro e w1 ⟨bd, l1, aoD, capD, rfl, hD, hbd, hownd, hc1, HL1⟩; refine halt (fun X hX => ?_))
  rw [hX.out]; clear hX
  obtain rfl : l1 = [] := HL1.out
  have hT1 : Twin w1 W.heap.size bd [] none 0 aoD capD ⟨0, 0, 0⟩ := ⟨hR0.keep hc1 (by simp) (by simp), hD, by simp at hbd; omega, by simp [Value.ownBlock], fun g hg => by have := (hownd g hg).1; simp at this; omega⟩
  have hbl1 : Below W.heap.size W w1 := (hc0.trans' hc1).to_below
  have hbdW : W.heap.size ≤ bd := by simp at hbd; omega
  clear HN hnil HL1 hR0 hD
  go_wp2_with fail
  go_loopw [9] (fun i wr => ∃ k : Nat, k ≤ adds.length ∧ i = .int .i64 (k : Nat) ∧ Chg [] w1 wr)
    (fun i _ => adds.length - (intOf i).toNat)
  case atStart => exact ⟨0, by omega, rfl, Chg.refl _ _⟩
  case round =>
    obtain ⟨k, hk, rfl, hch⟩ := hrel
    have hbl : Below W.heap.size W wr := hbl1.trans (hch.to_below.mono hbl1.size)
    by_cases hlt : k < adds.length
    · obtain ⟨bl, off, u, rfl, hview, hmk, hcellsA⟩ := add_at hva rfl hlt
      obtain ⟨x0, x1, x2, x3⟩ := hcellsA wr hbl
      have hak := hsz _ (List.getElem_mem hlt)
      have hcall := nil_lays adds[k] u wr (hview.below hbl) (by unfold addSz at hak; omega)
      unfold addV at hcall
      have HC := hid hcall
      clear hcall hcellsA hview hmk
      obtain ⟨ak, hake⟩ : ∃ a, adds[k] = a := ⟨_, rfl⟩
      rw [hake] at x0 x1 x3 HC
      clear hake hak
      go_wp2_with (go_at_call 12; refine HC.out.mono ?_; rintro e w2 ⟨rfl, hc2⟩)
      go_roundw
      case rel => exact ⟨k + 1, by omega, by go_num, hch.trans' hc2⟩
      case measure => simp [intOf]; omega
    · have hTw := hT1.keep hch
      have hblW := hbl
      obtain ⟨wo, rfl⟩ : ∃ wo : World, wo = wr := ⟨_, rfl⟩
      clear hT1 hva
      go_wp2_with fail
      go_loopw [10] (fun i wr => ∃ (k : Nat) (s : RS), k ≤ ts.length ∧ i = .int .i64 (k : Nat) ∧ Twin wr W.heap.size bd [] none 0 aoD capD s ∧ Chg [W.heap.size, bd] wo wr)
        (fun i _ => ts.length - (intOf i).toNat)
      case atStart => exact ⟨0, ⟨0, 0, 0⟩, by omega, rfl, hTw, Chg.refl _ _⟩
      case round =>
        obtain ⟨k, s, hk, rfl, hTk, hchk⟩ := hrel
        clear hTw
        have hblk : Below W.heap.size W wr := hblW.trans (hchk.below (by intro x hx; simp at hx; omega) hblW.size)
        by_cases hlt : k < ts.length
        · obtain ⟨hc4', hck, hi1, hi2, hi3, hm1, hm2⟩ := hcs k hlt (by omega)
          obtain ⟨bl, off, rfl, hcell⟩ := hcells (by omega)
          have hfg := (flat_get (k := 4) css (fun i hi => (hcs i (by omega) hi).1)).2 k
          have cj : ∀ wy, Below W.heap.size W wy → ∀ j, j < 4 → wy.cell? ⟨bl, off + k * 4 + j, none⟩ = some (css[k].getD j undef) := fun wy hy j hj => by
            have h1 := hcell (k * 4 + j) (by omega)
            rw [← hfg j (by omega) hj, Nat.add_assoc]
            exact (hy.cell (World.block_lt_of_cell? W _ h1)).trans h1
          rw [hck] at cj
          obtain ⟨tk, htk⟩ : ∃ t, ts[k] = t := ⟨_, rfl⟩
          rw [htk] at cj hi1 hi2 hi3 hm1 hm2
          clear htk
          obtain ⟨kind, width, nn, most⟩ := tk
          simp only at hi1 hi2 hi3 hm1 hm2
          obtain ⟨m, rfl⟩ := Int.eq_ofNat_of_zero_le hm1
          have CJ : ∀ wy, Below W.heap.size W wy → wy.cell? ⟨bl, off + k * 4, none⟩ = some (.int .i64 kind) ∧ wy.cell? ⟨bl, off + k * 4 + 1, none⟩ = some (.int .i64 width) ∧ wy.cell? ⟨bl, off + k * 4 + 2, none⟩ = some (.int .i64 nn) ∧ wy.cell? ⟨bl, off + k * 4 + 3, none⟩ = some (.int .u64 m) := fun wy hy => ⟨cj wy hy 0 (by omega), cj wy hy 1 (by omega), cj wy hy 2 (by omega), cj wy hy 3 (by omega)⟩
          obtain ⟨x0, x1, x2, x3⟩ := CJ wr hblk
          have HCJ := hid CJ
          clear hm1 hm2 CJ cj hcell hcells hcs hck hfg
          have HNO := hid (nothing_calls kind width nn m)
          go_wp2_with (first
            | (go_at_call 41; refine (HNO.out _).mono ?_; rintro e w5 ⟨rfl, hc5⟩; obtain ⟨y0, y1, y2, y3⟩ := HCJ.out w5 (hblk.trans (hc5.to_below.mono hblk.size)); have HTK := hid (takes_calls (hTk.keep hc5) (by simp) width nn m kind hi3))
            | (go_at_call 31; refine HTK.out.mono ?_; rintro e w6 ⟨rfl, s', hT6, hc6⟩))
          go_roundw
          case rel => exact ⟨k + 1, s', by omega, by go_num, hT6, hchk.trans' (hc5.nil.trans' hc6)⟩
          case measure => simp [intOf]; omega
        · clear hcells hcs
          have hW0 : ∀ u : World, Wr 27 5 (u.alloc (.cells #[.slice none 0 0] 27)) u.heap.size none [] none 0 := fun u => ⟨heap_alloc_new u _, Row.nil _ _ _, by simp⟩
          go_wp2_with (first
            | (go_at_call 42; refine (nil_fault _).mono ?_; rintro e w5 ⟨rfl, rfl⟩)
            | (go_at_call 39; refine (text_calls ⟨#[97, 98]⟩ _ _ _ _ _ _ (hW0 _) (by simp) (by decide)).mono ?_; rintro e w6 ⟨rfl, l6, r6, ao6, cap6, hW6, hc6, hf6, HL6⟩; refine halt (fun X hX => ?_)))
          rw [hX.out]; clear hX
          have hl6 : l6 = [2, 97, 98] := by
            rw [HL6.out]
            have : shortB 2 = [2] := by rw [shortB_lt (by decide)]; rfl
            show [] ++ (shortB 2 ++ [97, 98]) = _
            rw [this]; rfl
          subst hl6
          have hT6 : Twin w6 W.heap.size bd [] none 0 aoD capD s := by
            refine hTk.keep ?_
            exact ((Chg.refl [] wr).alloc _).trans hc6 (fun x hx => .inr (by simp at hx; omega))
          have hbl6 : Below W.heap.size W w6 := hblk.trans ((((Chg.refl [] wr).alloc _).trans hc6 (fun x hx => .inr (by simp at hx; omega))).to_below.mono hblk.size)
          clear HL6 hW0
          go_wp2_with (first
            | (go_at_call 14; refine (nil_len _).mono ?_; rintro e w7 ⟨rfl, rfl⟩)
            | (go_at_call 16; refine (nil_bytes _).mono ?_; rintro e w7 ⟨rfl, rfl⟩)
            | (go_at_call 29; refine (nil_end _).mono ?_; rintro e w8 ⟨rfl, hd8⟩; have hT8 := hT6.keep hd8.chg)
            | (go_at_call 43; refine (nil_at _).mono ?_; rintro e w9 ⟨rfl, rfl⟩)
            | (go_at_call 32; refine (stands_calls hT8).mono ?_; rintro e w10 ⟨rfl, hd10⟩; have hW10 := hW6.keep ((hd8.chg (S := [])).trans' hd10.chg) (by simp) (by simp))
            | (go_at_call 16; refine (bytes_calls _ _ _ _ _ _ hW10 (by simp)).mono ?_; rintro e w11 ⟨l11, ao11, cap11, r11, rfl, hr11, hf11, hc11, HL11⟩; obtain rfl : l11 = [2, 97, 98] := HL11.out; have hcv : (convert 25 9 (.slice ao11 3 cap11)).run Try.prog w11 = .ok (.string ⟨#[2, 97, 98]⟩) w11 := run_conv_view Try.underlying25 Try.underlying5 Try.underlying9 hr11.view w11 rfl))
          go_ret
          exact ⟨rfl, hbl6.trans ((((hd8.chg (S := [])).trans' hd10.chg).trans' hc11).to_below.mono hbl6.size)⟩
end Go.Proofs.Ytdakcphkaljghaa
