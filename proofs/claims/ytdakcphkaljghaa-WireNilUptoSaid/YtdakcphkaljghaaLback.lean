/- The law WireBack: its walk. -/
import Derived.Test.YtdakcphkaljghaaRh
import Derived.Test.YtdakcphkaljghaaLadds
namespace Go.Proofs.Ytdakcphkaljghaa
open Go.RowKit Go.AB

theorem same_calls {w : World} {b : Nat} {L rest : List UInt8} {ao : Option Addr} {cap pos wh : Nat} (hR : Rd 81 w b L ao cap pos wh 0) (hl : L.length ≤ 1073741824) (a : AddD) {v : Value}
    (hv : View w 1 v a.many.length (a.many.map cU)) (hvb : 0 < a.many.length → ∀ g, v.ownBlock = some g → g ≠ b) (hm : ∀ m ∈ a.many, U64 m) (hn : a.many.length ≤ 16777216) (ht : a.text.size ≤ 1073741824) (h : L.drop pos = laidB a ++ rest) :
    Calls Try.prog 44 #[.pointer (some ⟨b, 0, none⟩), addV a v] w (RdPost 81 w b L ao cap (.bool true) ⟨pos + (laidB a).length, wh, 0⟩) := by
  obtain ⟨kind, width, many, text⟩ := a
  unfold addV
  simp only at hv hvb hm hn ht ⊢
  unfold laidB at h ⊢
  simp only at h ⊢
  split at h
  · rename_i h1
    rw [if_pos h1]
    subst h1
    by_cases hwid : 0 ≤ width ∧ width < 8
    · exact same_1 hR hl hv hvb hm hn hwid h
    · have hz : sizeI width = 0 := by unfold sizeI; rw [if_neg hwid]
      have hf : many.flatMap (fixedB (sizeI width)) = [] := by rw [hz]; simp [fixedB]
      rw [hf]
      exact same_1out hR hl hv hvb hm hn hwid
  rename_i h1
  rw [if_neg h1]
  split at h
  · rename_i h2
    rw [if_pos h2]
    subst h2
    exact same_2 hR hl hv hvb hm hn h
  rename_i h2
  rw [if_neg h2]
  split at h
  · rename_i h3
    rw [if_pos h3]
    subst h3
    exact same_3 hR hl hv hvb hm hn h
  rename_i h3
  rw [if_neg h3]
  split at h
  · rename_i h4
    rw [if_pos h4]
    subst h4
    exact same_4 hR hl hv hvb hm hn h
  rename_i h4
  rw [if_neg h4]
  split at h
  · rename_i h5
    rw [if_pos h5]
    subst h5
    exact same_5 hR hl hv hvb hm hn ht h
  rename_i h5
  rw [if_neg h5]
  exact same_none hR hl hv hvb hm hn h1 h2 h3 h4 h5

def begB : List UInt8 := [98, 101, 103, 105, 110]
set_option maxHeartbeats 4000000 in
set_option maxRecDepth 100000 in
theorem back_walk (va : Value) (adds : List AddD) (W : World) (hva : VL W 4 (addR W) va adds) (hn : (adds.map addSz).sum ≤ 1048576) :
    Calls Try.prog 11 #[va] W fun e W' => e = .returned (.bool true) ∧ Below W.heap.size W W' := by
  have hsz : ∀ a ∈ adds, addSz a ≤ 1048576 := fun a ha => Nat.le_trans (mem_sum_le addSz ha) hn
  have hlen : adds.length ≤ 1048576 := by
    have := sum_ge addSz adds (fun a => by unfold addSz; omega)
    omega
  obtain ⟨aoa, capa, hvs⟩ : ∃ ao cap, va = .slice ao adds.length cap := by obtain ⟨css, ⟨_, _, ao, cap, h, _⟩, _⟩ := hva.ex; exact ⟨ao, cap, h⟩
  have hmem : ∀ a ∈ adds, (∀ m ∈ a.many, U64 m) := fun a ha => by
    obtain ⟨k, hk, rfl⟩ := List.mem_iff_getElem.1 ha
    obtain ⟨_, _, _, _, _, h, _⟩ := add_at hva hvs hk
    exact h
  have htot : ∀ k, ((adds.take k).flatMap laidB).length ≤ 10485760 := fun k => by
    have h1 := laidAll_len (adds.take k) (fun a ha => ⟨hmem a (List.mem_of_mem_take ha), by have := hsz a (List.mem_of_mem_take ha); unfold addSz at this; omega⟩)
    have h2 : ((adds.take k).map addSz).sum ≤ (adds.map addSz).sum := by
      conv => rhs; rw [← List.take_append_drop k adds, List.map_append, List.sum_append]
      omega
    omega
  subst hvs
  have hW0 : Wr 27 5 (W.alloc (.cells #[.slice none 0 0] 27)) W.heap.size none [] none 0 := ⟨heap_alloc_new W _, Row.nil _ _ _, by simp⟩
  have hc0 : Chg [] W (W.alloc (.cells #[.slice none 0 0] 27)) := (Chg.refl [] W).alloc _
  go_enter Try.func11, Try.ntmps11
  go_wp2_with (go_at_call 39; refine (text_calls ⟨#[98, 101, 103, 105, 110]⟩ _ _ _ _ _ _ hW0 (by simp) (by decide)).mono ?_; rintro e w1 ⟨rfl, l1, r1, ao1, cap1, hW1, hc1, hf1, HL1⟩; refine halt (fun X hX => ?_))
  rw [hX.out]; clear hX
  have hbeg : l1 = shortB 5 ++ begB := HL1.out
  subst hbeg
  clear HL1
  have hbw : W.heap.size < (W.alloc (.cells #[.slice none 0 0] 27)).heap.size := by simp
  have hb5 : (shortB 5 ++ begB).length ≤ 6 := by rw [shortB_lt (by decide)]; decide
  go_wp2_with fail
  go_loopw [4] (fun i wr => ∃ k r out ao cap, k ≤ adds.length ∧ i = .int .i64 (k : Nat) ∧ Wr 27 5 wr W.heap.size r out ao cap ∧ Hid (out = shortB 5 ++ begB ++ (adds.take k).flatMap laidB) ∧ Chg [W.heap.size] (W.alloc (.cells #[.slice none 0 0] 27)) wr ∧ Fresh (W.alloc (.cells #[.slice none 0 0] 27)) none r)
    (fun i _ => adds.length - (intOf i).toNat)
  case atStart => exact ⟨0, r1, _, ao1, cap1, by omega, rfl, hW1, hid (by simp), by simpa using hc1, hf1⟩
  case round =>
    obtain ⟨k, r, out, ao, cap, hk, rfl, hWk, HO, hch, hfr⟩ := hrel
    have hout : out.length ≤ 10485766 := by have := htot k; rw [HO.out, List.length_append]; omega
    have hbl : Below W.heap.size W wr := hc0.to_below.trans (hch.below (by simp) (by simp))
    by_cases hlt : k < adds.length
    · obtain ⟨bl, off, u, rfl, hview, hmk, hcells⟩ := add_at hva rfl hlt
      obtain ⟨x0, x1, x2, x3⟩ := hcells wr hbl
      have hak := hsz _ (List.getElem_mem hlt)
      have hsn : adds.take (k + 1) = adds.take k ++ [adds[k]] := take_snoc adds k hlt
      have HSN := hid hsn
      have hu := View.own_lt hview
      have hapart : 0 < adds[k].many.length → ∀ g, u.ownBlock = some g → g ≠ W.heap.size ∧ r ≠ some g := fun h0 g hg => by
        have h1 := hu (by omega) g hg
        exact ⟨by omega, fun e => by have := (hfr g e).resolve_left (by simp); simp at this; omega⟩
      have hcall := lays_calls adds[k] hmk u wr W.heap.size r out ao cap hWk (by omega) (hview.below hbl) hapart (by unfold addSz at hak; omega) (by unfold addSz at hak; omega)
      clear hcells hview hmk hu hapart hsn
      unfold addV at hcall
      have HC := hid hcall
      clear hcall
      obtain ⟨ak, hake⟩ : ∃ a, adds[k] = a := ⟨_, rfl⟩
      rw [hake] at x0 x1 x3 HC HSN
      clear hake hak
      go_wp2_with (go_at_call 12; refine HC.out.mono ?_; rintro e w2 ⟨rfl, l2, r2, ao2, cap2, hW2, hc2, hf2, HL2⟩)
      go_roundw
      case rel => exact ⟨k + 1, r2, l2, ao2, cap2, by omega, by go_num, hW2, hid (by rw [HL2.out, HO.out, HSN.out, List.flatMap_append]; simp), hch.trans hc2 (fun x hx => by
        rcases List.mem_cons.1 hx with h1 | h1
        · exact .inl (by simp [h1])
        · exact .inr ((hfr x (by simpa using h1)).resolve_left (by simp))), hfr.trans hch.size hf2⟩
      case measure => simp [intOf]; omega
    · have hte : adds.take k = adds := List.take_of_length_le (by omega)
      rw [hte] at HO
      clear hte
      go_wp2_with (first
        | (go_at_call 16; refine (bytes_calls _ _ _ _ _ _ hWk (by omega)).mono ?_; rintro e w3 ⟨l3, ao3, cap3, r3, rfl, hr3, hf3, hc3, HL3⟩)
        | (go_at_call 27; refine (newReader_calls _ _ _ hr3.view (by rw [HL3.out]; omega)).mono ?_; rintro e w4 ⟨br, L, aoR, capR, rfl, hR, hbr, hown, hc4, HL4⟩; refine halt (fun X hX => ?_)))
      rw [hX.out]; clear hX
      have hLo : L = out := HL4.out.trans HL3.out
      clear HL4
      subst hLo
      have hW4 := (hWk.keep hc3 (by simp) (by simp)).keep hc4 (by simp) (by simp)
      have hbrw : W.heap.size < br := by have := blk_lt hWk.blk; have := hc3.size; omega
      have hrbr : ∀ g, r = some g → g ≠ br := fun g hg => by have := hWk.row.lt g hg; have := hc3.size; omega
      have hbl4 : Below W.heap.size W w4 := hbl.trans (((hc3.trans' hc4).to_below).mono hbl.size)
      have hd : L.drop 0 = shortB begB.length ++ begB ++ adds.flatMap laidB := by rw [List.drop_zero, HO.out]; rfl
      have hbt := rtext_calls hR (by omega) 5 (by unfold I64; omega)
      rw [back_text (wh := 0) (by unfold U64; decide) (by decide) hd] at hbt
      rw [show strB begB = .string ⟨#[98, 101, 103, 105, 110]⟩ from rfl] at hbt
      have HBT := hid hbt
      clear hbt
      go_wp2_with (go_at_call 40; refine HBT.out.mono ?_; rintro e w5 ⟨rfl, hR5, hc5⟩; refine halt (fun X hX => ?_))
      rw [hX.out]; clear hX
      have hd5 : L.drop (0 + (shortB begB.length ++ begB).length) = adds.flatMap laidB := back_next hd
      obtain ⟨p5, hp5⟩ : ∃ p, p = 0 + (shortB begB.length ++ begB).length := ⟨_, rfl⟩
      rw [← hp5] at hd5
      have hR5' : Rd 81 w5 br L aoR capR p5 0 0 := by rw [hp5]; exact hR5
      have HD5 := hid hd5
      clear hp5 hd5 hd HBT hR5
      go_wp2_with fail
      go_loopw [6] (fun i wr => ∃ k pos, k ≤ adds.length ∧ i = .int .i64 (k : Nat) ∧ Rd 81 wr br L aoR capR pos 0 0 ∧ Hid (L.drop pos = (adds.drop k).flatMap laidB) ∧ Chg [br] w4 wr)
        (fun i _ => adds.length - (intOf i).toNat)
      case atStart => exact ⟨0, p5, by omega, rfl, hR5', HD5, hc5⟩
      case round =>
        obtain ⟨k, pos, hk, rfl, hRk, HD, hch5⟩ := hrel
        have hbl : Below W.heap.size W wr := hbl4.trans (hch5.below (by intro x hx; simp at hx; omega) hbl4.size)
        have hL1 : L.length ≤ 10485766 := hout
        by_cases hlt : k < adds.length
        · obtain ⟨bl, off, u, rfl, hview, hmk, hcells⟩ := add_at hva rfl hlt
          obtain ⟨x0, x1, x2, x3⟩ := hcells wr hbl
          have hak := hsz _ (List.getElem_mem hlt)
          have hu := View.own_lt hview
          have hdk : L.drop pos = laidB adds[k] ++ (adds.drop (k + 1)).flatMap laidB := by rw [HD.out, List.drop_eq_getElem_cons hlt, List.flatMap_cons]
          have hcall := same_calls hRk (by omega) adds[k] (hview.below hbl) (fun h0 g hg => by have := hu (by omega) g hg; omega) hmk (by unfold addSz at hak; omega) (by unfold addSz at hak; omega) hdk
          have HN := hid (back_next hdk)
          clear hcells hview hmk hu hdk
          unfold addV at hcall
          have HC := hid hcall
          clear hcall
          obtain ⟨ak, hake⟩ : ∃ a, adds[k] = a := ⟨_, rfl⟩
          rw [hake] at x0 x1 x3 HC HN
          clear hake hak
          go_wp2_with (go_at_call 44; refine HC.out.mono ?_; rintro e w6 ⟨rfl, hR6, hc6⟩)
          go_roundw
          case rel => exact ⟨k + 1, _, by omega, by go_num, hR6, HN, hch5.trans' hc6⟩
          case measure => simp [intOf]; omega
        · have hend : L.length ≤ pos := by
            have h1 := HD.out
            have h2 : adds.drop k = [] := List.drop_eq_nil_of_le (by omega)
            rw [h2] at h1
            simpa using h1
          have hpos : pos = L.length := by have := hRk.ok; omega
          clear HD
          have hW6 := hW4.keep hch5 (by simp; omega) (fun g hg => by simpa using hrbr g hg)
          subst hpos
          go_wp2_with (first
            | (go_at_call 42; refine (fault_calls hRk).mono ?_; rintro e w6 ⟨rfl, hd6⟩; have hR6 := Rd_drew hRk hd6; have hW6 := hW6.keep (hd6.chg (S := [])) (by simp) (by simp)))
          have he : rEnd L ⟨L.length, 0, 0⟩ = 0 := by simp [rEnd]
          have HE := hid he
          clear he
          go_wp2_with (first
            | (go_at_call 29; refine (end_calls hR6).mono ?_; rw [HE.out]; rintro e w7 ⟨rfl, n7, rfl⟩; have hR7 := Rd_drew hR6 ⟨n7, rfl⟩; have hW7 := hW6.keep (Chg.of_drewN [] _ n7) (by simp) (by simp))
            | (go_at_call 43; refine (at_calls hR7).mono ?_; rintro e w8 ⟨rfl, rfl⟩)
            | (go_at_call 14; refine (len_calls _ _ _ _ _ _ hW7).mono ?_; rintro e w9 ⟨rfl, rfl⟩))
          go_ret
          exact ⟨rfl, below_drewN (hbl.trans (((hd6.chg (S := [])).to_below).mono hbl.size)) n7⟩
end Go.Proofs.Ytdakcphkaljghaa
