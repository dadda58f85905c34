/- The law WireOnly: its walk. -/
import Derived.Test.YtdakcphkaljghaaRg
import Derived.Test.YtdakcphkaljghaaRlaw
import Derived.Test.YtdakcphkaljghaaWh
import Derived.Test.YtdakcphkaljghaaLaw
import Derived.Deep.RegionHeld3
namespace Go.Proofs.Ytdakcphkaljghaa
open Go.RowKit Go.AB

def takeR (t : Int × Int × Int × Int) (cs : List Value) : Prop := cs = [.int .i64 t.1, .int .i64 t.2.1, .int .i64 t.2.2.1, .int .u64 t.2.2.2] ∧ I64 t.1 ∧ I64 t.2.1 ∧ I64 t.2.2.1 ∧ 0 ≤ t.2.2.2 ∧ t.2.2.2 < 18446744073709551616
def takeD (t : Int × Int × Int × Int) : TakeD := ⟨t.1, t.2.1, t.2.2.1, t.2.2.2.toNat⟩

/-- A fresh writer and a reader, side by side. -/
structure Pair (w0 w : World) (br bw : Nat) (l out : List UInt8) (aoR : Option Addr) (capR : Nat) (s : RS) (r : Option Nat) (ao : Option Addr) (cap : Nat) : Prop where
  rd : Rd 81 w br l aoR capR s.pos s.wh s.bad
  wr : Wr 27 5 w bw r out ao cap
  chg : Chg [bw, br] w0 w
  fr : Fresh w0 none r
  ltR : br < w0.heap.size
  ltW : bw < w0.heap.size
  ne : br ≠ bw
  ownR : ∀ g, (Value.slice aoR l.length capR).ownBlock = some g → g < w0.heap.size ∧ g ≠ bw ∧ g ≠ br

theorem Pair.step_rd {w0 w w' : World} {br bw : Nat} {l out : List UInt8} {aoR : Option Addr} {capR : Nat} {s s' : RS} {r : Option Nat} {ao : Option Addr} {cap : Nat} (h : Pair w0 w br bw l out aoR capR s r ao cap)
    (hR : Rd 81 w' br l aoR capR s'.pos s'.wh s'.bad) (hc : Chg [br] w w') : Pair w0 w' br bw l out aoR capR s' r ao cap :=
  ⟨hR, h.wr.keep hc (by simpa using fun e => h.ne e.symm) (fun g hg hm => by
    have h1 := (h.fr g hg).resolve_left (by simp)
    have h2 := h.ltR
    simp at hm; omega), h.chg.trans hc (fun x hx => .inl (by simp at hx ⊢; exact .inr hx)), h.fr, h.ltR, h.ltW, h.ne, h.ownR⟩
theorem Pair.step_wr {w0 w w' : World} {br bw : Nat} {l out out' : List UInt8} {aoR : Option Addr} {capR : Nat} {s : RS} {r r' : Option Nat} {ao ao' : Option Addr} {cap cap' : Nat} (h : Pair w0 w br bw l out aoR capR s r ao cap)
    (hW : Wr 27 5 w' bw r' out' ao' cap') (hc : Chg (bw :: r.toList) w w') (hf : Fresh w r r') : Pair w0 w' br bw l out' aoR capR s r' ao' cap' := by
  have hfr : ∀ g, r = some g → w0.heap.size ≤ g := fun g hg => (h.fr g hg).resolve_left (by simp)
  refine ⟨h.rd.keep hc ?_ ?_, hW, h.chg.trans hc (fun x hx => ?_), h.fr.trans h.chg.size hf, h.ltR, h.ltW, h.ne, h.ownR⟩
  · intro hm
    rcases List.mem_cons.1 hm with h1 | h1
    · exact h.ne h1
    · have := hfr br (by simpa using h1)
      have := h.ltR
      omega
  · intro g hg hm
    have h1 := h.ownR g hg
    rcases List.mem_cons.1 hm with h2 | h2
    · exact h1.2.1 h2
    · have := hfr g (by simpa using h2)
      omega
  · rcases List.mem_cons.1 hx with h1 | h1
    · exact .inl (by simp [h1])
    · exact .inr (hfr x (by simpa using h1))
theorem Pair.step_chg {w0 w w' : World} {br bw : Nat} {l out : List UInt8} {aoR : Option Addr} {capR : Nat} {s : RS} {r : Option Nat} {ao : Option Addr} {cap : Nat} (h : Pair w0 w br bw l out aoR capR s r ao cap) (hc : Chg [] w w') : Pair w0 w' br bw l out aoR capR s r ao cap :=
  ⟨h.rd.keep hc (by simp) (by simp), h.wr.keep hc (by simp) (by simp), h.chg.trans hc (by simp), h.fr, h.ltR, h.ltW, h.ne, h.ownR⟩

theorem one_apart {w0 w : World} {br bw : Nat} {l out : List UInt8} {aoR : Option Addr} {capR : Nat} {s : RS} {r : Option Nat} {ao : Option Addr} {cap : Nat} (h : Pair w0 w br bw l out aoR capR s r ao cap) :
    ∀ g, (Value.slice (some ⟨w.heap.size, 0, none⟩) 1 1).ownBlock = some g → g ≠ bw ∧ r ≠ some g := by
  intro g hg
  simp only [Value.ownBlock, Option.some.injEq] at hg
  subst hg
  have h1 := blk_lt h.wr.blk
  exact ⟨by omega, fun e => by have := h.wr.row.lt _ e; omega⟩
theorem end_quiet {w : World} {b : Nat} {l : List UInt8} {ao : Option Addr} {cap pos wh bad : Nat} (hR : Rd 81 w b l ao cap pos wh bad) (n : Nat) :
    Calls Try.prog 29 #[.pointer (some ⟨b, 0, none⟩)] (w.drewN n) fun e w'' => e = .returned (.int .i64 (rEnd l ⟨pos, wh, bad⟩)) ∧ ∃ m, w'' = w.drewN m :=
  (end_calls (hR.keep (Chg.of_drewN [] w n) (by simp) (by simp))).mono fun e w' ⟨h1, m, h2⟩ => ⟨h1, n + m, by rw [h2]; simp [World.drewN, Nat.add_assoc]⟩
theorem size_mk (l : List UInt8) : (ByteArray.mk l.toArray).size = l.length := by show l.toArray.size = _; simp
set_option maxHeartbeats 4000000 in
set_option maxRecDepth 100000 in
theorem only_walk (vb : Value) (l : List UInt8) (vt : Value) (ts : List (Int × Int × Int × Int)) (W : World) (hb : Bytes W vb l) (ht : VL W 4 takeR vt ts) (hl : l.length ≤ 1048576) (hn : ts.length ≤ 1048576) :
    Calls Try.prog 9 #[vb, vt] W fun e W' => e = .returned (.bool true) ∧ Below W.heap.size W W' := by
  obtain ⟨css, ⟨hfl, _, aot, capt, rfl, _, _, _, hcells⟩, hcl, hcs⟩ := ht
  go_enter Try.func9, Try.ntmps9
  go_wp2_with (go_at_call 27; refine (newReader_calls _ _ _ hb (by omega)).mono ?_; rintro e w1 ⟨br, l2, aoR, capR, rfl, hR, hbr, hown, hc1, HL⟩; refine halt (fun X hX => ?_))
  rw [hX.out]; clear hX
  obtain rfl : l2 = l := HL.out
  have hcv : ∀ u, Below W.heap.size W u → (convert 25 9 vb).run Try.prog u = .ok (.string ⟨l2.toArray⟩) u := fun u hu =>
    run_conv_view Try.underlying25 Try.underlying5 Try.underlying9 (View.below hb hu) u rfl
  have HCV := hid hcv
  clear HL hb hcv
  have hca := hc1.alloc (.cells #[.slice none 0 0] 27)
  have hP0 : Pair (w1.alloc (.cells #[.slice none 0 0] 27)) (w1.alloc (.cells #[.slice none 0 0] 27)) br w1.heap.size l2 [] aoR capR ⟨0, 0, 0⟩ none none 0 := by
    have hlt := blk_lt hR.blk
    refine ⟨hR.keep ((Chg.refl [] w1).alloc _) (by simp) (by simp), ⟨heap_alloc_new w1 _, Row.nil _ _ _, by simp⟩, Chg.refl _ _, Fresh.refl _ _, by simp; omega, by simp, by omega, fun g hg => ?_⟩
    have h1 := hR.ne g hg
    have h2 := (hown g hg).2
    exact ⟨by simp; omega, by omega, h1⟩
  go_wp2_with fail
  go_loopw [7] (fun i wr => ∃ k s out r ao cap, k ≤ ts.length ∧ i = .int .i64 (k : Nat) ∧ Pair (w1.alloc (.cells #[.slice none 0 0] 27)) wr br w1.heap.size l2 out aoR capR s r ao cap ∧ out.length ≤ s.pos + 10 * k ∧ Hid (s.bad = 0 → out = l2.take s.pos))
    (fun i _ => ts.length - (intOf i).toNat)
  case atStart => exact ⟨0, ⟨0, 0, 0⟩, [], none, none, 0, by omega, rfl, hP0, by simp, hid (fun _ => by simp)⟩
  case round =>
    obtain ⟨k, s, out, r, ao, cap, hk, rfl, hP, hlen, HB⟩ := hrel
    clear hP0
    by_cases hlt : k < ts.length
    · have hsp : s.pos ≤ 1048576 := by have := hP.rd.ok; omega
      obtain ⟨hc4, hck, hi1, hi2, hi3, hm1, hm2⟩ := hcs k hlt (by omega)
      obtain ⟨bl, off, rfl, hcell⟩ := hcells (by omega)
      have hbl : Below W.heap.size W wr := hca.to_below.trans (hP.chg.below (by intro x hx; simp at hx; have := hc1.size; omega) (by have := hca.size; exact this))
      have hfg := (flat_get (k := 4) css (fun i hi => (hcs i (by omega) hi).1)).2 k
      have cj : ∀ j, j < 4 → wr.cell? ⟨bl, off + k * 4 + j, none⟩ = some (css[k].getD j undef) := fun j hj => by
        have h1 := hcell (k * 4 + j) (by omega)
        rw [← hfg j (by omega) hj, Nat.add_assoc]
        exact (hbl.cell (World.block_lt_of_cell? W _ h1)).trans h1
      rw [hck] at cj
      have x0 := cj 0 (by omega)
      have x1 := cj 1 (by omega)
      have x2 := cj 2 (by omega)
      have x3 := cj 3 (by omega)
      simp only [Nat.add_zero] at x0
      simp only [List.getD, List.getElem?_cons_zero, List.getElem?_cons_succ, Option.getD_some] at x0 x1 x2 x3
      clear cj hcell hcells hcs hck hfg
      obtain ⟨tk, htk⟩ : ∃ t, ts[k] = t := ⟨_, rfl⟩
      rw [htk] at x0 x1 x2 x3 hi1 hi2 hi3 hm1 hm2
      clear htk
      obtain ⟨kind, width, nn, most⟩ := tk
      simp only at x0 x1 x2 x3 hi1 hi2 hi3 hm1 hm2
      obtain ⟨m, rfl⟩ := Int.eq_ofNat_of_zero_le hm1
      have hu : U64 m := by unfold U64; omega
      clear hm1 hm2
      have hlo : out.length ≤ 11534336 := by omega
      by_cases h1 : kind = 1
      · subst h1
        have hPa := hP.step_chg ((Chg.refl [] wr).alloc (.cells #[.int .i64 1, .int .i64 width, .int .i64 nn, .int .u64 m] 70))
        have hvu : U64 (rWidth width l2 s).1 := by
          unfold rWidth
          split
          · exact Nat.lt_of_lt_of_le (rFixed_lt _ _ _) (Nat.le_trans (Nat.pow_le_pow_right (by decide) (sizeI_le _)) (by decide))
          · show (0 : Nat) < 18446744073709551616; decide
        go_wp2_with (go_at_call 34; refine (fixed_calls hPa.rd (by omega) width).mono ?_; rintro e w2 ⟨rfl, hR2, hc2⟩; refine halt (fun X hX => ?_))
        rw [hX.out]; clear hX
        have hP2 := hPa.step_rd hR2 hc2
        have hbox : w2.cell? ⟨wr.heap.size, 1, none⟩ = some (.int .i64 width) := hc2.cell (by simp) (by have := hP.ltR; have := hP.chg.size; simp; omega)
        by_cases hwid : 0 ≤ width ∧ width < 8
        · have hap := one_apart hP2
          have hPb := hP2.step_chg ((Chg.refl [] w2).alloc (.cells #[.int .u64 (rWidth width l2 s).1] 41))
          go_wp2_with (go_at_call 35; refine (lawput_calls [(rWidth width l2 s).1] (by simpa using hvu) _ _ _ _ _ _ _ hPb.wr (by omega) (View.one _ _ _) (fun _ => hap) (by simp) width).mono ?_; rintro e w3 ⟨rfl, l3, r3, ao3, cap3, hW3, hc3, hf3, HL3⟩)
          have hP3 := hPb.step_wr hW3 hc3 hf3
          go_roundw
          case rel => exact ⟨k + 1, (onlyStep l2 ⟨1, width, nn, m⟩ s).1, out ++ (onlyStep l2 ⟨1, width, nn, m⟩ s).2, r3, ao3, cap3, by omega, by go_num, (by rw [HL3.out] at hP3; simpa [onlyStep] using hP3), (only_next (by omega) _ hP.rd.ok hlen HB.out).1, hid (only_next (by omega) _ hP.rd.ok hlen HB.out).2⟩
          case measure => simp [intOf]; omega
        · go_wp2
          go_roundw
          case rel => exact ⟨k + 1, (onlyStep l2 ⟨1, width, nn, m⟩ s).1, out ++ (onlyStep l2 ⟨1, width, nn, m⟩ s).2, r, ao, cap, by omega, by go_num, (by have hz : sizeI width = 0 := (by unfold sizeI; rw [if_neg hwid]); simpa [onlyStep, hz, fixedB] using hP2), (only_next (by omega) _ hP.rd.ok hlen HB.out).1, hid (only_next (by omega) _ hP.rd.ok hlen HB.out).2⟩
          case measure => simp [intOf]; omega
      by_cases h2 : kind = 2
      · subst h2
        have hPa := hP.step_chg ((Chg.refl [] wr).alloc (.cells #[.int .i64 2, .int .i64 width, .int .i64 nn, .int .u64 m] 70))
        go_wp2_with (go_at_call 33; refine (rshort_calls hPa.rd (by omega) m).mono ?_; rintro e w2 ⟨rfl, hR2, hc2⟩; refine halt (fun X hX => ?_))
        rw [hX.out]; clear hX
        have hP2 := hPa.step_rd hR2 hc2
        have hap := one_apart hP2
        have hPb := hP2.step_chg ((Chg.refl [] w2).alloc (.cells #[.int .u64 (rShort m l2 s).1] 41))
        go_wp2_with (go_at_call 18; refine halt (fun X hX => ?_))
        rw [hX.out]; clear hX
        refine (shorts_calls [(rShort m l2 s).1] (by simpa using rShort_U64 m l2 s) _ _ _ _ _ _ _ hPb.wr (by omega) (View.one _ _ _) (fun _ => hap) (by simp)).mono ?_
        rintro e w3 ⟨rfl, l3, r3, ao3, cap3, hW3, hc3, hf3, HL3⟩
        go_wp2
        have hP3 := hPb.step_wr hW3 hc3 hf3
        go_roundw
        case rel => exact ⟨k + 1, (onlyStep l2 ⟨2, width, nn, m⟩ s).1, out ++ (onlyStep l2 ⟨2, width, nn, m⟩ s).2, r3, ao3, cap3, by omega, by go_num, (by rw [HL3.out] at hP3; simpa [onlyStep] using hP3), (only_next (by omega) _ hP.rd.ok hlen HB.out).1, hid (only_next (by omega) _ hP.rd.ok hlen HB.out).2⟩
        case measure => simp [intOf]; omega
      by_cases h3 : kind = 3
      · subst h3
        have hPa := hP.step_chg ((Chg.refl [] wr).alloc (.cells #[.int .i64 3, .int .i64 width, .int .i64 nn, .int .u64 m] 70))
        go_wp2_with (go_at_call 37; refine (rsigned_calls hPa.rd (by omega)).mono ?_; rintro e w2 ⟨rfl, hR2, hc2⟩; refine halt (fun X hX => ?_))
        rw [hX.out]; clear hX
        have hP2 := hPa.step_rd hR2 hc2
        have hap := one_apart hP2
        have hPb := hP2.step_chg ((Chg.refl [] w2).alloc (.cells #[.int .i64 (rSigned l2 s).1] 3))
        go_wp2_with (go_at_call 36; refine (signed_calls [(rSigned l2 s).1] (fun m hm => by rw [List.mem_singleton.1 hm]; exact unzig_I64 (rShort_U64 _ l2 s)) _ _ _ _ _ _ _ hPb.wr (by omega) (View.one _ _ _) (fun _ => hap) (by simp)).mono ?_; rintro e w3 ⟨rfl, l3, r3, ao3, cap3, hW3, hc3, hf3, HL3⟩)
        have hP3 := hPb.step_wr hW3 hc3 hf3
        go_roundw
        case rel => exact ⟨k + 1, (onlyStep l2 ⟨3, width, nn, m⟩ s).1, out ++ (onlyStep l2 ⟨3, width, nn, m⟩ s).2, r3, ao3, cap3, by omega, by go_num, (by rw [HL3.out] at hP3; simpa [onlyStep] using hP3), (only_next (by omega) _ hP.rd.ok hlen HB.out).1, hid (only_next (by omega) _ hP.rd.ok hlen HB.out).2⟩
        case measure => simp [intOf]; omega
      by_cases h4 : kind = 4
      · subst h4
        have hPa := hP.step_chg ((Chg.refl [] wr).alloc (.cells #[.int .i64 4, .int .i64 width, .int .i64 nn, .int .u64 m] 70))
        go_wp2_with (go_at_call 38; refine (rflag_calls hPa.rd (by omega)).mono ?_; rintro e w2 ⟨rfl, hR2, hc2⟩; refine halt (fun X hX => ?_))
        rw [hX.out]; clear hX
        have hP2 := hPa.step_rd hR2 hc2
        have hPb := hP2
        go_wp2_with (go_at_call 26; refine (flag_calls _ _ _ _ _ _ _ hPb.wr (by omega)).mono ?_; rintro e w3 ⟨rfl, l3, r3, ao3, cap3, hW3, hc3, hf3, HL3⟩)
        have hP3 := hPb.step_wr hW3 hc3 hf3
        go_roundw
        case rel => exact ⟨k + 1, (onlyStep l2 ⟨4, width, nn, m⟩ s).1, out ++ (onlyStep l2 ⟨4, width, nn, m⟩ s).2, r3, ao3, cap3, by omega, by go_num, (by rw [HL3.out] at hP3; simpa [onlyStep] using hP3), (only_next (by omega) _ hP.rd.ok hlen HB.out).1, hid (only_next (by omega) _ hP.rd.ok hlen HB.out).2⟩
        case measure => simp [intOf]; omega
      by_cases h5 : kind = 5
      · subst h5
        have hPa := hP.step_chg ((Chg.refl [] wr).alloc (.cells #[.int .i64 5, .int .i64 width, .int .i64 nn, .int .u64 m] 70))
        go_wp2_with (go_at_call 40; refine (rtext_calls hPa.rd (by omega) nn hi3).mono ?_; rintro e w2 ⟨rfl, hR2, hc2⟩; refine halt (fun X hX => ?_))
        rw [hX.out]; clear hX
        have hP2 := hPa.step_rd hR2 hc2
        have hPb := hP2
        have htl : (rText nn l2 s).1.length ≤ 1048576 := (rText_len nn l2 s (by omega))
        go_wp2_with (go_at_call 39; refine (text_calls ⟨(rText nn l2 s).1.toArray⟩ _ _ _ _ _ _ hPb.wr (by omega) (by show (rText nn l2 s).1.toArray.size ≤ _; simp; omega)).mono ?_; rintro e w3 ⟨rfl, l3, r3, ao3, cap3, hW3, hc3, hf3, HL3⟩)
        have hP3 := hPb.step_wr hW3 hc3 hf3
        go_roundw
        case rel => exact ⟨k + 1, (onlyStep l2 ⟨5, width, nn, m⟩ s).1, out ++ (onlyStep l2 ⟨5, width, nn, m⟩ s).2, r3, ao3, cap3, by omega, by go_num, (by rw [HL3.out] at hP3; simpa [onlyStep, size_mk] using hP3), (only_next (by omega) _ hP.rd.ok hlen HB.out).1, hid (only_next (by omega) _ hP.rd.ok hlen HB.out).2⟩
        case measure => simp [intOf]; omega
      have HS := hid (show onlyStep l2 ⟨kind, width, nn, m⟩ s = (s, []) by simp [onlyStep, h1, h2, h3, h4, h5])
      have hPa := hP.step_chg ((Chg.refl [] wr).alloc (.cells #[.int .i64 kind, .int .i64 width, .int .i64 nn, .int .u64 m] 70))
      go_wp2
      go_roundw
      case rel => exact ⟨k + 1, s, out, r, ao, cap, by omega, by go_num, hPa, (by have := (only_next (by omega) ⟨kind, width, nn, m⟩ hP.rd.ok hlen HB.out).1; rw [HS.out] at this; simpa using this), HB⟩
      case measure => simp [intOf]; omega
    · have hB7 : Bytes (wr.alloc (.cells #[.int .u8 7] 5)) (.slice (some ⟨wr.heap.size, 0, none⟩) 1 1) [7] := View.one _ _ _
      have hcb : Chg [] wr (wr.alloc (.cells #[.int .u8 7] 5)) := (Chg.refl [] wr).alloc _
      have hbl0 : Below W.heap.size W wr := hca.to_below.trans (hP.chg.below (by intro x hx; simp at hx; have := hc1.size; omega) (by have := hca.size; exact this))
      go_wp2_with (go_at_call 27; refine (newReader_calls _ _ _ hB7 (by simp)).mono ?_; rintro e w2 ⟨b1, l1, ao1, cap1, rfl, hR1, hb1, hown1, hc2, HL1⟩; refine halt (fun X hX => ?_))
      rw [hX.out]; clear hX
      obtain rfl : l1 = [7] := HL1.out
      have e1 : rEnd [7] ⟨0, 0, 0⟩ = 13 := by decide
      have e2 : rFixed 1 [7] ⟨0, 0, 0⟩ = (7, ⟨1, 0, 0⟩) := by simp [rFixed, leNat]
      have e3 : rEnd [7] ⟨1, 0, 0⟩ = 0 := by decide
      have E2 := hid e2
      clear e2 HL1 hB7
      go_wp2_with (go_at_call 29; refine (end_calls hR1).mono ?_; rw [e1]; rintro e w3 ⟨rfl, hd3⟩; refine halt (fun X hX => ?_))
      rw [hX.out]; clear hX
      go_wp2_with (go_at_call 28; refine (take_u8_calls (Rd_drew hR1 hd3) (by simp)).mono ?_; rw [E2.out]; rintro e w4 ⟨rfl, hR4, hc4⟩; refine halt (fun X hX => ?_))
      rw [hX.out]; clear hX
      go_wp2_with (go_at_call 29; refine (end_calls hR4).mono ?_; rw [e3]; rintro e w5 ⟨rfl, hd5⟩; refine halt (fun X hX => ?_))
      rw [hX.out]; clear hX
      have hchg : Chg [] wr w5 := by
        have h1 : Chg [] wr w3 := (hcb.trans' hc2).trans' (hd3.chg)
        have h2 : Chg [b1] w3 w5 := hc4.trans' hd5.chg
        exact h1.trans h2 (fun x hx => .inr (by simp at hx; subst hx; simp at hb1; omega))
      have hP5 := hP.step_chg hchg
      have hbl5 : Below W.heap.size W w5 := hbl0.trans (hchg.to_below.mono hbl0.size)
      by_cases hend : rEnd l2 s = 0
      · have hs0 : s.bad = 0 ∧ l2.length ≤ s.pos := by
          unfold rEnd at hend
          split at hend
          · rename_i h; exact absurd hend h
          · rename_i h
            split at hend
            · cases hend
            · exact ⟨by simpa using h, by omega⟩
        have hout : out = l2 := by rw [HB.out hs0.1]; exact List.take_of_length_le hs0.2
        subst hout
        have hlo : out.length ≤ 1048576 := hl
        have hcb := fun n => bytes_calls (w5.drewN n) _ _ _ _ _ (hP5.step_chg (Chg.of_drewN [] w5 n)).wr (by omega)
        go_wp2_with fail
        have hcvA := fun n => HCV.out (w5.drewN n) (below_drewN hbl5 n)
        go_region_with (first
            | (go_at_call 29; refine (end_calls (hP5.step_chg (Chg.of_drewN [] w5 _)).rd).mono ?_; rw [hend]; rintro e w6 ⟨rfl, n6, rfl⟩)
            | (go_at_call 16; refine (hcb _).mono ?_; rintro e w7 ⟨l7, ao7, cap7, r7, rfl, hr7, hf7, hc7, HL7⟩; obtain rfl : l7 = out := HL7.out; have hbl7 : Below W.heap.size W w7 := (below_drewN hbl5 _).trans (hc7.to_below.mono (by have := hbl5.size; exact this)); have hcvb7 := HCV.out w7 hbl7; have hcv7 := run_conv_view Try.underlying25 Try.underlying5 Try.underlying9 hr7.view w7 rfl))
        all_goals go_wp2
        all_goals go_ret
        all_goals exact ⟨rfl, hbl7⟩
      · have hne : ((rEnd l2 s : Int) == 0) = false := by simpa using hend
        have hq := fun n => (end_calls (hP5.rd.keep (Chg.of_drewN [] w5 n) (by simp) (by simp)))
        go_wp2_with fail
        go_quiet ((go_at_call 29; exact end_quiet hP5.rd _))
        go_wp2
        go_ret
        exact ⟨rfl, below_drewN hbl5 _⟩
end Go.Proofs.Ytdakcphkaljghaa
