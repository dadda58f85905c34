/- Walks of the wire layer: what was laid is taken off by the same calls. -/
import Derived.Test.YtdakcphkaljghaaRg
import Derived.Test.YtdakcphkaljghaaRback
import Derived.Test.YtdakcphkaljghaaWh
import Derived.Deep.RegionHeld3
namespace Go.Proofs.Ytdakcphkaljghaa
open Go.RowKit Go.AB
set_option linter.unusedSectionVars false

theorem low_calls (v : Nat) (hv : U64 v) (n : Nat) (hn : n = 1 ∨ n = 2 ∨ n = 4 ∨ n = 8) (w : World) : Calls Try.prog 83 #[.int .u64 v, .int .i64 n] w fun e w' => e = .returned (.int .u64 (v % 256 ^ n : Nat)) ∧ w = w' := by
  rcases hn with rfl | rfl | rfl | rfl
  · go_enter Try.func83, Try.ntmps83
    go_wp2
    go_ret
    exact ⟨rfl, rfl⟩
  · go_enter Try.func83, Try.ntmps83
    go_wp2
    go_ret
    exact ⟨rfl, rfl⟩
  · go_enter Try.func83, Try.ntmps83
    go_wp2
    go_ret
    exact ⟨rfl, rfl⟩
  · have hm : v % 256 ^ 8 = v := Nat.mod_eq_of_lt hv.out
    rw [hm]
    clear hm
    go_enter Try.func83, Try.ntmps83
    go_wp2
    go_ret
    exact ⟨rfl, rfl⟩
theorem cv_i64_wrap (m : Nat) : IntKind.i64.wrap (m : Int) = cv_i64 m := by unfold cv_i64; rw [IntKind.wrap_i64]; simp [wrap64]
theorem sizeI_cases {k : Int} (h : 0 ≤ k ∧ k < 8) : sizeI k = 1 ∨ sizeI k = 2 ∨ sizeI k = 4 ∨ sizeI k = 8 := by
  obtain ⟨q, rfl⟩ := Int.eq_ofNat_of_zero_le h.1
  unfold sizeI
  rw [if_pos h]
  match q, h with
  | 0, _ | 1, _ | 2, _ | 3, _ | 4, _ | 5, _ | 6, _ | 7, _ => decide
  | q + 8, h => omega
theorem sizeI_calls {k : Int} (h : 0 ≤ k ∧ k < 8) (w : World) : Calls Try.prog 47 #[.int .i64 k] w fun e w' => e = .returned (.int .i64 (sizeI k)) ∧ Chg [] w w' := by
  obtain ⟨q, rfl⟩ := Int.eq_ofNat_of_zero_le h.1
  have : sizeI (q : Int) = sizeOfW q := by unfold sizeI; rw [if_pos h]; rfl
  rw [this]
  exact size_calls q (by omega) w

section
variable {w : World} {b : Nat} {L rest : List UInt8} {ao : Option Addr} {cap pos wh : Nat} (hR : Rd 81 w b L ao cap pos wh 0) (hl : L.length ≤ 1073741824)
  {width : Int} {many : List Nat} {text : ByteArray} {v : Value} (hv : View w 1 v many.length (many.map cU)) (hvb : 0 < many.length → ∀ g, v.ownBlock = some g → g ≠ b) (hm : ∀ m ∈ many, U64 m) (hn : many.length ≤ 16777216)
include hR hl hv hvb hm hn

set_option maxHeartbeats 2000000 in
set_option maxRecDepth 100000 in
theorem same_2 (h : L.drop pos = many.flatMap (shortB) ++ rest) : Calls Try.prog 44 #[.pointer (some ⟨b, 0, none⟩), .agg #[.int .i64 2, .int .i64 width, v, .string text]] w
    (RdPost 81 w b L ao cap (.bool true) ⟨pos + (many.flatMap (shortB)).length, wh, 0⟩) := by
  obtain ⟨_, _, aom, capm, rfl, _, _, _, hcells⟩ := hv
  have H := hid h
  clear h
  have hb : b < w.heap.size := blk_lt hR.blk
  go_enter Try.func44, Try.ntmps44
  go_wp2_with fail
  go_loopw [5] (fun i wr => ∃ k, k ≤ many.length ∧ i = .int .i64 (k : Nat) ∧ Rd 81 wr b L ao cap (pos + ((many.take k).flatMap (shortB)).length) wh 0 ∧ Chg [b] (w.alloc (.cells #[.int .i64 2, .int .i64 width, .slice aom many.length capm, .string text] 35)) wr)
    (fun i _ => many.length - (intOf i).toNat)
  case atStart => exact ⟨0, by omega, rfl, by simpa using hR.keep ((Chg.refl [] w).alloc _) (by simp) (by simp), Chg.refl _ _⟩
  case round =>
    obtain ⟨k, hk, rfl, hRk, hch⟩ := hrel
    have y0 : wr.cell? ⟨w.heap.size, 0, none⟩ = some (.int .i64 2) := hch.cell (by simp) (by simp; omega)
    have y1 : wr.cell? ⟨w.heap.size, 1, none⟩ = some (.int .i64 width) := hch.cell (by simp) (by simp; omega)
    have y2 : wr.cell? ⟨w.heap.size, 2, none⟩ = some (.slice aom many.length capm) := hch.cell (by simp) (by simp; omega)
    by_cases hlt : k < many.length
    · obtain ⟨bm, off, rfl, hc⟩ := hcells (by omega)
      have hbm : bm ≠ b := hvb (by omega) bm rfl
      have hc0 := (hc k (by omega)).trans (show some ((many.map cU).getD k undef) = some (.int .u64 ((many[k] : Nat) : Int)) by simp [List.getD, hlt, cU])
      have y3 : wr.cell? ⟨bm, off + k, none⟩ = some (.int .u64 ((many[k] : Nat) : Int)) := hch.cell (((Chg.refl [] w).alloc _).cell hc0 (by simp)) (by simpa using hbm)
      have hd : L.drop (pos + ((many.take k).flatMap (shortB)).length) = (shortB) many[k] ++ ((many.drop (k + 1)).flatMap (shortB) ++ rest) := by
        apply back_next
        rw [H.out, ← List.append_assoc, ← List.append_assoc, ← flat_step (shortB) many k hlt]
      have hmk := hm _ (List.getElem_mem hlt)
      have hback := back_short (wh := wh) hmk (Nat.le_refl _) hd
      have HB := hid hback
      have hstep : pos + ((many.take (k + 1)).flatMap (shortB)).length = pos + ((many.take k).flatMap (shortB)).length + ((shortB) many[k]).length := by
        rw [take_snoc many k hlt, List.flatMap_append, List.length_append]; simp [Nat.add_assoc]
      have HS := hid hstep
      clear hc hcells hback hd hstep hc0
      obtain ⟨pk, hpk⟩ : ∃ pk, pos + ((many.take k).flatMap (shortB)).length = pk := ⟨_, rfl⟩
      rw [hpk] at HB HS hRk
      clear hpk
      have z1 : (0 : Int) ≤ (k : Int) := by omega
      have z2 : (k : Int) < (many.length : Int) := by omega
      go_wp2_with fail
      go_region_held3 (fun w' => w'.cell? ⟨w.heap.size, 2, none⟩ = some (.slice (some ⟨bm, off, none⟩) many.length capm) ∧ w'.cell? ⟨bm, off + k, none⟩ = some (.int .u64 ((many[k] : Nat) : Int)))
        (first | exact ⟨y2, y3⟩ | exact ⟨hc2.cell y2 (by simp; omega), hc2.cell y3 (by simpa using hbm)⟩)
        (first | (go_at_call 33; refine (rshort_calls (hRk.keep (Chg.of_drewN [] wr 1) (by simp) (by simp)) (by omega) many[k]).mono ?_; rw [HB.out]; rintro e w2 ⟨rfl, hR2, hc2⟩))
      go_wp2
      go_roundw
      case rel => exact ⟨k + 1, by omega, by go_num, (by rw [HS.out]; exact hR2), hch.trans' ((Chg.of_drewN _ wr 1).trans' hc2)⟩
      case measure => simp [intOf]; omega
    · have he : many.take k = many := List.take_of_length_le (by omega)
      rw [he] at hRk
      clear hcells he
      go_wp2
      go_ret
      exact ⟨rfl, hRk, ((Chg.refl [b] w).alloc _).trans' hch⟩

set_option maxHeartbeats 2000000 in
set_option maxRecDepth 100000 in
theorem same_3 (h : L.drop pos = many.flatMap (fun m => shortB (zig (cv_i64 m))) ++ rest) : Calls Try.prog 44 #[.pointer (some ⟨b, 0, none⟩), .agg #[.int .i64 3, .int .i64 width, v, .string text]] w
    (RdPost 81 w b L ao cap (.bool true) ⟨pos + (many.flatMap (fun m => shortB (zig (cv_i64 m)))).length, wh, 0⟩) := by
  obtain ⟨_, _, aom, capm, rfl, _, _, _, hcells⟩ := hv
  have H := hid h
  clear h
  have hb : b < w.heap.size := blk_lt hR.blk
  go_enter Try.func44, Try.ntmps44
  go_wp2_with fail
  go_loopw [5] (fun i wr => ∃ k, k ≤ many.length ∧ i = .int .i64 (k : Nat) ∧ Rd 81 wr b L ao cap (pos + ((many.take k).flatMap (fun m => shortB (zig (cv_i64 m)))).length) wh 0 ∧ Chg [b] (w.alloc (.cells #[.int .i64 3, .int .i64 width, .slice aom many.length capm, .string text] 35)) wr)
    (fun i _ => many.length - (intOf i).toNat)
  case atStart => exact ⟨0, by omega, rfl, by simpa using hR.keep ((Chg.refl [] w).alloc _) (by simp) (by simp), Chg.refl _ _⟩
  case round =>
    obtain ⟨k, hk, rfl, hRk, hch⟩ := hrel
    have y0 : wr.cell? ⟨w.heap.size, 0, none⟩ = some (.int .i64 3) := hch.cell (by simp) (by simp; omega)
    have y1 : wr.cell? ⟨w.heap.size, 1, none⟩ = some (.int .i64 width) := hch.cell (by simp) (by simp; omega)
    have y2 : wr.cell? ⟨w.heap.size, 2, none⟩ = some (.slice aom many.length capm) := hch.cell (by simp) (by simp; omega)
    by_cases hlt : k < many.length
    · obtain ⟨bm, off, rfl, hc⟩ := hcells (by omega)
      have hbm : bm ≠ b := hvb (by omega) bm rfl
      have hc0 := (hc k (by omega)).trans (show some ((many.map cU).getD k undef) = some (.int .u64 ((many[k] : Nat) : Int)) by simp [List.getD, hlt, cU])
      have y3 : wr.cell? ⟨bm, off + k, none⟩ = some (.int .u64 ((many[k] : Nat) : Int)) := hch.cell (((Chg.refl [] w).alloc _).cell hc0 (by simp)) (by simpa using hbm)
      have hd : L.drop (pos + ((many.take k).flatMap (fun m => shortB (zig (cv_i64 m)))).length) = (fun m => shortB (zig (cv_i64 m))) many[k] ++ ((many.drop (k + 1)).flatMap (fun m => shortB (zig (cv_i64 m))) ++ rest) := by
        apply back_next
        rw [H.out, ← List.append_assoc, ← List.append_assoc, ← flat_step (fun m => shortB (zig (cv_i64 m))) many k hlt]
      have hmk := hm _ (List.getElem_mem hlt)
      have hback := back_signed (wh := wh) (cv_i64_I64 many[k]) hd
      have HB := hid hback
      have hstep : pos + ((many.take (k + 1)).flatMap (fun m => shortB (zig (cv_i64 m)))).length = pos + ((many.take k).flatMap (fun m => shortB (zig (cv_i64 m)))).length + ((fun m => shortB (zig (cv_i64 m))) many[k]).length := by
        rw [take_snoc many k hlt, List.flatMap_append, List.length_append]; simp [Nat.add_assoc]
      have HS := hid hstep
      clear hc hcells hback hd hstep hc0
      obtain ⟨pk, hpk⟩ : ∃ pk, pos + ((many.take k).flatMap (fun m => shortB (zig (cv_i64 m)))).length = pk := ⟨_, rfl⟩
      rw [hpk] at HB HS hRk
      clear hpk
      have z1 : (0 : Int) ≤ (k : Int) := by omega
      have z2 : (k : Int) < (many.length : Int) := by omega
      have hne : (cv_i64 many[k] != IntKind.i64.wrap (many[k] : Int)) = false := by rw [cv_i64_wrap]; simp
      go_wp2_with fail
      go_region_held3 (fun w' => w'.cell? ⟨w.heap.size, 2, none⟩ = some (.slice (some ⟨bm, off, none⟩) many.length capm) ∧ w'.cell? ⟨bm, off + k, none⟩ = some (.int .u64 ((many[k] : Nat) : Int)))
        (first | exact ⟨y2, y3⟩ | exact ⟨hc2.cell y2 (by simp; omega), hc2.cell y3 (by simpa using hbm)⟩)
        (first | (go_at_call 37; refine (rsigned_calls (hRk.keep (Chg.of_drewN [] wr 1) (by simp) (by simp)) (by omega)).mono ?_; rw [HB.out]; rintro e w2 ⟨rfl, hR2, hc2⟩))
      go_wp2
      go_roundw
      case rel => exact ⟨k + 1, by omega, by go_num, (by rw [HS.out]; exact hR2), hch.trans' ((Chg.of_drewN _ wr 1).trans' hc2)⟩
      case measure => simp [intOf]; omega
    · have he : many.take k = many := List.take_of_length_le (by omega)
      rw [he] at hRk
      clear hcells he
      go_wp2
      go_ret
      exact ⟨rfl, hRk, ((Chg.refl [b] w).alloc _).trans' hch⟩

set_option maxHeartbeats 2000000 in
set_option maxRecDepth 100000 in
theorem same_1 (hwid : 0 ≤ width ∧ width < 8) (h : L.drop pos = many.flatMap (fixedB (sizeI width)) ++ rest) : Calls Try.prog 44 #[.pointer (some ⟨b, 0, none⟩), .agg #[.int .i64 1, .int .i64 width, v, .string text]] w
    (RdPost 81 w b L ao cap (.bool true) ⟨pos + (many.flatMap (fixedB (sizeI width))).length, wh, 0⟩) := by
  obtain ⟨_, _, aom, capm, rfl, _, _, _, hcells⟩ := hv
  have H := hid h
  clear h
  have hb : b < w.heap.size := blk_lt hR.blk
  go_enter Try.func44, Try.ntmps44
  go_wp2_with fail
  go_loopw [5] (fun i wr => ∃ k, k ≤ many.length ∧ i = .int .i64 (k : Nat) ∧ Rd 81 wr b L ao cap (pos + ((many.take k).flatMap (fixedB (sizeI width))).length) wh 0 ∧ Chg [b] (w.alloc (.cells #[.int .i64 1, .int .i64 width, .slice aom many.length capm, .string text] 35)) wr)
    (fun i _ => many.length - (intOf i).toNat)
  case atStart => exact ⟨0, by omega, rfl, by simpa using hR.keep ((Chg.refl [] w).alloc _) (by simp) (by simp), Chg.refl _ _⟩
  case round =>
    obtain ⟨k, hk, rfl, hRk, hch⟩ := hrel
    have y0 : wr.cell? ⟨w.heap.size, 0, none⟩ = some (.int .i64 1) := hch.cell (by simp) (by simp; omega)
    have y1 : wr.cell? ⟨w.heap.size, 1, none⟩ = some (.int .i64 width) := hch.cell (by simp) (by simp; omega)
    have y2 : wr.cell? ⟨w.heap.size, 2, none⟩ = some (.slice aom many.length capm) := hch.cell (by simp) (by simp; omega)
    by_cases hlt : k < many.length
    · obtain ⟨bm, off, rfl, hc⟩ := hcells (by omega)
      have hbm : bm ≠ b := hvb (by omega) bm rfl
      have hc0 := (hc k (by omega)).trans (show some ((many.map cU).getD k undef) = some (.int .u64 ((many[k] : Nat) : Int)) by simp [List.getD, hlt, cU])
      have y3 : wr.cell? ⟨bm, off + k, none⟩ = some (.int .u64 ((many[k] : Nat) : Int)) := hch.cell (((Chg.refl [] w).alloc _).cell hc0 (by simp)) (by simpa using hbm)
      have hd : L.drop (pos + ((many.take k).flatMap (fixedB (sizeI width))).length) = (fixedB (sizeI width)) many[k] ++ ((many.drop (k + 1)).flatMap (fixedB (sizeI width)) ++ rest) := by
        apply back_next
        rw [H.out, ← List.append_assoc, ← List.append_assoc, ← flat_step (fixedB (sizeI width)) many k hlt]
      have hmk := hm _ (List.getElem_mem hlt)
      have hback := back_fixed (wh := wh) hd
      have HB := hid hback
      have hstep : pos + ((many.take (k + 1)).flatMap (fixedB (sizeI width))).length = pos + ((many.take k).flatMap (fixedB (sizeI width))).length + ((fixedB (sizeI width)) many[k]).length := by
        rw [take_snoc many k hlt, List.flatMap_append, List.length_append]; simp [Nat.add_assoc]
      have HS := hid hstep
      clear hc hcells hback hd hstep hc0
      obtain ⟨pk, hpk⟩ : ∃ pk, pos + ((many.take k).flatMap (fixedB (sizeI width))).length = pk := ⟨_, rfl⟩
      rw [hpk] at HB HS hRk
      clear hpk
      have z1 : (0 : Int) ≤ (k : Int) := by omega
      have z2 : (k : Int) < (many.length : Int) := by omega
      have hsz := sizeI_cases hwid
      have hlen : (fixedB (sizeI width) many[k]).length = sizeI width := fixedB_length _ _
      have HL := hid hlen
      clear hlen
      obtain ⟨q, hq⟩ : ∃ q, many[k] % 256 ^ sizeI width = q := ⟨_, rfl⟩
      have hRW : (rWidth width L ⟨pk, wh, 0⟩) = (q, ⟨pk + sizeI width, wh, 0⟩) := by
        unfold rWidth; rw [if_pos hwid, ← hq]; exact HB.out
      have HRW := hid hRW
      have HQ := hid hq
      clear hRW hq
      go_wp2_with (go_at_call 34; refine (fixed_calls hRk (by omega) width).mono ?_; rw [HRW.out]; rintro e w2 ⟨rfl, hR2, hc2⟩; refine halt (fun X hX => ?_))
      rw [hX.out]; clear hX
      have hdec : decide (0 ≤ width ∧ width < 8) = true := decide_eq_true hwid
      have t1 : w2.cell? ⟨w.heap.size, 1, none⟩ = some (.int .i64 width) := hc2.cell y1 (by simp; omega)
      have t2 : w2.cell? ⟨w.heap.size, 2, none⟩ = some (.slice (some ⟨bm, off, none⟩) many.length capm) := hc2.cell y2 (by simp; omega)
      have t3 : w2.cell? ⟨bm, off + k, none⟩ = some (.int .u64 ((many[k] : Nat) : Int)) := hc2.cell y3 (by simpa using hbm)
      obtain ⟨sz, hsze⟩ : ∃ sz, sizeI width = sz := ⟨_, rfl⟩
      have HSZ := hid hsze
      have HQ2 := HQ.out
      rw [hsze] at hsz hR2 HQ2
      have HQ3 := hid HQ2
      clear HQ2 hsze
      go_wp2_with fail
      go_region_held3 (fun w' => w'.cell? ⟨w.heap.size, 1, none⟩ = some (.int .i64 width) ∧ w'.cell? ⟨w.heap.size, 2, none⟩ = some (.slice (some ⟨bm, off, none⟩) many.length capm) ∧ w'.cell? ⟨bm, off + k, none⟩ = some (.int .u64 ((many[k] : Nat) : Int)))
        (first | exact ⟨t1, t2, t3⟩ | exact ⟨hc3.cell t1 (by simp), hc3.cell t2 (by simp), hc3.cell t3 (by simp)⟩)
        (first | (go_at_call 47; refine (sizeI_calls hwid _).mono ?_; rw [HSZ.out]; rintro e w3 ⟨rfl, hc3⟩) | (go_at_call 83; refine (low_calls many[k] hmk sz hsz _).mono ?_; rw [HQ3.out]; rintro e w4 ⟨rfl, rfl⟩))
      go_wp2
      go_roundw
      case rel => exact ⟨k + 1, by omega, by go_num, (by rw [HS.out, HL.out, HSZ.out]; exact (hR2.keep (Chg.of_drewN [] w2 1) (by simp) (by simp)).keep hc3 (by simp) (by simp)), (hch.trans' hc2).trans' ((Chg.of_drewN _ w2 1).trans' hc3.nil)⟩
      case measure => simp [intOf]; omega
    · have he : many.take k = many := List.take_of_length_le (by omega)
      rw [he] at hRk
      clear hcells he
      go_wp2
      go_ret
      exact ⟨rfl, hRk, ((Chg.refl [b] w).alloc _).trans' hch⟩

set_option maxHeartbeats 2000000 in
set_option maxRecDepth 100000 in
theorem same_none {kind : Int} (h1 : kind ≠ 1) (h2 : kind ≠ 2) (h3 : kind ≠ 3) (h4 : kind ≠ 4) (h5 : kind ≠ 5) : Calls Try.prog 44 #[.pointer (some ⟨b, 0, none⟩), .agg #[.int .i64 kind, .int .i64 width, v, .string text]] w
    (RdPost 81 w b L ao cap (.bool true) ⟨pos, wh, 0⟩) := by
  obtain ⟨_, _, aom, capm, rfl, _, _, _, hcells⟩ := hv
  have hb : b < w.heap.size := blk_lt hR.blk
  clear hcells hvb
  go_enter Try.func44, Try.ntmps44
  go_wp2_with fail
  go_loopw [5] (fun i wr => ∃ k, k ≤ many.length ∧ i = .int .i64 (k : Nat) ∧ Rd 81 wr b L ao cap pos wh 0 ∧ Chg [b] (w.alloc (.cells #[.int .i64 kind, .int .i64 width, .slice aom many.length capm, .string text] 35)) wr)
    (fun i _ => many.length - (intOf i).toNat)
  case atStart => exact ⟨0, by omega, rfl, by simpa using hR.keep ((Chg.refl [] w).alloc _) (by simp) (by simp), Chg.refl _ _⟩
  case round =>
    obtain ⟨k, hk, rfl, hRk, hch⟩ := hrel
    have y0 : wr.cell? ⟨w.heap.size, 0, none⟩ = some (.int .i64 kind) := hch.cell (by simp) (by simp; omega)
    have y1 : wr.cell? ⟨w.heap.size, 1, none⟩ = some (.int .i64 width) := hch.cell (by simp) (by simp; omega)
    have y2 : wr.cell? ⟨w.heap.size, 2, none⟩ = some (.slice aom many.length capm) := hch.cell (by simp) (by simp; omega)
    have y3 : wr.cell? ⟨w.heap.size, 3, none⟩ = some (.string text) := hch.cell (by simp) (by simp; omega)
    by_cases hlt : k < many.length
    · go_wp2
      go_roundw
      case rel => exact ⟨k + 1, by omega, by go_num, hRk, hch⟩
      case measure => simp [intOf]; omega
    · have hc0 : Chg [b] w wr := ((Chg.refl [b] w).alloc _).trans' hch
      go_wp2
      go_ret
      exact ⟨rfl, hRk, hc0⟩

set_option maxHeartbeats 2000000 in
set_option maxRecDepth 100000 in
theorem same_1out (hwid : ¬ (0 ≤ width ∧ width < 8)) : Calls Try.prog 44 #[.pointer (some ⟨b, 0, none⟩), .agg #[.int .i64 1, .int .i64 width, v, .string text]] w
    (RdPost 81 w b L ao cap (.bool true) ⟨pos, wh, 0⟩) := by
  obtain ⟨_, _, aom, capm, rfl, _, _, _, hcells⟩ := hv
  have hb : b < w.heap.size := blk_lt hR.blk
  have hW : rWidth width L ⟨pos, wh, 0⟩ = (0, ⟨pos, wh, 0⟩) := by unfold rWidth; rw [if_neg hwid]
  have HW := hid hW
  clear hW
  clear hcells hvb
  go_enter Try.func44, Try.ntmps44
  go_wp2_with fail
  go_loopw [5] (fun i wr => ∃ k, k ≤ many.length ∧ i = .int .i64 (k : Nat) ∧ Rd 81 wr b L ao cap pos wh 0 ∧ Chg [b] (w.alloc (.cells #[.int .i64 1, .int .i64 width, .slice aom many.length capm, .string text] 35)) wr)
    (fun i _ => many.length - (intOf i).toNat)
  case atStart => exact ⟨0, by omega, rfl, by simpa using hR.keep ((Chg.refl [] w).alloc _) (by simp) (by simp), Chg.refl _ _⟩
  case round =>
    obtain ⟨k, hk, rfl, hRk, hch⟩ := hrel
    have y0 : wr.cell? ⟨w.heap.size, 0, none⟩ = some (.int .i64 1) := hch.cell (by simp) (by simp; omega)
    have y1 : wr.cell? ⟨w.heap.size, 1, none⟩ = some (.int .i64 width) := hch.cell (by simp) (by simp; omega)
    have y2 : wr.cell? ⟨w.heap.size, 2, none⟩ = some (.slice aom many.length capm) := hch.cell (by simp) (by simp; omega)
    have y3 : wr.cell? ⟨w.heap.size, 3, none⟩ = some (.string text) := hch.cell (by simp) (by simp; omega)
    by_cases hlt : k < many.length
    · go_wp2_with (go_at_call 34; refine (fixed_calls hRk (by omega) width).mono ?_; rw [HW.out]; rintro e w2 ⟨rfl, hRk2, hc2⟩; refine halt (fun X hX => ?_))
      rw [hX.out]; clear hX
      have hdec : decide (0 ≤ width ∧ width < 8) = false := decide_eq_false hwid
      go_wp2_with fail
      go_quiet (fail)
      go_wp2
      go_roundw
      case rel => exact ⟨k + 1, by omega, by go_num, Rd_drew hRk2 Drew.refl, (hch.trans' hc2).trans' (Chg.of_drewN _ _ _)⟩
      case measure => simp [intOf]; omega
    · have hc0 : Chg [b] w wr := ((Chg.refl [b] w).alloc _).trans' hch
      go_wp2
      go_ret
      exact ⟨rfl, hRk, hc0⟩

set_option maxHeartbeats 2000000 in
set_option maxRecDepth 100000 in
theorem same_4 (h : L.drop pos = [if 0 < many.length then 1 else 0] ++ rest) : Calls Try.prog 44 #[.pointer (some ⟨b, 0, none⟩), .agg #[.int .i64 4, .int .i64 width, v, .string text]] w
    (RdPost 81 w b L ao cap (.bool true) ⟨pos + 1, wh, 0⟩) := by
  obtain ⟨_, _, aom, capm, rfl, _, _, _, hcells⟩ := hv
  have hb : b < w.heap.size := blk_lt hR.blk
  have hback := back_flag (wh := wh) (t := decide (0 < many.length)) (by simpa using h)
  have HB := hid hback
  clear hback h
  clear hcells hvb
  go_enter Try.func44, Try.ntmps44
  go_wp2_with fail
  go_loopw [5] (fun i wr => ∃ k, k ≤ many.length ∧ i = .int .i64 (k : Nat) ∧ Rd 81 wr b L ao cap pos wh 0 ∧ Chg [b] (w.alloc (.cells #[.int .i64 4, .int .i64 width, .slice aom many.length capm, .string text] 35)) wr)
    (fun i _ => many.length - (intOf i).toNat)
  case atStart => exact ⟨0, by omega, rfl, by simpa using hR.keep ((Chg.refl [] w).alloc _) (by simp) (by simp), Chg.refl _ _⟩
  case round =>
    obtain ⟨k, hk, rfl, hRk, hch⟩ := hrel
    have y0 : wr.cell? ⟨w.heap.size, 0, none⟩ = some (.int .i64 4) := hch.cell (by simp) (by simp; omega)
    have y1 : wr.cell? ⟨w.heap.size, 1, none⟩ = some (.int .i64 width) := hch.cell (by simp) (by simp; omega)
    have y2 : wr.cell? ⟨w.heap.size, 2, none⟩ = some (.slice aom many.length capm) := hch.cell (by simp) (by simp; omega)
    have y3 : wr.cell? ⟨w.heap.size, 3, none⟩ = some (.string text) := hch.cell (by simp) (by simp; omega)
    by_cases hlt : k < many.length
    · go_wp2
      go_roundw
      case rel => exact ⟨k + 1, by omega, by go_num, hRk, hch⟩
      case measure => simp [intOf]; omega
    · have hc0 : Chg [b] w wr := ((Chg.refl [b] w).alloc _).trans' hch
      go_wp2_with fail
      go_region_held3 (fun w' => w'.cell? ⟨w.heap.size, 2, none⟩ = some (.slice aom many.length capm))
        (first | exact y2 | exact hc2.cell y2 (by simp; omega))
        (first | (go_at_call 38; refine (rflag_calls (hRk.keep (Chg.of_drewN [] wr 1) (by simp) (by simp)) (by omega)).mono ?_; rw [HB.out]; rintro e w2 ⟨rfl, hR2, hc2⟩))
      go_wp2
      go_ret
      exact ⟨by simp, hR2, hc0.trans' ((Chg.of_drewN _ wr 1).trans' hc2)⟩

set_option maxHeartbeats 2000000 in
set_option maxRecDepth 100000 in
theorem same_5 (ht : text.size ≤ 1073741824) (h : L.drop pos = shortB text.size ++ text.data.toList ++ rest) : Calls Try.prog 44 #[.pointer (some ⟨b, 0, none⟩), .agg #[.int .i64 5, .int .i64 width, v, .string text]] w
    (RdPost 81 w b L ao cap (.bool true) ⟨pos + (shortB text.size ++ text.data.toList).length, wh, 0⟩) := by
  obtain ⟨_, _, aom, capm, rfl, _, _, _, hcells⟩ := hv
  have hb : b < w.heap.size := blk_lt hR.blk
  have htl : text.data.toList.length = text.size := by rw [Array.length_toList]; rfl
  have hback := back_text (wh := wh) (s := text.data.toList) (m := (text.size : Int)) (by rw [htl]; unfold U64; omega) (by rw [htl]; simp) (by rw [htl]; exact h)
  rw [htl] at hback
  have HB := hid hback
  have hst : (ByteArray.mk text.data.toList.toArray) = text := by simp
  have hbt : ∀ W, Rd 81 W b L ao cap pos wh 0 → Calls Try.prog 40 #[.pointer (some ⟨b, 0, none⟩), .int .i64 (text.size : Int)] W (RdPost 81 W b L ao cap (.string text) ⟨pos + (shortB text.size ++ text.data.toList).length, wh, 0⟩) := fun W hW => by
    have h1 := rtext_calls hW (by omega) (text.size : Int) (by unfold I64; omega)
    rw [hback] at h1
    rw [← show strB text.data.toList = .string text from congrArg Value.string hst]
    exact h1
  have HBT := hid hbt
  clear hback h hst htl hbt HB
  clear hcells hvb
  go_enter Try.func44, Try.ntmps44
  go_wp2_with fail
  go_loopw [5] (fun i wr => ∃ k, k ≤ many.length ∧ i = .int .i64 (k : Nat) ∧ Rd 81 wr b L ao cap pos wh 0 ∧ Chg [b] (w.alloc (.cells #[.int .i64 5, .int .i64 width, .slice aom many.length capm, .string text] 35)) wr)
    (fun i _ => many.length - (intOf i).toNat)
  case atStart => exact ⟨0, by omega, rfl, by simpa using hR.keep ((Chg.refl [] w).alloc _) (by simp) (by simp), Chg.refl _ _⟩
  case round =>
    obtain ⟨k, hk, rfl, hRk, hch⟩ := hrel
    have y0 : wr.cell? ⟨w.heap.size, 0, none⟩ = some (.int .i64 5) := hch.cell (by simp) (by simp; omega)
    have y1 : wr.cell? ⟨w.heap.size, 1, none⟩ = some (.int .i64 width) := hch.cell (by simp) (by simp; omega)
    have y2 : wr.cell? ⟨w.heap.size, 2, none⟩ = some (.slice aom many.length capm) := hch.cell (by simp) (by simp; omega)
    have y3 : wr.cell? ⟨w.heap.size, 3, none⟩ = some (.string text) := hch.cell (by simp) (by simp; omega)
    by_cases hlt : k < many.length
    · go_wp2
      go_roundw
      case rel => exact ⟨k + 1, by omega, by go_num, hRk, hch⟩
      case measure => simp [intOf]; omega
    · have hc0 : Chg [b] w wr := ((Chg.refl [b] w).alloc _).trans' hch
      go_wp2_with fail
      go_region_held3 (fun w' => w'.cell? ⟨w.heap.size, 3, none⟩ = some (.string text))
        (first | exact y3 | exact hc2.cell y3 (by simp; omega))
        (first | (go_at_call 40; refine (HBT.out _ (hRk.keep (Chg.of_drewN [] wr 1) (by simp) (by simp))).mono ?_; rintro e w2 ⟨rfl, hR2, hc2⟩))
      go_wp2
      go_ret
      exact ⟨by simp, hR2, hc0.trans' ((Chg.of_drewN _ wr 1).trans' hc2)⟩
end
end Go.Proofs.Ytdakcphkaljghaa
