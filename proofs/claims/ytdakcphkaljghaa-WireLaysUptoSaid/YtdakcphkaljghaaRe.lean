/- Walks of the wire layer: numbers of fixed width taken. -/
import Derived.Test.YtdakcphkaljghaaRd
namespace Go.Proofs.Ytdakcphkaljghaa
open Go.RowKit Go.AB

section
variable {w : World} {b : Nat} {l : List UInt8} {ao : Option Addr} {cap pos wh bad : Nat}
theorem take_u8_bad (hR : Rd 81 w b l ao cap pos wh bad) (hb : bad ≠ 0) : Calls Try.prog 28 #[.pointer (some ⟨b, 0, none⟩)] w (RdPost 81 w b l ao cap (.int .u8 0) ⟨pos, wh, bad⟩) := by
  go_enter Try.func28, Try.ntmps28
  go_wp2_with (go_at_call 61; refine (wrong_calls hR).mono ?_; rintro e w' ⟨rfl, rfl⟩)
  go_ret
  exact ⟨rfl, hR, Chg.refl _ _⟩
set_option maxHeartbeats 1000000 in
set_option maxRecDepth 100000 in
theorem take_u8_short (hR : Rd 81 w b l ao cap pos wh 0) (hl : l.length ≤ 1099511627776) (hs : l.length - pos < 1) : Calls Try.prog 28 #[.pointer (some ⟨b, 0, none⟩)] w (RdPost 81 w b l ao cap (.int .u8 0) ⟨pos, pos, 10⟩) := by
  have h0 := hR.c0
  have h1 := hR.c1
  have hok := hR.ok
  have hR' := fun n => hR.keep (Chg.of_drewN [] w n) (by simp) (by simp)
  go_enter Try.func28, Try.ntmps28
  go_wp2_with (first | (go_at_call 61; refine (wrong_calls hR).mono ?_; rintro e w' ⟨rfl, rfl⟩) | (go_at_call 62; refine (width_u8 _).mono ?_; rintro e w' ⟨rfl, rfl⟩))
  go_quiet (fail)
  go_wp2_with (go_at_call 63; refine (fails_calls (hR' _) 10).mono ?_; rintro e w' ⟨rfl, hR2, hc2⟩)
  go_ret
  exact ⟨rfl, hR2, (Chg.of_drewN _ _ _).trans' hc2⟩
set_option maxHeartbeats 2000000 in
set_option maxRecDepth 100000 in
theorem take_u8_ok (hR : Rd 81 w b l ao cap pos wh 0) (hl : l.length ≤ 1099511627776) (hs : pos + 1 ≤ l.length) : Calls Try.prog 28 #[.pointer (some ⟨b, 0, none⟩)] w (RdPost 81 w b l ao cap (.int .u8 ((leNat ((l.drop pos).take 1) : Nat) : Int)) ⟨pos + 1, wh, 0⟩) := by
  have h0 := hR.c0
  have h1 := hR.c1
  have f1 := hR.fr 1
  obtain ⟨hset, hcset⟩ := hR.set1 (pos + 1) hs
  obtain ⟨_, _, ao', cap', hao, hlc, hcm, _, hcells⟩ := hR.view
  simp only [Value.slice.injEq, true_and] at hao
  obtain ⟨rfl, rfl⟩ := hao
  obtain ⟨bb, off, rfl, hc⟩ := hcells (by omega)
  have hbb : bb ≠ b := hR.ne bb rfl
  have hdr : (l.drop pos).take 1 = [l[pos]] := by
    apply List.ext_getElem
    · simp; omega
    · intro i h1 h2
      simp at h2
      match i, h2 with
      | 0, _ => simp
  rw [hdr]
  clear hdr
  have x0 : w.cell? ⟨bb, off + pos, none⟩ = some (.int .u8 (l[pos].toNat : Int)) := (hc (pos) (by omega)).trans (by simp [List.getD, show pos < l.length by omega, B])
  obtain ⟨b0, hb0⟩ : ∃ u, l[pos] = u := ⟨_, rfl⟩
  rw [hb0] at x0 ⊢
  clear hb0 hc hcells
  go_enter Try.func28, Try.ntmps28
  go_wp2_with (first | (go_at_call 61; refine (wrong_calls hR).mono ?_; rintro e w' ⟨rfl, rfl⟩) | (go_at_call 62; refine (width_u8 _).mono ?_; rintro e w' ⟨rfl, rfl⟩))
  go_quiet (fail)
  go_wp2
  go_quiet (fail)
  go_wp2


  go_ret
  refine ⟨?_, hset.same rfl, hcset.same rfl rfl rfl rfl⟩
  exact (congrArg (fun z => Ending.returned (.int .u8 (z % 256))) (le1 b0)).trans (congrArg (fun z => Ending.returned (.int .u8 z)) (leNat_lt1 b0))
end

section
variable {w : World} {b : Nat} {l : List UInt8} {ao : Option Addr} {cap pos wh bad : Nat}
theorem take_u16_bad (hR : Rd 81 w b l ao cap pos wh bad) (hb : bad ≠ 0) : Calls Try.prog 75 #[.pointer (some ⟨b, 0, none⟩)] w (RdPost 81 w b l ao cap (.int .u16 0) ⟨pos, wh, bad⟩) := by
  go_enter Try.func75, Try.ntmps75
  go_wp2_with (go_at_call 61; refine (wrong_calls hR).mono ?_; rintro e w' ⟨rfl, rfl⟩)
  go_ret
  exact ⟨rfl, hR, Chg.refl _ _⟩
set_option maxHeartbeats 1000000 in
set_option maxRecDepth 100000 in
theorem take_u16_short (hR : Rd 81 w b l ao cap pos wh 0) (hl : l.length ≤ 1099511627776) (hs : l.length - pos < 2) : Calls Try.prog 75 #[.pointer (some ⟨b, 0, none⟩)] w (RdPost 81 w b l ao cap (.int .u16 0) ⟨pos, pos, 10⟩) := by
  have h0 := hR.c0
  have h1 := hR.c1
  have hok := hR.ok
  have hR' := fun n => hR.keep (Chg.of_drewN [] w n) (by simp) (by simp)
  go_enter Try.func75, Try.ntmps75
  go_wp2_with (first | (go_at_call 61; refine (wrong_calls hR).mono ?_; rintro e w' ⟨rfl, rfl⟩) | (go_at_call 92; refine (width_u16 _).mono ?_; rintro e w' ⟨rfl, rfl⟩))
  go_quiet (fail)
  go_wp2_with (go_at_call 63; refine (fails_calls (hR' _) 10).mono ?_; rintro e w' ⟨rfl, hR2, hc2⟩)
  go_ret
  exact ⟨rfl, hR2, (Chg.of_drewN _ _ _).trans' hc2⟩
set_option maxHeartbeats 2000000 in
set_option maxRecDepth 100000 in
theorem take_u16_ok (hR : Rd 81 w b l ao cap pos wh 0) (hl : l.length ≤ 1099511627776) (hs : pos + 2 ≤ l.length) : Calls Try.prog 75 #[.pointer (some ⟨b, 0, none⟩)] w (RdPost 81 w b l ao cap (.int .u16 ((leNat ((l.drop pos).take 2) : Nat) : Int)) ⟨pos + 2, wh, 0⟩) := by
  have h0 := hR.c0
  have h1 := hR.c1
  have f1 := hR.fr 1
  obtain ⟨hset, hcset⟩ := hR.set1 (pos + 2) hs
  obtain ⟨_, _, ao', cap', hao, hlc, hcm, _, hcells⟩ := hR.view
  simp only [Value.slice.injEq, true_and] at hao
  obtain ⟨rfl, rfl⟩ := hao
  obtain ⟨bb, off, rfl, hc⟩ := hcells (by omega)
  have hbb : bb ≠ b := hR.ne bb rfl
  have hdr : (l.drop pos).take 2 = [l[pos], l[pos + 1]] := by
    apply List.ext_getElem
    · simp; omega
    · intro i h1 h2
      simp at h2
      match i, h2 with
      | 0, _ | 1, _ => simp
  rw [hdr]
  clear hdr
  have x0 : w.cell? ⟨bb, off + pos, none⟩ = some (.int .u8 (l[pos].toNat : Int)) := (hc (pos) (by omega)).trans (by simp [List.getD, show pos < l.length by omega, B])
  have x1 : w.cell? ⟨bb, off + pos + 1, none⟩ = some (.int .u8 (l[pos + 1].toNat : Int)) := (hc (pos + 1) (by omega)).trans (by simp [List.getD, show pos + 1 < l.length by omega, B])
  obtain ⟨b0, hb0⟩ : ∃ u, l[pos] = u := ⟨_, rfl⟩
  rw [hb0] at x0 ⊢
  obtain ⟨b1, hb1⟩ : ∃ u, l[pos + 1] = u := ⟨_, rfl⟩
  rw [hb1] at x1 ⊢
  clear hb0 hb1 hc hcells
  go_enter Try.func75, Try.ntmps75
  go_wp2_with (first | (go_at_call 61; refine (wrong_calls hR).mono ?_; rintro e w' ⟨rfl, rfl⟩) | (go_at_call 92; refine (width_u16 _).mono ?_; rintro e w' ⟨rfl, rfl⟩))
  go_quiet (fail)
  go_wp2
  go_quiet (fail)
  go_wp2


  go_ret
  refine ⟨?_, hset.same rfl, hcset.same rfl rfl rfl rfl⟩
  exact (congrArg (fun z => Ending.returned (.int .u16 (IntKind.u16.wrap z))) (le2 b0 b1)).trans (congrArg (fun z => Ending.returned (.int .u16 z)) (leNat_lt2 b0 b1))
end

section
variable {w : World} {b : Nat} {l : List UInt8} {ao : Option Addr} {cap pos wh bad : Nat}
theorem take_u32_bad (hR : Rd 81 w b l ao cap pos wh bad) (hb : bad ≠ 0) : Calls Try.prog 58 #[.pointer (some ⟨b, 0, none⟩)] w (RdPost 81 w b l ao cap (.int .u32 0) ⟨pos, wh, bad⟩) := by
  go_enter Try.func58, Try.ntmps58
  go_wp2_with (go_at_call 61; refine (wrong_calls hR).mono ?_; rintro e w' ⟨rfl, rfl⟩)
  go_ret
  exact ⟨rfl, hR, Chg.refl _ _⟩
set_option maxHeartbeats 1000000 in
set_option maxRecDepth 100000 in
theorem take_u32_short (hR : Rd 81 w b l ao cap pos wh 0) (hl : l.length ≤ 1099511627776) (hs : l.length - pos < 4) : Calls Try.prog 58 #[.pointer (some ⟨b, 0, none⟩)] w (RdPost 81 w b l ao cap (.int .u32 0) ⟨pos, pos, 10⟩) := by
  have h0 := hR.c0
  have h1 := hR.c1
  have hok := hR.ok
  have hR' := fun n => hR.keep (Chg.of_drewN [] w n) (by simp) (by simp)
  go_enter Try.func58, Try.ntmps58
  go_wp2_with (first | (go_at_call 61; refine (wrong_calls hR).mono ?_; rintro e w' ⟨rfl, rfl⟩) | (go_at_call 85; refine (width_u32 _).mono ?_; rintro e w' ⟨rfl, rfl⟩))
  go_quiet (fail)
  go_wp2_with (go_at_call 63; refine (fails_calls (hR' _) 10).mono ?_; rintro e w' ⟨rfl, hR2, hc2⟩)
  go_ret
  exact ⟨rfl, hR2, (Chg.of_drewN _ _ _).trans' hc2⟩
set_option maxHeartbeats 2000000 in
set_option maxRecDepth 100000 in
theorem take_u32_ok (hR : Rd 81 w b l ao cap pos wh 0) (hl : l.length ≤ 1099511627776) (hs : pos + 4 ≤ l.length) : Calls Try.prog 58 #[.pointer (some ⟨b, 0, none⟩)] w (RdPost 81 w b l ao cap (.int .u32 ((leNat ((l.drop pos).take 4) : Nat) : Int)) ⟨pos + 4, wh, 0⟩) := by
  have h0 := hR.c0
  have h1 := hR.c1
  have f1 := hR.fr 1
  obtain ⟨hset, hcset⟩ := hR.set1 (pos + 4) hs
  obtain ⟨_, _, ao', cap', hao, hlc, hcm, _, hcells⟩ := hR.view
  simp only [Value.slice.injEq, true_and] at hao
  obtain ⟨rfl, rfl⟩ := hao
  obtain ⟨bb, off, rfl, hc⟩ := hcells (by omega)
  have hbb : bb ≠ b := hR.ne bb rfl
  have hdr : (l.drop pos).take 4 = [l[pos], l[pos + 1], l[pos + 2], l[pos + 3]] := by
    apply List.ext_getElem
    · simp; omega
    · intro i h1 h2
      simp at h2
      match i, h2 with
      | 0, _ | 1, _ | 2, _ | 3, _ => simp
  rw [hdr]
  clear hdr
  have x0 : w.cell? ⟨bb, off + pos, none⟩ = some (.int .u8 (l[pos].toNat : Int)) := (hc (pos) (by omega)).trans (by simp [List.getD, show pos < l.length by omega, B])
  have x1 : w.cell? ⟨bb, off + pos + 1, none⟩ = some (.int .u8 (l[pos + 1].toNat : Int)) := (hc (pos + 1) (by omega)).trans (by simp [List.getD, show pos + 1 < l.length by omega, B])
  have x2 : w.cell? ⟨bb, off + pos + 2, none⟩ = some (.int .u8 (l[pos + 2].toNat : Int)) := (hc (pos + 2) (by omega)).trans (by simp [List.getD, show pos + 2 < l.length by omega, B])
  have x3 : w.cell? ⟨bb, off + pos + 3, none⟩ = some (.int .u8 (l[pos + 3].toNat : Int)) := (hc (pos + 3) (by omega)).trans (by simp [List.getD, show pos + 3 < l.length by omega, B])
  obtain ⟨b0, hb0⟩ : ∃ u, l[pos] = u := ⟨_, rfl⟩
  rw [hb0] at x0 ⊢
  obtain ⟨b1, hb1⟩ : ∃ u, l[pos + 1] = u := ⟨_, rfl⟩
  rw [hb1] at x1 ⊢
  obtain ⟨b2, hb2⟩ : ∃ u, l[pos + 2] = u := ⟨_, rfl⟩
  rw [hb2] at x2 ⊢
  obtain ⟨b3, hb3⟩ : ∃ u, l[pos + 3] = u := ⟨_, rfl⟩
  rw [hb3] at x3 ⊢
  clear hb0 hb1 hb2 hb3 hc hcells
  go_enter Try.func58, Try.ntmps58
  go_wp2_with (first | (go_at_call 61; refine (wrong_calls hR).mono ?_; rintro e w' ⟨rfl, rfl⟩) | (go_at_call 85; refine (width_u32 _).mono ?_; rintro e w' ⟨rfl, rfl⟩))
  go_quiet (fail)
  go_wp2
  go_quiet (fail)
  go_wp2
  go_quiet (fail)
  go_wp2

  go_ret
  refine ⟨?_, hset.same rfl, hcset.same rfl rfl rfl rfl⟩
  exact (congrArg (fun z => Ending.returned (.int .u32 (z % 4294967296))) (le4 b0 b1 b2 b3)).trans (congrArg (fun z => Ending.returned (.int .u32 z)) (leNat_lt4 b0 b1 b2 b3))
end

section
variable {w : World} {b : Nat} {l : List UInt8} {ao : Option Addr} {cap pos wh bad : Nat}
theorem take_u64_bad (hR : Rd 81 w b l ao cap pos wh bad) (hb : bad ≠ 0) : Calls Try.prog 76 #[.pointer (some ⟨b, 0, none⟩)] w (RdPost 81 w b l ao cap (.int .u64 0) ⟨pos, wh, bad⟩) := by
  go_enter Try.func76, Try.ntmps76
  go_wp2_with (go_at_call 61; refine (wrong_calls hR).mono ?_; rintro e w' ⟨rfl, rfl⟩)
  go_ret
  exact ⟨rfl, hR, Chg.refl _ _⟩
set_option maxHeartbeats 1000000 in
set_option maxRecDepth 100000 in
theorem take_u64_short (hR : Rd 81 w b l ao cap pos wh 0) (hl : l.length ≤ 1099511627776) (hs : l.length - pos < 8) : Calls Try.prog 76 #[.pointer (some ⟨b, 0, none⟩)] w (RdPost 81 w b l ao cap (.int .u64 0) ⟨pos, pos, 10⟩) := by
  have h0 := hR.c0
  have h1 := hR.c1
  have hok := hR.ok
  have hR' := fun n => hR.keep (Chg.of_drewN [] w n) (by simp) (by simp)
  go_enter Try.func76, Try.ntmps76
  go_wp2_with (first | (go_at_call 61; refine (wrong_calls hR).mono ?_; rintro e w' ⟨rfl, rfl⟩) | (go_at_call 93; refine (width_u64 _).mono ?_; rintro e w' ⟨rfl, rfl⟩))
  go_quiet (fail)
  go_wp2_with (go_at_call 63; refine (fails_calls (hR' _) 10).mono ?_; rintro e w' ⟨rfl, hR2, hc2⟩)
  go_ret
  exact ⟨rfl, hR2, (Chg.of_drewN _ _ _).trans' hc2⟩
set_option maxHeartbeats 2000000 in
set_option maxRecDepth 100000 in
theorem take_u64_ok (hR : Rd 81 w b l ao cap pos wh 0) (hl : l.length ≤ 1099511627776) (hs : pos + 8 ≤ l.length) : Calls Try.prog 76 #[.pointer (some ⟨b, 0, none⟩)] w (RdPost 81 w b l ao cap (.int .u64 ((leNat ((l.drop pos).take 8) : Nat) : Int)) ⟨pos + 8, wh, 0⟩) := by
  have h0 := hR.c0
  have h1 := hR.c1
  have f1 := hR.fr 1
  obtain ⟨hset, hcset⟩ := hR.set1 (pos + 8) hs
  obtain ⟨_, _, ao', cap', hao, hlc, hcm, _, hcells⟩ := hR.view
  simp only [Value.slice.injEq, true_and] at hao
  obtain ⟨rfl, rfl⟩ := hao
  obtain ⟨bb, off, rfl, hc⟩ := hcells (by omega)
  have hbb : bb ≠ b := hR.ne bb rfl
  have hdr : (l.drop pos).take 8 = [l[pos], l[pos + 1], l[pos + 2], l[pos + 3], l[pos + 4], l[pos + 5], l[pos + 6], l[pos + 7]] := by
    apply List.ext_getElem
    · simp; omega
    · intro i h1 h2
      simp at h2
      match i, h2 with
      | 0, _ | 1, _ | 2, _ | 3, _ | 4, _ | 5, _ | 6, _ | 7, _ => simp
  rw [hdr]
  clear hdr
  have x0 : w.cell? ⟨bb, off + pos, none⟩ = some (.int .u8 (l[pos].toNat : Int)) := (hc (pos) (by omega)).trans (by simp [List.getD, show pos < l.length by omega, B])
  have x1 : w.cell? ⟨bb, off + pos + 1, none⟩ = some (.int .u8 (l[pos + 1].toNat : Int)) := (hc (pos + 1) (by omega)).trans (by simp [List.getD, show pos + 1 < l.length by omega, B])
  have x2 : w.cell? ⟨bb, off + pos + 2, none⟩ = some (.int .u8 (l[pos + 2].toNat : Int)) := (hc (pos + 2) (by omega)).trans (by simp [List.getD, show pos + 2 < l.length by omega, B])
  have x3 : w.cell? ⟨bb, off + pos + 3, none⟩ = some (.int .u8 (l[pos + 3].toNat : Int)) := (hc (pos + 3) (by omega)).trans (by simp [List.getD, show pos + 3 < l.length by omega, B])
  have x4 : w.cell? ⟨bb, off + pos + 4, none⟩ = some (.int .u8 (l[pos + 4].toNat : Int)) := (hc (pos + 4) (by omega)).trans (by simp [List.getD, show pos + 4 < l.length by omega, B])
  have x5 : w.cell? ⟨bb, off + pos + 5, none⟩ = some (.int .u8 (l[pos + 5].toNat : Int)) := (hc (pos + 5) (by omega)).trans (by simp [List.getD, show pos + 5 < l.length by omega, B])
  have x6 : w.cell? ⟨bb, off + pos + 6, none⟩ = some (.int .u8 (l[pos + 6].toNat : Int)) := (hc (pos + 6) (by omega)).trans (by simp [List.getD, show pos + 6 < l.length by omega, B])
  have x7 : w.cell? ⟨bb, off + pos + 7, none⟩ = some (.int .u8 (l[pos + 7].toNat : Int)) := (hc (pos + 7) (by omega)).trans (by simp [List.getD, show pos + 7 < l.length by omega, B])
  obtain ⟨b0, hb0⟩ : ∃ u, l[pos] = u := ⟨_, rfl⟩
  rw [hb0] at x0 ⊢
  obtain ⟨b1, hb1⟩ : ∃ u, l[pos + 1] = u := ⟨_, rfl⟩
  rw [hb1] at x1 ⊢
  obtain ⟨b2, hb2⟩ : ∃ u, l[pos + 2] = u := ⟨_, rfl⟩
  rw [hb2] at x2 ⊢
  obtain ⟨b3, hb3⟩ : ∃ u, l[pos + 3] = u := ⟨_, rfl⟩
  rw [hb3] at x3 ⊢
  obtain ⟨b4, hb4⟩ : ∃ u, l[pos + 4] = u := ⟨_, rfl⟩
  rw [hb4] at x4 ⊢
  obtain ⟨b5, hb5⟩ : ∃ u, l[pos + 5] = u := ⟨_, rfl⟩
  rw [hb5] at x5 ⊢
  obtain ⟨b6, hb6⟩ : ∃ u, l[pos + 6] = u := ⟨_, rfl⟩
  rw [hb6] at x6 ⊢
  obtain ⟨b7, hb7⟩ : ∃ u, l[pos + 7] = u := ⟨_, rfl⟩
  rw [hb7] at x7 ⊢
  clear hb0 hb1 hb2 hb3 hb4 hb5 hb6 hb7 hc hcells
  go_enter Try.func76, Try.ntmps76
  go_wp2_with (first | (go_at_call 61; refine (wrong_calls hR).mono ?_; rintro e w' ⟨rfl, rfl⟩) | (go_at_call 93; refine (width_u64 _).mono ?_; rintro e w' ⟨rfl, rfl⟩))
  go_quiet (fail)
  go_wp2
  go_quiet (fail)
  go_wp2
  go_quiet (fail)
  go_wp2
  go_quiet (fail)
  go_wp2
  go_ret
  refine ⟨?_, hset.same rfl, hcset.same rfl rfl rfl rfl⟩
  exact (congrArg (fun z => Ending.returned (.int .u64 z)) (le8 b0 b1 b2 b3 b4 b5 b6 b7))
end

section
variable {w : World} {b : Nat} {l : List UInt8} {ao : Option Addr} {cap pos wh bad : Nat}
theorem take_i8_bad (hR : Rd 81 w b l ao cap pos wh bad) (hb : bad ≠ 0) : Calls Try.prog 71 #[.pointer (some ⟨b, 0, none⟩)] w (RdPost 81 w b l ao cap (.int .i8 0) ⟨pos, wh, bad⟩) := by
  go_enter Try.func71, Try.ntmps71
  go_wp2_with (go_at_call 61; refine (wrong_calls hR).mono ?_; rintro e w' ⟨rfl, rfl⟩)
  go_ret
  exact ⟨rfl, hR, Chg.refl _ _⟩
set_option maxHeartbeats 1000000 in
set_option maxRecDepth 100000 in
theorem take_i8_short (hR : Rd 81 w b l ao cap pos wh 0) (hl : l.length ≤ 1099511627776) (hs : l.length - pos < 1) : Calls Try.prog 71 #[.pointer (some ⟨b, 0, none⟩)] w (RdPost 81 w b l ao cap (.int .i8 0) ⟨pos, pos, 10⟩) := by
  have h0 := hR.c0
  have h1 := hR.c1
  have hok := hR.ok
  have hR' := fun n => hR.keep (Chg.of_drewN [] w n) (by simp) (by simp)
  go_enter Try.func71, Try.ntmps71
  go_wp2_with (first | (go_at_call 61; refine (wrong_calls hR).mono ?_; rintro e w' ⟨rfl, rfl⟩) | (go_at_call 88; refine (width_i8 _).mono ?_; rintro e w' ⟨rfl, rfl⟩))
  go_quiet (fail)
  go_wp2_with (go_at_call 63; refine (fails_calls (hR' _) 10).mono ?_; rintro e w' ⟨rfl, hR2, hc2⟩)
  go_ret
  exact ⟨rfl, hR2, (Chg.of_drewN _ _ _).trans' hc2⟩
set_option maxHeartbeats 2000000 in
set_option maxRecDepth 100000 in
theorem take_i8_ok (hR : Rd 81 w b l ao cap pos wh 0) (hl : l.length ≤ 1099511627776) (hs : pos + 1 ≤ l.length) : Calls Try.prog 71 #[.pointer (some ⟨b, 0, none⟩)] w (RdPost 81 w b l ao cap (.int .i8 (IntKind.i8.wrap ((leNat ((l.drop pos).take 1) : Nat) : Int))) ⟨pos + 1, wh, 0⟩) := by
  have h0 := hR.c0
  have h1 := hR.c1
  have f1 := hR.fr 1
  obtain ⟨hset, hcset⟩ := hR.set1 (pos + 1) hs
  obtain ⟨_, _, ao', cap', hao, hlc, hcm, _, hcells⟩ := hR.view
  simp only [Value.slice.injEq, true_and] at hao
  obtain ⟨rfl, rfl⟩ := hao
  obtain ⟨bb, off, rfl, hc⟩ := hcells (by omega)
  have hbb : bb ≠ b := hR.ne bb rfl
  have hdr : (l.drop pos).take 1 = [l[pos]] := by
    apply List.ext_getElem
    · simp; omega
    · intro i h1 h2
      simp at h2
      match i, h2 with
      | 0, _ => simp
  rw [hdr]
  clear hdr
  have x0 : w.cell? ⟨bb, off + pos, none⟩ = some (.int .u8 (l[pos].toNat : Int)) := (hc (pos) (by omega)).trans (by simp [List.getD, show pos < l.length by omega, B])
  obtain ⟨b0, hb0⟩ : ∃ u, l[pos] = u := ⟨_, rfl⟩
  rw [hb0] at x0 ⊢
  clear hb0 hc hcells
  go_enter Try.func71, Try.ntmps71
  go_wp2_with (first | (go_at_call 61; refine (wrong_calls hR).mono ?_; rintro e w' ⟨rfl, rfl⟩) | (go_at_call 88; refine (width_i8 _).mono ?_; rintro e w' ⟨rfl, rfl⟩))
  go_quiet (fail)
  go_wp2
  go_quiet (fail)
  go_wp2


  go_ret
  refine ⟨?_, hset.same rfl, hcset.same rfl rfl rfl rfl⟩
  exact (congrArg (fun z => Ending.returned (.int .i8 (IntKind.i8.wrap z))) (le1 b0))
end

section
variable {w : World} {b : Nat} {l : List UInt8} {ao : Option Addr} {cap pos wh bad : Nat}
theorem take_i16_bad (hR : Rd 81 w b l ao cap pos wh bad) (hb : bad ≠ 0) : Calls Try.prog 72 #[.pointer (some ⟨b, 0, none⟩)] w (RdPost 81 w b l ao cap (.int .i16 0) ⟨pos, wh, bad⟩) := by
  go_enter Try.func72, Try.ntmps72
  go_wp2_with (go_at_call 61; refine (wrong_calls hR).mono ?_; rintro e w' ⟨rfl, rfl⟩)
  go_ret
  exact ⟨rfl, hR, Chg.refl _ _⟩
set_option maxHeartbeats 1000000 in
set_option maxRecDepth 100000 in
theorem take_i16_short (hR : Rd 81 w b l ao cap pos wh 0) (hl : l.length ≤ 1099511627776) (hs : l.length - pos < 2) : Calls Try.prog 72 #[.pointer (some ⟨b, 0, none⟩)] w (RdPost 81 w b l ao cap (.int .i16 0) ⟨pos, pos, 10⟩) := by
  have h0 := hR.c0
  have h1 := hR.c1
  have hok := hR.ok
  have hR' := fun n => hR.keep (Chg.of_drewN [] w n) (by simp) (by simp)
  go_enter Try.func72, Try.ntmps72
  go_wp2_with (first | (go_at_call 61; refine (wrong_calls hR).mono ?_; rintro e w' ⟨rfl, rfl⟩) | (go_at_call 89; refine (width_i16 _).mono ?_; rintro e w' ⟨rfl, rfl⟩))
  go_quiet (fail)
  go_wp2_with (go_at_call 63; refine (fails_calls (hR' _) 10).mono ?_; rintro e w' ⟨rfl, hR2, hc2⟩)
  go_ret
  exact ⟨rfl, hR2, (Chg.of_drewN _ _ _).trans' hc2⟩
set_option maxHeartbeats 2000000 in
set_option maxRecDepth 100000 in
theorem take_i16_ok (hR : Rd 81 w b l ao cap pos wh 0) (hl : l.length ≤ 1099511627776) (hs : pos + 2 ≤ l.length) : Calls Try.prog 72 #[.pointer (some ⟨b, 0, none⟩)] w (RdPost 81 w b l ao cap (.int .i16 (IntKind.i16.wrap ((leNat ((l.drop pos).take 2) : Nat) : Int))) ⟨pos + 2, wh, 0⟩) := by
  have h0 := hR.c0
  have h1 := hR.c1
  have f1 := hR.fr 1
  obtain ⟨hset, hcset⟩ := hR.set1 (pos + 2) hs
  obtain ⟨_, _, ao', cap', hao, hlc, hcm, _, hcells⟩ := hR.view
  simp only [Value.slice.injEq, true_and] at hao
  obtain ⟨rfl, rfl⟩ := hao
  obtain ⟨bb, off, rfl, hc⟩ := hcells (by omega)
  have hbb : bb ≠ b := hR.ne bb rfl
  have hdr : (l.drop pos).take 2 = [l[pos], l[pos + 1]] := by
    apply List.ext_getElem
    · simp; omega
    · intro i h1 h2
      simp at h2
      match i, h2 with
      | 0, _ | 1, _ => simp
  rw [hdr]
  clear hdr
  have x0 : w.cell? ⟨bb, off + pos, none⟩ = some (.int .u8 (l[pos].toNat : Int)) := (hc (pos) (by omega)).trans (by simp [List.getD, show pos < l.length by omega, B])
  have x1 : w.cell? ⟨bb, off + pos + 1, none⟩ = some (.int .u8 (l[pos + 1].toNat : Int)) := (hc (pos + 1) (by omega)).trans (by simp [List.getD, show pos + 1 < l.length by omega, B])
  obtain ⟨b0, hb0⟩ : ∃ u, l[pos] = u := ⟨_, rfl⟩
  rw [hb0] at x0 ⊢
  obtain ⟨b1, hb1⟩ : ∃ u, l[pos + 1] = u := ⟨_, rfl⟩
  rw [hb1] at x1 ⊢
  clear hb0 hb1 hc hcells
  go_enter Try.func72, Try.ntmps72
  go_wp2_with (first | (go_at_call 61; refine (wrong_calls hR).mono ?_; rintro e w' ⟨rfl, rfl⟩) | (go_at_call 89; refine (width_i16 _).mono ?_; rintro e w' ⟨rfl, rfl⟩))
  go_quiet (fail)
  go_wp2
  go_quiet (fail)
  go_wp2


  go_ret
  refine ⟨?_, hset.same rfl, hcset.same rfl rfl rfl rfl⟩
  exact (congrArg (fun z => Ending.returned (.int .i16 (IntKind.i16.wrap z))) (le2 b0 b1))
end

section
variable {w : World} {b : Nat} {l : List UInt8} {ao : Option Addr} {cap pos wh bad : Nat}
theorem take_i32_bad (hR : Rd 81 w b l ao cap pos wh bad) (hb : bad ≠ 0) : Calls Try.prog 73 #[.pointer (some ⟨b, 0, none⟩)] w (RdPost 81 w b l ao cap (.int .i32 0) ⟨pos, wh, bad⟩) := by
  go_enter Try.func73, Try.ntmps73
  go_wp2_with (go_at_call 61; refine (wrong_calls hR).mono ?_; rintro e w' ⟨rfl, rfl⟩)
  go_ret
  exact ⟨rfl, hR, Chg.refl _ _⟩
set_option maxHeartbeats 1000000 in
set_option maxRecDepth 100000 in
theorem take_i32_short (hR : Rd 81 w b l ao cap pos wh 0) (hl : l.length ≤ 1099511627776) (hs : l.length - pos < 4) : Calls Try.prog 73 #[.pointer (some ⟨b, 0, none⟩)] w (RdPost 81 w b l ao cap (.int .i32 0) ⟨pos, pos, 10⟩) := by
  have h0 := hR.c0
  have h1 := hR.c1
  have hok := hR.ok
  have hR' := fun n => hR.keep (Chg.of_drewN [] w n) (by simp) (by simp)
  go_enter Try.func73, Try.ntmps73
  go_wp2_with (first | (go_at_call 61; refine (wrong_calls hR).mono ?_; rintro e w' ⟨rfl, rfl⟩) | (go_at_call 90; refine (width_i32 _).mono ?_; rintro e w' ⟨rfl, rfl⟩))
  go_quiet (fail)
  go_wp2_with (go_at_call 63; refine (fails_calls (hR' _) 10).mono ?_; rintro e w' ⟨rfl, hR2, hc2⟩)
  go_ret
  exact ⟨rfl, hR2, (Chg.of_drewN _ _ _).trans' hc2⟩
set_option maxHeartbeats 2000000 in
set_option maxRecDepth 100000 in
theorem take_i32_ok (hR : Rd 81 w b l ao cap pos wh 0) (hl : l.length ≤ 1099511627776) (hs : pos + 4 ≤ l.length) : Calls Try.prog 73 #[.pointer (some ⟨b, 0, none⟩)] w (RdPost 81 w b l ao cap (.int .i32 (wrap32 ((leNat ((l.drop pos).take 4) : Nat) : Int))) ⟨pos + 4, wh, 0⟩) := by
  have h0 := hR.c0
  have h1 := hR.c1
  have f1 := hR.fr 1
  obtain ⟨hset, hcset⟩ := hR.set1 (pos + 4) hs
  obtain ⟨_, _, ao', cap', hao, hlc, hcm, _, hcells⟩ := hR.view
  simp only [Value.slice.injEq, true_and] at hao
  obtain ⟨rfl, rfl⟩ := hao
  obtain ⟨bb, off, rfl, hc⟩ := hcells (by omega)
  have hbb : bb ≠ b := hR.ne bb rfl
  have hdr : (l.drop pos).take 4 = [l[pos], l[pos + 1], l[pos + 2], l[pos + 3]] := by
    apply List.ext_getElem
    · simp; omega
    · intro i h1 h2
      simp at h2
      match i, h2 with
      | 0, _ | 1, _ | 2, _ | 3, _ => simp
  rw [hdr]
  clear hdr
  have x0 : w.cell? ⟨bb, off + pos, none⟩ = some (.int .u8 (l[pos].toNat : Int)) := (hc (pos) (by omega)).trans (by simp [List.getD, show pos < l.length by omega, B])
  have x1 : w.cell? ⟨bb, off + pos + 1, none⟩ = some (.int .u8 (l[pos + 1].toNat : Int)) := (hc (pos + 1) (by omega)).trans (by simp [List.getD, show pos + 1 < l.length by omega, B])
  have x2 : w.cell? ⟨bb, off + pos + 2, none⟩ = some (.int .u8 (l[pos + 2].toNat : Int)) := (hc (pos + 2) (by omega)).trans (by simp [List.getD, show pos + 2 < l.length by omega, B])
  have x3 : w.cell? ⟨bb, off + pos + 3, none⟩ = some (.int .u8 (l[pos + 3].toNat : Int)) := (hc (pos + 3) (by omega)).trans (by simp [List.getD, show pos + 3 < l.length by omega, B])
  obtain ⟨b0, hb0⟩ : ∃ u, l[pos] = u := ⟨_, rfl⟩
  rw [hb0] at x0 ⊢
  obtain ⟨b1, hb1⟩ : ∃ u, l[pos + 1] = u := ⟨_, rfl⟩
  rw [hb1] at x1 ⊢
  obtain ⟨b2, hb2⟩ : ∃ u, l[pos + 2] = u := ⟨_, rfl⟩
  rw [hb2] at x2 ⊢
  obtain ⟨b3, hb3⟩ : ∃ u, l[pos + 3] = u := ⟨_, rfl⟩
  rw [hb3] at x3 ⊢
  clear hb0 hb1 hb2 hb3 hc hcells
  go_enter Try.func73, Try.ntmps73
  go_wp2_with (first | (go_at_call 61; refine (wrong_calls hR).mono ?_; rintro e w' ⟨rfl, rfl⟩) | (go_at_call 90; refine (width_i32 _).mono ?_; rintro e w' ⟨rfl, rfl⟩))
  go_quiet (fail)
  go_wp2
  go_quiet (fail)
  go_wp2
  go_quiet (fail)
  go_wp2

  go_ret
  refine ⟨?_, hset.same rfl, hcset.same rfl rfl rfl rfl⟩
  exact (congrArg (fun z => Ending.returned (.int .i32 (wrap32 z))) (le4 b0 b1 b2 b3))
end

section
variable {w : World} {b : Nat} {l : List UInt8} {ao : Option Addr} {cap pos wh bad : Nat}
theorem take_i64_bad (hR : Rd 81 w b l ao cap pos wh bad) (hb : bad ≠ 0) : Calls Try.prog 74 #[.pointer (some ⟨b, 0, none⟩)] w (RdPost 81 w b l ao cap (.int .i64 0) ⟨pos, wh, bad⟩) := by
  go_enter Try.func74, Try.ntmps74
  go_wp2_with (go_at_call 61; refine (wrong_calls hR).mono ?_; rintro e w' ⟨rfl, rfl⟩)
  go_ret
  exact ⟨rfl, hR, Chg.refl _ _⟩
set_option maxHeartbeats 1000000 in
set_option maxRecDepth 100000 in
theorem take_i64_short (hR : Rd 81 w b l ao cap pos wh 0) (hl : l.length ≤ 1099511627776) (hs : l.length - pos < 8) : Calls Try.prog 74 #[.pointer (some ⟨b, 0, none⟩)] w (RdPost 81 w b l ao cap (.int .i64 0) ⟨pos, pos, 10⟩) := by
  have h0 := hR.c0
  have h1 := hR.c1
  have hok := hR.ok
  have hR' := fun n => hR.keep (Chg.of_drewN [] w n) (by simp) (by simp)
  go_enter Try.func74, Try.ntmps74
  go_wp2_with (first | (go_at_call 61; refine (wrong_calls hR).mono ?_; rintro e w' ⟨rfl, rfl⟩) | (go_at_call 91; refine (width_i64 _).mono ?_; rintro e w' ⟨rfl, rfl⟩))
  go_quiet (fail)
  go_wp2_with (go_at_call 63; refine (fails_calls (hR' _) 10).mono ?_; rintro e w' ⟨rfl, hR2, hc2⟩)
  go_ret
  exact ⟨rfl, hR2, (Chg.of_drewN _ _ _).trans' hc2⟩
set_option maxHeartbeats 2000000 in
set_option maxRecDepth 100000 in
theorem take_i64_ok (hR : Rd 81 w b l ao cap pos wh 0) (hl : l.length ≤ 1099511627776) (hs : pos + 8 ≤ l.length) : Calls Try.prog 74 #[.pointer (some ⟨b, 0, none⟩)] w (RdPost 81 w b l ao cap (.int .i64 (wrap64 ((leNat ((l.drop pos).take 8) : Nat) : Int))) ⟨pos + 8, wh, 0⟩) := by
  have h0 := hR.c0
  have h1 := hR.c1
  have f1 := hR.fr 1
  obtain ⟨hset, hcset⟩ := hR.set1 (pos + 8) hs
  obtain ⟨_, _, ao', cap', hao, hlc, hcm, _, hcells⟩ := hR.view
  simp only [Value.slice.injEq, true_and] at hao
  obtain ⟨rfl, rfl⟩ := hao
  obtain ⟨bb, off, rfl, hc⟩ := hcells (by omega)
  have hbb : bb ≠ b := hR.ne bb rfl
  have hdr : (l.drop pos).take 8 = [l[pos], l[pos + 1], l[pos + 2], l[pos + 3], l[pos + 4], l[pos + 5], l[pos + 6], l[pos + 7]] := by
    apply List.ext_getElem
    · simp; omega
    · intro i h1 h2
      simp at h2
      match i, h2 with
      | 0, _ | 1, _ | 2, _ | 3, _ | 4, _ | 5, _ | 6, _ | 7, _ => simp
  rw [hdr]
  clear hdr
  have x0 : w.cell? ⟨bb, off + pos, none⟩ = some (.int .u8 (l[pos].toNat : Int)) := (hc (pos) (by omega)).trans (by simp [List.getD, show pos < l.length by omega, B])
  have x1 : w.cell? ⟨bb, off + pos + 1, none⟩ = some (.int .u8 (l[pos + 1].toNat : Int)) := (hc (pos + 1) (by omega)).trans (by simp [List.getD, show pos + 1 < l.length by omega, B])
  have x2 : w.cell? ⟨bb, off + pos + 2, none⟩ = some (.int .u8 (l[pos + 2].toNat : Int)) := (hc (pos + 2) (by omega)).trans (by simp [List.getD, show pos + 2 < l.length by omega, B])
  have x3 : w.cell? ⟨bb, off + pos + 3, none⟩ = some (.int .u8 (l[pos + 3].toNat : Int)) := (hc (pos + 3) (by omega)).trans (by simp [List.getD, show pos + 3 < l.length by omega, B])
  have x4 : w.cell? ⟨bb, off + pos + 4, none⟩ = some (.int .u8 (l[pos + 4].toNat : Int)) := (hc (pos + 4) (by omega)).trans (by simp [List.getD, show pos + 4 < l.length by omega, B])
  have x5 : w.cell? ⟨bb, off + pos + 5, none⟩ = some (.int .u8 (l[pos + 5].toNat : Int)) := (hc (pos + 5) (by omega)).trans (by simp [List.getD, show pos + 5 < l.length by omega, B])
  have x6 : w.cell? ⟨bb, off + pos + 6, none⟩ = some (.int .u8 (l[pos + 6].toNat : Int)) := (hc (pos + 6) (by omega)).trans (by simp [List.getD, show pos + 6 < l.length by omega, B])
  have x7 : w.cell? ⟨bb, off + pos + 7, none⟩ = some (.int .u8 (l[pos + 7].toNat : Int)) := (hc (pos + 7) (by omega)).trans (by simp [List.getD, show pos + 7 < l.length by omega, B])
  obtain ⟨b0, hb0⟩ : ∃ u, l[pos] = u := ⟨_, rfl⟩
  rw [hb0] at x0 ⊢
  obtain ⟨b1, hb1⟩ : ∃ u, l[pos + 1] = u := ⟨_, rfl⟩
  rw [hb1] at x1 ⊢
  obtain ⟨b2, hb2⟩ : ∃ u, l[pos + 2] = u := ⟨_, rfl⟩
  rw [hb2] at x2 ⊢
  obtain ⟨b3, hb3⟩ : ∃ u, l[pos + 3] = u := ⟨_, rfl⟩
  rw [hb3] at x3 ⊢
  obtain ⟨b4, hb4⟩ : ∃ u, l[pos + 4] = u := ⟨_, rfl⟩
  rw [hb4] at x4 ⊢
  obtain ⟨b5, hb5⟩ : ∃ u, l[pos + 5] = u := ⟨_, rfl⟩
  rw [hb5] at x5 ⊢
  obtain ⟨b6, hb6⟩ : ∃ u, l[pos + 6] = u := ⟨_, rfl⟩
  rw [hb6] at x6 ⊢
  obtain ⟨b7, hb7⟩ : ∃ u, l[pos + 7] = u := ⟨_, rfl⟩
  rw [hb7] at x7 ⊢
  clear hb0 hb1 hb2 hb3 hb4 hb5 hb6 hb7 hc hcells
  go_enter Try.func74, Try.ntmps74
  go_wp2_with (first | (go_at_call 61; refine (wrong_calls hR).mono ?_; rintro e w' ⟨rfl, rfl⟩) | (go_at_call 91; refine (width_i64 _).mono ?_; rintro e w' ⟨rfl, rfl⟩))
  go_quiet (fail)
  go_wp2
  go_quiet (fail)
  go_wp2
  go_quiet (fail)
  go_wp2
  go_quiet (fail)
  go_wp2
  go_ret
  refine ⟨?_, hset.same rfl, hcset.same rfl rfl rfl rfl⟩
  exact (congrArg (fun z => Ending.returned (.int .i64 (wrap64 z))) (le8 b0 b1 b2 b3 b4 b5 b6 b7))
end

theorem take_u8_calls {w : World} {b : Nat} {l : List UInt8} {ao : Option Addr} {cap pos wh bad : Nat} (hR : Rd 81 w b l ao cap pos wh bad) (hl : l.length ≤ 1099511627776) :
    Calls Try.prog 28 #[.pointer (some ⟨b, 0, none⟩)] w (RdPost 81 w b l ao cap (.int .u8 (((rFixed 1 l ⟨pos, wh, bad⟩).1 : Int))) (rFixed 1 l ⟨pos, wh, bad⟩).2) := by
  have hz : ((0 : Nat) : Int) = 0 := rfl
  by_cases hb : bad = 0
  · subst hb
    by_cases hs : l.length - pos < 1
    · have he : rFixed 1 l ⟨pos, wh, 0⟩ = (0, ⟨pos, pos, 10⟩) := by unfold rFixed; simp [hs, RS.fails]
      rw [he]
      simp only [hz]
      exact take_u8_short hR hl hs
    · have hok := hR.ok
      have he : rFixed 1 l ⟨pos, wh, 0⟩ = (leNat ((l.drop pos).take 1), ⟨pos + 1, wh, 0⟩) := by unfold rFixed; simp [hs]
      rw [he]
      exact take_u8_ok hR hl (by omega)
  · have he : rFixed 1 l ⟨pos, wh, bad⟩ = (0, ⟨pos, wh, bad⟩) := by unfold rFixed; simp [hb]
    rw [he]
    simp only [hz]
    exact take_u8_bad hR hb

theorem take_u16_calls {w : World} {b : Nat} {l : List UInt8} {ao : Option Addr} {cap pos wh bad : Nat} (hR : Rd 81 w b l ao cap pos wh bad) (hl : l.length ≤ 1099511627776) :
    Calls Try.prog 75 #[.pointer (some ⟨b, 0, none⟩)] w (RdPost 81 w b l ao cap (.int .u16 (((rFixed 2 l ⟨pos, wh, bad⟩).1 : Int))) (rFixed 2 l ⟨pos, wh, bad⟩).2) := by
  have hz : ((0 : Nat) : Int) = 0 := rfl
  by_cases hb : bad = 0
  · subst hb
    by_cases hs : l.length - pos < 2
    · have he : rFixed 2 l ⟨pos, wh, 0⟩ = (0, ⟨pos, pos, 10⟩) := by unfold rFixed; simp [hs, RS.fails]
      rw [he]
      simp only [hz]
      exact take_u16_short hR hl hs
    · have hok := hR.ok
      have he : rFixed 2 l ⟨pos, wh, 0⟩ = (leNat ((l.drop pos).take 2), ⟨pos + 2, wh, 0⟩) := by unfold rFixed; simp [hs]
      rw [he]
      exact take_u16_ok hR hl (by omega)
  · have he : rFixed 2 l ⟨pos, wh, bad⟩ = (0, ⟨pos, wh, bad⟩) := by unfold rFixed; simp [hb]
    rw [he]
    simp only [hz]
    exact take_u16_bad hR hb

theorem take_u32_calls {w : World} {b : Nat} {l : List UInt8} {ao : Option Addr} {cap pos wh bad : Nat} (hR : Rd 81 w b l ao cap pos wh bad) (hl : l.length ≤ 1099511627776) :
    Calls Try.prog 58 #[.pointer (some ⟨b, 0, none⟩)] w (RdPost 81 w b l ao cap (.int .u32 (((rFixed 4 l ⟨pos, wh, bad⟩).1 : Int))) (rFixed 4 l ⟨pos, wh, bad⟩).2) := by
  have hz : ((0 : Nat) : Int) = 0 := rfl
  by_cases hb : bad = 0
  · subst hb
    by_cases hs : l.length - pos < 4
    · have he : rFixed 4 l ⟨pos, wh, 0⟩ = (0, ⟨pos, pos, 10⟩) := by unfold rFixed; simp [hs, RS.fails]
      rw [he]
      simp only [hz]
      exact take_u32_short hR hl hs
    · have hok := hR.ok
      have he : rFixed 4 l ⟨pos, wh, 0⟩ = (leNat ((l.drop pos).take 4), ⟨pos + 4, wh, 0⟩) := by unfold rFixed; simp [hs]
      rw [he]
      exact take_u32_ok hR hl (by omega)
  · have he : rFixed 4 l ⟨pos, wh, bad⟩ = (0, ⟨pos, wh, bad⟩) := by unfold rFixed; simp [hb]
    rw [he]
    simp only [hz]
    exact take_u32_bad hR hb

theorem take_u64_calls {w : World} {b : Nat} {l : List UInt8} {ao : Option Addr} {cap pos wh bad : Nat} (hR : Rd 81 w b l ao cap pos wh bad) (hl : l.length ≤ 1099511627776) :
    Calls Try.prog 76 #[.pointer (some ⟨b, 0, none⟩)] w (RdPost 81 w b l ao cap (.int .u64 (((rFixed 8 l ⟨pos, wh, bad⟩).1 : Int))) (rFixed 8 l ⟨pos, wh, bad⟩).2) := by
  have hz : ((0 : Nat) : Int) = 0 := rfl
  by_cases hb : bad = 0
  · subst hb
    by_cases hs : l.length - pos < 8
    · have he : rFixed 8 l ⟨pos, wh, 0⟩ = (0, ⟨pos, pos, 10⟩) := by unfold rFixed; simp [hs, RS.fails]
      rw [he]
      simp only [hz]
      exact take_u64_short hR hl hs
    · have hok := hR.ok
      have he : rFixed 8 l ⟨pos, wh, 0⟩ = (leNat ((l.drop pos).take 8), ⟨pos + 8, wh, 0⟩) := by unfold rFixed; simp [hs]
      rw [he]
      exact take_u64_ok hR hl (by omega)
  · have he : rFixed 8 l ⟨pos, wh, bad⟩ = (0, ⟨pos, wh, bad⟩) := by unfold rFixed; simp [hb]
    rw [he]
    simp only [hz]
    exact take_u64_bad hR hb

theorem take_i8_calls {w : World} {b : Nat} {l : List UInt8} {ao : Option Addr} {cap pos wh bad : Nat} (hR : Rd 81 w b l ao cap pos wh bad) (hl : l.length ≤ 1099511627776) :
    Calls Try.prog 71 #[.pointer (some ⟨b, 0, none⟩)] w (RdPost 81 w b l ao cap (.int .i8 (IntKind.i8.wrap ((rFixed 1 l ⟨pos, wh, bad⟩).1 : Int))) (rFixed 1 l ⟨pos, wh, bad⟩).2) := by
  have hz : IntKind.i8.wrap ((0 : Nat) : Int) = 0 := by decide
  by_cases hb : bad = 0
  · subst hb
    by_cases hs : l.length - pos < 1
    · have he : rFixed 1 l ⟨pos, wh, 0⟩ = (0, ⟨pos, pos, 10⟩) := by unfold rFixed; simp [hs, RS.fails]
      rw [he]
      simp only [hz]
      exact take_i8_short hR hl hs
    · have hok := hR.ok
      have he : rFixed 1 l ⟨pos, wh, 0⟩ = (leNat ((l.drop pos).take 1), ⟨pos + 1, wh, 0⟩) := by unfold rFixed; simp [hs]
      rw [he]
      exact take_i8_ok hR hl (by omega)
  · have he : rFixed 1 l ⟨pos, wh, bad⟩ = (0, ⟨pos, wh, bad⟩) := by unfold rFixed; simp [hb]
    rw [he]
    simp only [hz]
    exact take_i8_bad hR hb

theorem take_i16_calls {w : World} {b : Nat} {l : List UInt8} {ao : Option Addr} {cap pos wh bad : Nat} (hR : Rd 81 w b l ao cap pos wh bad) (hl : l.length ≤ 1099511627776) :
    Calls Try.prog 72 #[.pointer (some ⟨b, 0, none⟩)] w (RdPost 81 w b l ao cap (.int .i16 (IntKind.i16.wrap ((rFixed 2 l ⟨pos, wh, bad⟩).1 : Int))) (rFixed 2 l ⟨pos, wh, bad⟩).2) := by
  have hz : IntKind.i16.wrap ((0 : Nat) : Int) = 0 := by decide
  by_cases hb : bad = 0
  · subst hb
    by_cases hs : l.length - pos < 2
    · have he : rFixed 2 l ⟨pos, wh, 0⟩ = (0, ⟨pos, pos, 10⟩) := by unfold rFixed; simp [hs, RS.fails]
      rw [he]
      simp only [hz]
      exact take_i16_short hR hl hs
    · have hok := hR.ok
      have he : rFixed 2 l ⟨pos, wh, 0⟩ = (leNat ((l.drop pos).take 2), ⟨pos + 2, wh, 0⟩) := by unfold rFixed; simp [hs]
      rw [he]
      exact take_i16_ok hR hl (by omega)
  · have he : rFixed 2 l ⟨pos, wh, bad⟩ = (0, ⟨pos, wh, bad⟩) := by unfold rFixed; simp [hb]
    rw [he]
    simp only [hz]
    exact take_i16_bad hR hb

theorem take_i32_calls {w : World} {b : Nat} {l : List UInt8} {ao : Option Addr} {cap pos wh bad : Nat} (hR : Rd 81 w b l ao cap pos wh bad) (hl : l.length ≤ 1099511627776) :
    Calls Try.prog 73 #[.pointer (some ⟨b, 0, none⟩)] w (RdPost 81 w b l ao cap (.int .i32 (wrap32 ((rFixed 4 l ⟨pos, wh, bad⟩).1 : Int))) (rFixed 4 l ⟨pos, wh, bad⟩).2) := by
  have hz : wrap32 ((0 : Nat) : Int) = 0 := by simp [wrap32]
  by_cases hb : bad = 0
  · subst hb
    by_cases hs : l.length - pos < 4
    · have he : rFixed 4 l ⟨pos, wh, 0⟩ = (0, ⟨pos, pos, 10⟩) := by unfold rFixed; simp [hs, RS.fails]
      rw [he]
      simp only [hz]
      exact take_i32_short hR hl hs
    · have hok := hR.ok
      have he : rFixed 4 l ⟨pos, wh, 0⟩ = (leNat ((l.drop pos).take 4), ⟨pos + 4, wh, 0⟩) := by unfold rFixed; simp [hs]
      rw [he]
      exact take_i32_ok hR hl (by omega)
  · have he : rFixed 4 l ⟨pos, wh, bad⟩ = (0, ⟨pos, wh, bad⟩) := by unfold rFixed; simp [hb]
    rw [he]
    simp only [hz]
    exact take_i32_bad hR hb

theorem take_i64_calls {w : World} {b : Nat} {l : List UInt8} {ao : Option Addr} {cap pos wh bad : Nat} (hR : Rd 81 w b l ao cap pos wh bad) (hl : l.length ≤ 1099511627776) :
    Calls Try.prog 74 #[.pointer (some ⟨b, 0, none⟩)] w (RdPost 81 w b l ao cap (.int .i64 (wrap64 ((rFixed 8 l ⟨pos, wh, bad⟩).1 : Int))) (rFixed 8 l ⟨pos, wh, bad⟩).2) := by
  have hz : wrap64 ((0 : Nat) : Int) = 0 := by simp [wrap64]
  by_cases hb : bad = 0
  · subst hb
    by_cases hs : l.length - pos < 8
    · have he : rFixed 8 l ⟨pos, wh, 0⟩ = (0, ⟨pos, pos, 10⟩) := by unfold rFixed; simp [hs, RS.fails]
      rw [he]
      simp only [hz]
      exact take_i64_short hR hl hs
    · have hok := hR.ok
      have he : rFixed 8 l ⟨pos, wh, 0⟩ = (leNat ((l.drop pos).take 8), ⟨pos + 8, wh, 0⟩) := by unfold rFixed; simp [hs]
      rw [he]
      exact take_i64_ok hR hl (by omega)
  · have he : rFixed 8 l ⟨pos, wh, bad⟩ = (0, ⟨pos, wh, bad⟩) := by unfold rFixed; simp [hb]
    rw [he]
    simp only [hz]
    exact take_i64_bad hR hb
end Go.Proofs.Ytdakcphkaljghaa
