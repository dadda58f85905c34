/- Walks of the law's: a step on two readers, the same answers. -/
import Derived.Test.YtdakcphkaljghaaQe
import Derived.Test.YtdakcphkaljghaaRg
import Derived.Test.YtdakcphkaljghaaLonly
import Derived.Deep.RegionHeld3
namespace Go.Proofs.Ytdakcphkaljghaa
open Go.RowKit Go.AB
set_option linter.unusedSimpArgs false
set_option linter.unusedSectionVars false

/-- A reader and the reference's, at the same place of the same bytes. -/
structure Twin (w : World) (br bd : Nat) (l : List UInt8) (aoR : Option Addr) (capR : Nat) (aoD : Option Addr) (capD : Nat) (s : RS) : Prop where
  r : Rd 81 w br l aoR capR s.pos s.wh s.bad
  d : Rd 108 w bd l aoD capD s.pos s.wh s.bad
  ne : br ≠ bd
  ownR : ∀ g, (Value.slice aoR l.length capR).ownBlock = some g → g ≠ bd
  ownD : ∀ g, (Value.slice aoD l.length capD).ownBlock = some g → g ≠ br
theorem Twin.keep {w w' : World} {br bd : Nat} {l : List UInt8} {aoR aoD : Option Addr} {capR capD : Nat} {s : RS} (h : Twin w br bd l aoR capR aoD capD s) (hc : Chg [] w w') : Twin w' br bd l aoR capR aoD capD s :=
  ⟨h.r.keep hc (by simp) (by simp), h.d.keep hc (by simp) (by simp), h.ne, h.ownR, h.ownD⟩
theorem Twin.keepD {w w' : World} {br bd : Nat} {l : List UInt8} {aoR aoD : Option Addr} {capR capD : Nat} {s : RS} (h : Twin w br bd l aoR capR aoD capD s) (hc : Chg [br] w w') : Rd 108 w' bd l aoD capD s.pos s.wh s.bad :=
  h.d.keep hc (by simpa using fun e => h.ne e.symm) (fun g hg => by simpa using h.ownD g hg)
theorem Twin.keepR {w w' : World} {br bd : Nat} {l : List UInt8} {aoR aoD : Option Addr} {capR capD : Nat} {s s' : RS} (h : Twin w br bd l aoR capR aoD capD s) {w1 : World} (hR : Rd 81 w1 br l aoR capR s'.pos s'.wh s'.bad) (hc : Chg [bd] w1 w') (hd : Rd 108 w' bd l aoD capD s'.pos s'.wh s'.bad) : Twin w' br bd l aoR capR aoD capD s' :=
  ⟨hR.keep hc (by simpa using h.ne) (fun g hg => by simpa using h.ownR g hg), hd, h.ne, h.ownR, h.ownD⟩

def TwinPost (w : World) (br bd : Nat) (l : List UInt8) (aoR : Option Addr) (capR : Nat) (aoD : Option Addr) (capD : Nat) (e : Ending) (w' : World) : Prop :=
  e = .returned (.bool true) ∧ ∃ s', Twin w' br bd l aoR capR aoD capD s' ∧ Chg [br, bd] w w'

section
variable {w : World} {br bd : Nat} {l : List UInt8} {aoR aoD : Option Addr} {capR capD : Nat} {s : RS} (hT : Twin w br bd l aoR capR aoD capD s) (hl : l.length ≤ 1099511627776)
include hT hl

omit hT hl in
theorem at_quiet {w : World} {b : Nat} {l : List UInt8} {ao : Option Addr} {cap pos wh bad : Nat} (hR : Rd 81 w b l ao cap pos wh bad) (n : Nat) :
    Calls Try.prog 43 #[.pointer (some ⟨b, 0, none⟩)] (w.drewN n) fun e w'' => e = .returned (.int .i64 pos) ∧ ∃ m, w'' = w.drewN m :=
  (at_calls (hR.keep (Chg.of_drewN [] w n) (by simp) (by simp))).mono fun _ _ ⟨h1, h2⟩ => ⟨h1, n, h2.symm⟩
omit hT hl in
theorem q_end_quiet {w : World} {b : Nat} {l : List UInt8} {ao : Option Addr} {cap pos wh bad : Nat} (hR : Rd 108 w b l ao cap pos wh bad) (n : Nat) :
    Calls Try.prog 69 #[.pointer (some ⟨b, 0, none⟩)] (w.drewN n) fun e w'' => e = .returned (.int .i64 (rEnd l ⟨pos, wh, bad⟩)) ∧ ∃ m, w'' = w.drewN m :=
  (q_end_calls (hR.keep (Chg.of_drewN [] w n) (by simp) (by simp))).mono fun e w' ⟨h1, m, h2⟩ => ⟨h1, n + m, by rw [h2]; simp [World.drewN, Nat.add_assoc]⟩
omit hl in
set_option maxHeartbeats 1000000 in
theorem stands_calls : Calls Try.prog 32 #[.pointer (some ⟨br, 0, none⟩), .pointer (some ⟨bd, 0, none⟩)] w fun e w' => e = .returned (.bool true) ∧ Drew w w' := by
  obtain ⟨pos, wh, bad⟩ := s
  have H1 := hid hT
  clear hT
  go_enter Try.func32, Try.ntmps32
  go_wp2_with (go_at_call 42; refine (fault_calls H1.out.r).mono ?_; rintro e w1 ⟨rfl, hd1⟩; refine halt (fun X hX => ?_))
  rw [hX.out]; clear hX
  have hT1 := H1.out.keep hd1.chg
  have h1 := hT1.d.c1
  have h2 := hT1.d.c2
  have h3 := hT1.d.c3
  simp only at h1 h2 h3
  obtain ⟨en, hen⟩ : ∃ e, rEnd l ⟨pos, wh, bad⟩ = e := ⟨_, rfl⟩
  have HR := end_quiet hT1.r
  have HD := q_end_quiet hT1.d
  simp only at HR HD
  rw [hen] at HR HD
  clear hen
  have HA := at_quiet hT1.r
  simp only at HA
  have HR := hid HR
  have HD := hid HD
  have HA := hid HA
  have HT := hid hT1
  clear hT1
  go_wp2_with fail
  go_quiet (first | (go_at_call 43; exact HA.out _) | (go_at_call 29; exact HR.out _) | (go_at_call 69; exact HD.out _))
  go_wp2
  go_ret
  exact ⟨rfl, hd1.trans Drew.refl⟩
variable (width n : Int) (most : Nat)

set_option maxHeartbeats 2000000 in
set_option maxRecDepth 100000 in
theorem takes_1ok (hwid : 0 ≤ width ∧ width < 8) : Calls Try.prog 31 #[.pointer (some ⟨br, 0, none⟩), .pointer (some ⟨bd, 0, none⟩), .agg #[.int .i64 1, .int .i64 width, .int .i64 n, .int .u64 most]] w (TwinPost w br bd l aoR capR aoD capD) := by
  obtain ⟨pos, wh, bad⟩ := s
  have hca := (Chg.refl [] w).alloc (.cells #[.int .i64 1, .int .i64 width, .int .i64 n, .int .u64 most] 70)
  have hTa := hT.keep hca
  have hwl := blk_lt hT.r.blk
  have hdl := blk_lt hT.d.blk
  go_enter Try.func31, Try.ntmps31
  have hwt : decide (0 ≤ width ∧ width < 8) = true := by simpa using hwid
  have hrw : rWidth width l ⟨pos, wh, bad⟩ = rFixed (sizeI width) l ⟨pos, wh, bad⟩ := by unfold rWidth; rw [if_pos hwid]
  have HF := fixed_calls hTa.r hl width
  simp only at HF
  rw [hwt, hrw] at HF
  obtain ⟨p, hp⟩ : ∃ p, rFixed (sizeI width) l ⟨pos, wh, bad⟩ = p := ⟨_, rfl⟩
  obtain ⟨sz, hsz⟩ : ∃ z : Nat, sizeI width = z := ⟨_, rfl⟩
  have h8 : sz ≤ 8 := by rw [← hsz]; exact sizeI_le width
  have HS := fun W => size_all width W
  rw [hp] at HF
  rw [hsz] at HS hp
  have HB := hid (fun W (h : Rd 108 W bd l aoD capD pos wh bad) => hp ▸ q_fixed_calls h hl sz h8)
  have HF := hid HF
  have HS := hid HS
  clear hwt hrw hp hsz
  go_wp2_with (go_at_call 34; refine HF.out.mono ?_; rintro e w1 ⟨rfl, hR1, hc1⟩; refine halt (fun X hX => ?_))
  rw [hX.out]; clear hX
  have hbox : w1.cell? ⟨w.heap.size, 1, none⟩ = some (.int .i64 width) := hc1.cell (by simp) (by simp; omega)
  have hD1 := hTa.keepD hc1
  go_wp2_with (first
    | (go_at_call 47; refine (HS.out _).mono ?_; rintro e w2 ⟨rfl, hcs⟩; have hD2 := hD1.keep hcs (by simp) (by simp))
    | (go_at_call 64; refine (HB.out _ hD2).mono ?_; rintro e w3 ⟨rfl, hD3, hc3⟩))
  have hc2 : Chg [bd] w1 w3 := hcs.nil.trans' hc3
  have hT2 := hTa.keepR hR1 hc2 hD3
  go_ret
  exact ⟨rfl, _, hT2, (hca.nil.trans' ((hc1.mono (T := [br, bd]) (by simp)).trans' (hc2.mono (T := [br, bd]) (by simp))))⟩

set_option maxHeartbeats 2000000 in
set_option maxRecDepth 100000 in
theorem takes_1out (hwid : ¬ (0 ≤ width ∧ width < 8)) : Calls Try.prog 31 #[.pointer (some ⟨br, 0, none⟩), .pointer (some ⟨bd, 0, none⟩), .agg #[.int .i64 1, .int .i64 width, .int .i64 n, .int .u64 most]] w (TwinPost w br bd l aoR capR aoD capD) := by
  obtain ⟨pos, wh, bad⟩ := s
  have hca := (Chg.refl [] w).alloc (.cells #[.int .i64 1, .int .i64 width, .int .i64 n, .int .u64 most] 70)
  have hTa := hT.keep hca
  have hwl := blk_lt hT.r.blk
  have hdl := blk_lt hT.d.blk
  go_enter Try.func31, Try.ntmps31
  have hwt : decide (0 ≤ width ∧ width < 8) = false := by simpa using hwid
  have hrw : rWidth width l ⟨pos, wh, bad⟩ = (0, ⟨pos, wh, bad⟩) := by unfold rWidth; rw [if_neg hwid]
  have HF := fixed_calls hTa.r hl width
  simp only at HF
  rw [hwt, hrw] at HF
  have HF := hid HF
  clear hwt hrw
  go_wp2_with (go_at_call 34; refine HF.out.mono ?_; rintro e w1 ⟨rfl, hR1, hc1⟩)
  have hT2 := hTa.keepR hR1 (Chg.refl [bd] w1) (hTa.keepD hc1)
  go_ret
  exact ⟨rfl, _, hT2, (hca.nil.trans' (hc1.mono (by simp)))⟩

set_option maxHeartbeats 2000000 in
set_option maxRecDepth 100000 in
theorem takes_2 : Calls Try.prog 31 #[.pointer (some ⟨br, 0, none⟩), .pointer (some ⟨bd, 0, none⟩), .agg #[.int .i64 2, .int .i64 width, .int .i64 n, .int .u64 most]] w (TwinPost w br bd l aoR capR aoD capD) := by
  obtain ⟨pos, wh, bad⟩ := s
  have hca := (Chg.refl [] w).alloc (.cells #[.int .i64 2, .int .i64 width, .int .i64 n, .int .u64 most] 70)
  have hTa := hT.keep hca
  have hwl := blk_lt hT.r.blk
  have hdl := blk_lt hT.d.blk
  go_enter Try.func31, Try.ntmps31
  have hTd := hTa.keep (Chg.of_drewN [] _ 1)
  have HA := rshort_calls hTd.r hl most
  obtain ⟨p, hp⟩ : ∃ p, rShort most l ⟨pos, wh, bad⟩ = p := ⟨_, rfl⟩
  simp only at HA
  rw [hp] at HA
  have HA := hid HA
  have HB := hid (fun W (h : Rd 108 W bd l aoD capD pos wh bad) => hp ▸ q_short_calls h hl most)
  clear hp
  have hbox : (w.alloc (.cells #[.int .i64 2, .int .i64 width, .int .i64 n, .int .u64 most] 70)).cell? ⟨w.heap.size, 3, none⟩ = some (.int .u64 most) := by simp
  go_wp2_with fail
  go_region_held3 (fun w' => w'.cell? ⟨w.heap.size, 3, none⟩ = some (.int .u64 most))
    (first | exact hbox | exact hc1.cell hbox (by simp; omega) | exact hc2.cell (hc1.cell hbox (by simp; omega)) (by simp; omega))
    (first
    | (go_at_call 33; refine HA.out.mono ?_; rintro e w1 ⟨rfl, hR1, hc1⟩; have hD1 := hTd.keepD hc1)
    | (go_at_call 65; refine (HB.out _ hD1).mono ?_; rintro e w2 ⟨rfl, hD2, hc2⟩))
  have hT2 := hTa.keepR hR1 hc2 hD2
  go_wp2
  go_ret
  exact ⟨rfl, _, hT2, (hca.nil.trans' ((Chg.of_drewN _ _ 1).trans' ((hc1.mono (T := [br, bd]) (by simp)).trans' (hc2.mono (T := [br, bd]) (by simp)))))⟩

set_option maxHeartbeats 2000000 in
set_option maxRecDepth 100000 in
theorem takes_5 (hn : I64 n) : Calls Try.prog 31 #[.pointer (some ⟨br, 0, none⟩), .pointer (some ⟨bd, 0, none⟩), .agg #[.int .i64 5, .int .i64 width, .int .i64 n, .int .u64 most]] w (TwinPost w br bd l aoR capR aoD capD) := by
  obtain ⟨pos, wh, bad⟩ := s
  have hca := (Chg.refl [] w).alloc (.cells #[.int .i64 5, .int .i64 width, .int .i64 n, .int .u64 most] 70)
  have hTa := hT.keep hca
  have hwl := blk_lt hT.r.blk
  have hdl := blk_lt hT.d.blk
  go_enter Try.func31, Try.ntmps31
  have hTd := hTa.keep (Chg.of_drewN [] _ 1)
  have HA := rtext_calls hTd.r hl n hn
  obtain ⟨p, hp⟩ : ∃ p, rText n l ⟨pos, wh, bad⟩ = p := ⟨_, rfl⟩
  simp only at HA
  rw [hp] at HA
  have hst : strB p.1 = .string ⟨p.1.toArray⟩ := rfl
  rw [hst] at HA
  have HA := hid HA
  have HB := hid (fun W (h : Rd 108 W bd l aoD capD pos wh bad) => (by have h5 := q_text_calls h hl n hn; rw [hp, hst] at h5; exact h5))
  clear hp hst
  have hbox : (w.alloc (.cells #[.int .i64 5, .int .i64 width, .int .i64 n, .int .u64 most] 70)).cell? ⟨w.heap.size, 2, none⟩ = some (.int .i64 n) := by simp
  go_wp2_with fail
  go_region_held3 (fun w' => w'.cell? ⟨w.heap.size, 2, none⟩ = some (.int .i64 n))
    (first | exact hbox | exact hc1.cell hbox (by simp; omega) | exact hc2.cell (hc1.cell hbox (by simp; omega)) (by simp; omega))
    (first
    | (go_at_call 40; refine HA.out.mono ?_; rintro e w1 ⟨rfl, hR1, hc1⟩; have hD1 := hTd.keepD hc1)
    | (go_at_call 68; refine (HB.out _ hD1).mono ?_; rintro e w2 ⟨rfl, hD2, hc2⟩))
  have hT2 := hTa.keepR hR1 hc2 hD2
  go_wp2
  go_ret
  exact ⟨rfl, _, hT2, (hca.nil.trans' ((Chg.of_drewN _ _ 1).trans' ((hc1.mono (T := [br, bd]) (by simp)).trans' (hc2.mono (T := [br, bd]) (by simp)))))⟩

set_option maxHeartbeats 2000000 in
set_option maxRecDepth 100000 in
theorem takes_3 : Calls Try.prog 31 #[.pointer (some ⟨br, 0, none⟩), .pointer (some ⟨bd, 0, none⟩), .agg #[.int .i64 3, .int .i64 width, .int .i64 n, .int .u64 most]] w (TwinPost w br bd l aoR capR aoD capD) := by
  obtain ⟨pos, wh, bad⟩ := s
  have hca := (Chg.refl [] w).alloc (.cells #[.int .i64 3, .int .i64 width, .int .i64 n, .int .u64 most] 70)
  have hTa := hT.keep hca
  have hwl := blk_lt hT.r.blk
  have hdl := blk_lt hT.d.blk
  go_enter Try.func31, Try.ntmps31
  have HA := rsigned_calls hTa.r hl
  obtain ⟨p, hp⟩ : ∃ p, rSigned l ⟨pos, wh, bad⟩ = p := ⟨_, rfl⟩
  simp only at HA
  rw [hp] at HA
  have HA := hid HA
  have HB := hid (fun W (h : Rd 108 W bd l aoD capD pos wh bad) => hp ▸ q_signed_calls h hl)
  clear hp
  go_wp2_with (first
    | (go_at_call 66; refine (HB.out _ hD1).mono ?_; rintro e w2 ⟨rfl, hD2, hc2⟩)
    | (go_at_call 37; refine HA.out.mono ?_; rintro e w1 ⟨rfl, hR1, hc1⟩; have hD1 := hTa.keepD hc1))
  have hT2 := hTa.keepR hR1 hc2 hD2
  go_ret
  exact ⟨rfl, _, hT2, (hca.nil.trans' ((hc1.mono (T := [br, bd]) (by simp)).trans' (hc2.mono (T := [br, bd]) (by simp))))⟩

set_option maxHeartbeats 2000000 in
set_option maxRecDepth 100000 in
theorem takes_4 : Calls Try.prog 31 #[.pointer (some ⟨br, 0, none⟩), .pointer (some ⟨bd, 0, none⟩), .agg #[.int .i64 4, .int .i64 width, .int .i64 n, .int .u64 most]] w (TwinPost w br bd l aoR capR aoD capD) := by
  obtain ⟨pos, wh, bad⟩ := s
  have hca := (Chg.refl [] w).alloc (.cells #[.int .i64 4, .int .i64 width, .int .i64 n, .int .u64 most] 70)
  have hTa := hT.keep hca
  have hwl := blk_lt hT.r.blk
  have hdl := blk_lt hT.d.blk
  go_enter Try.func31, Try.ntmps31
  have HA := rflag_calls hTa.r hl
  obtain ⟨p, hp⟩ : ∃ p, rFlag l ⟨pos, wh, bad⟩ = p := ⟨_, rfl⟩
  simp only at HA
  rw [hp] at HA
  have HA := hid HA
  have HB := hid (fun W (h : Rd 108 W bd l aoD capD pos wh bad) => hp ▸ q_flag_calls h hl)
  clear hp
  go_wp2_with (first
    | (go_at_call 67; refine (HB.out _ hD1).mono ?_; rintro e w2 ⟨rfl, hD2, hc2⟩)
    | (go_at_call 38; refine HA.out.mono ?_; rintro e w1 ⟨rfl, hR1, hc1⟩; have hD1 := hTa.keepD hc1))
  have hT2 := hTa.keepR hR1 hc2 hD2
  go_ret
  exact ⟨rfl, _, hT2, (hca.nil.trans' ((hc1.mono (T := [br, bd]) (by simp)).trans' (hc2.mono (T := [br, bd]) (by simp))))⟩

set_option maxHeartbeats 2000000 in
set_option maxRecDepth 100000 in
theorem takes_6 : Calls Try.prog 31 #[.pointer (some ⟨br, 0, none⟩), .pointer (some ⟨bd, 0, none⟩), .agg #[.int .i64 6, .int .i64 width, .int .i64 n, .int .u64 most]] w (TwinPost w br bd l aoR capR aoD capD) := by
  obtain ⟨pos, wh, bad⟩ := s
  have hca := (Chg.refl [] w).alloc (.cells #[.int .i64 6, .int .i64 width, .int .i64 n, .int .u64 most] 70)
  have hTa := hT.keep hca
  have hwl := blk_lt hT.r.blk
  have hdl := blk_lt hT.d.blk
  go_enter Try.func31, Try.ntmps31
  go_wp2_with (go_at_call 32; refine (stands_calls hTa).mono ?_; rintro e w1 ⟨rfl, hd1⟩)
  go_ret
  exact ⟨rfl, _, hTa.keep hd1.chg, hca.nil.trans' hd1.chg⟩

set_option maxHeartbeats 2000000 in
set_option maxRecDepth 100000 in
theorem takes_none (kind : Int) (h1 : kind ≠ 1) (h2 : kind ≠ 2) (h3 : kind ≠ 3) (h4 : kind ≠ 4) (h5 : kind ≠ 5) (h6 : kind ≠ 6) : Calls Try.prog 31 #[.pointer (some ⟨br, 0, none⟩), .pointer (some ⟨bd, 0, none⟩), .agg #[.int .i64 kind, .int .i64 width, .int .i64 n, .int .u64 most]] w (TwinPost w br bd l aoR capR aoD capD) := by
  obtain ⟨pos, wh, bad⟩ := s
  have hca := (Chg.refl [] w).alloc (.cells #[.int .i64 kind, .int .i64 width, .int .i64 n, .int .u64 most] 70)
  have hTa := hT.keep hca
  have hwl := blk_lt hT.r.blk
  have hdl := blk_lt hT.d.blk
  go_enter Try.func31, Try.ntmps31
  go_wp2
  go_ret
  exact ⟨rfl, _, hTa, hca.nil⟩
theorem takes_calls (kind : Int) (hn : I64 n) : Calls Try.prog 31 #[.pointer (some ⟨br, 0, none⟩), .pointer (some ⟨bd, 0, none⟩), .agg #[.int .i64 kind, .int .i64 width, .int .i64 n, .int .u64 most]] w (TwinPost w br bd l aoR capR aoD capD) := by
  by_cases h1 : kind = 1
  · subst h1
    by_cases hwid : 0 ≤ width ∧ width < 8
    · exact takes_1ok hT hl width n most hwid
    · exact takes_1out hT hl width n most hwid
  by_cases h2 : kind = 2
  · subst h2; exact takes_2 hT hl width n most
  by_cases h3 : kind = 3
  · subst h3; exact takes_3 hT hl width n most
  by_cases h4 : kind = 4
  · subst h4; exact takes_4 hT hl width n most
  by_cases h5 : kind = 5
  · subst h5; exact takes_5 hT hl width n most hn
  by_cases h6 : kind = 6
  · subst h6; exact takes_6 hT hl width n most
  exact takes_none hT hl width n most kind h1 h2 h3 h4 h5 h6
end
end Go.Proofs.Ytdakcphkaljghaa
