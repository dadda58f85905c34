/- Walks of the epochs: a small text; held against clocks; a first sign of life. -/
import Derived.Test.YtngpfoddeebbmaaDoorEa
namespace Go.Proofs.YtngpfoddeebbmaaDoor
open Go.RowKit Go.AB
set_option linter.unusedSimpArgs false
set_option linter.unusedVariables false

theorem ret_str {a b : ByteArray} (h : a = b) : Ending.returned (.string a) = .returned (.string b) := by rw [h]
set_option maxRecDepth 100000 in
theorem small_20 (w : World) : Calls Tryd.prog 48 #[.int .i64 20] w fun e w' => e = .returned (.string ⟨#[50, 48]⟩) ∧ w = w' := by
  go_enter Tryd.func48, Tryd.ntmps48
  go_wp2
  go_ret
  exact ⟨ret_str (by kernel_rfl), rfl⟩
set_option maxRecDepth 100000 in
theorem small_3 (w : World) : Calls Tryd.prog 48 #[.int .i64 3] w fun e w' => e = .returned (.string ⟨#[51]⟩) ∧ w = w' := by
  go_enter Tryd.func48, Tryd.ntmps48
  go_wp2
  go_ret
  exact ⟨ret_str (by kernel_rfl), rfl⟩
set_option maxRecDepth 100000 in
theorem formatUint_20 (w : World) : Calls Tryd.prog 37 #[.int .u64 20, .int .i64 10] w fun e w' => e = .returned (.string ⟨#[50, 48]⟩) ∧ w = w' := by
  have h : ∀ w, Calls Tryd.prog 43 #[.int .u64 20, .int .i64 10] w fun e w' => e = .returned (.string ⟨#[50, 48]⟩) ∧ w = w' := fun w => by
    go_enter Tryd.func43, Tryd.ntmps43
    go_wp2_with (go_at_call 48; refine (small_20 _).mono ?_; rintro e w' ⟨rfl, rfl⟩)
    go_ret
    exact ⟨rfl, rfl⟩
  have H := hid h
  clear h
  go_enter Tryd.func37, Tryd.ntmps37
  go_wp2_with (go_at_call 43; refine (H.out _).mono ?_; rintro e w' ⟨rfl, rfl⟩)
  go_ret
  exact ⟨rfl, rfl⟩
set_option maxRecDepth 100000 in
theorem itoa_3 (w : World) : Calls Tryd.prog 38 #[.int .i64 3] w fun e w' => e = .returned (.string ⟨#[51]⟩) ∧ w = w' := by
  have h : ∀ w, Calls Tryd.prog 52 #[.int .i64 3, .int .i64 10] w fun e w' => e = .returned (.string ⟨#[51]⟩) ∧ w = w' := fun w => by
    go_enter Tryd.func52, Tryd.ntmps52
    go_wp2_with (go_at_call 48; refine (small_3 _).mono ?_; rintro e w' ⟨rfl, rfl⟩)
    go_ret
    exact ⟨rfl, rfl⟩
  have H := hid h
  clear h
  have h2 : ∀ w, Calls Tryd.prog 44 #[.int .i64 3] w fun e w' => e = .returned (.string ⟨#[51]⟩) ∧ w = w' := fun w => by
    go_enter Tryd.func44, Tryd.ntmps44
    go_wp2_with (go_at_call 52; refine (H.out _).mono ?_; rintro e w' ⟨rfl, rfl⟩)
    go_ret
    exact ⟨rfl, rfl⟩
  have H2 := hid h2
  clear h2
  go_enter Tryd.func38, Tryd.ntmps38
  go_wp2_with (go_at_call 44; refine (H2.out _).mono ?_; rintro e w' ⟨rfl, rfl⟩)
  go_ret
  exact ⟨rfl, rfl⟩

theorem E0_parts : partsE 844424930131988 = (3, 20, true) := partsE_pack (t := 3) (c := 20) (by decide) (by decide) (by decide) (by decide)
set_option maxRecDepth 100000 in
theorem text_E0 (w : World) : Calls Tryd.prog 25 #[.int .u64 844424930131988] w fun e w' => e = .returned (.string ⟨#[50, 48, 64, 51]⟩) ∧ w = w' := by
  have hp := parts_calls 844424930131988 (by decide) (by decide)
  rw [E0_parts] at hp
  have HP := hid hp
  clear hp
  go_enter Tryd.func25, Tryd.ntmps25
  go_wp2_with (first
    | (go_at_call 36; refine (HP.out _).mono ?_; rintro e w' ⟨rfl, rfl⟩)
    | (go_at_call 37; refine (formatUint_20 _).mono ?_; rintro e w' ⟨rfl, rfl⟩)
    | (go_at_call 38; refine (itoa_3 _).mono ?_; rintro e w' ⟨rfl, rfl⟩))
  go_ret
  exact ⟨ret_str (by kernel_rfl), rfl⟩

/-- A thread's clock in a list; behind the end 0. -/
def atE (cs : List Int) (t : Int) : Int := if t < 0 ∨ (cs.length : Int) ≤ t then 0 else cs.getD t.toNat 0
def leqE (E : Int) (cs : List Int) : Bool := decide ((partsE E).2.1 ≤ atE cs (partsE E).1)

/-- A slice of numbers that is read, one of them. -/
theorem nums_at {w : World} {k : IntKind} {ao : Option Addr} {n cap : Nat} {xs : List Int} (h : View w 1 (.slice ao n cap) xs.length (xs.map (Value.int k))) (hn : 0 < xs.length) : ∃ b off, ao = some ⟨b, off, none⟩ ∧ ∀ p, p < xs.length → w.cell? ⟨b, off + p, none⟩ = some (.int k (xs.getD p 0)) := by
  obtain ⟨_, _, ao', cap', hv, _, _, _, hc⟩ := h
  simp only [Value.slice.injEq] at hv
  obtain ⟨rfl, rfl, rfl⟩ := hv
  obtain ⟨b, off, hb, hcell⟩ := hc (by omega)
  refine ⟨b, off, hb, fun p hp => ?_⟩
  rw [hcell p (by omega)]
  simp [List.getD, hp]

set_option maxHeartbeats 1000000 in
set_option maxRecDepth 100000 in
theorem leq_calls (E : Int) (h0 : 0 ≤ E) (h1 : E < 18446744073709551616) (cs : List Int) {ao : Option Addr} {cap : Nat} (w : World) (hv : View w 1 (.slice ao cs.length cap) cs.length (cs.map (Value.int .u64))) (hm : cs.length ≤ 16777216) :
    Calls Tryd.prog 16 #[.int .u64 E, .slice ao cs.length cap] w fun e w' => e = .returned (.bool (leqE E cs)) ∧ w = w' := by
  have hp := parts_calls E h0 h1
  have hb := partsE_bd E h0
  have hl : leqE E cs = decide ((partsE E).2.1 ≤ atE cs (partsE E).1) := rfl
  obtain ⟨⟨T, C, b⟩, hpe⟩ : ∃ p : Int × Int × Bool, partsE E = p := ⟨_, rfl⟩
  rw [hpe] at hp hb hl
  have HP := hid hp
  obtain ⟨b1, b2, b3, b4⟩ := hb
  simp only at b1 b2 b3 b4 hl
  rw [hl]
  unfold atE
  have HV := hid hv
  clear hp h1 hpe hl hv
  by_cases hlt : (cs.length : Int) ≤ T
  · rw [if_pos (.inr hlt)]
    go_enter Tryd.func16, Tryd.ntmps16
    go_wp2_with (go_at_call 36; refine (HP.out _).mono ?_; rintro e w' ⟨rfl, rfl⟩)
    go_ret
    exact ⟨ret_bool (by rw [Bool.eq_iff_iff]; simp; omega), rfl⟩
  · rw [if_neg (by omega)]
    obtain ⟨bb, off, hao, hc⟩ := nums_at HV.out (by omega)
    have c0 := hc T.toNat (by omega)
    obtain ⟨x, hx⟩ : ∃ x, cs.getD T.toNat 0 = x := ⟨_, rfl⟩
    have hlt' : T < (cs.length : Int) := by omega
    rw [hx] at c0 ⊢
    have H := hid hao
    subst hao
    clear hc hx b4 hlt
    go_enter Tryd.func16, Tryd.ntmps16
    go_wp2_with (go_at_call 36; refine (HP.out _).mono ?_; rintro e w' ⟨rfl, rfl⟩)
    go_ret
    exact ⟨rfl, rfl⟩

theorem num_calls (x : Int) (w : World) : Calls Tryd.prog 12 #[.int .i64 x] w fun e w' => e = .returned (.int .i64 x) ∧ w = w' := by
  go_enter Tryd.func12, Tryd.ntmps12
  go_wp2
  go_ret
  exact ⟨rfl, rfl⟩

set_option maxHeartbeats 2000000 in
set_option maxRecDepth 100000 in
theorem lives_calls (w : World) : Calls Tryd.prog 15 #[] w fun e w' => e = .returned (.bool true) ∧ Chg [] w w' := by
  have hp := pack_calls 3 20 (by decide)
  rw [show packE 3 20 = (844424930131988, 0) from rfl] at hp
  have ht := thread_calls 844424930131988 (by decide) (by decide)
  have hc := clock_calls 844424930131988 (by decide) (by decide)
  rw [E0_parts] at ht hc
  have v1 := View.news w [.int .u64 0, .int .u64 0, .int .u64 0, .int .u64 20] 22 (by simp [maxLen])
  have v2 := View.news (w.alloc (.cells #[.int .u64 0, .int .u64 0, .int .u64 0, .int .u64 20] 22)) [.int .u64 0, .int .u64 0, .int .u64 0, .int .u64 19] 22 (by simp [maxLen])
  have l1 := leq_calls 844424930131988 (by decide) (by decide) [0, 0, 0, 20] _ v1 (by simp)
  have l2 := leq_calls 844424930131988 (by decide) (by decide) [0, 0, 0, 19] _ v2 (by simp)
  rw [show leqE 844424930131988 [0, 0, 0, 20] = true from by unfold leqE; rw [E0_parts]; rfl] at l1
  rw [show leqE 844424930131988 [0, 0, 0, 19] = false from by unfold leqE; rw [E0_parts]; rfl] at l2
  rw [show (w.alloc (.cells #[.int .u64 0, .int .u64 0, .int .u64 0, .int .u64 20] 22)).heap.size = w.heap.size + 1 from by simp] at l2
  have HP := hid hp
  have HT := hid ht
  have HC := hid hc
  have H1 : Hid (Calls Tryd.prog 16 #[.int .u64 844424930131988, .slice (some ⟨w.heap.size, 0, none⟩) 4 4] (w.alloc (.cells #[.int .u64 0, .int .u64 0, .int .u64 0, .int .u64 20] 22)) _) := hid l1
  have H2 : Hid (Calls Tryd.prog 16 #[.int .u64 844424930131988, .slice (some ⟨w.heap.size + 1, 0, none⟩) 4 4] ((w.alloc (.cells #[.int .u64 0, .int .u64 0, .int .u64 0, .int .u64 20] 22)).alloc (.cells #[.int .u64 0, .int .u64 0, .int .u64 0, .int .u64 19] 22)) _) := hid l2
  clear hp ht hc v1 v2 l1 l2
  go_enter Tryd.func15, Tryd.ntmps15
  go_wp2_with (first
    | (go_at_call 10; refine (HP.out _).mono ?_; rintro e w' ⟨rfl, rfl⟩)
    | (go_at_call 12; refine (num_calls _ _).mono ?_; rintro e w' ⟨rfl, rfl⟩)
    | (go_at_call 21; refine (HT.out _).mono ?_; rintro e w' ⟨rfl, rfl⟩)
    | (go_at_call 23; refine (HC.out _).mono ?_; rintro e w' ⟨rfl, rfl⟩)
    | (go_at_call 25; refine (text_E0 _).mono ?_; rintro e w' ⟨rfl, rfl⟩)
    | (go_at_call 16; ((with_reducible refine H1.out.mono ?_); rintro e w' ⟨rfl, rfl⟩))
    | (go_at_call 16; ((with_reducible refine H2.out.mono ?_); rintro e w' ⟨rfl, rfl⟩)))
  go_ret
  exact ⟨rfl, ((Chg.refl [] w).alloc _).alloc _⟩
end Go.Proofs.YtngpfoddeebbmaaDoor
