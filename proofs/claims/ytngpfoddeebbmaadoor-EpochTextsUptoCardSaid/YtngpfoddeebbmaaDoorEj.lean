/- Walks of the epochs: the texts, both; numbers as text. -/
import Derived.Test.YtngpfoddeebbmaaDoorEi
import Derived.Test.YtngpfoddeebbmaaDoorShelf
namespace Go.Proofs.YtngpfoddeebbmaaDoor
open Go.RowKit Go.AB
set_option linter.unusedSimpArgs false
set_option linter.unusedVariables false

/-- The table of the powers of ten stands as the row says. -/
def Pow10 (w : World) : Prop := Lib.TabIs Tryd.prog w "internal/strconv.uint64pow10" .u64 Lib.pow10Tab
theorem tab_chg {P : Program} {w w' : World} {name : String} {k : IntKind} {zs : List Int} (h : Lib.TabIs P w name k zs) (hc : Chg [] w w') : Lib.TabIs P w' name k zs := by
  unfold Lib.TabIs World.var? at *
  cases hg : P.globalNamed name with
  | none => simp [hg] at h
  | some g =>
    simp only [hg, Option.bind_some] at h ⊢
    have hlt : g < w.heap.size := by
      rcases Nat.lt_or_ge g w.heap.size with h' | h'
      · exact h'
      · rw [Array.getElem?_eq_none h'] at h; simp at h
    rw [hc.block g hlt (by simp)]
    exact h
theorem Pow10.keep {w w' : World} (h : Pow10 w) (hc : Chg [] w w') : Pow10 w' := tab_chg h hc
theorem chg_grow (w : World) (k : Nat) (os : Array Obj) : Chg [] w (Sort.grow (w.drewN k) os) := by
  refine ⟨rfl, rfl, rfl, ?_, fun i hi _ => ?_⟩
  · show w.heap.size ≤ (w.heap ++ os).size
    simp
  · show (w.heap ++ os)[i]? = w.heap[i]?
    rw [Array.getElem?_append_left hi]

theorem holds_zero0 (w : World) (T : TypeId) (nd : Nat) (hs : nd ≤ 24) : Sort.Holds (fun (b : UInt8) => Value.int .u8 (b.toNat : Int)) (w.alloc (.cells Lib.zeros24 T)) w.heap.size 0 (Array.replicate nd (0 : UInt8)) := fun j hj => by
  have hj' : j < nd := by simpa using hj
  refine ⟨?_, World.frozen?_alloc_new _ _ _ _⟩
  rw [World.cell?_alloc_new, Lib.zeros24_at _ (by omega), getElem!_pos _ j hj]
  simp
theorem fin0 (w : World) (o : Obj) (dk : Array UInt8) (k : Nat) : ∃ os, (Sort.putRow (fun (b : UInt8) => Value.int .u8 (b.toNat : Int)) (w.alloc o) w.heap.size 0 dk).drewN k = Sort.grow (w.drewN k) os := by
  rw [Sort.alloc_eq_grow]
  obtain ⟨os', _, e⟩ := Sort.putRow_grow_new (fun (b : UInt8) => Value.int .u8 (b.toNat : Int)) w #[o] w.heap.size 0 dk (Nat.le_refl _)
  exact ⟨os', by rw [e]; rfl⟩

/-- A number's decimal digits. -/
def decS (u : Nat) : ByteArray := ⟨(Lib.decDigits u).toArray⟩

set_option maxHeartbeats 6400000 in
set_option maxRecDepth 100000 in
theorem i_formatUint (u : Nat) (hu64 : u < 18446744073709551616) (w : World) (htab : Pow10 w) :
    Calls Tryd.prog 43 #[.int .u64 u, .int .i64 10] w fun e w' => e = .returned (.string (decS u)) ∧ Chg [] w w' := by
  by_cases hs : u < 100
  · go_enter Tryd.func43, Tryd.ntmps43
    go_wp2_with (go_at_call 48; refine (Tryd.internal_strconv_small u hs _).mono ?_; rintro e w' ⟨rfl, rfl⟩)
    go_ret
    exact ⟨rfl, Chg.refl _ _⟩
  · have hu1 : 1 ≤ u := by omega
    have hnd20 : Lib.nDigits u ≤ 20 := by have := Lib.numDigits_eq u hu1 hu64; split at this <;> omega
    have hb3 : Lib.nDigits u ≤ 24 := by omega
    have hal : Tryd.prog.arrayLen 73 = 24 := by kernel_rfl
    have hsl1 : ∀ W, (Instr.sliceAt 73 (.pointer (some ⟨w.heap.size, 0, none⟩)) none (some (.int .i64 (Lib.nDigits u : Int))) none).run Tryd.prog W = .ok (.slice (some ⟨w.heap.size, 0, none⟩) (Lib.nDigits u) 24) W := fun W => by
      rw [run_sliceAt_array_h W 73 ⟨w.heap.size, 0, none⟩ (by kernel_rfl) .i64 (Lib.nDigits u : Int) (by omega) (by rw [hal]; omega)]
      go_simp
    have hH0 := holds_zero0 w 73 (Lib.nDigits u) hb3
    have hfmt := Tryd.internal_strconv_formatBase10 w.heap.size 0 24 u (Array.replicate (Lib.nDigits u) 0) (w.alloc (.cells Lib.zeros24 73)) hH0 (by rw [Array.size_replicate]; exact Lib.lt_pow_nDigits u) hu64 (by rw [Array.size_replicate]; omega)
    rw [Array.size_replicate] at hfmt
    have HH0 := Lib.hid hH0
    clear hH0 hal
    go_enter Tryd.func43, Tryd.ntmps43
    go_wp2_with (first
      | (go_at_call 49; refine (Tryd.internal_strconv_numDigits u hu1 hu64 _ (Lib.tabIs_alloc htab _)).mono ?_; rintro e w' ⟨rfl, rfl⟩))
    go_at_call 50
    refine hfmt.mono ?_
    rintro e w' ⟨rfl, k, v', dk, rfl, hF⟩
    have hcv : (convert 50 9 (.slice (some ⟨w.heap.size, 0, none⟩) (Lib.nDigits u) 24)).run Tryd.prog ((Sort.putRow (fun (b : UInt8) => Value.int .u8 (b.toNat : Int)) (w.alloc (.cells Lib.zeros24 73)) w.heap.size 0 dk).drewN k) = .ok (.string (decS u)) ((Sort.putRow (fun (b : UInt8) => Value.int .u8 (b.toNat : Int)) (w.alloc (.cells Lib.zeros24 73)) w.heap.size 0 dk).drewN k) := by
      have h := run_convert_bytes_back (P := Tryd.prog) ((Sort.putRow (fun (b : UInt8) => Value.int .u8 (b.toNat : Int)) (w.alloc (.cells Lib.zeros24 73)) w.heap.size 0 dk).drewN k) 50 9 5 ⟨w.heap.size, 0, none⟩ 24 (Lib.decDigits u) Tryd.underlying50 Tryd.underlying5 Tryd.underlying9 (fun j hj => by
        rw [Lib.row_is_numeral hF j hj, Lib.add_plain, World.cell?_drewN]
        exact Sort.cell?_putRow (fun (b : UInt8) => Value.int .u8 (b.toNat : Int)) _ w.heap.size 0 _ dk HH0.out (by rw [hF.size, Array.size_replicate]) j (by rw [hF.size]; rw [Lib.decDigits_length] at hj; exact hj))
      rw [Lib.decDigits_length] at h
      exact h
    go_wp2
    go_ret
    obtain ⟨os, eo⟩ := fin0 w (.cells Lib.zeros24 73) dk k
    refine ⟨rfl, ?_⟩
    exact eo ▸ chg_grow w k os
set_option maxRecDepth 100000 in
theorem formatUint_calls (u : Nat) (hu64 : u < 18446744073709551616) (w : World) (htab : Pow10 w) :
    Calls Tryd.prog 37 #[.int .u64 u, .int .i64 10] w fun e w' => e = .returned (.string (decS u)) ∧ Chg [] w w' := by
  have h := i_formatUint u hu64
  have H := hid h
  clear h hu64
  go_enter Tryd.func37, Tryd.ntmps37
  go_wp2_with (go_at_call 43; refine (H.out _ htab).mono ?_; rintro e w' ⟨rfl, hc⟩)
  go_ret
  exact ⟨rfl, hc⟩
theorem itoa_calls (t : Nat) (ht : t < 65536) (w : World) (htab : Pow10 w) :
    Calls Tryd.prog 38 #[.int .i64 t] w fun e w' => e = .returned (.string (decS t)) ∧ Chg [] w w' := by
  refine (Tryd.strconv_Itoa (t : Int) (by omega) (by omega) w htab).mono ?_
  rintro e w' ⟨rfl, k, os, rfl⟩
  rw [Lib.itoa_nonneg]
  exact ⟨rfl, chg_grow _ _ _⟩
theorem decS_size {u : Nat} (h : u < 18446744073709551616) : (decS u).size ≤ 20 := by
  show (Lib.decDigits u).toArray.size ≤ 20
  rw [List.size_toArray, Lib.decDigits_length]
  by_cases hu1 : 1 ≤ u
  · have := Lib.numDigits_eq u hu1 h; split at this <;> omega
  · obtain rfl : u = 0 := by omega
    decide +kernel
/-- An epoch's text. -/
def textE (E : Int) : ByteArray := if (partsE E).2.1 = 0 then ⟨#[110, 111, 110, 101]⟩ else decS (partsE E).2.1.toNat ++ ⟨#[64]⟩ ++ decS (partsE E).1.toNat

set_option maxHeartbeats 1000000 in
set_option maxRecDepth 100000 in
theorem text_calls (E : Int) (h0 : 0 ≤ E) (h1 : E < 18446744073709551616) (w : World) (htab : Pow10 w) :
    Calls Tryd.prog 25 #[.int .u64 E] w fun e w' => e = .returned (.string (textE E)) ∧ Chg [] w w' := by
  have hp := parts_calls E h0 h1
  have hb := partsE_bd E h0
  unfold textE
  obtain ⟨⟨T, C, b⟩, hpe⟩ : ∃ p : Int × Int × Bool, partsE E = p := ⟨_, rfl⟩
  rw [hpe] at hp hb ⊢
  simp only at hp hb ⊢
  obtain ⟨b1, b2, b3, b4⟩ := hb
  have hfu := formatUint_calls C.toNat (by omega)
  have hit := itoa_calls T.toNat (by omega)
  rw [Int.toNat_of_nonneg (by omega)] at hfu hit
  have HP := hid hp
  have HF := hid hfu
  have HI := hid hit
  have HT := hid htab
  clear hp hfu hit htab h1 hpe
  obtain ⟨sC, hsC⟩ : ∃ s, decS C.toNat = s := ⟨_, rfl⟩
  obtain ⟨sT, hsT⟩ : ∃ s, decS T.toNat = s := ⟨_, rfl⟩
  have zC : sC.size ≤ 20 := by rw [← hsC]; exact decS_size (by omega)
  have zT : sT.size ≤ 20 := by rw [← hsT]; exact decS_size (by omega)
  have n1 : ¬ 9223372036854775807 < sC.size + 1 := by omega
  have n2 : ¬ 9223372036854775807 < sC.size + 1 + sT.size := by omega
  rw [hsC] at HF ⊢
  rw [hsT] at HI ⊢
  clear hsC hsT zC zT b4
  by_cases hc0 : C = 0
  · rw [if_pos hc0]
    subst hc0
    go_enter Tryd.func25, Tryd.ntmps25
    go_wp2_with (first
      | (go_at_call 36; refine (HP.out _).mono ?_; rintro e w' ⟨rfl, rfl⟩))
    go_ret
    exact ⟨rfl, Chg.refl _ _⟩
  · rw [if_neg hc0]
    have d0 : (C == 0) = false := by simpa using hc0
    go_enter Tryd.func25, Tryd.ntmps25
    go_wp2_with (first
      | (go_at_call 36; refine (HP.out _).mono ?_; rintro e w' ⟨rfl, rfl⟩)
      | (go_at_call 37; refine (HF.out _ HT.out).mono ?_; rintro e w1 ⟨rfl, hc1⟩; have HT1 := hid (HT.out.keep hc1))
      | (go_at_call 38; refine (HI.out _ HT1.out).mono ?_; rintro e w2 ⟨rfl, hc2⟩))
    go_ret
    exact ⟨rfl, hc1.trans' hc2⟩
set_option maxHeartbeats 1000000 in
set_option maxRecDepth 100000 in
theorem r_text_calls (E : Int) (h0 : 0 ≤ E) (h1 : E < 18446744073709551616) (w : World) (htab : Pow10 w) :
    Calls Tryd.prog 26 #[.int .u64 E] w fun e w' => e = .returned (.string (textE E)) ∧ Chg [] w w' := by
  have hp := r_clock_calls E h0 h1
  have hq := r_thread_calls E h0 h1
  have hb := partsE_bd E h0
  unfold textE
  obtain ⟨⟨T, C, b⟩, hpe⟩ : ∃ p : Int × Int × Bool, partsE E = p := ⟨_, rfl⟩
  rw [hpe] at hp hq hb ⊢
  simp only at hp hq hb ⊢
  obtain ⟨b1, b2, b3, b4⟩ := hb
  have hfu := formatUint_calls C.toNat (by omega)
  have hit := itoa_calls T.toNat (by omega)
  rw [Int.toNat_of_nonneg (by omega)] at hfu hit
  have HP := hid hp
  have HQ := hid hq
  have HF := hid hfu
  have HI := hid hit
  have HT := hid htab
  clear hp hq hfu hit htab h1 hpe
  obtain ⟨sC, hsC⟩ : ∃ s, decS C.toNat = s := ⟨_, rfl⟩
  obtain ⟨sT, hsT⟩ : ∃ s, decS T.toNat = s := ⟨_, rfl⟩
  have zC : sC.size ≤ 20 := by rw [← hsC]; exact decS_size (by omega)
  have zT : sT.size ≤ 20 := by rw [← hsT]; exact decS_size (by omega)
  have n1 : ¬ 9223372036854775807 < sC.size + 1 := by omega
  have n2 : ¬ 9223372036854775807 < sC.size + 1 + sT.size := by omega
  rw [hsC] at HF ⊢
  rw [hsT] at HI ⊢
  clear hsC hsT zC zT b4
  by_cases hc0 : C = 0
  · rw [if_pos hc0]
    subst hc0
    go_enter Tryd.func26, Tryd.ntmps26
    go_wp2_with (first
      | (go_at_call 24; refine (HP.out _).mono ?_; rintro e w' ⟨rfl, rfl⟩))
    go_ret
    exact ⟨rfl, Chg.refl _ _⟩
  · rw [if_neg hc0]
    have d0 : (C == 0) = false := by simpa using hc0
    go_enter Tryd.func26, Tryd.ntmps26
    go_wp2_with (first
      | (go_at_call 24; refine (HP.out _).mono ?_; rintro e w' ⟨rfl, rfl⟩)
      | (go_at_call 22; refine (HQ.out _).mono ?_; rintro e w' ⟨rfl, rfl⟩)
      | (go_at_call 37; refine (HF.out _ HT.out).mono ?_; rintro e w1 ⟨rfl, hc1⟩; have HT1 := hid (HT.out.keep hc1))
      | (go_at_call 38; refine (HI.out _ HT1.out).mono ?_; rintro e w2 ⟨rfl, hc2⟩))
    go_ret
    exact ⟨rfl, hc1.trans' hc2⟩
end Go.Proofs.YtngpfoddeebbmaaDoor
