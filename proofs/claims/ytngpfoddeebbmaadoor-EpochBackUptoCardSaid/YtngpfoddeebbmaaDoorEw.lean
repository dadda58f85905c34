/- Walks of the epochs' laws: EpochBack. -/
import Derived.Test.YtngpfoddeebbmaaDoorEv
namespace Go.Proofs.YtngpfoddeebbmaaDoor
open Go.RowKit Go.AB
set_option linter.unusedSimpArgs false
set_option linter.unusedVariables false

/-- The eight bytes of a number, as numbers. -/
def bsE (E : Int) : List Int := [E % 256, E / 256 % 256, E / 256 / 256 % 256, E / 256 / 256 / 256 % 256, E / 256 / 256 / 256 / 256 % 256, E / 256 / 256 / 256 / 256 / 256 % 256, E / 256 / 256 / 256 / 256 / 256 / 256 % 256, E / 256 / 256 / 256 / 256 / 256 / 256 / 256 % 256]
theorem leI_bsE {E : Int} (h0 : 0 ≤ E) (h1 : E < 18446744073709551616) : leI (bsE E) = E := by
  simp only [bsE, leI]
  omega
theorem fromE_bsE {E : Int} (h0 : 0 ≤ E) (h1 : E < 18446744073709551616) (hv : (partsE E).2.2 = true) : fromE (bsE E) = (E, 0) := by
  unfold fromE
  rw [leI_bsE h0 h1, if_neg (by simp [bsE]), if_neg (by simp [hv])]
theorem bytesE_bsE {E : Int} (hv : (partsE E).2.2 = true) : bytesE E = ((bsE E).map (Value.int .u8)).toArray := by
  unfold bytesE
  rw [if_pos hv]
  rfl
theorem parse_pack {t c : Int} (h0 : 0 ≤ t) (h1 : t < 65535) (h2 : 1 ≤ c) (h3 : c ≤ 281474976710655) : parseE (textE (t * 281474976710656 + c)).data.toList = (t * 281474976710656 + c, 0) := by
  obtain ⟨T, rfl⟩ : ∃ T : Nat, t = T := ⟨t.toNat, by omega⟩
  obtain ⟨C, rfl⟩ : ∃ C : Nat, c = C := ⟨c.toNat, by omega⟩
  rw [textE_list, text_pack h1 (by omega) (by omega)]
  exact parse_text h1 (by omega) (by omega)
theorem textE_size (E : Int) (h0 : 0 ≤ E) : (textE E).size ≤ 1048576 := by
  have hb := partsE_bd E h0
  unfold textE
  split
  · decide
  · rw [ByteArray.size_append, ByteArray.size_append]
    have h1 := decS_size (u := (partsE E).2.1.toNat) (by omega)
    have h2 := decS_size (u := (partsE E).1.toNat) (by omega)
    have h3 : (⟨#[64]⟩ : ByteArray).size = 1 := rfl
    omega

set_option maxHeartbeats 8000000 in
set_option maxRecDepth 100000 in
theorem back_walk (t c o d : Int) (hc : 0 ≤ c) (hd : 0 ≤ d) (w : World) (hw : Vars0 w) :
    Calls Tryd.prog 9 #[.int .i64 t, .int .u64 c, .int .i64 o, .int .u64 d] w fun e w' => e = .returned (.bool true) ∧ Chg [] w w' := by
  have p1 := pack_calls t c hc
  have p2 := pack_calls o d hd
  have HL := hid lives_calls
  have HW := hid hw
  by_cases ht : 0 ≤ t ∧ t < 65535 ∧ c ≠ 0 ∧ c ≤ 281474976710655
  · by_cases ho : 0 ≤ o ∧ o < 65535 ∧ d ≠ 0 ∧ d ≤ 281474976710655
    · rw [packE_yes ht.1 ht.2.1 ht.2.2.1 ht.2.2.2] at p1
      rw [packE_yes ho.1 ho.2.1 ho.2.2.1 ho.2.2.2] at p2
      have pp := partsE_pack ht.1 ht.2.1 (by omega : 0 < c) ht.2.2.2
      have bE : 0 ≤ t * 281474976710656 + c ∧ t * 281474976710656 + c < 18446744073709551616 := by omega
      have ps := parse_pack ht.1 ht.2.1 (by omega) ht.2.2.2
      have cmp : (t ≠ o ∧ (t * 281474976710656 + c) ≠ o * 281474976710656 + d) ∨ (t = o ∧ c = d) ∨ (t = o ∧ c < d ∧ (t * 281474976710656 + c) < o * 281474976710656 + d) ∨ (t = o ∧ d < c ∧ o * 281474976710656 + d < t * 281474976710656 + c) := by omega
      obtain ⟨E, hE⟩ : ∃ E, t * 281474976710656 + c = E := ⟨_, rfl⟩
      obtain ⟨G, hG⟩ : ∃ G, o * 281474976710656 + d = G := ⟨_, rfl⟩
      have hEG : t = o → c = d → E = G := fun h1 h2 => by rw [← hE, ← hG, h1, h2]
      rw [hE] at p1 pp bE ps cmp
      rw [hG] at p2 cmp
      have tx := text_calls E bE.1 bE.2
      have tsz := textE_size E bE.1
      have by1 := bytes_calls E bE.1 bE.2
      have hv : (partsE E).2.2 = true := by rw [pp]
      have fr := fun u (hv2 : View u 1 (.slice (some ⟨u.heap.size - 1, 0, none⟩) 8 8) 8 ((bsE E).map (Value.int .u8))) => from_calls (ao := some ⟨u.heap.size - 1, 0, none⟩) (cap := 8) (bsE E) (by simp [bsE]; omega) (by simp [bsE]) u (by simpa [bsE] using hv2)
      have l8 : (bsE E).length = 8 := rfl
      rw [l8, fromE_bsE bE.1 bE.2 hv] at fr
      rw [bytesE_bsE hv] at by1
      have th := thread_calls E bE.1 bE.2
      have cl := clock_calls E bE.1 bE.2
      have va := valid_calls E bE.1 bE.2
      rw [pp] at th cl va
      simp only at th cl va
      obtain ⟨S, hS⟩ : ∃ S, textE E = S := ⟨_, rfl⟩
      rw [hS] at tx tsz ps
      have pa := fun u (hu : Chg [] w u) => parse_calls S S.data.toList rfl tsz u (hw.keep hu)
      rw [prog_eq, ps] at pa
      simp only at pa
      obtain ⟨x0, x1, x2, x3, x4, x5, x6, x7, hx⟩ : ∃ x0 x1 x2 x3 x4 x5 x6 x7 : Int, bsE E = [x0, x1, x2, x3, x4, x5, x6, x7] := ⟨_, _, _, _, _, _, _, _, rfl⟩
      rw [hx] at by1 fr
      have by2 : ∀ u, Calls Tryd.prog 27 #[.int .u64 E] u fun e w' => e = .returned (.agg #[.int .u8 x0, .int .u8 x1, .int .u8 x2, .int .u8 x3, .int .u8 x4, .int .u8 x5, .int .u8 x6, .int .u8 x7]) ∧ Chg [] u w' := by1
      have P1 := hid p1
      have P2 := hid p2
      have TX := hid tx
      have BY := hid by2
      have FR := hid fr
      have TH := hid th
      have CL := hid cl
      have VA := hid va
      have PA := hid pa
      have fin : ∀ (u : World), View (u.alloc (.cells #[.int .u8 x0, .int .u8 x1, .int .u8 x2, .int .u8 x3, .int .u8 x4, .int .u8 x5, .int .u8 x6, .int .u8 x7] 45)) 1 (.slice (some ⟨u.heap.size, 0, none⟩) 8 8) 8 ([x0, x1, x2, x3, x4, x5, x6, x7].map (Value.int .u8)) := fun u => View.news u [.int .u8 x0, .int .u8 x1, .int .u8 x2, .int .u8 x3, .int .u8 x4, .int .u8 x5, .int .u8 x6, .int .u8 x7] 45 (by simp [maxLen])
      have FIN := hid fin
      have facts : (t ≠ o ∧ (E == G) = false ∧ (t == o) = false ∧ (t != o) = true) ∨ (t = o ∧ c = d ∧ E = G) ∨ (t = o ∧ (E == G) = false ∧ (c == d) = false ∧ E < G ∧ c < d) ∨ (t = o ∧ (E == G) = false ∧ (c == d) = false ∧ G < E ∧ d < c) := by
        rcases cmp with ⟨h1, h2⟩ | ⟨h1, h2⟩ | ⟨h1, h2, h3⟩ | ⟨h1, h2, h3⟩
        · exact .inl ⟨h1, by rw [beq_eq_false_iff_ne]; exact h2, by rw [beq_eq_false_iff_ne]; exact h1, by simpa using h1⟩
        · exact .inr (.inl ⟨h1, h2, hEG h1 h2⟩)
        · exact .inr (.inr (.inl ⟨h1, by rw [beq_eq_false_iff_ne]; omega, by rw [beq_eq_false_iff_ne]; omega, h3, h2⟩))
        · exact .inr (.inr (.inr ⟨h1, by rw [beq_eq_false_iff_ne]; omega, by rw [beq_eq_false_iff_ne]; omega, h3, h2⟩))
      clear p1 p2 tx tsz by1 by2 fr th cl va pa pp ps hv bE hE hG hEG hx hS cmp ht ho l8 fin hw hc hd
      rcases facts with ⟨z0, z1, z2, z3⟩ | ⟨rfl, rfl, rfl⟩ | ⟨rfl, z1, z2, z3, z4⟩ | ⟨rfl, z1, z2, z3, z4⟩
      all_goals (
        go_enter Tryd.func9, Tryd.ntmps9
        go_wp2_with (first
          | (go_at_call 15; refine (HL.out _).mono ?_; rintro e w1 ⟨rfl, hc1⟩; have HC1 := hid hc1; clear hc1)
          | (go_at_call 10; (with_reducible refine (P1.out _).mono ?_); rintro e w' ⟨rfl, rfl⟩)
          | (go_at_call 10; (with_reducible refine (P2.out _).mono ?_); rintro e w' ⟨rfl, rfl⟩)
          | (go_at_call 25; refine (TX.out _ (HW.out.keep HC1.out).pow).mono ?_; rintro e w2 ⟨rfl, hc2⟩; have HC2 := hid (HC1.out.trans' hc2); clear hc2)
          | (go_at_call 34; refine (PA.out _ HC2.out).mono ?_; rintro e w3 ⟨rfl, hc3⟩; have HC3 := hid (HC2.out.trans' hc3); clear hc3)
          | (go_at_call 27; refine (BY.out _).mono ?_; rintro e w4 ⟨rfl, hc4⟩; have HC4 := hid (HC3.out.trans' hc4); clear hc4)
          | (go_at_call 32; refine halt (fun X hX => ?_)))
        rw [hX.out]; clear hX
        have hf := FR.out _ (by rw [show (w4.alloc (.cells #[.int .u8 x0, .int .u8 x1, .int .u8 x2, .int .u8 x3, .int .u8 x4, .int .u8 x5, .int .u8 x6, .int .u8 x7] 45)).heap.size - 1 = w4.heap.size from by simp]; exact FIN.out w4)
        rw [show (w4.alloc (.cells #[.int .u8 x0, .int .u8 x1, .int .u8 x2, .int .u8 x3, .int .u8 x4, .int .u8 x5, .int .u8 x6, .int .u8 x7] 45)).heap.size - 1 = w4.heap.size from by simp] at hf
        refine hf.mono ?_
        rintro e w5 ⟨rfl, hc5⟩
        have HC5 := hid ((HC4.out.alloc _).trans' hc5)
        clear hf hc5
        go_wp2_with (first
          | (go_at_call 21; refine (TH.out _).mono ?_; rintro e w' ⟨rfl, rfl⟩)
          | (go_at_call 23; refine (CL.out _).mono ?_; rintro e w' ⟨rfl, rfl⟩)
          | (go_at_call 19; refine (VA.out _).mono ?_; rintro e w' ⟨rfl, rfl⟩))
        go_ret
        exact ⟨by first | rfl | (refine ret_bool ?_; rw [decide_eq_true z3, decide_eq_true z4]; rfl) | (refine ret_bool ?_; rw [decide_eq_false (by omega), decide_eq_false (by omega)]; rfl), HC5.out⟩)
    · rw [packE_yes ht.1 ht.2.1 ht.2.2.1 ht.2.2.2] at p1
      rw [packE_no (by omega)] at p2
      obtain ⟨E, hE⟩ : ∃ E, t * 281474976710656 + c = E := ⟨_, rfl⟩
      rw [hE] at p1
      have P1 := hid p1
      have P2 := hid p2
      clear p1 p2 ht ho hE
      go_enter Tryd.func9, Tryd.ntmps9
      go_wp2_with (first
        | (go_at_call 15; refine (HL.out _).mono ?_; rintro e w1 ⟨rfl, hc1⟩)
        | (go_at_call 10; (with_reducible refine (P1.out _).mono ?_); rintro e w' ⟨rfl, rfl⟩)
        | (go_at_call 10; (with_reducible refine (P2.out _).mono ?_); rintro e w' ⟨rfl, rfl⟩))
      go_ret
      exact ⟨rfl, hc1⟩
  · rw [packE_no (by omega)] at p1
    obtain ⟨⟨G, g⟩, hG⟩ : ∃ p : Int × Int, packE o d = p := ⟨_, rfl⟩
    rw [hG] at p2
    have P1 := hid p1
    have P2 := hid p2
    clear p1 p2 ht hG
    go_enter Tryd.func9, Tryd.ntmps9
    go_wp2_with (first
      | (go_at_call 15; refine (HL.out _).mono ?_; rintro e w1 ⟨rfl, hc1⟩)
      | (go_at_call 10; (with_reducible refine (P1.out _).mono ?_); rintro e w' ⟨rfl, rfl⟩)
      | (go_at_call 10; (with_reducible refine (P2.out _).mono ?_); rintro e w' ⟨rfl, rfl⟩))
    go_ret
    exact ⟨rfl, hc1⟩
end Go.Proofs.YtngpfoddeebbmaaDoor
