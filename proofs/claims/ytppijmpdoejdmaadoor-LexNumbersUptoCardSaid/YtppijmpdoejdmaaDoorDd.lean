/- Walks of the lexer's laws: LexNumbers, whole. -/
import Derived.Test.YtppijmpdoejdmaaDoorDc
namespace Go.Proofs.YtppijmpdoejdmaaDoor
open Go.RowKit Go.AB
set_option linter.unusedSimpArgs false
set_option linter.unusedVariables false

theorem ret_boolN {a : Bool} (h : a = true) : Ending.returned (.bool a) = .returned (.bool true) := by rw [h]
set_option maxHeartbeats 8000000 in
set_option maxRecDepth 100000 in
theorem numbers_walk (n : Int) (h0 : -9223372036854775808 ≤ n) (h1 : n ≤ 9223372036854775807) (q : Nat) (hq : q ≤ 255) (w : World) (htab : Pow10 w) (htz : Tz16 w) :
    Calls Tryd.prog 3 #[.int .i64 n, .int .u8 q] w fun e w' => e = .returned (.bool true) ∧ Chg [] w w' := by
  have hit := itoa_calls n h0 h1 w htab
  have hfm := fmt_16 (n % 18446744073709551616).toNat (by omega)
  obtain ⟨qx, hqx⟩ := hex_scan h0 h1
  have hUi : (((n % 18446744073709551616).toNat : Nat) : Int) = IntKind.u64.wrap n := by rw [IntKind.wrap_u64]; omega
  have hxl := hexD_len 15 (n % 18446744073709551616).toNat (by omega)
  rw [hUi] at hfm
  obtain ⟨XS, hXS⟩ : ∃ S : ByteArray, ⟨(hexD (n % 18446744073709551616).toNat).toArray⟩ = S := ⟨_, rfl⟩
  rw [hXS] at hfm
  have xd : XS.data.toList = hexD (n % 18446744073709551616).toNat := by rw [← hXS]
  have xs : XS.size ≤ 16 := by rw [Lib.size_eq, xd]; omega
  have tx := tok_num (s := ⟨#[48, 120]⟩ ++ XS) (L := 48 :: 120 :: hexD (n % 18446744073709551616).toNat) (by rw [cat_data, xd]; rfl) (by rw [cat_size]; have : (⟨#[48, 120]⟩ : ByteArray).size = 2 := rfl; omega) hqx
  obtain ⟨WU, hWU⟩ : ∃ x, IntKind.u64.wrap n = x := ⟨_, rfl⟩
  rw [hWU] at hfm
  have nx1 : ¬ 9223372036854775807 < 2 + XS.size := by omega
  have HFM := hid hfm
  have HTX := hid tx
  have HTZ := hid htz
  have HK := hid known_calls
  clear hfm tx hXS xd xs hxl hqx hUi htz
  by_cases hneg : n < 0
  · obtain ⟨u, hun⟩ : ∃ u : Nat, n = -(u : Int) := ⟨n.natAbs, by omega⟩
    have hu : u ≤ maxU true := by show u ≤ 9223372036854775808; omega
    rw [hun, Lib.itoa_neg u (by omega), ← hun] at hit
    obtain ⟨S, hS⟩ : ∃ S : ByteArray, ⟨(45 :: Lib.decDigits u).toArray⟩ = S := ⟨_, rfl⟩
    rw [hS] at hit
    have sd : S.data.toList = 45 :: Lib.decDigits u := by rw [← hS]
    have ss : S.size = (Lib.decDigits u).length + 1 := by rw [Lib.size_eq, sd]; rfl
    have hsl : ∀ W : World, (Instr.slice 9 (.string S) (some (.int .i64 1)) none none).run Tryd.prog W = .ok (.string (S.extract 1 S.size)) W := fun W => by
      have h := run_slice_string_l (P := Tryd.prog) W 9 S Tryd.underlying9 .i64 1 (by omega) (by omega)
      exact h
    have ed : (S.extract 1 S.size).data.toList = digs 0 u := by
      rw [Lib.extract_data, sd, ss]
      simp [digs]
    obtain ⟨S1, hS1⟩ : ∃ S1, S.extract 1 S.size = S1 := ⟨_, rfl⟩
    rw [hS1] at hsl ed
    have hsg : sgnI true u = n := by rw [hun]; rfl
    have hfit : u ≤ 922337203685477580 ↔ (n ≤ 922337203685477580 ∧ -922337203685477580 ≤ n) := by omega
    have HIT := hid hit
    have HD0 := hid ed
    have HU := hid (And.intro hu (And.intro hsg hfit))
    have hul : u < 100000000000000000000 := by omega
    have HUL := hid hul
    clear hit hS sd ss hS1 ed hun hu hsg hfit hul h0 h1
    go_enter Tryd.func3, Tryd.ntmps3
    go_wp2_with (go_at_call 4; refine HIT.out.mono ?_; rintro e w1 ⟨rfl, hc1⟩; have HC1 := hid hc1; clear hc1)
    go_loopw [5, 7] (fun vs vi wr => ∃ (k : Nat) (S : ByteArray), k ≤ q ∧ vs = .string S ∧ vi = .int .i64 k ∧ Hid (S.data.toList = digs k u) ∧ wr = w1) (fun _ vi _ => q - (intOf vi).toNat)
    case atStart => exact ⟨0, S1, Nat.zero_le _, rfl, rfl, HD0, rfl⟩
    case round =>
      obtain ⟨k, S, hk, rfl, rfl, hS, rfl⟩ := hrel
      have hdl := digs_len k u HUL.out
      have hsz : S.size = (digs k u).length := by rw [Lib.size_eq, hS.out]
      by_cases hlt : k < q
      · have z1 : (k : Int) < (q : Int) := by omega
        have nx2 : ¬ 9223372036854775807 < 1 + S.size := by omega
        have HN : Hid ((⟨#[48]⟩ ++ S).data.toList = digs (k + 1) u) := hid (by rw [cat_data, hS.out]; rfl)
        clear hdl hsz
        go_wp2
        go_roundw
        case rel => exact ⟨k + 1, _, by omega, rfl, by go_num, HN, by first | rfl | trivial⟩
        case measure => simp [intOf]; omega
      · obtain rfl : k = q := by omega
        obtain ⟨⟨q1, hA⟩, hC, hE⟩ := dec_scan true k u HU.out.1
        rw [HU.out.2.1] at hA
        have gd : (⟨#[45]⟩ : ByteArray).data.toList = sgnL true := rfl
        have gs : (⟨#[45]⟩ : ByteArray).size = 1 := rfl
        have dA : (⟨#[45]⟩ ++ S).data.toList = sgnL true ++ digs k u := by rw [cat_data, hS.out, gd]
        have dC : (⟨#[45]⟩ ++ S ++ ⟨#[95]⟩).data.toList = sgnL true ++ digs k u ++ [95] := by rw [cat_data, dA]
        have dE : (⟨#[45]⟩ ++ S ++ ⟨#[48]⟩).data.toList = sgnL true ++ digs k u ++ [48] := by rw [cat_data, dA]
        have s1 : (⟨#[95]⟩ : ByteArray).size = 1 := rfl
        have s2 : (⟨#[48]⟩ : ByteArray).size = 1 := rfl
        have tA := tok_num dA (by rw [cat_size]; omega) hA
        have tC := tok_bad dC (by rw [cat_size, cat_size]; omega) hC
        obtain ⟨G, hG⟩ : ∃ G : ByteArray, G = ⟨#[45]⟩ := ⟨_, rfl⟩
        have ny1 : ¬ 9223372036854775807 < 1 + S.size := by omega
        have ny2 : ¬ 9223372036854775807 < 1 + S.size + 1 := by omega
        have ny3 : ¬ 9223372036854775807 < S.size + 1 := by omega
        have ny4 : ¬ 9223372036854775807 < S.size := by omega
        have hEt : (decide (n ≤ 922337203685477580) = true ∧ decide (-922337203685477580 ≤ n) = true ∧ n ≤ 922337203685477580 ∧ -922337203685477580 ≤ n ∧ ∀ u : World, Calls Tryd.prog 5 #[.string (⟨#[45]⟩ ++ S ++ ⟨#[48]⟩)] u fun e w' => ∃ a c, e = .returned (.tuple #[.slice a 2 c, .agg #[.int .i64 0, .int .i64 0, .int .i64 0]]) ∧ Chg [] u w') ∨
            ((922337203685477580 < n ∨ (n ≤ 922337203685477580 ∧ n < -922337203685477580)) ∧ ∀ u : World, Calls Tryd.prog 5 #[.string (⟨#[45]⟩ ++ S ++ ⟨#[48]⟩)] u fun e w' => ∃ a c, e = .returned (.tuple #[.slice a 0 c, .agg #[.int .i64 71, .int .i64 1, .int .i64 1]]) ∧ Chg [] u w') := by
          rcases hE with ⟨h5, v, q2, h6⟩ | ⟨h5, h6⟩
          · have h7 := HU.out.2.2.1 h5
            exact .inl ⟨by simpa using h7.1, by simpa using h7.2, h7.1, h7.2, fun u => (tok_num dE (by rw [cat_size, cat_size]; omega) h6 u).mono fun e w' ⟨b, off, cap, he, hc, _⟩ => ⟨_, _, he, hc⟩⟩
          · have h7 : ¬ (n ≤ 922337203685477580 ∧ -922337203685477580 ≤ n) := fun h => by have := HU.out.2.2.2 h; omega
            exact .inr ⟨by omega, fun u => tok_bad dE (by rw [cat_size, cat_size]; omega) h6 u⟩
        have TA := hid tA
        have TC := hid tC
        clear hA hC hE gd gs dA dC dE s1 s2 tA tC hdl hsz G hG
        have fault0 : ∀ u : World, (u.alloc (.cells #[.int .i64 0, .int .i64 0, .int .i64 0] 28)).cell? ⟨u.heap.size, 0, none⟩ = some (.int .i64 0) := fun u => by simp
        have F0 := hid fault0
        clear fault0
        rcases hEt with ⟨e1, e2, e3, e4, tE⟩ | ⟨hbad, tE⟩
        · have TE := hid tE
          clear tE
          go_wp2_with (go_at_call 5; (with_reducible refine (TA.out _).mono ?_); rintro e w2 ⟨b2, o2, cap2, rfl, hc2, k0, k2⟩; refine halt (fun X hX => ?_))
          rw [hX.out]; clear hX
          have HC2 := hid (HC1.out.trans' hc2)
          have a0 := fun o => ((Chg.refl [] w2).alloc o).cell k0 (by simp)
          have a2 := fun o => ((Chg.refl [] w2).alloc o).cell k2 (by simp)
          have KEEP2 := hid (And.intro a0 a2)
          clear k0 k2 hc2 a0 a2
          go_wp2_with (first
            | (go_at_call 6; refine (HFM.out _ (HTZ.out.keep (HC2.out.alloc _))).mono ?_; rintro e w3 ⟨rfl, hc3⟩; have HC3 := hid hc3; clear hc3)
            | (go_at_call 5; (with_reducible refine (HTX.out _).mono ?_); rintro e w4 ⟨b4, o4, cap4, rfl, hc4, m0, m2⟩; refine halt (fun X hX => ?_)))
          rw [hX.out]; clear hX
          have HC4 := hid (((HC2.out.alloc _).trans' HC3.out).trans' hc4)
          have b0 := fun o => ((Chg.refl [] w4).alloc o).cell (hc4.cell (HC3.out.cell (KEEP2.out.1 _) (by simp)) (by simp)) (by simp)
          have b2' := fun o => ((Chg.refl [] w4).alloc o).cell (hc4.cell (HC3.out.cell (KEEP2.out.2 _) (by simp)) (by simp)) (by simp)
          have bc := fun o => ((Chg.refl [] w4).alloc o).cell (hc4.cell (HC3.out.cell (F0.out w2) (by simp)) (by simp)) (by simp)
          have d2 := fun o => ((Chg.refl [] w4).alloc o).cell m2 (by simp)
          have KEEP4 := hid (And.intro b0 (And.intro b2' (And.intro bc d2)))
          clear m0 m2 hc4 b0 b2' bc d2
          go_wp2_with (go_at_call 5; (with_reducible refine (TC.out _).mono ?_); rintro e w5 ⟨ao5, cap5, rfl, hc5⟩; refine halt (fun X hX => ?_))
          rw [hX.out]; clear hX
          have HC5 := hid ((HC4.out.alloc _).trans' hc5)
          have x0 := fun o => ((Chg.refl [] w5).alloc o).cell (hc5.cell (KEEP4.out.1 _) (by simp)) (by simp)
          have x2 := fun o => ((Chg.refl [] w5).alloc o).cell (hc5.cell (KEEP4.out.2.1 _) (by simp)) (by simp)
          have xc := fun o => ((Chg.refl [] w5).alloc o).cell (hc5.cell (KEEP4.out.2.2.1 _) (by simp)) (by simp)
          have y2 := fun o => ((Chg.refl [] w5).alloc o).cell (hc5.cell (KEEP4.out.2.2.2 _) (by simp)) (by simp)
          have yc := fun o => ((Chg.refl [] w5).alloc o).cell (hc5.cell (F0.out w4) (by simp)) (by simp)
          clear hc5 nx1 ny1 hWU
          go_wp2_with (first
            | (go_at_call 5; (with_reducible refine (TE.out _).mono ?_); rintro e w6 ⟨a6, cap6, rfl, hc6⟩; have HC6 := hid ((HC5.out.alloc _).trans' hc6))
            | (go_at_call 7; refine (HK.out _).mono ?_; rintro e w7 ⟨rfl, hc7⟩))
          go_ret
          exact ⟨by first | rfl | exact ret_boolN (by simp; omega), (HC6.out.alloc _).trans' hc7⟩
        · have TE := hid tE
          clear tE
          obtain ⟨e3, e4⟩ : n ≤ 922337203685477580 ∧ n < -922337203685477580 := by omega
          · go_wp2_with (go_at_call 5; (with_reducible refine (TA.out _).mono ?_); rintro e w2 ⟨b2, o2, cap2, rfl, hc2, k0, k2⟩; refine halt (fun X hX => ?_))
            rw [hX.out]; clear hX
            have HC2 := hid (HC1.out.trans' hc2)
            have a0 := fun o => ((Chg.refl [] w2).alloc o).cell k0 (by simp)
            have a2 := fun o => ((Chg.refl [] w2).alloc o).cell k2 (by simp)
            have KEEP2 := hid (And.intro a0 a2)
            clear k0 k2 hc2 a0 a2
            go_wp2_with (first
              | (go_at_call 6; refine (HFM.out _ (HTZ.out.keep (HC2.out.alloc _))).mono ?_; rintro e w3 ⟨rfl, hc3⟩; have HC3 := hid hc3; clear hc3)
              | (go_at_call 5; (with_reducible refine (HTX.out _).mono ?_); rintro e w4 ⟨b4, o4, cap4, rfl, hc4, m0, m2⟩; refine halt (fun X hX => ?_)))
            rw [hX.out]; clear hX
            have HC4 := hid (((HC2.out.alloc _).trans' HC3.out).trans' hc4)
            have b0 := fun o => ((Chg.refl [] w4).alloc o).cell (hc4.cell (HC3.out.cell (KEEP2.out.1 _) (by simp)) (by simp)) (by simp)
            have b2' := fun o => ((Chg.refl [] w4).alloc o).cell (hc4.cell (HC3.out.cell (KEEP2.out.2 _) (by simp)) (by simp)) (by simp)
            have bc := fun o => ((Chg.refl [] w4).alloc o).cell (hc4.cell (HC3.out.cell (F0.out w2) (by simp)) (by simp)) (by simp)
            have d2 := fun o => ((Chg.refl [] w4).alloc o).cell m2 (by simp)
            have KEEP4 := hid (And.intro b0 (And.intro b2' (And.intro bc d2)))
            clear m0 m2 hc4 b0 b2' bc d2
            go_wp2_with (go_at_call 5; (with_reducible refine (TC.out _).mono ?_); rintro e w5 ⟨ao5, cap5, rfl, hc5⟩; refine halt (fun X hX => ?_))
            rw [hX.out]; clear hX
            have HC5 := hid ((HC4.out.alloc _).trans' hc5)
            have x0 := fun o => ((Chg.refl [] w5).alloc o).cell (hc5.cell (KEEP4.out.1 _) (by simp)) (by simp)
            have x2 := fun o => ((Chg.refl [] w5).alloc o).cell (hc5.cell (KEEP4.out.2.1 _) (by simp)) (by simp)
            have xc := fun o => ((Chg.refl [] w5).alloc o).cell (hc5.cell (KEEP4.out.2.2.1 _) (by simp)) (by simp)
            have y2 := fun o => ((Chg.refl [] w5).alloc o).cell (hc5.cell (KEEP4.out.2.2.2 _) (by simp)) (by simp)
            have yc := fun o => ((Chg.refl [] w5).alloc o).cell (hc5.cell (F0.out w4) (by simp)) (by simp)
            clear hc5 nx1 ny1 hWU
            go_wp2_with (first
              | (go_at_call 5; (with_reducible refine (TE.out _).mono ?_); rintro e w6 ⟨a6, cap6, rfl, hc6⟩; have HC6 := hid ((HC5.out.alloc _).trans' hc6))
              | (go_at_call 7; refine (HK.out _).mono ?_; rintro e w7 ⟨rfl, hc7⟩))
            go_ret
            exact ⟨by first | rfl | exact ret_boolN (by simp; omega), (HC6.out.alloc _).trans' hc7⟩
  · obtain ⟨u, hun⟩ : ∃ u : Nat, n = (u : Int) := ⟨n.natAbs, by omega⟩
    have hu : u ≤ maxU false := by show u ≤ 9223372036854775807; omega
    rw [hun, Lib.itoa_nonneg u, ← hun] at hit
    obtain ⟨S1, hS⟩ : ∃ S : ByteArray, ⟨(Lib.decDigits u).toArray⟩ = S := ⟨_, rfl⟩
    rw [hS] at hit
    have ed : S1.data.toList = digs 0 u := by rw [← hS]; simp [digs]
    have hsg : sgnI false u = n := by rw [hun]; rfl
    have hfit : u ≤ 922337203685477580 ↔ (n ≤ 922337203685477580 ∧ -922337203685477580 ≤ n) := by omega
    have HIT := hid hit
    have HD0 := hid ed
    have HU := hid (And.intro hu (And.intro hsg hfit))
    have hul : u < 100000000000000000000 := by omega
    have HUL := hid hul
    clear hit hS ed hun hu hsg hfit hul h0 h1
    go_enter Tryd.func3, Tryd.ntmps3
    go_wp2_with (go_at_call 4; refine HIT.out.mono ?_; rintro e w1 ⟨rfl, hc1⟩; have HC1 := hid hc1; clear hc1)
    go_loopw [5, 7] (fun vs vi wr => ∃ (k : Nat) (S : ByteArray), k ≤ q ∧ vs = .string S ∧ vi = .int .i64 k ∧ Hid (S.data.toList = digs k u) ∧ wr = w1) (fun _ vi _ => q - (intOf vi).toNat)
    case atStart => exact ⟨0, S1, Nat.zero_le _, rfl, rfl, HD0, rfl⟩
    case round =>
      obtain ⟨k, S, hk, rfl, rfl, hS, rfl⟩ := hrel
      have hdl := digs_len k u HUL.out
      have hsz : S.size = (digs k u).length := by rw [Lib.size_eq, hS.out]
      by_cases hlt : k < q
      · have z1 : (k : Int) < (q : Int) := by omega
        have nx2 : ¬ 9223372036854775807 < 1 + S.size := by omega
        have HN : Hid ((⟨#[48]⟩ ++ S).data.toList = digs (k + 1) u) := hid (by rw [cat_data, hS.out]; rfl)
        clear hdl hsz
        go_wp2
        go_roundw
        case rel => exact ⟨k + 1, _, by omega, rfl, by go_num, HN, by first | rfl | trivial⟩
        case measure => simp [intOf]; omega
      · obtain rfl : k = q := by omega
        obtain ⟨⟨q1, hA⟩, hC, hE⟩ := dec_scan false k u HU.out.1
        rw [HU.out.2.1] at hA
        have gd : (⟨#[]⟩ : ByteArray).data.toList = sgnL false := rfl
        have gs : (⟨#[]⟩ : ByteArray).size = 0 := rfl
        have dA : (⟨#[]⟩ ++ S).data.toList = sgnL false ++ digs k u := by rw [cat_data, hS.out, gd]
        have dC : (⟨#[]⟩ ++ S ++ ⟨#[95]⟩).data.toList = sgnL false ++ digs k u ++ [95] := by rw [cat_data, dA]
        have dE : (⟨#[]⟩ ++ S ++ ⟨#[48]⟩).data.toList = sgnL false ++ digs k u ++ [48] := by rw [cat_data, dA]
        have s1 : (⟨#[95]⟩ : ByteArray).size = 1 := rfl
        have s2 : (⟨#[48]⟩ : ByteArray).size = 1 := rfl
        have tA := tok_num dA (by rw [cat_size]; omega) hA
        have tC := tok_bad dC (by rw [cat_size, cat_size]; omega) hC
        obtain ⟨G, hG⟩ : ∃ G : ByteArray, G = ⟨#[]⟩ := ⟨_, rfl⟩
        have ny1 : ¬ 9223372036854775807 < 0 + S.size := by omega
        have ny2 : ¬ 9223372036854775807 < 0 + S.size + 1 := by omega
        have ny3 : ¬ 9223372036854775807 < S.size + 1 := by omega
        have ny4 : ¬ 9223372036854775807 < S.size := by omega
        have hEt : (decide (n ≤ 922337203685477580) = true ∧ decide (-922337203685477580 ≤ n) = true ∧ n ≤ 922337203685477580 ∧ -922337203685477580 ≤ n ∧ ∀ u : World, Calls Tryd.prog 5 #[.string (⟨#[]⟩ ++ S ++ ⟨#[48]⟩)] u fun e w' => ∃ a c, e = .returned (.tuple #[.slice a 2 c, .agg #[.int .i64 0, .int .i64 0, .int .i64 0]]) ∧ Chg [] u w') ∨
            ((922337203685477580 < n ∨ (n ≤ 922337203685477580 ∧ n < -922337203685477580)) ∧ ∀ u : World, Calls Tryd.prog 5 #[.string (⟨#[]⟩ ++ S ++ ⟨#[48]⟩)] u fun e w' => ∃ a c, e = .returned (.tuple #[.slice a 0 c, .agg #[.int .i64 71, .int .i64 1, .int .i64 1]]) ∧ Chg [] u w') := by
          rcases hE with ⟨h5, v, q2, h6⟩ | ⟨h5, h6⟩
          · have h7 := HU.out.2.2.1 h5
            exact .inl ⟨by simpa using h7.1, by simpa using h7.2, h7.1, h7.2, fun u => (tok_num dE (by rw [cat_size, cat_size]; omega) h6 u).mono fun e w' ⟨b, off, cap, he, hc, _⟩ => ⟨_, _, he, hc⟩⟩
          · have h7 : ¬ (n ≤ 922337203685477580 ∧ -922337203685477580 ≤ n) := fun h => by have := HU.out.2.2.2 h; omega
            exact .inr ⟨by omega, fun u => tok_bad dE (by rw [cat_size, cat_size]; omega) h6 u⟩
        have TA := hid tA
        have TC := hid tC
        clear hA hC hE gd gs dA dC dE s1 s2 tA tC hdl hsz G hG
        have fault0 : ∀ u : World, (u.alloc (.cells #[.int .i64 0, .int .i64 0, .int .i64 0] 28)).cell? ⟨u.heap.size, 0, none⟩ = some (.int .i64 0) := fun u => by simp
        have F0 := hid fault0
        clear fault0
        rcases hEt with ⟨e1, e2, e3, e4, tE⟩ | ⟨hbad, tE⟩
        · have TE := hid tE
          clear tE
          go_wp2_with (go_at_call 5; (with_reducible refine (TA.out _).mono ?_); rintro e w2 ⟨b2, o2, cap2, rfl, hc2, k0, k2⟩; refine halt (fun X hX => ?_))
          rw [hX.out]; clear hX
          have HC2 := hid (HC1.out.trans' hc2)
          have a0 := fun o => ((Chg.refl [] w2).alloc o).cell k0 (by simp)
          have a2 := fun o => ((Chg.refl [] w2).alloc o).cell k2 (by simp)
          have KEEP2 := hid (And.intro a0 a2)
          clear k0 k2 hc2 a0 a2
          go_wp2_with (first
            | (go_at_call 6; refine (HFM.out _ (HTZ.out.keep (HC2.out.alloc _))).mono ?_; rintro e w3 ⟨rfl, hc3⟩; have HC3 := hid hc3; clear hc3)
            | (go_at_call 5; (with_reducible refine (HTX.out _).mono ?_); rintro e w4 ⟨b4, o4, cap4, rfl, hc4, m0, m2⟩; refine halt (fun X hX => ?_)))
          rw [hX.out]; clear hX
          have HC4 := hid (((HC2.out.alloc _).trans' HC3.out).trans' hc4)
          have b0 := fun o => ((Chg.refl [] w4).alloc o).cell (hc4.cell (HC3.out.cell (KEEP2.out.1 _) (by simp)) (by simp)) (by simp)
          have b2' := fun o => ((Chg.refl [] w4).alloc o).cell (hc4.cell (HC3.out.cell (KEEP2.out.2 _) (by simp)) (by simp)) (by simp)
          have bc := fun o => ((Chg.refl [] w4).alloc o).cell (hc4.cell (HC3.out.cell (F0.out w2) (by simp)) (by simp)) (by simp)
          have d2 := fun o => ((Chg.refl [] w4).alloc o).cell m2 (by simp)
          have KEEP4 := hid (And.intro b0 (And.intro b2' (And.intro bc d2)))
          clear m0 m2 hc4 b0 b2' bc d2
          go_wp2_with (go_at_call 5; (with_reducible refine (TC.out _).mono ?_); rintro e w5 ⟨ao5, cap5, rfl, hc5⟩; refine halt (fun X hX => ?_))
          rw [hX.out]; clear hX
          have HC5 := hid ((HC4.out.alloc _).trans' hc5)
          have x0 := fun o => ((Chg.refl [] w5).alloc o).cell (hc5.cell (KEEP4.out.1 _) (by simp)) (by simp)
          have x2 := fun o => ((Chg.refl [] w5).alloc o).cell (hc5.cell (KEEP4.out.2.1 _) (by simp)) (by simp)
          have xc := fun o => ((Chg.refl [] w5).alloc o).cell (hc5.cell (KEEP4.out.2.2.1 _) (by simp)) (by simp)
          have y2 := fun o => ((Chg.refl [] w5).alloc o).cell (hc5.cell (KEEP4.out.2.2.2 _) (by simp)) (by simp)
          have yc := fun o => ((Chg.refl [] w5).alloc o).cell (hc5.cell (F0.out w4) (by simp)) (by simp)
          clear hc5 nx1 ny1 hWU
          go_wp2_with (first
            | (go_at_call 5; (with_reducible refine (TE.out _).mono ?_); rintro e w6 ⟨a6, cap6, rfl, hc6⟩; have HC6 := hid ((HC5.out.alloc _).trans' hc6))
            | (go_at_call 7; refine (HK.out _).mono ?_; rintro e w7 ⟨rfl, hc7⟩))
          go_ret
          exact ⟨by first | rfl | exact ret_boolN (by simp; omega), (HC6.out.alloc _).trans' hc7⟩
        · have TE := hid tE
          clear tE
          have e3 : 922337203685477580 < n := by omega
          · go_wp2_with (go_at_call 5; (with_reducible refine (TA.out _).mono ?_); rintro e w2 ⟨b2, o2, cap2, rfl, hc2, k0, k2⟩; refine halt (fun X hX => ?_))
            rw [hX.out]; clear hX
            have HC2 := hid (HC1.out.trans' hc2)
            have a0 := fun o => ((Chg.refl [] w2).alloc o).cell k0 (by simp)
            have a2 := fun o => ((Chg.refl [] w2).alloc o).cell k2 (by simp)
            have KEEP2 := hid (And.intro a0 a2)
            clear k0 k2 hc2 a0 a2
            go_wp2_with (first
              | (go_at_call 6; refine (HFM.out _ (HTZ.out.keep (HC2.out.alloc _))).mono ?_; rintro e w3 ⟨rfl, hc3⟩; have HC3 := hid hc3; clear hc3)
              | (go_at_call 5; (with_reducible refine (HTX.out _).mono ?_); rintro e w4 ⟨b4, o4, cap4, rfl, hc4, m0, m2⟩; refine halt (fun X hX => ?_)))
            rw [hX.out]; clear hX
            have HC4 := hid (((HC2.out.alloc _).trans' HC3.out).trans' hc4)
            have b0 := fun o => ((Chg.refl [] w4).alloc o).cell (hc4.cell (HC3.out.cell (KEEP2.out.1 _) (by simp)) (by simp)) (by simp)
            have b2' := fun o => ((Chg.refl [] w4).alloc o).cell (hc4.cell (HC3.out.cell (KEEP2.out.2 _) (by simp)) (by simp)) (by simp)
            have bc := fun o => ((Chg.refl [] w4).alloc o).cell (hc4.cell (HC3.out.cell (F0.out w2) (by simp)) (by simp)) (by simp)
            have d2 := fun o => ((Chg.refl [] w4).alloc o).cell m2 (by simp)
            have KEEP4 := hid (And.intro b0 (And.intro b2' (And.intro bc d2)))
            clear m0 m2 hc4 b0 b2' bc d2
            go_wp2_with (go_at_call 5; (with_reducible refine (TC.out _).mono ?_); rintro e w5 ⟨ao5, cap5, rfl, hc5⟩; refine halt (fun X hX => ?_))
            rw [hX.out]; clear hX
            have HC5 := hid ((HC4.out.alloc _).trans' hc5)
            have x0 := fun o => ((Chg.refl [] w5).alloc o).cell (hc5.cell (KEEP4.out.1 _) (by simp)) (by simp)
            have x2 := fun o => ((Chg.refl [] w5).alloc o).cell (hc5.cell (KEEP4.out.2.1 _) (by simp)) (by simp)
            have xc := fun o => ((Chg.refl [] w5).alloc o).cell (hc5.cell (KEEP4.out.2.2.1 _) (by simp)) (by simp)
            have y2 := fun o => ((Chg.refl [] w5).alloc o).cell (hc5.cell (KEEP4.out.2.2.2 _) (by simp)) (by simp)
            have yc := fun o => ((Chg.refl [] w5).alloc o).cell (hc5.cell (F0.out w4) (by simp)) (by simp)
            clear hc5 nx1 ny1 hWU
            go_wp2_with (first
              | (go_at_call 5; (with_reducible refine (TE.out _).mono ?_); rintro e w6 ⟨a6, cap6, rfl, hc6⟩; have HC6 := hid ((HC5.out.alloc _).trans' hc6))
              | (go_at_call 7; refine (HK.out _).mono ?_; rintro e w7 ⟨rfl, hc7⟩))
            go_ret
            exact ⟨by first | rfl | exact ret_boolN (by simp; omega), (HC6.out.alloc _).trans' hc7⟩
end Go.Proofs.YtppijmpdoejdmaaDoor
