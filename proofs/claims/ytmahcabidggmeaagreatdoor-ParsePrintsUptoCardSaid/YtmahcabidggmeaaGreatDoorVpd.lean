/- Walks of the parser: words, names. -/
import Derived.Test.YtmahcabidggmeaaGreatDoorVpo
set_option linter.unusedVariables false
set_option linter.unusedSectionVars false
set_option linter.unusedSimpArgs false
namespace Go.Proofs.YtmahcabidggmeaaGreatDoor
open Go.RowKit Go.AB
set_option linter.unusedSimpArgs false
set_option linter.unusedVariables false
set_option linter.unusedSectionVars false

theorem starts_calls (w : World) : Calls Tryz.prog 44 #[] w fun e w' => ∃ b, e = .returned (.slice (some ⟨b, 0, none⟩) 6 6) ∧ (∀ j, j < startsL.length → w'.cell? ⟨b, 0 + j, none⟩ = some (.string (startsL.getD j ByteArray.empty))) ∧ Chg [] w w' := by
  have hc := (Chg.refl [] w).alloc (.cells #[.string ⟨#[]⟩, .string ⟨#[118, 97, 114]⟩, .string ⟨#[118, 111, 108]⟩, .string ⟨#[109, 117, 116, 101, 120]⟩, .string ⟨#[103, 97, 116, 101]⟩, .string ⟨#[116, 104, 114, 101, 97, 100]⟩] 9)
  have hb := heap_alloc_new w (.cells #[.string ⟨#[]⟩, .string ⟨#[118, 97, 114]⟩, .string ⟨#[118, 111, 108]⟩, .string ⟨#[109, 117, 116, 101, 120]⟩, .string ⟨#[103, 97, 116, 101]⟩, .string ⟨#[116, 104, 114, 101, 97, 100]⟩] 9)
  have HB := hid hb
  clear hb
  go_enter Tryz.func44, Tryz.ntmps44
  go_wp2
  go_ret
  refine ⟨_, rfl, fun j hj => ?_, hc⟩
  rw [Nat.zero_add, blk_cell HB.out]
  have : j = 0 ∨ j = 1 ∨ j = 2 ∨ j = 3 ∨ j = 4 ∨ j = 5 := by simp only [startsL, kindTab, List.length_cons, List.length_map, List.length_nil] at hj; omega
  rcases this with rfl | rfl | rfl | rfl | rfl | rfl <;> rfl
theorem bA_emp {L : List UInt8} (h : L ≠ []) : (bA L).toList.isEmpty = false := by
  rw [bA_toList]
  cases L with
  | nil => exact absurd rfl h
  | cons c r => rfl
theorem wordL_nil : wordL [] = false := by decide +kernel
set_option maxHeartbeats 4000000 in
set_option maxRecDepth 100000 in
theorem word_calls (L : List UInt8) (hL : L.length ≤ 1048576) (w : World) (hv : VarsP w) :
    Calls Tryz.prog 77 #[.string (bA L)] w fun e w' => e = .returned (.bool (wordL L)) ∧ Chg [] w w' := by
  by_cases h0 : L = []
  · subst h0
    have he : (bA []).toList.isEmpty = true := by rw [bA_toList]; rfl
    rw [wordL_nil]
    go_enter Tryz.func77, Tryz.ntmps77
    go_wp2
    go_ret
    exact ⟨rfl, Chg.refl _ _⟩
  have he := bA_emp h0
  have HO := hid fun W => op_calls (bA L) W
  rw [show (bA L).data.toList = L from rfl] at HO
  have HR := hid fun W (hc : Chg [] w W) => register_calls L hL W (hv.keep hc)
  have hw : wordL L = (decide (opL L ≠ 0) || decide (0 ≤ regL L) || decide (kindL L ≠ 0)) := rfl
  have hk := starts_mem h0
  have HC := hid fun (b : Nat) W hcells => Tryz.slices_Contains_string b 0 6 6 startsL (bA L) W (by decide) (by omega) hcells
  rw [hk] at HC
  obtain ⟨n, hn⟩ : ∃ n, opL L = n := ⟨_, rfl⟩
  obtain ⟨r, hr⟩ : ∃ r, regL L = r := ⟨_, rfl⟩
  obtain ⟨kb, hkb⟩ : ∃ kb, decide (kindL L ≠ 0) = kb := ⟨_, rfl⟩
  rw [hw, hn, hr, hkb]
  rw [hn] at HO
  rw [hr] at HR
  rw [hkb] at HC
  clear hn hr hkb hk hw hL hv h0
  by_cases h1 : n = 0
  · subst h1
    by_cases h2 : 0 ≤ r
    · have t2 : decide (0 ≤ r) = true := decide_eq_true h2
      rw [t2]
      go_enter Tryz.func77, Tryz.ntmps77
      go_wp2_with (first
        | (go_at_call 42; refine (HO.out _).mono ?_; rintro e w1 ⟨rfl, hc1⟩)
        | (go_at_call 74; refine (HR.out _ hc1).mono ?_; rintro e w2 ⟨rfl, hc2⟩))
      go_ret
      exact ⟨ret_bool (by simp), hc1.trans' hc2⟩
    · have t2 : decide (0 ≤ r) = false := decide_eq_false h2
      rw [t2]
      go_enter Tryz.func77, Tryz.ntmps77
      go_wp2_with (first
        | (go_at_call 42; refine (HO.out _).mono ?_; rintro e w1 ⟨rfl, hc1⟩)
        | (go_at_call 74; refine (HR.out _ hc1).mono ?_; rintro e w2 ⟨rfl, hc2⟩)
        | (go_at_call 44; refine (starts_calls _).mono ?_; rintro e w3 ⟨b, rfl, hcl, hc3⟩)
        | (go_at_call 97; refine (HC.out _ _ hcl).mono ?_; rintro e w4 ⟨rfl, rfl⟩))
      go_ret
      exact ⟨ret_bool (by simp), (hc1.trans' hc2).trans' hc3⟩
  · have t1 : ((n : Int) == 0) = false := by simp; omega
    rw [show decide (n ≠ 0) = true from decide_eq_true h1]
    go_enter Tryz.func77, Tryz.ntmps77
    go_wp2_with (first
      | (go_at_call 42; refine (HO.out _).mono ?_; rintro e w1 ⟨rfl, hc1⟩))
    go_ret
    exact ⟨ret_bool (by simp [t1]), hc1⟩
theorem nameP_eq (L : List UInt8) : nameP L = (nameB (bA L) && !wordL L) := rfl
theorem or_ways (x : UInt8) : ∃ y : Int, bits .or .u8 (x.toNat : Int) 32 = y ∧ ((isLett x = true ∧ decide ((97 : Int) ≤ y) = true ∧ decide (y ≤ 122) = true) ∨ (isLett x = false ∧ decide ((97 : Int) ≤ y) = false) ∨ (isLett x = false ∧ decide ((97 : Int) ≤ y) = true ∧ decide (y ≤ 122) = false)) := by
  have h := x.toNat_lt
  refine ⟨_, or32 x.toNat h, ?_⟩
  have h2 := lett_or x.toNat h
  have h3 : isLett x = lettB x.toNat := rfl
  rw [h3]
  revert h2
  generalize (x.toNat ||| 32) = y
  generalize lettB x.toNat = b
  intro h2
  by_cases h4 : 97 ≤ y
  · by_cases h5 : y ≤ 122
    · have h6 := h2.1 ⟨h4, h5⟩
      exact .inl ⟨h6, decide_eq_true (by omega), decide_eq_true (by omega)⟩
    · exact .inr (.inr ⟨by cases b; rfl; exact absurd (h2.2 rfl).2 h5, decide_eq_true (by omega), decide_eq_false (by omega)⟩)
  · exact .inr (.inl ⟨by cases b; rfl; exact absurd (h2.2 rfl).1 h4, decide_eq_false (by omega)⟩)

set_option maxHeartbeats 4000000 in
set_option maxRecDepth 100000 in
theorem name_calls (L : List UInt8) (hL : L.length ≤ 1048576) (w : World) (hv : VarsP w) :
    Calls Tryz.prog 50 #[.string (bA L)] w fun e w' => e = .returned (.bool (nameP L)) ∧ Chg [] w w' := by
  have HW := hid (word_calls L hL w hv)
  have hsz : (bA L).size = L.length := bA_size L
  rw [nameP_eq]
  obtain ⟨s, hs⟩ : ∃ s, bA L = s := ⟨_, rfl⟩
  obtain ⟨wb, hwb⟩ : ∃ wb, wordL L = wb := ⟨_, rfl⟩
  rw [hs, hwb] at HW ⊢
  rw [hs] at hsz
  have hs1 : s.size ≤ 1048576 := by omega
  have he := isEmpty_size (s := s)
  clear hs hwb hsz hv hL
  by_cases h0 : 0 < s.size
  · rw [decide_eq_false (by omega)] at he
    by_cases h24 : s.size ≤ 24
    · have hg : decide (24 < (s.size : Int)) = false := decide_eq_false (by omega)
      cases wb with
      | true =>
        rw [show (nameB s && !true) = false from by simp]
        go_enter Tryz.func50, Tryz.ntmps50
        go_wp2_with (go_at_call 77; refine HW.out.mono ?_; rintro e w' ⟨rfl, hc⟩)
        go_ret
        exact ⟨rfl, hc⟩
      | false =>
        rw [show (nameB s && !false) = nameB s from by simp]
        go_enter Tryz.func50, Tryz.ntmps50
        go_wp2_with (go_at_call 77; refine HW.out.mono ?_; rintro e w1 ⟨rfl, hc1⟩)
        go_loopw [19] (fun i wr => ∃ k : Nat, k ≤ s.size ∧ i = .int .i64 k ∧ wr = w1 ∧ Hid (NmTo s k ∧ (0 < k → isLett s[0] = true))) (fun i _ => s.size - (intOf i).toNat)
        case atStart => exact ⟨0, by omega, rfl, rfl, hid ⟨fun j _ h => by omega, fun h => by omega⟩⟩
        case round =>
          obtain ⟨k, hk, rfl, hw, HB⟩ := hrel
          subst hw
          by_cases hlt : k < s.size
          · obtain ⟨y, hy, hways⟩ := or_ways (s[k])
            rcases hways with ⟨hl, t1, t2⟩ | hways
            · have HN : Hid (NmTo s (k + 1) ∧ (0 < k + 1 → isLett s[0] = true)) := hid ⟨HB.out.1.succ hlt (by unfold isNameC; rw [hl]; rfl), fun _ => by
                by_cases e : k = 0
                · subst e; exact hl
                · exact HB.out.2 (by omega)⟩
              clear hl
              go_wp2
              go_roundw
              case rel => exact ⟨k + 1, by omega, by go_num, by trivial, HN⟩
              case measure => simp [intOf]; omega
            · have hl : isLett s[k] = false := by rcases hways with h | h <;> exact h.1
              by_cases hk0 : k = 0
              · subst hk0
                have HN := hid (nameB_head h0 hl)
                clear hl
                rcases hways with ⟨_, t1⟩ | ⟨_, t1, t2⟩
                · go_wp2
                  go_ret
                  exact ⟨ret_bool HN.out.symm, hc1⟩
                · go_wp2
                  go_ret
                  exact ⟨ret_bool HN.out.symm, hc1⟩
              · have t0 : ((k : Int) == 0) = false := by simp; omega
                have hways2 := nameC_ways (s[k]) hl
                clear hl
                rcases hways2 with ⟨hn, t3⟩ | ⟨hn, t3, t4, t5⟩ | ⟨hn, t3, t4⟩ | ⟨hn, t3, t4, t5⟩
                · have HN : Hid (NmTo s (k + 1) ∧ (0 < k + 1 → isLett s[0] = true)) := hid ⟨HB.out.1.succ hlt hn, fun _ => HB.out.2 (by omega)⟩
                  clear hn
                  rcases hways with ⟨_, t1⟩ | ⟨_, t1, t2⟩
                  all_goals
                    go_wp2
                    go_roundw
                    case rel => exact ⟨k + 1, by omega, by go_num, by trivial, HN⟩
                    case measure => simp [intOf]; omega
                · have HN : Hid (NmTo s (k + 1) ∧ (0 < k + 1 → isLett s[0] = true)) := hid ⟨HB.out.1.succ hlt hn, fun _ => HB.out.2 (by omega)⟩
                  clear hn
                  rcases hways with ⟨_, t1⟩ | ⟨_, t1, t2⟩
                  all_goals
                    go_wp2
                    go_roundw
                    case rel => exact ⟨k + 1, by omega, by go_num, by trivial, HN⟩
                    case measure => simp [intOf]; omega
                · have HN := hid (nameB_no hlt hn)
                  clear hn
                  rcases hways with ⟨_, t1⟩ | ⟨_, t1, t2⟩
                  all_goals
                    go_wp2
                    go_ret
                    exact ⟨ret_bool HN.out.symm, hc1⟩
                · have HN := hid (nameB_no hlt hn)
                  clear hn
                  rcases hways with ⟨_, t1⟩ | ⟨_, t1, t2⟩
                  all_goals
                    go_wp2
                    go_ret
                    exact ⟨ret_bool HN.out.symm, hc1⟩
          · have HN : Hid (nameB s = true) := hid ((nameB_iff s).2 ⟨h0, h24, HB.out.2 (by omega), fun j hj => HB.out.1 j hj (by omega)⟩)
            go_wp2
            go_ret
            exact ⟨ret_bool HN.out.symm, hc1⟩
    · have hg : decide (24 < (s.size : Int)) = true := decide_eq_true (by omega)
      rw [nameB_long h24]
      go_enter Tryz.func50, Tryz.ntmps50
      go_wp2
      go_ret
      exact ⟨rfl, Chg.refl _ _⟩
  · rw [decide_eq_true (by omega)] at he
    rw [nameB_empty h0]
    go_enter Tryz.func50, Tryz.ntmps50
    go_wp2
    go_ret
    exact ⟨rfl, Chg.refl _ _⟩
end Go.Proofs.YtmahcabidggmeaaGreatDoor
