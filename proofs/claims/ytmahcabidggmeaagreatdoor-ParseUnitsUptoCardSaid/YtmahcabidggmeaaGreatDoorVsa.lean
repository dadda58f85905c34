/- Walks of the reference: words, names, operations, forms. -/
import Derived.Test.YtmahcabidggmeaaGreatDoorVyz
set_option linter.unusedVariables false
set_option linter.unusedSectionVars false
set_option linter.unusedSimpArgs false
namespace Go.AB
open Go.RowKit
def rowsV : List Value := opTab.flatMap fun p => [.string (bA p.1), .string (bA p.2)]
theorem kindL_at : ∀ i : Fin 5, kindL ((kindTab[i.val]?).getD []) = i.val + 1 := by decide +kernel
theorem kindL_none {s : List UInt8} (h : ∀ x ∈ kindTab, x ≠ s) : kindL s = 0 := idx_none h
end Go.AB
namespace Go.Proofs.YtmahcabidggmeaaGreatDoor
open Go.RowKit Go.AB
set_option linter.unusedSimpArgs false
set_option linter.unusedVariables false
set_option linter.unusedSectionVars false

theorem rows_at (i : Nat) (h : i < 20) : rowsV.toArray[i * 2]? = some (.string (bA (wordAt ((i : Int) + 1)))) ∧ rowsV.toArray[i * 2 + 1]? = some (.string (bA (formAt ((i : Int) + 1)))) := by
  rcases (by omega : i = 0 ∨ i = 1 ∨ i = 2 ∨ i = 3 ∨ i = 4 ∨ i = 5 ∨ i = 6 ∨ i = 7 ∨ i = 8 ∨ i = 9 ∨ i = 10 ∨ i = 11 ∨ i = 12 ∨ i = 13 ∨ i = 14 ∨ i = 15 ∨ i = 16 ∨ i = 17 ∨ i = 18 ∨ i = 19) with rfl | rfl | rfl | rfl | rfl | rfl | rfl | rfl | rfl | rfl | rfl | rfl | rfl | rfl | rfl | rfl | rfl | rfl | rfl | rfl <;> exact ⟨rfl, rfl⟩
set_option maxHeartbeats 8000000 in
set_option maxRecDepth 100000 in
theorem rows_calls (w : World) : Calls Tryz.prog 61 #[] w fun e w' => ∃ b, e = .returned (.slice (some ⟨b, 0, none⟩) 20 20) ∧ (∀ i : Nat, i < 20 → w'.cell? ⟨b, i * 2, none⟩ = some (.string (bA (wordAt ((i : Int) + 1)))) ∧ w'.cell? ⟨b, i * 2 + 1, none⟩ = some (.string (bA (formAt ((i : Int) + 1))))) ∧ Chg [] w w' := by
  have hT : ∀ T, Chg [] w (w.alloc (.cells rowsV.toArray T)) := fun T => (Chg.refl [] w).alloc _
  have hc : ∀ T (i : Nat), (w.alloc (.cells rowsV.toArray T)).cell? ⟨w.heap.size, i, none⟩ = rowsV.toArray[i]? := fun T i => blk_cell (heap_alloc_new w _) i
  have HT := hid hT
  have HC := hid hc
  clear hT hc
  go_enter Tryz.func61, Tryz.ntmps61
  go_wp2
  go_ret
  exact ⟨_, rfl, fun i hi => ⟨(HC.out _ _).trans (rows_at i hi).1, (HC.out _ _).trans (rows_at i hi).2⟩, HT.out _⟩

set_option maxHeartbeats 8000000 in
set_option maxRecDepth 100000 in
theorem r_form_calls (op : Int) (h0 : -9223372036854775808 ≤ op) (h1 : op ≤ 9223372036854775807) (w : World) : Calls Tryz.prog 56 #[.int .i64 op] w (FormP op w) := by
  by_cases hin : 1 ≤ op ∧ op ≤ 20
  · obtain ⟨i, rfl⟩ : ∃ i : Nat, op = (i : Int) + 1 := ⟨(op - 1).toNat, by omega⟩
    have hi : i < 20 := by omega
    clear h0 h1
    obtain ⟨W, hW⟩ : ∃ W, bA (wordAt ((i : Int) + 1)) = W := ⟨_, rfl⟩
    obtain ⟨F, hF⟩ : ∃ F, bA (formAt ((i : Int) + 1)) = F := ⟨_, rfl⟩
    have HWF := hid (And.intro hW hF)
    have HR := hid (rows_calls w)
    have d1 : decide ((i : Int) + 1 < 1) = false := decide_eq_false (by omega)
    have d2 : decide ((20 : Int) < (i : Int) + 1) = false := decide_eq_false (by omega)
    have e1 : (i : Int) + 1 - 1 = (i : Int) := by omega
    have e2 : (i : Int) < 20 := by omega
    have e3 : (0 : Int) ≤ (i : Int) := by omega
    clear hW hF hin
    go_enter Tryz.func56, Tryz.ntmps56
    go_wp2_with (go_at_call 61; refine HR.out.mono ?_; rintro e w1 ⟨b, rfl, hc, hk⟩; refine halt (fun XX hXX => ?_))
    have c0 := (hc i hi).1
    have c1 := (hc i hi).2
    rw [HWF.out.1] at c0
    rw [HWF.out.2] at c1
    have HK := hid hk
    clear hc hk
    rw [hXX.out]; clear hXX XX
    go_upto_region 4 with fail
    go_quiet (fail)
    go_wp2_with fail
    go_ret2
    exact ⟨by rw [HWF.out.1, HWF.out.2]; rfl, HK.out.drewN _⟩
  · have e1 : bA (wordAt op) = ⟨#[]⟩ := by
      unfold wordAt
      by_cases h : op < 1
      · rw [if_pos h]; rfl
      · rw [if_neg h, List.getElem?_eq_none (by show 20 ≤ _; omega)]; rfl
    have e2 : bA (formAt op) = ⟨#[]⟩ := by
      unfold formAt
      by_cases h : op < 1
      · rw [if_pos h]; rfl
      · rw [if_neg h, List.getElem?_eq_none (by show 20 ≤ _; omega)]; rfl
    have HE := hid (And.intro e1 e2)
    have HR := hid (rows_calls w)
    clear e1 e2
    by_cases h : op < 1
    · have d1 : decide (op < 1) = true := decide_eq_true h
      go_enter Tryz.func56, Tryz.ntmps56
      go_wp2_with (go_at_call 61; refine HR.out.mono ?_; rintro e w1 ⟨b, rfl, hc, hk⟩; clear hc)
      go_ret2
      exact ⟨by rw [HE.out.1, HE.out.2]; rfl, hk⟩
    · have d1 : decide (op < 1) = false := decide_eq_false h
      have d2 : decide ((20 : Int) < op) = true := decide_eq_true (by omega)
      go_enter Tryz.func56, Tryz.ntmps56
      go_wp2_with (go_at_call 61; refine HR.out.mono ?_; rintro e w1 ⟨b, rfl, hc, hk⟩; clear hc)
      go_ret2
      exact ⟨by rw [HE.out.1, HE.out.2]; rfl, hk⟩

set_option maxHeartbeats 8000000 in
set_option maxRecDepth 100000 in
theorem r_op_calls (s : ByteArray) (w : World) : Calls Tryz.prog 33 #[.string s] w fun e w' => e = .returned (.int .i64 (opL s.data.toList)) ∧ Chg [] w w' := by
  have HR := hid (rows_calls w)
  obtain ⟨L, hL⟩ : ∃ L, s.data.toList = L := ⟨_, rfl⟩
  obtain rfl := bA_eq hL
  rw [hL]
  clear hL
  go_enter Tryz.func33, Tryz.ntmps33
  go_wp2_with (go_at_call 61; refine HR.out.mono ?_; rintro e w1 ⟨b, rfl, hc, hk⟩; refine halt (fun XX hXX => ?_))
  have HC := hid (And.intro hc hk)
  clear hc hk
  rw [hXX.out]; clear hXX XX
  go_upto_region 3 with fail
  go_loopg [4] 20 (fun gk v4 wr => ∃ k : Nat, Hid (gk + k = 20) ∧ v4 = .int .i64 k ∧ Hid (Chg [] w1 wr ∧ ∀ i : Nat, i < k → wordAt ((i : Int) + 1) ≠ L))
  case atStart => exact ⟨0, hid (by omega), rfl, hid ⟨Chg.refl _ _, fun i hi => by omega⟩⟩
  case round =>
    obtain ⟨k, HG, rfl, HN⟩ := hrel
    by_cases hlt : k < 20
    · have c0 := HN.out.1.cell (HC.out.1 k hlt).1 (by simp)
      have e2 : (k : Int) < 20 := by omega
      by_cases he : wordAt ((k : Int) + 1) = L
      · have HO : Hid (opL L = k + 1) := hid (by rw [← he]; exact opL_word k hlt)
        have hb : ((bA (wordAt ((k : Int) + 1))).toList == (bA L).toList) = true := by rw [beq_bA]; exact decide_eq_true he
        clear he
        go_wp2
        go_ret
        exact ⟨by rw [HO.out]; rfl, HC.out.2.trans' HN.out.1⟩
      · have hb : ((bA (wordAt ((k : Int) + 1))).toList == (bA L).toList) = false := by rw [beq_bA]; exact decide_eq_false he
        have HN2 : Hid (∀ i : Nat, i < k + 1 → wordAt ((i : Int) + 1) ≠ L) := hid (fun i hi => by
          by_cases e : i = k
          · subst e; exact he
          · exact HN.out.2 i (by omega))
        clear he
        go_wp2_with fail
        go_roundg (gk - 1)
        case measure => have := HG.out; omega
        case rel => exact ⟨k + 1, hid (by have := HG.out; omega), by go_num, hid ⟨HN.out.1, HN2.out⟩⟩
    · obtain rfl : k = 20 := by have := HG.out; omega
      have HO : Hid (opL L = 0) := hid (opL_none HN.out.2)
      go_wp2
      go_ret
      exact ⟨by rw [HO.out]; rfl, HC.out.2.trans' HN.out.1⟩

set_option maxHeartbeats 8000000 in
set_option maxRecDepth 100000 in
theorem r_register_calls (s : ByteArray) (w : World) (hv : VarsP w) : Calls Tryz.prog 90 #[.string s] w fun e w' => e = .returned (.int .i64 (regL s.data.toList)) ∧ Chg [] w w' := by
  have HV := hid hv
  obtain ⟨L, hL⟩ : ∃ L, s.data.toList = L := ⟨_, rfl⟩
  obtain rfl := bA_eq hL
  rw [hL]
  clear hL hv
  go_enter Tryz.func90, Tryz.ntmps90
  go_upto_region 2 with fail
  go_loopg [3] 16 (fun gk v3 wr => ∃ k : Nat, Hid (gk + k = 16) ∧ v3 = .int .i64 k ∧ Hid (Chg [] w wr ∧ ∀ i : Nat, i < k → L ≠ 114 :: Lib.decDigits i))
  case atStart => exact ⟨0, hid (by omega), rfl, hid ⟨Chg.refl _ _, fun i hi => by omega⟩⟩
  case round =>
    obtain ⟨k, HG, rfl, HN⟩ := hrel
    by_cases hlt : k < 16
    · have hit : Lib.itoa (k : Int) = Lib.decDigits k := by simp [Lib.itoa]
      have HI := hid (itoaI_calls (k : Int) (by omega) (by omega) wr (HV.out.keep HN.out.1))
      rw [hit] at HI
      obtain ⟨D, hD⟩ : ∃ D, Lib.decDigits k = D := ⟨_, rfl⟩
      have hDl : D.length ≤ 16 := by rw [← hD]; rcases (by omega : k = 0 ∨ k = 1 ∨ k = 2 ∨ k = 3 ∨ k = 4 ∨ k = 5 ∨ k = 6 ∨ k = 7 ∨ k = 8 ∨ k = 9 ∨ k = 10 ∨ k = 11 ∨ k = 12 ∨ k = 13 ∨ k = 14 ∨ k = 15) with rfl | rfl | rfl | rfl | rfl | rfl | rfl | rfl | rfl | rfl | rfl | rfl | rfl | rfl | rfl | rfl <;> decide +kernel
      rw [hD] at HI
      have hz : (bA D).size ≤ 16 := by rw [bA_size]; exact hDl
      have e0 : (⟨#[114]⟩ : ByteArray) ++ bA D = bA (114 :: D) := by apply ByteArray.ext; simp [bA]
      by_cases he : L = 114 :: D
      · have HO : Hid (regL L = (k : Int)) := hid (by rw [he, ← hD]; exact reg_at k hlt)
        have hb : ((bA L).toList == ((⟨#[114]⟩ : ByteArray) ++ bA D).toList) = true := by rw [e0, beq_bA]; exact decide_eq_true he
        have HH := hid (And.intro hD e0)
        clear he hit hD e0 hDl
        go_wp2_with (go_at_call 28; refine HI.out.mono ?_; rintro e w2 ⟨rfl, hc⟩)
        go_ret
        exact ⟨by rw [HO.out]; rfl, HN.out.1.trans' hc⟩
      · have hb : ((bA L).toList == ((⟨#[114]⟩ : ByteArray) ++ bA D).toList) = false := by rw [e0, beq_bA]; exact decide_eq_false he
        have HN2 : Hid (∀ i : Nat, i < k + 1 → L ≠ 114 :: Lib.decDigits i) := hid (fun i hi => by
          by_cases e : i = k
          · subst e; rw [hD]; exact he
          · exact HN.out.2 i (by omega))
        clear he hit hD e0 hDl
        go_wp2_with (go_at_call 28; refine HI.out.mono ?_; rintro e w2 ⟨rfl, hc⟩)
        go_roundg (gk - 1)
        case measure => have := HG.out; omega
        case rel => exact ⟨k + 1, hid (by have := HG.out; omega), by go_num, hid ⟨HN.out.1.trans' hc, HN2.out⟩⟩
    · obtain rfl : k = 16 := by have := HG.out; omega
      have HO : Hid (regL L = -1) := hid (reg_none HN.out.2)
      go_wp2
      go_ret
      exact ⟨by rw [HO.out]; rfl, HN.out.1⟩

set_option maxHeartbeats 8000000 in
set_option maxRecDepth 100000 in
theorem r_kind_calls (s : ByteArray) (w : World) : Calls Tryz.prog 34 #[.string s] w fun e w' => e = .returned (.int .i64 (kindL s.data.toList)) ∧ Chg [] w w' := by
  obtain ⟨L, hL⟩ : ∃ L, s.data.toList = L := ⟨_, rfl⟩
  obtain rfl := bA_eq hL
  rw [hL]
  clear hL
  have hT : ∀ T, Chg [] w (w.alloc (.cells (kindTab.map fun x => Value.string (bA x)).toArray T)) := fun T => (Chg.refl [] w).alloc _
  have hc : ∀ T (i : Nat) (h : i < 5), (w.alloc (.cells (kindTab.map fun x => Value.string (bA x)).toArray T)).cell? ⟨w.heap.size, i, none⟩ = some (.string (bA ((kindTab[i]?).getD []))) := fun T i h => by
    rw [blk_cell (heap_alloc_new w _) i]
    rcases (by omega : i = 0 ∨ i = 1 ∨ i = 2 ∨ i = 3 ∨ i = 4) with rfl | rfl | rfl | rfl | rfl <;> rfl
  have HC := hid (And.intro hT hc)
  clear hT hc
  go_enter Tryz.func34, Tryz.ntmps34
  go_upto_region 3 with fail
  obtain ⟨w1, hw1⟩ : ∃ w1, w.alloc (.cells (kindTab.map fun x => Value.string (bA x)).toArray 9) = w1 := ⟨_, rfl⟩
  have HC1 := hid (And.intro (HC.out.1 9) (HC.out.2 9))
  rw [hw1] at HC1
  rw [show w.alloc (.cells #[.string ⟨#[118, 97, 114]⟩, .string ⟨#[118, 111, 108]⟩, .string ⟨#[109, 117, 116, 101, 120]⟩, .string ⟨#[103, 97, 116, 101]⟩, .string ⟨#[116, 104, 114, 101, 97, 100]⟩] 9) = w1 from hw1]
  obtain ⟨b, hb⟩ : ∃ b, w.heap.size = b := ⟨_, rfl⟩
  rw [hb] at HC1 ⊢
  clear hw1 hb HC
  go_loopg [4] 5 (fun gk v4 wr => ∃ k : Nat, Hid (gk + k = 5) ∧ v4 = .int .i64 k ∧ Hid (Chg [] w1 wr ∧ ∀ i : Nat, i < k → (kindTab[i]?).getD [] ≠ L))
  case atStart => exact ⟨0, hid (by omega), rfl, hid ⟨Chg.refl _ _, fun i hi => by omega⟩⟩
  case round =>
    obtain ⟨k, HG, rfl, HN⟩ := hrel
    by_cases hlt : k < 5
    · have c0 := HN.out.1.cell (HC1.out.2 k hlt) (by simp)
      have e2 : (k : Int) < 5 := by omega
      obtain ⟨X, hX⟩ : ∃ X, (kindTab[k]?).getD [] = X := ⟨_, rfl⟩
      rw [hX] at c0
      by_cases he : X = L
      · have HO : Hid (kindL L = k + 1) := hid (by rw [← he, ← hX]; exact kindL_at ⟨k, hlt⟩)
        have hb : ((bA X).toList == (bA L).toList) = true := by rw [beq_bA]; exact decide_eq_true he
        clear he hX
        go_wp2
        go_ret
        exact ⟨by rw [HO.out]; rfl, HC1.out.1.trans' HN.out.1⟩
      · have hb : ((bA X).toList == (bA L).toList) = false := by rw [beq_bA]; exact decide_eq_false he
        have HN2 : Hid (∀ i : Nat, i < k + 1 → (kindTab[i]?).getD [] ≠ L) := hid (fun i hi => by
          by_cases e : i = k
          · subst e; rw [hX]; exact he
          · exact HN.out.2 i (by omega))
        clear he hX
        go_wp2_with fail
        go_roundg (gk - 1)
        case measure => have := HG.out; omega
        case rel => exact ⟨k + 1, hid (by have := HG.out; omega), by go_num, hid ⟨HN.out.1, HN2.out⟩⟩
    · obtain rfl : k = 5 := by have := HG.out; omega
      have HO : Hid (kindL L = 0) := hid (kindL_none fun x hx => by
        obtain ⟨i, hi, rfl⟩ := List.mem_iff_getElem.1 hx
        have := HN.out.2 i hi
        rwa [List.getElem?_eq_getElem hi] at this)
      go_wp2
      go_ret
      exact ⟨by rw [HO.out]; rfl, HC1.out.1.trans' HN.out.1⟩
end Go.Proofs.YtmahcabidggmeaaGreatDoor
