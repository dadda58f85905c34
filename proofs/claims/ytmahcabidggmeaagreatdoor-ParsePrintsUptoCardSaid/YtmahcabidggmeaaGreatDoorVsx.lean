/- Joined by join.py out of Vsa, Vsb, Vsc. -/
import Derived.Test.YtmahcabidggmeaaGreatDoorVpy
set_option linter.unusedSimpArgs false
set_option linter.unusedVariables false
set_option linter.unusedSectionVars false

/- Walks of the reference: words, names, operations, forms. -/
set_option linter.unusedVariables false
set_option linter.unusedSectionVars false
set_option linter.unusedSimpArgs false
namespace Go.AB
open Go.RowKit
def rowsV : List Value := opTab.flatMap fun p => [.string (bA p.1), .string (bA p.2)]
theorem kindL_at : ∀ i : Fin 5, kindL ((kindTab[i.val]?).getD []) = i.val + 1 := by decide +kernel
theorem kindL_none {s : List UInt8} (h : ∀ x ∈ kindTab, x ≠ s) : kindL s = 0 := idx_none h
end Go.AB
namespace Go.Proofs.YtmahcabidggmeaaGreatDoor
open Go.RowKit Go.AB
set_option linter.unusedSimpArgs false
set_option linter.unusedVariables false
set_option linter.unusedSectionVars false

theorem rows_at (i : Nat) (h : i < 20) : rowsV.toArray[i * 2]? = some (.string (bA (wordAt ((i : Int) + 1)))) ∧ rowsV.toArray[i * 2 + 1]? = some (.string (bA (formAt ((i : Int) + 1)))) := by
  rcases (by omega : i = 0 ∨ i = 1 ∨ i = 2 ∨ i = 3 ∨ i = 4 ∨ i = 5 ∨ i = 6 ∨ i = 7 ∨ i = 8 ∨ i = 9 ∨ i = 10 ∨ i = 11 ∨ i = 12 ∨ i = 13 ∨ i = 14 ∨ i = 15 ∨ i = 16 ∨ i = 17 ∨ i = 18 ∨ i = 19) with rfl | rfl | rfl | rfl | rfl | rfl | rfl | rfl | rfl | rfl | rfl | rfl | rfl | rfl | rfl | rfl | rfl | rfl | rfl | rfl <;> exact ⟨rfl, rfl⟩
set_option maxHeartbeats 8000000 in
set_option maxRecDepth 100000 in
theorem rows_calls (w : World) : Calls Tryz.prog 61 #[] w fun e w' => ∃ b, e = .returned (.slice (some ⟨b, 0, none⟩) 20 20) ∧ (∀ i : Nat, i < 20 → w'.cell? ⟨b, i * 2, none⟩ = some (.string (bA (wordAt ((i : Int) + 1)))) ∧ w'.cell? ⟨b, i * 2 + 1, none⟩ = some (.string (bA (formAt ((i : Int) + 1))))) ∧ Chg [] w w' := by
  have hT : ∀ T, Chg [] w (w.alloc (.cells rowsV.toArray T)) := fun T => (Chg.refl [] w).alloc _
  have hc : ∀ T (i : Nat), (w.alloc (.cells rowsV.toArray T)).cell? ⟨w.heap.size, i, none⟩ = rowsV.toArray[i]? := fun T i => blk_cell (heap_alloc_new w _) i
  have HT := hid hT
  have HC := hid hc
  clear hT hc
  go_enter Tryz.func61, Tryz.ntmps61
  go_wp2
  go_ret
  exact ⟨_, rfl, fun i hi => ⟨(HC.out _ _).trans (rows_at i hi).1, (HC.out _ _).trans (rows_at i hi).2⟩, HT.out _⟩

set_option maxHeartbeats 8000000 in
set_option maxRecDepth 100000 in
theorem r_form_calls (op : Int) (h0 : -9223372036854775808 ≤ op) (h1 : op ≤ 9223372036854775807) (w : World) : Calls Tryz.prog 56 #[.int .i64 op] w (FormP op w) := by
  by_cases hin : 1 ≤ op ∧ op ≤ 20
  · obtain ⟨i, rfl⟩ : ∃ i : Nat, op = (i : Int) + 1 := ⟨(op - 1).toNat, by omega⟩
    have hi : i < 20 := by omega
    clear h0 h1
    obtain ⟨W, hW⟩ : ∃ W, bA (wordAt ((i : Int) + 1)) = W := ⟨_, rfl⟩
    obtain ⟨F, hF⟩ : ∃ F, bA (formAt ((i : Int) + 1)) = F := ⟨_, rfl⟩
    have HWF := hid (And.intro hW hF)
    have HR := hid (rows_calls w)
    have d1 : decide ((i : Int) + 1 < 1) = false := decide_eq_false (by omega)
    have d2 : decide ((20 : Int) < (i : Int) + 1) = false := decide_eq_false (by omega)
    have e1 : (i : Int) + 1 - 1 = (i : Int) := by omega
    have e2 : (i : Int) < 20 := by omega
    have e3 : (0 : Int) ≤ (i : Int) := by omega
    clear hW hF hin
    go_enter Tryz.func56, Tryz.ntmps56
    go_wp2_with (go_at_call 61; refine HR.out.mono ?_; rintro e w1 ⟨b, rfl, hc, hk⟩; refine halt (fun XX hXX => ?_))
    have c0 := (hc i hi).1
    have c1 := (hc i hi).2
    rw [HWF.out.1] at c0
    rw [HWF.out.2] at c1
    have HK := hid hk
    clear hc hk
    rw [hXX.out]; clear hXX XX
    go_upto_region 4 with fail
    go_quiet (fail)
    go_wp2_with fail
    go_ret2
    exact ⟨by rw [HWF.out.1, HWF.out.2]; rfl, HK.out.drewN _⟩
  · have e1 : bA (wordAt op) = ⟨#[]⟩ := by
      unfold wordAt
      by_cases h : op < 1
      · rw [if_pos h]; rfl
      · rw [if_neg h, List.getElem?_eq_none (by show 20 ≤ _; omega)]; rfl
    have e2 : bA (formAt op) = ⟨#[]⟩ := by
      unfold formAt
      by_cases h : op < 1
      · rw [if_pos h]; rfl
      · rw [if_neg h, List.getElem?_eq_none (by show 20 ≤ _; omega)]; rfl
    have HE := hid (And.intro e1 e2)
    have HR := hid (rows_calls w)
    clear e1 e2
    by_cases h : op < 1
    · have d1 : decide (op < 1) = true := decide_eq_true h
      go_enter Tryz.func56, Tryz.ntmps56
      go_wp2_with (go_at_call 61; refine HR.out.mono ?_; rintro e w1 ⟨b, rfl, hc, hk⟩; clear hc)
      go_ret2
      exact ⟨by rw [HE.out.1, HE.out.2]; rfl, hk⟩
    · have d1 : decide (op < 1) = false := decide_eq_false h
      have d2 : decide ((20 : Int) < op) = true := decide_eq_true (by omega)
      go_enter Tryz.func56, Tryz.ntmps56
      go_wp2_with (go_at_call 61; refine HR.out.mono ?_; rintro e w1 ⟨b, rfl, hc, hk⟩; clear hc)
      go_ret2
      exact ⟨by rw [HE.out.1, HE.out.2]; rfl, hk⟩

set_option maxHeartbeats 8000000 in
set_option maxRecDepth 100000 in
theorem r_op_calls (s : ByteArray) (w : World) : Calls Tryz.prog 33 #[.string s] w fun e w' => e = .returned (.int .i64 (opL s.data.toList)) ∧ Chg [] w w' := by
  have HR := hid (rows_calls w)
  obtain ⟨L, hL⟩ : ∃ L, s.data.toList = L := ⟨_, rfl⟩
  obtain rfl := bA_eq hL
  rw [hL]
  clear hL
  go_enter Tryz.func33, Tryz.ntmps33
  go_wp2_with (go_at_call 61; refine HR.out.mono ?_; rintro e w1 ⟨b, rfl, hc, hk⟩; refine halt (fun XX hXX => ?_))
  have HC := hid (And.intro hc hk)
  clear hc hk
  rw [hXX.out]; clear hXX XX
  go_upto_region 3 with fail
  go_loopg [4] 20 (fun gk v4 wr => ∃ k : Nat, Hid (gk + k = 20) ∧ v4 = .int .i64 k ∧ Hid (Chg [] w1 wr ∧ ∀ i : Nat, i < k → wordAt ((i : Int) + 1) ≠ L))
  case atStart => exact ⟨0, hid (by omega), rfl, hid ⟨Chg.refl _ _, fun i hi => by omega⟩⟩
  case round =>
    obtain ⟨k, HG, rfl, HN⟩ := hrel
    by_cases hlt : k < 20
    · have c0 := HN.out.1.cell (HC.out.1 k hlt).1 (by simp)
      have e2 : (k : Int) < 20 := by omega
      by_cases he : wordAt ((k : Int) + 1) = L
      · have HO : Hid (opL L = k + 1) := hid (by rw [← he]; exact opL_word k hlt)
        have hb : ((bA (wordAt ((k : Int) + 1))).toList == (bA L).toList) = true := by rw [beq_bA]; exact decide_eq_true he
        clear he
        go_wp2
        go_ret
        exact ⟨by rw [HO.out]; rfl, HC.out.2.trans' HN.out.1⟩
      · have hb : ((bA (wordAt ((k : Int) + 1))).toList == (bA L).toList) = false := by rw [beq_bA]; exact decide_eq_false he
        have HN2 : Hid (∀ i : Nat, i < k + 1 → wordAt ((i : Int) + 1) ≠ L) := hid (fun i hi => by
          by_cases e : i = k
          · subst e; exact he
          · exact HN.out.2 i (by omega))
        clear he
        go_wp2_with fail
        go_roundg (gk - 1)
        case measure => have := HG.out; omega
        case rel => exact ⟨k + 1, hid (by have := HG.out; omega), by go_num, hid ⟨HN.out.1, HN2.out⟩⟩
    · obtain rfl : k = 20 := by have := HG.out; omega
      have HO : Hid (opL L = 0) := hid (opL_none HN.out.2)
      go_wp2
      go_ret
      exact ⟨by rw [HO.out]; rfl, HC.out.2.trans' HN.out.1⟩

set_option maxHeartbeats 8000000 in
set_option maxRecDepth 100000 in
theorem r_register_calls (s : ByteArray) (w : World) (hv : VarsP w) : Calls Tryz.prog 90 #[.string s] w fun e w' => e = .returned (.int .i64 (regL s.data.toList)) ∧ Chg [] w w' := by
  have HV := hid hv
  obtain ⟨L, hL⟩ : ∃ L, s.data.toList = L := ⟨_, rfl⟩
  obtain rfl := bA_eq hL
  rw [hL]
  clear hL hv
  go_enter Tryz.func90, Tryz.ntmps90
  go_upto_region 2 with fail
  go_loopg [3] 16 (fun gk v3 wr => ∃ k : Nat, Hid (gk + k = 16) ∧ v3 = .int .i64 k ∧ Hid (Chg [] w wr ∧ ∀ i : Nat, i < k → L ≠ 114 :: Lib.decDigits i))
  case atStart => exact ⟨0, hid (by omega), rfl, hid ⟨Chg.refl _ _, fun i hi => by omega⟩⟩
  case round =>
    obtain ⟨k, HG, rfl, HN⟩ := hrel
    by_cases hlt : k < 16
    · have hit : Lib.itoa (k : Int) = Lib.decDigits k := by simp [Lib.itoa]
      have HI := hid (itoaI_calls (k : Int) (by omega) (by omega) wr (HV.out.keep HN.out.1))
      rw [hit] at HI
      obtain ⟨D, hD⟩ : ∃ D, Lib.decDigits k = D := ⟨_, rfl⟩
      have hDl : D.length ≤ 16 := by rw [← hD]; rcases (by omega : k = 0 ∨ k = 1 ∨ k = 2 ∨ k = 3 ∨ k = 4 ∨ k = 5 ∨ k = 6 ∨ k = 7 ∨ k = 8 ∨ k = 9 ∨ k = 10 ∨ k = 11 ∨ k = 12 ∨ k = 13 ∨ k = 14 ∨ k = 15) with rfl | rfl | rfl | rfl | rfl | rfl | rfl | rfl | rfl | rfl | rfl | rfl | rfl | rfl | rfl | rfl <;> decide +kernel
      rw [hD] at HI
      have hz : (bA D).size ≤ 16 := by rw [bA_size]; exact hDl
      have e0 : (⟨#[114]⟩ : ByteArray) ++ bA D = bA (114 :: D) := by apply ByteArray.ext; simp [bA]
      by_cases he : L = 114 :: D
      · have HO : Hid (regL L = (k : Int)) := hid (by rw [he, ← hD]; exact reg_at k hlt)
        have hb : ((bA L).toList == ((⟨#[114]⟩ : ByteArray) ++ bA D).toList) = true := by rw [e0, beq_bA]; exact decide_eq_true he
        have HH := hid (And.intro hD e0)
        clear he hit hD e0 hDl
        go_wp2_with (go_at_call 28; refine HI.out.mono ?_; rintro e w2 ⟨rfl, hc⟩)
        go_ret
        exact ⟨by rw [HO.out]; rfl, HN.out.1.trans' hc⟩
      · have hb : ((bA L).toList == ((⟨#[114]⟩ : ByteArray) ++ bA D).toList) = false := by rw [e0, beq_bA]; exact decide_eq_false he
        have HN2 : Hid (∀ i : Nat, i < k + 1 → L ≠ 114 :: Lib.decDigits i) := hid (fun i hi => by
          by_cases e : i = k
          · subst e; rw [hD]; exact he
          · exact HN.out.2 i (by omega))
        clear he hit hD e0 hDl
        go_wp2_with (go_at_call 28; refine HI.out.mono ?_; rintro e w2 ⟨rfl, hc⟩)
        go_roundg (gk - 1)
        case measure => have := HG.out; omega
        case rel => exact ⟨k + 1, hid (by have := HG.out; omega), by go_num, hid ⟨HN.out.1.trans' hc, HN2.out⟩⟩
    · obtain rfl : k = 16 := by have := HG.out; omega
      have HO : Hid (regL L = -1) := hid (reg_none HN.out.2)
      go_wp2
      go_ret
      exact ⟨by rw [HO.out]; rfl, HN.out.1⟩

set_option maxHeartbeats 8000000 in
set_option maxRecDepth 100000 in
theorem r_kind_calls (s : ByteArray) (w : World) : Calls Tryz.prog 34 #[.string s] w fun e w' => e = .returned (.int .i64 (kindL s.data.toList)) ∧ Chg [] w w' := by
  obtain ⟨L, hL⟩ : ∃ L, s.data.toList = L := ⟨_, rfl⟩
  obtain rfl := bA_eq hL
  rw [hL]
  clear hL
  have hT : ∀ T, Chg [] w (w.alloc (.cells (kindTab.map fun x => Value.string (bA x)).toArray T)) := fun T => (Chg.refl [] w).alloc _
  have hc : ∀ T (i : Nat) (h : i < 5), (w.alloc (.cells (kindTab.map fun x => Value.string (bA x)).toArray T)).cell? ⟨w.heap.size, i, none⟩ = some (.string (bA ((kindTab[i]?).getD []))) := fun T i h => by
    rw [blk_cell (heap_alloc_new w _) i]
    rcases (by omega : i = 0 ∨ i = 1 ∨ i = 2 ∨ i = 3 ∨ i = 4) with rfl | rfl | rfl | rfl | rfl <;> rfl
  have HC := hid (And.intro hT hc)
  clear hT hc
  go_enter Tryz.func34, Tryz.ntmps34
  go_upto_region 3 with fail
  obtain ⟨w1, hw1⟩ : ∃ w1, w.alloc (.cells (kindTab.map fun x => Value.string (bA x)).toArray 9) = w1 := ⟨_, rfl⟩
  have HC1 := hid (And.intro (HC.out.1 9) (HC.out.2 9))
  rw [hw1] at HC1
  rw [show w.alloc (.cells #[.string ⟨#[118, 97, 114]⟩, .string ⟨#[118, 111, 108]⟩, .string ⟨#[109, 117, 116, 101, 120]⟩, .string ⟨#[103, 97, 116, 101]⟩, .string ⟨#[116, 104, 114, 101, 97, 100]⟩] 9) = w1 from hw1]
  obtain ⟨b, hb⟩ : ∃ b, w.heap.size = b := ⟨_, rfl⟩
  rw [hb] at HC1 ⊢
  clear hw1 hb HC
  go_loopg [4] 5 (fun gk v4 wr => ∃ k : Nat, Hid (gk + k = 5) ∧ v4 = .int .i64 k ∧ Hid (Chg [] w1 wr ∧ ∀ i : Nat, i < k → (kindTab[i]?).getD [] ≠ L))
  case atStart => exact ⟨0, hid (by omega), rfl, hid ⟨Chg.refl _ _, fun i hi => by omega⟩⟩
  case round =>
    obtain ⟨k, HG, rfl, HN⟩ := hrel
    by_cases hlt : k < 5
    · have c0 := HN.out.1.cell (HC1.out.2 k hlt) (by simp)
      have e2 : (k : Int) < 5 := by omega
      obtain ⟨X, hX⟩ : ∃ X, (kindTab[k]?).getD [] = X := ⟨_, rfl⟩
      rw [hX] at c0
      by_cases he : X = L
      · have HO : Hid (kindL L = k + 1) := hid (by rw [← he, ← hX]; exact kindL_at ⟨k, hlt⟩)
        have hb : ((bA X).toList == (bA L).toList) = true := by rw [beq_bA]; exact decide_eq_true he
        clear he hX
        go_wp2
        go_ret
        exact ⟨by rw [HO.out]; rfl, HC1.out.1.trans' HN.out.1⟩
      · have hb : ((bA X).toList == (bA L).toList) = false := by rw [beq_bA]; exact decide_eq_false he
        have HN2 : Hid (∀ i : Nat, i < k + 1 → (kindTab[i]?).getD [] ≠ L) := hid (fun i hi => by
          by_cases e : i = k
          · subst e; rw [hX]; exact he
          · exact HN.out.2 i (by omega))
        clear he hX
        go_wp2_with fail
        go_roundg (gk - 1)
        case measure => have := HG.out; omega
        case rel => exact ⟨k + 1, hid (by have := HG.out; omega), by go_num, hid ⟨HN.out.1, HN2.out⟩⟩
    · obtain rfl : k = 5 := by have := HG.out; omega
      have HO : Hid (kindL L = 0) := hid (kindL_none fun x hx => by
        obtain ⟨i, hi, rfl⟩ := List.mem_iff_getElem.1 hx
        have := HN.out.2 i hi
        rwa [List.getElem?_eq_getElem hi] at this)
      go_wp2
      go_ret
      exact ⟨by rw [HO.out]; rfl, HC1.out.1.trans' HN.out.1⟩
end Go.Proofs.YtmahcabidggmeaaGreatDoor

/- Walks of the reference: words and names; the law ParseWords. -/
set_option linter.unusedVariables false
set_option linter.unusedSectionVars false
set_option linter.unusedSimpArgs false
namespace Go.AB
open Go.RowKit
theorem nameP_shape (L : List UInt8) : nameP L = (shapeL L && decide (L.length ≤ 24) && !wordL L) := by
  unfold nameP nameL shapeL
  cases L with
  | nil => rfl
  | cons c r =>
    simp only [List.length_cons]
    have e : decide (r.length + 1 ≤ 24) = decide (r.length ≤ 23) := by simp
    rw [e]
    cases decide (r.length ≤ 23) <;> cases isLett c <;> cases r.all isNameC <;> rfl
/-- The first bytes are shaped. -/
def ShTo (s : ByteArray) (k : Nat) : Prop := ∀ j (h : j < s.size), j < k → (if j = 0 then isLett s[j] else isNameC s[j]) = true
theorem ShTo.succ {s : ByteArray} {k : Nat} (h : ShTo s k) (hk : k < s.size) (hx : (if k = 0 then isLett s[k] else isNameC s[k]) = true) : ShTo s (k + 1) := fun j hj hlt => by
  by_cases e : j = k
  · subst e; exact hx
  · exact h j hj (by omega)
theorem shape_iff (s : ByteArray) : shapeL s.data.toList = true ↔ 0 < s.size ∧ ShTo s s.size := by
  obtain ⟨L, hL⟩ : ∃ L, s.data.toList = L := ⟨_, rfl⟩
  have hlen : L.length = s.size := by rw [← hL]; exact data_len s
  have hget : ∀ i (h1 : i < s.size) (h2 : i < L.length), s[i] = L[i] := fun i h1 h2 => by subst hL; rfl
  rw [hL]
  cases L with
  | nil =>
    simp only [List.length_nil] at hlen
    constructor
    · intro h; cases h
    · intro h; omega
  | cons c r =>
    simp only [List.length_cons] at hlen
    unfold shapeL
    rw [Bool.and_eq_true, List.all_eq_true]
    constructor
    · rintro ⟨h1, h2⟩
      refine ⟨by omega, fun j hj _ => ?_⟩
      rw [hget j hj (by simp only [List.length_cons]; omega)]
      by_cases h0 : j = 0
      · subst h0; rw [if_pos rfl]; exact h1
      · rw [if_neg h0]
        obtain ⟨j, rfl⟩ : ∃ i, j = i + 1 := ⟨j - 1, by omega⟩
        rw [List.getElem_cons_succ]
        exact h2 _ (List.getElem_mem _)
    · rintro ⟨_, h⟩
      have h0 := h 0 (by omega) (by omega)
      rw [if_pos rfl, hget 0 (by omega) (by simp)] at h0
      refine ⟨h0, fun x hx => ?_⟩
      obtain ⟨i, hi, rfl⟩ := List.mem_iff_getElem.1 hx
      have h1 := h (i + 1) (by omega) (by omega)
      rw [if_neg (by omega), hget (i + 1) (by omega) (by simp only [List.length_cons]; omega), List.getElem_cons_succ] at h1
      exact h1
end Go.AB
namespace Go.Proofs.YtmahcabidggmeaaGreatDoor
open Go.RowKit Go.AB
set_option linter.unusedSimpArgs false
set_option linter.unusedVariables false
set_option linter.unusedSectionVars false

set_option maxHeartbeats 4000000 in
set_option maxRecDepth 100000 in
theorem r_word_calls (s : ByteArray) (w : World) (hv : VarsP w) : Calls Tryz.prog 82 #[.string s] w fun e w' => e = .returned (.bool (wordL s.data.toList)) ∧ Chg [] w w' := by
  have HO := hid (r_op_calls s w)
  have HR := hid fun W (hc : Chg [] w W) => r_register_calls s W (hv.keep hc)
  have HK := hid fun W => r_kind_calls s W
  clear hv
  unfold wordL
  generalize opL s.data.toList = o at *
  generalize regL s.data.toList = r at *
  generalize kindL s.data.toList = k at *
  by_cases ho : o = 0
  · subst ho
    rw [show decide ((0 : Nat) ≠ 0) = false from rfl, Bool.false_or]
    by_cases hr : 0 ≤ r
    · have d2 : decide ((0 : Int) ≤ r) = true := decide_eq_true hr
      rw [d2, Bool.true_or]
      go_enter Tryz.func82, Tryz.ntmps82
      go_wp2_with (first | (go_at_call 33; refine HO.out.mono ?_; rintro e w1 ⟨rfl, hc1⟩) | (go_at_call 90; refine (HR.out _ hc1).mono ?_; rintro e w2 ⟨rfl, hc2⟩))
      go_ret
      exact ⟨rfl, hc1.trans' hc2⟩
    · have d2 : decide ((0 : Int) ≤ r) = false := decide_eq_false hr
      rw [d2, Bool.false_or]
      by_cases hk : k = 0
      · subst hk
        rw [show decide ((0 : Nat) ≠ 0) = false from rfl]
        go_enter Tryz.func82, Tryz.ntmps82
        go_wp2_with (first | (go_at_call 33; refine HO.out.mono ?_; rintro e w1 ⟨rfl, hc1⟩) | (go_at_call 90; refine (HR.out _ hc1).mono ?_; rintro e w2 ⟨rfl, hc2⟩) | (go_at_call 34; refine (HK.out _).mono ?_; rintro e w3 ⟨rfl, hc3⟩))
        go_ret
        exact ⟨rfl, (hc1.trans' hc2).trans' hc3⟩
      · have d3 : decide ((0 : Int) < (k : Int)) = true := decide_eq_true (by omega)
        have d4 : decide (0 < k) = true := decide_eq_true (by omega)
        have d5 : 0 < k := by omega
        rw [show decide (k ≠ 0) = true from decide_eq_true hk]
        go_enter Tryz.func82, Tryz.ntmps82
        go_wp2_with (first | (go_at_call 33; refine HO.out.mono ?_; rintro e w1 ⟨rfl, hc1⟩) | (go_at_call 90; refine (HR.out _ hc1).mono ?_; rintro e w2 ⟨rfl, hc2⟩) | (go_at_call 34; refine (HK.out _).mono ?_; rintro e w3 ⟨rfl, hc3⟩))
        go_ret
        exact ⟨rfl, (hc1.trans' hc2).trans' hc3⟩
  · have d1 : decide ((0 : Int) < (o : Int)) = true := decide_eq_true (by omega)
    have d2 : decide (0 < o) = true := decide_eq_true (by omega)
    have d3 : 0 < o := by omega
    have e1 : decide (o ≠ 0) = true := decide_eq_true ho
    rw [e1, Bool.true_or, Bool.true_or]
    go_enter Tryz.func82, Tryz.ntmps82
    go_wp2_with (go_at_call 33; refine HO.out.mono ?_; rintro e w1 ⟨rfl, hc1⟩)
    go_ret
    exact ⟨rfl, hc1⟩

set_option maxHeartbeats 4000000 in
set_option maxRecDepth 100000 in
theorem r_letter_calls (c : UInt8) (w : World) : Calls Tryz.prog 99 #[.int .u8 c.toNat] w fun e w' => e = .returned (.bool (isLett c)) ∧ w = w' := by
  unfold isLett
  obtain ⟨x, hx⟩ : ∃ x, c.toNat = x := ⟨_, rfl⟩
  rw [hx]
  clear hx
  by_cases h1 : 97 ≤ x
  · have d1 : decide ((97 : Int) ≤ (x : Int)) = true := decide_eq_true (by omega)
    by_cases h2 : x ≤ 122
    · have d2 : decide ((x : Int) ≤ 122) = true := decide_eq_true (by omega)
      rw [decide_eq_true h1, decide_eq_true h2, Bool.true_and, Bool.true_or]
      go_enter Tryz.func99, Tryz.ntmps99
      go_wp2
      go_ret
      exact ⟨rfl, rfl⟩
    · have d2 : decide ((x : Int) ≤ 122) = false := decide_eq_false (by omega)
      have d3 : decide ((65 : Int) ≤ (x : Int)) = true := decide_eq_true (by omega)
      have d4 : decide ((x : Int) ≤ 90) = false := decide_eq_false (by omega)
      rw [decide_eq_true h1, decide_eq_false h2, decide_eq_true (show 65 ≤ x by omega), decide_eq_false (show ¬ x ≤ 90 by omega)]
      go_enter Tryz.func99, Tryz.ntmps99
      go_wp2
      go_ret
      exact ⟨rfl, rfl⟩
  · have d1 : decide ((97 : Int) ≤ (x : Int)) = false := decide_eq_false (by omega)
    rw [decide_eq_false h1, Bool.false_and, Bool.false_or]
    by_cases h3 : 65 ≤ x
    · have d3 : decide ((65 : Int) ≤ (x : Int)) = true := decide_eq_true (by omega)
      by_cases h4 : x ≤ 90
      · have d4 : decide ((x : Int) ≤ 90) = true := decide_eq_true (by omega)
        rw [decide_eq_true h3, decide_eq_true h4]
        go_enter Tryz.func99, Tryz.ntmps99
        go_wp2
        go_ret
        exact ⟨rfl, rfl⟩
      · have d4 : decide ((x : Int) ≤ 90) = false := decide_eq_false (by omega)
        rw [decide_eq_true h3, decide_eq_false h4]
        go_enter Tryz.func99, Tryz.ntmps99
        go_wp2
        go_ret
        exact ⟨rfl, rfl⟩
    · have d3 : decide ((65 : Int) ≤ (x : Int)) = false := decide_eq_false (by omega)
      rw [decide_eq_false h3, Bool.false_and]
      go_enter Tryz.func99, Tryz.ntmps99
      go_wp2
      go_ret
      exact ⟨rfl, rfl⟩

set_option maxHeartbeats 8000000 in
set_option maxRecDepth 100000 in
theorem r_shaped_calls (s : ByteArray) (hs : s.size ≤ 1048576) (w : World) : Calls Tryz.prog 81 #[.string s] w fun e w' => e = .returned (.bool (shapeL s.data.toList)) ∧ Chg [] w w' := by
  obtain ⟨b, hb⟩ : ∃ b, shapeL s.data.toList = b := ⟨_, rfl⟩
  have HB : Hid (b = true ↔ 0 < s.size ∧ ShTo s s.size) := hid (by rw [← hb]; exact shape_iff s)
  rw [hb]
  clear hb
  go_enter Tryz.func81, Tryz.ntmps81
  go_upto_region 2 with fail
  go_loopg [3] s.size (fun gk v3 wr => ∃ k : Nat, Hid (gk + k = s.size) ∧ v3 = .int .i64 k ∧ Hid (Chg [] w wr ∧ ShTo s k))
  case atStart => exact ⟨0, hid (by omega), rfl, hid ⟨Chg.refl _ _, fun j _ h => by omega⟩⟩
  case round =>
    obtain ⟨k, HG, rfl, HN⟩ := hrel
    by_cases hlt : k < s.size
    · obtain ⟨y, hy⟩ : ∃ y, s[k] = y := ⟨_, rfl⟩
      have HL := hid fun W => r_letter_calls y W
      have hsucc := HN.out.2.succ hlt
      have hno : (if k = 0 then isLett s[k] else isNameC s[k]) = false → b = false := fun h => by
        cases b with
        | false => rfl
        | true =>
          have h2 := (HB.out.1 rfl).2 k hlt hlt
          rw [h] at h2
          cases h2
      rw [hy] at hsucc hno
      have HS := hid hsucc
      have HF := hid hno
      clear hsucc hno
      cases hl : isLett y with
      | true =>
        have hS2 : ShTo s (k + 1) := HS.out (by split; exact hl; unfold isNameC; rw [hl]; rfl)
        have HS2 := hid hS2
        rw [hl] at HL
        clear hS2 hl
        go_wp2_with (go_at_call 99; refine (HL.out _).mono ?_; rintro e w2 ⟨rfl, rfl⟩)
        go_roundg (gk - 1)
        case measure => have := HG.out; omega
        case rel => exact ⟨k + 1, hid (by have := HG.out; omega), by go_num, hid ⟨by first | exact HN.out.1 | exact HN.out.1.drewN _, HS2.out⟩⟩
      | false =>
        rw [hl] at HL
        by_cases h0 : k = 0
        · subst h0
          have HO : Hid (b = false) := hid (HF.out (by rw [if_pos rfl]; exact hl))
          clear hl
          go_wp2_with (go_at_call 99; refine (HL.out _).mono ?_; rintro e w2 ⟨rfl, rfl⟩)
          go_ret
          exact ⟨by rw [HO.out]; rfl, HN.out.1⟩
        · have k1 : decide ((k : Int) = 0) = false := decide_eq_false (by omega)
          have k2 : ((k : Int) == 0) = false := by simpa using h0
          obtain ⟨x, hx⟩ : ∃ x, y.toNat = x := ⟨_, rfl⟩
          have hnm : isNameC y = (decide (x = 95) || (decide (48 ≤ x) && decide (x ≤ 57))) := by unfold isNameC; rw [hl, hx, Bool.false_or]
          have HNM := hid hnm
          have HX := hid hx
          by_cases h95 : x = 95
          · have t1 : ((y.toNat : Int) != 95) = false := by rw [hx]; simp; omega
            have HS2 := hid (HS.out (by rw [if_neg h0, hnm, decide_eq_true h95, Bool.true_or]))
            clear hl hnm hx
            go_wp2_with (go_at_call 99; refine (HL.out _).mono ?_; rintro e w2 ⟨rfl, rfl⟩)
            go_roundg (gk - 1)
            case measure => have := HG.out; omega
            case rel => exact ⟨k + 1, hid (by have := HG.out; omega), by go_num, hid ⟨by first | exact HN.out.1 | exact HN.out.1.drewN _, HS2.out⟩⟩
          · have t1 : ((y.toNat : Int) != 95) = true := by rw [hx]; simp; omega
            by_cases h48 : x < 48
            · have t2 : decide ((y.toNat : Int) < 48) = true := by rw [hx]; exact decide_eq_true (by omega)
              have HO : Hid (b = false) := hid (HF.out (by rw [if_neg h0, hnm, decide_eq_false h95, decide_eq_false (show ¬ 48 ≤ x by omega)]; rfl))
              clear hl hnm hx
              go_wp2_with (go_at_call 99; refine (HL.out _).mono ?_; rintro e w2 ⟨rfl, rfl⟩)
              go_ret
              exact ⟨by rw [HO.out]; rfl, HN.out.1⟩
            · have t2 : decide ((y.toNat : Int) < 48) = false := by rw [hx]; exact decide_eq_false (by omega)
              by_cases h57 : 57 < x
              · have t3 : decide ((57 : Int) < (y.toNat : Int)) = true := by rw [hx]; exact decide_eq_true (by omega)
                have HO : Hid (b = false) := hid (HF.out (by rw [if_neg h0, hnm, decide_eq_false h95, decide_eq_false (show ¬ x ≤ 57 by omega), Bool.and_false]; rfl))
                clear hl hnm hx
                go_wp2_with (go_at_call 99; refine (HL.out _).mono ?_; rintro e w2 ⟨rfl, rfl⟩)
                go_ret
                exact ⟨by rw [HO.out]; rfl, HN.out.1⟩
              · have t3 : decide ((57 : Int) < (y.toNat : Int)) = false := by rw [hx]; exact decide_eq_false (by omega)
                have HS2 := hid (HS.out (by rw [if_neg h0, hnm, decide_eq_true (show 48 ≤ x by omega), decide_eq_true (show x ≤ 57 by omega)]; simp))
                clear hl hnm hx
                go_wp2_with (go_at_call 99; refine (HL.out _).mono ?_; rintro e w2 ⟨rfl, rfl⟩)
                go_roundg (gk - 1)
                case measure => have := HG.out; omega
                case rel => exact ⟨k + 1, hid (by have := HG.out; omega), by go_num, hid ⟨by first | exact HN.out.1 | exact HN.out.1.drewN _, HS2.out⟩⟩
    · obtain rfl : k = s.size := by have := HG.out; omega
      by_cases hz : 0 < s.size
      · have d1 : decide ((0 : Int) < (s.size : Int)) = true := decide_eq_true (by omega)
        have HO : Hid (b = true) := hid (HB.out.2 ⟨hz, HN.out.2⟩)
        go_wp2
        go_ret
        exact ⟨by rw [HO.out]; rfl, HN.out.1⟩
      · have d1 : decide ((0 : Int) < (s.size : Int)) = false := decide_eq_false (by omega)
        have HO : Hid (b = false) := hid (by
          cases b with
          | false => rfl
          | true => exact absurd (HB.out.1 rfl).1 hz)
        go_wp2
        go_ret
        exact ⟨by rw [HO.out]; rfl, HN.out.1⟩

set_option maxHeartbeats 4000000 in
set_option maxRecDepth 100000 in
theorem r_name_calls (s : ByteArray) (hs : s.size ≤ 1048576) (w : World) (hv : VarsP w) : Calls Tryz.prog 53 #[.string s] w fun e w' => e = .returned (.bool (nameP s.data.toList)) ∧ Chg [] w w' := by
  have HS := hid (r_shaped_calls s hs w)
  have HW := hid fun W (hc : Chg [] w W) => r_word_calls s W (hv.keep hc)
  rw [nameP_shape, data_len]
  clear hv
  generalize shapeL s.data.toList = a at *
  generalize wordL s.data.toList = b at *
  cases a with
  | false =>
    rw [Bool.false_and, Bool.false_and]
    go_enter Tryz.func53, Tryz.ntmps53
    go_wp2_with (go_at_call 81; refine HS.out.mono ?_; rintro e w1 ⟨rfl, hc1⟩)
    go_ret
    exact ⟨rfl, hc1⟩
  | true =>
    by_cases h : s.size ≤ 24
    · have d1 : decide ((s.size : Int) ≤ 24) = true := decide_eq_true (by omega)
      rw [decide_eq_true h, Bool.true_and, Bool.true_and]
      go_enter Tryz.func53, Tryz.ntmps53
      go_wp2_with (first | (go_at_call 81; refine HS.out.mono ?_; rintro e w1 ⟨rfl, hc1⟩) | (go_at_call 82; refine (HW.out _ hc1).mono ?_; rintro e w2 ⟨rfl, hc2⟩))
      go_ret
      exact ⟨rfl, hc1.trans' hc2⟩
    · have d1 : decide ((s.size : Int) ≤ 24) = false := decide_eq_false (by omega)
      rw [decide_eq_false h, Bool.true_and, Bool.false_and]
      go_enter Tryz.func53, Tryz.ntmps53
      go_wp2_with (go_at_call 81; refine HS.out.mono ?_; rintro e w1 ⟨rfl, hc1⟩)
      go_ret
      exact ⟨rfl, hc1⟩
end Go.Proofs.YtmahcabidggmeaaGreatDoor

/- The law ParseWords: its walk. -/
set_option linter.unusedVariables false
set_option linter.unusedSectionVars false
set_option linter.unusedSimpArgs false
namespace Go.Proofs.YtmahcabidggmeaaGreatDoor
open Go.RowKit Go.AB
set_option linter.unusedSimpArgs false
set_option linter.unusedVariables false
set_option linter.unusedSectionVars false

end Go.Proofs.YtmahcabidggmeaaGreatDoor
