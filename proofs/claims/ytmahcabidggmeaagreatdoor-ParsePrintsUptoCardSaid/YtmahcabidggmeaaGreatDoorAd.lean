/- Walks of the lexer: the token that stands at a place. -/
import Derived.Test.YtmahcabidggmeaaGreatDoorAc
import Derived.Test.YtmahcabidggmeaaGreatDoorAscan
import Derived.RegionTactic
set_option linter.unusedVariables false
set_option linter.unusedSectionVars false
set_option linter.unusedSimpArgs false
namespace Go.Proofs.YtmahcabidggmeaaGreatDoor
open Go.RowKit Go.AB
set_option linter.unusedSimpArgs false
set_option linter.unusedVariables false
set_option linter.unusedSectionVars false

/-- What the token answers. -/
def TokPost (w : World) (a : Nat) (d : List UInt8) (e : Ending) (w' : World) : Prop :=
  (if (tokAt d).1 ≠ 0 then e = .returned (.tuple #[zeroTok, .int .i64 0, .int .i64 (tokAt d).1])
   else e = .returned (.tuple #[tokV (tokAt d).2.1 (tokAt d).2.2.1 (tokAt d).2.2.2.1 0 0, .int .i64 ((a + (tokAt d).2.2.2.2 : Nat) : Int), .int .i64 0])) ∧ Chg [] w w'
theorem tokPost_no {w w' : World} {a c : Nat} {d : List UInt8} {p : Nat × List UInt8 × Int × Nat} (h : tokAt d = (c, p)) (hc : c ≠ 0) (h2 : Chg [] w w') {X : Int} (hX : X = (c : Int)) : TokPost w a d (.returned (.tuple #[.agg #[.int .i64 0, .string ⟨#[]⟩, .int .i64 0, .int .i64 0, .int .i64 0], .int .i64 0, .int .i64 X])) w' := by
  subst hX; unfold TokPost; rw [h, if_pos hc]; exact ⟨rfl, h2⟩
theorem tokPost_yes {w w' : World} {a k n : Nat} {t : List UInt8} {v : Int} {d : List UInt8} (h : tokAt d = (0, k, t, v, n)) (h2 : Chg [] w w') {S : ByteArray} {X Y Z : Int} (hX : X = (k : Int)) (hS : S = ⟨t.toArray⟩) (hY : Y = v) (hZ : Z = ((a + n : Nat) : Int)) : TokPost w a d (.returned (.tuple #[.agg #[.int .i64 X, .string S, .int .i64 Y, .int .i64 0, .int .i64 0], .int .i64 Z, .int .i64 0])) w' := by
  subst hX hS hY hZ; unfold TokPost; rw [h, if_neg (by simp)]; exact ⟨rfl, h2⟩
theorem extract_data_ (s : ByteArray) (a b : Nat) : (s.extract a b).data = s.data.extract a b := by simp
theorem extract_take {L : List UInt8} {s : ByteArray} (hL : Hid (s.data.toList = L)) (a n : Nat) (h : a + n ≤ s.size) : s.extract a (a + n) = ⟨((L.drop a).take n).toArray⟩ := by
  have h1 := hL.out
  subst h1
  have e : (s.extract a (a + n)).data = s.data.extract a (a + n) := extract_data_ s a (a + n)
  cases hs : s.extract a (a + n) with
  | mk d =>
    rw [hs] at e
    simp only at e
    subst e
    congr 1
    apply Array.ext'
    rw [Array.toList_extract, List.extract_eq_take_drop]
    congr 1
    omega

section
variable {w : World} {b : Nat} {s : ByteArray} {a ln g : Nat} (h : Lx w b s a ln g) (hs : s.size ≤ 4294967296) (L : List UInt8) (hL : Hid (s.data.toList = L))
include h hs hL

set_option maxHeartbeats 2000000 in
set_option maxRecDepth 100000 in
theorem token_end (ha : a = s.size) : Calls Tryz.prog 69 #[.pointer (some ⟨b, 0, none⟩)] w (TokPost w a (L.drop a)) := by
  have hd : L.drop a = [] := List.drop_of_length_le (by rw [len_of hL]; omega)
  have HT := hid (show tokAt (L.drop a) = (0, 7, [], 0, 0) by rw [hd]; rfl)
  have hca := (Chg.refl [] w).alloc (.cells #[.int .i64 0, .string ⟨#[]⟩, .int .i64 0, .int .i64 0, .int .i64 0] 63)
  have hx := h.keep hca (by simp)
  have h0 := hx.c0
  have h1 := hx.c1
  have n1 : b ≠ w.heap.size := by have := blk_lt h.blk; omega
  have n2 : w.heap.size ≠ b := by omega
  subst ha
  clear hd
  go_enter Tryz.func69, Tryz.ntmps69
  go_wp2
  go_quiet (fail)
  go_wp2
  go_region
  go_wp2
  exact bodyPost_ret (v := .tuple #[.agg #[.int .i64 7, .string ⟨#[]⟩, .int .i64 0, .int .i64 0, .int .i64 0], .int .i64 (s.size : Int), .int .i64 0]) (by simp [results, Tryz.results69, go_sem]) rfl (tokPost_yes HT.out (by repeat (first | with_reducible exact Chg.refl _ _ | with_reducible exact hca | with_reducible refine Chg.setCell ?_ (by first | exact .inr (Nat.le_refl _) | (refine .inr ?_; first | omega | (simp; done) | (simp; omega)) | (refine .inl ?_; simp; done)) _ | with_reducible refine Chg.drewN ?_ _ | with_reducible refine Chg.drew ?_ | with_reducible refine Chg.alloc ?_ _)) rfl rfl rfl (by omega))

set_option maxHeartbeats 2000000 in
set_option maxRecDepth 100000 in
theorem token_letter (ha : a < s.size) (hl : isLetter s[a] = true) : Calls Tryz.prog 69 #[.pointer (some ⟨b, 0, none⟩)] w (TokPost w a (L.drop a)) := by
  have hcons := drop_cons_of hL ha
  have hca := (Chg.refl [] w).alloc (.cells #[.int .i64 0, .string ⟨#[]⟩, .int .i64 0, .int .i64 0, .int .i64 0] 63)
  have hx := h.keep hca (by simp)
  have h0 := hx.c0
  have h1 := hx.c1
  have n1 : b ≠ w.heap.size := by have := blk_lt h.blk; omega
  have n2 : w.heap.size ≠ b := by omega
  have g1 : ((a : Int) == (s.size : Int)) = false := by simp; omega
  have g2 : (a == s.size) = false := by simp; omega
  have htk : tokAt (L.drop a) = (0, 1, (L.drop a).take (runLen isWordly (L.drop a)), 0, runLen isWordly (L.drop a)) := by
    rw [hcons]; simp only [tokAt, hl, if_true]
  have hn := runLen_le isWordly (L.drop a)
  rw [List.length_drop, len_of hL] at hn
  have hr := fun W (hW : Lx W b s a ln g) => run_wordly hW hs a (by omega) L hL
  have hex := extract_take hL a (runLen isWordly (L.drop a)) (by omega)
  obtain ⟨n, hne⟩ : ∃ n, runLen isWordly (L.drop a) = n := ⟨_, rfl⟩
  rw [hne] at htk hn hr hex
  have HT := hid htk
  have HR := hid hr
  have HE := hid hex
  have hLc := fun W => letter_calls s[a] W
  rw [hl] at hLc
  have HLC := hid hLc
  clear hLc hl hcons htk hr hex hne
  go_enter Tryz.func69, Tryz.ntmps69
  go_wp2
  go_quiet (fail)
  go_wp2
  go_quiet (fail)
  go_wp2_with (first
    | (go_at_call 91; refine (HLC.out _).mono ?_; rintro e w2 ⟨rfl, rfl⟩)
    | (go_at_call 67; refine (HR.out _ (hx.keep (Chg.of_drewN [] _ _) (by simp))).mono ?_; rintro e w2 ⟨rfl, rfl⟩))
  go_region
  go_wp2
  exact bodyPost_ret (v := .tuple #[.agg #[.int .i64 1, .string (s.extract a (a + n)), .int .i64 0, .int .i64 0, .int .i64 0], .int .i64 ((a : Int) + (n : Int)), .int .i64 0]) (by simp [results, Tryz.results69, go_sem]) rfl (tokPost_yes HT.out (by repeat (first | with_reducible exact Chg.refl _ _ | with_reducible exact hca | with_reducible refine Chg.setCell ?_ (by first | exact .inr (Nat.le_refl _) | (refine .inr ?_; first | omega | (simp; done) | (simp; omega)) | (refine .inl ?_; simp; done)) _ | with_reducible refine Chg.drewN ?_ _ | with_reducible refine Chg.drew ?_ | with_reducible refine Chg.alloc ?_ _)) rfl HE.out rfl (by omega))

set_option maxHeartbeats 2000000 in
set_option maxRecDepth 100000 in
theorem token_comma (ha : a < s.size) (hc : s[a].toNat = 44) : Calls Tryz.prog 69 #[.pointer (some ⟨b, 0, none⟩)] w (TokPost w a (L.drop a)) := by
  have hcons := drop_cons_of hL ha
  have hca := (Chg.refl [] w).alloc (.cells #[.int .i64 0, .string ⟨#[]⟩, .int .i64 0, .int .i64 0, .int .i64 0] 63)
  have hx := h.keep hca (by simp)
  have h0 := hx.c0
  have h1 := hx.c1
  have n1 : b ≠ w.heap.size := by have := blk_lt h.blk; omega
  have n2 : w.heap.size ≠ b := by omega
  have g1 : ((a : Int) == (s.size : Int)) = false := by simp; omega
  have g2 : (a == s.size) = false := by simp; omega
  have hl : isLetter s[a] = false := by simp [isLetter, hc]
  have hdg : isDigit s[a] = false := by simp [isDigit, hc]
  have HT := hid (show tokAt (L.drop a) = (0, 3, [], 0, 1) by rw [hcons]; simp [tokAt, hl, hdg, hc])
  have hLc := fun W => letter_calls s[a] W
  rw [hl] at hLc
  have HLC := hid hLc
  have hDc := fun W => digit_calls s[a] W
  rw [hdg] at hDc
  have HDC := hid hDc
  clear hDc
  have e45 : ((s[a].toNat : Int) == 45) = false := by simp; omega
  have e44 : ((s[a].toNat : Int) == 44) = true := by simp; omega
  have e58 : ((s[a].toNat : Int) == 58) = false := by simp; omega
  have e61 : ((s[a].toNat : Int) == 61) = false := by simp; omega
  have e10 : ((s[a].toNat : Int) == 10) = false := by simp; omega
  clear hLc hl hcons hdg hc
  go_enter Tryz.func69, Tryz.ntmps69
  go_wp2
  go_quiet (fail)
  go_wp2
  go_quiet (fail)
  go_wp2_with (first
    | (go_at_call 91; refine (HLC.out _).mono ?_; rintro e w2 ⟨rfl, rfl⟩)
    | (go_at_call 93; refine (HDC.out _).mono ?_; rintro e w2 ⟨rfl, rfl⟩))
  go_region
  go_wp2
  exact bodyPost_ret (v := .tuple #[.agg #[.int .i64 3, .string ⟨#[]⟩, .int .i64 0, .int .i64 0, .int .i64 0], .int .i64 ((a : Int) + 1), .int .i64 0]) (by simp [results, Tryz.results69, go_sem]) rfl (tokPost_yes HT.out (by repeat (first | with_reducible exact Chg.refl _ _ | with_reducible exact hca | with_reducible refine Chg.setCell ?_ (by first | exact .inr (Nat.le_refl _) | (refine .inr ?_; first | omega | (simp; done) | (simp; omega)) | (refine .inl ?_; simp; done)) _ | with_reducible refine Chg.drewN ?_ _ | with_reducible refine Chg.drew ?_ | with_reducible refine Chg.alloc ?_ _)) rfl rfl rfl (by omega))

set_option maxHeartbeats 2000000 in
set_option maxRecDepth 100000 in
theorem token_colon (ha : a < s.size) (hc : s[a].toNat = 58) : Calls Tryz.prog 69 #[.pointer (some ⟨b, 0, none⟩)] w (TokPost w a (L.drop a)) := by
  have hcons := drop_cons_of hL ha
  have hca := (Chg.refl [] w).alloc (.cells #[.int .i64 0, .string ⟨#[]⟩, .int .i64 0, .int .i64 0, .int .i64 0] 63)
  have hx := h.keep hca (by simp)
  have h0 := hx.c0
  have h1 := hx.c1
  have n1 : b ≠ w.heap.size := by have := blk_lt h.blk; omega
  have n2 : w.heap.size ≠ b := by omega
  have g1 : ((a : Int) == (s.size : Int)) = false := by simp; omega
  have g2 : (a == s.size) = false := by simp; omega
  have hl : isLetter s[a] = false := by simp [isLetter, hc]
  have hdg : isDigit s[a] = false := by simp [isDigit, hc]
  have HT := hid (show tokAt (L.drop a) = (0, 4, [], 0, 1) by rw [hcons]; simp [tokAt, hl, hdg, hc])
  have hLc := fun W => letter_calls s[a] W
  rw [hl] at hLc
  have HLC := hid hLc
  have hDc := fun W => digit_calls s[a] W
  rw [hdg] at hDc
  have HDC := hid hDc
  clear hDc
  have e45 : ((s[a].toNat : Int) == 45) = false := by simp; omega
  have e44 : ((s[a].toNat : Int) == 44) = false := by simp; omega
  have e58 : ((s[a].toNat : Int) == 58) = true := by simp; omega
  have e61 : ((s[a].toNat : Int) == 61) = false := by simp; omega
  have e10 : ((s[a].toNat : Int) == 10) = false := by simp; omega
  clear hLc hl hcons hdg hc
  go_enter Tryz.func69, Tryz.ntmps69
  go_wp2
  go_quiet (fail)
  go_wp2
  go_quiet (fail)
  go_wp2_with (first
    | (go_at_call 91; refine (HLC.out _).mono ?_; rintro e w2 ⟨rfl, rfl⟩)
    | (go_at_call 93; refine (HDC.out _).mono ?_; rintro e w2 ⟨rfl, rfl⟩))
  go_region
  go_wp2
  exact bodyPost_ret (v := .tuple #[.agg #[.int .i64 4, .string ⟨#[]⟩, .int .i64 0, .int .i64 0, .int .i64 0], .int .i64 ((a : Int) + 1), .int .i64 0]) (by simp [results, Tryz.results69, go_sem]) rfl (tokPost_yes HT.out (by repeat (first | with_reducible exact Chg.refl _ _ | with_reducible exact hca | with_reducible refine Chg.setCell ?_ (by first | exact .inr (Nat.le_refl _) | (refine .inr ?_; first | omega | (simp; done) | (simp; omega)) | (refine .inl ?_; simp; done)) _ | with_reducible refine Chg.drewN ?_ _ | with_reducible refine Chg.drew ?_ | with_reducible refine Chg.alloc ?_ _)) rfl rfl rfl (by omega))

set_option maxHeartbeats 2000000 in
set_option maxRecDepth 100000 in
theorem token_equal (ha : a < s.size) (hc : s[a].toNat = 61) : Calls Tryz.prog 69 #[.pointer (some ⟨b, 0, none⟩)] w (TokPost w a (L.drop a)) := by
  have hcons := drop_cons_of hL ha
  have hca := (Chg.refl [] w).alloc (.cells #[.int .i64 0, .string ⟨#[]⟩, .int .i64 0, .int .i64 0, .int .i64 0] 63)
  have hx := h.keep hca (by simp)
  have h0 := hx.c0
  have h1 := hx.c1
  have n1 : b ≠ w.heap.size := by have := blk_lt h.blk; omega
  have n2 : w.heap.size ≠ b := by omega
  have g1 : ((a : Int) == (s.size : Int)) = false := by simp; omega
  have g2 : (a == s.size) = false := by simp; omega
  have hl : isLetter s[a] = false := by simp [isLetter, hc]
  have hdg : isDigit s[a] = false := by simp [isDigit, hc]
  have HT := hid (show tokAt (L.drop a) = (0, 5, [], 0, 1) by rw [hcons]; simp [tokAt, hl, hdg, hc])
  have hLc := fun W => letter_calls s[a] W
  rw [hl] at hLc
  have HLC := hid hLc
  have hDc := fun W => digit_calls s[a] W
  rw [hdg] at hDc
  have HDC := hid hDc
  clear hDc
  have e45 : ((s[a].toNat : Int) == 45) = false := by simp; omega
  have e44 : ((s[a].toNat : Int) == 44) = false := by simp; omega
  have e58 : ((s[a].toNat : Int) == 58) = false := by simp; omega
  have e61 : ((s[a].toNat : Int) == 61) = true := by simp; omega
  have e10 : ((s[a].toNat : Int) == 10) = false := by simp; omega
  clear hLc hl hcons hdg hc
  go_enter Tryz.func69, Tryz.ntmps69
  go_wp2
  go_quiet (fail)
  go_wp2
  go_quiet (fail)
  go_wp2_with (first
    | (go_at_call 91; refine (HLC.out _).mono ?_; rintro e w2 ⟨rfl, rfl⟩)
    | (go_at_call 93; refine (HDC.out _).mono ?_; rintro e w2 ⟨rfl, rfl⟩))
  go_region
  go_wp2
  exact bodyPost_ret (v := .tuple #[.agg #[.int .i64 5, .string ⟨#[]⟩, .int .i64 0, .int .i64 0, .int .i64 0], .int .i64 ((a : Int) + 1), .int .i64 0]) (by simp [results, Tryz.results69, go_sem]) rfl (tokPost_yes HT.out (by repeat (first | with_reducible exact Chg.refl _ _ | with_reducible exact hca | with_reducible refine Chg.setCell ?_ (by first | exact .inr (Nat.le_refl _) | (refine .inr ?_; first | omega | (simp; done) | (simp; omega)) | (refine .inl ?_; simp; done)) _ | with_reducible refine Chg.drewN ?_ _ | with_reducible refine Chg.drew ?_ | with_reducible refine Chg.alloc ?_ _)) rfl rfl rfl (by omega))

set_option maxHeartbeats 2000000 in
set_option maxRecDepth 100000 in
theorem token_line (ha : a < s.size) (hc : s[a].toNat = 10) : Calls Tryz.prog 69 #[.pointer (some ⟨b, 0, none⟩)] w (TokPost w a (L.drop a)) := by
  have hcons := drop_cons_of hL ha
  have hca := (Chg.refl [] w).alloc (.cells #[.int .i64 0, .string ⟨#[]⟩, .int .i64 0, .int .i64 0, .int .i64 0] 63)
  have hx := h.keep hca (by simp)
  have h0 := hx.c0
  have h1 := hx.c1
  have n1 : b ≠ w.heap.size := by have := blk_lt h.blk; omega
  have n2 : w.heap.size ≠ b := by omega
  have g1 : ((a : Int) == (s.size : Int)) = false := by simp; omega
  have g2 : (a == s.size) = false := by simp; omega
  have hl : isLetter s[a] = false := by simp [isLetter, hc]
  have hdg : isDigit s[a] = false := by simp [isDigit, hc]
  have HT := hid (show tokAt (L.drop a) = (0, 6, [], 0, 1) by rw [hcons]; simp [tokAt, hl, hdg, hc])
  have hLc := fun W => letter_calls s[a] W
  rw [hl] at hLc
  have HLC := hid hLc
  have hDc := fun W => digit_calls s[a] W
  rw [hdg] at hDc
  have HDC := hid hDc
  clear hDc
  have e45 : ((s[a].toNat : Int) == 45) = false := by simp; omega
  have e44 : ((s[a].toNat : Int) == 44) = false := by simp; omega
  have e58 : ((s[a].toNat : Int) == 58) = false := by simp; omega
  have e61 : ((s[a].toNat : Int) == 61) = false := by simp; omega
  have e10 : ((s[a].toNat : Int) == 10) = true := by simp; omega
  clear hLc hl hcons hdg hc
  go_enter Tryz.func69, Tryz.ntmps69
  go_wp2
  go_quiet (fail)
  go_wp2
  go_quiet (fail)
  go_wp2_with (first
    | (go_at_call 91; refine (HLC.out _).mono ?_; rintro e w2 ⟨rfl, rfl⟩)
    | (go_at_call 93; refine (HDC.out _).mono ?_; rintro e w2 ⟨rfl, rfl⟩))
  go_region
  go_wp2
  exact bodyPost_ret (v := .tuple #[.agg #[.int .i64 6, .string ⟨#[]⟩, .int .i64 0, .int .i64 0, .int .i64 0], .int .i64 ((a : Int) + 1), .int .i64 0]) (by simp [results, Tryz.results69, go_sem]) rfl (tokPost_yes HT.out (by repeat (first | with_reducible exact Chg.refl _ _ | with_reducible exact hca | with_reducible refine Chg.setCell ?_ (by first | exact .inr (Nat.le_refl _) | (refine .inr ?_; first | omega | (simp; done) | (simp; omega)) | (refine .inl ?_; simp; done)) _ | with_reducible refine Chg.drewN ?_ _ | with_reducible refine Chg.drew ?_ | with_reducible refine Chg.alloc ?_ _)) rfl rfl rfl (by omega))

set_option maxHeartbeats 2000000 in
set_option maxRecDepth 100000 in
theorem token_other (ha : a < s.size) (hl : isLetter s[a] = false) (hdg : isDigit s[a] = false) (h45 : s[a].toNat ≠ 45) (h44 : s[a].toNat ≠ 44) (h58 : s[a].toNat ≠ 58) (h61 : s[a].toNat ≠ 61) (h10 : s[a].toNat ≠ 10) : Calls Tryz.prog 69 #[.pointer (some ⟨b, 0, none⟩)] w (TokPost w a (L.drop a)) := by
  have hcons := drop_cons_of hL ha
  have hca := (Chg.refl [] w).alloc (.cells #[.int .i64 0, .string ⟨#[]⟩, .int .i64 0, .int .i64 0, .int .i64 0] 63)
  have hx := h.keep hca (by simp)
  have h0 := hx.c0
  have h1 := hx.c1
  have n1 : b ≠ w.heap.size := by have := blk_lt h.blk; omega
  have n2 : w.heap.size ≠ b := by omega
  have g1 : ((a : Int) == (s.size : Int)) = false := by simp; omega
  have g2 : (a == s.size) = false := by simp; omega
  have HT := hid (show tokAt (L.drop a) = (70, 0, [], 0, 0) by rw [hcons]; simp [tokAt, hl, hdg, h45, h44, h58, h61, h10])
  have hLc := fun W => letter_calls s[a] W
  rw [hl] at hLc
  have HLC := hid hLc
  have hDc := fun W => digit_calls s[a] W
  rw [hdg] at hDc
  have HDC := hid hDc
  clear hDc
  have e45 : ((s[a].toNat : Int) == 45) = false := by simp; omega
  have e44 : ((s[a].toNat : Int) == 44) = false := by simp; omega
  have e58 : ((s[a].toNat : Int) == 58) = false := by simp; omega
  have e61 : ((s[a].toNat : Int) == 61) = false := by simp; omega
  have e10 : ((s[a].toNat : Int) == 10) = false := by simp; omega
  clear hLc hl hcons hdg h45 h44 h58 h61 h10
  go_enter Tryz.func69, Tryz.ntmps69
  go_wp2
  go_quiet (fail)
  go_wp2
  go_quiet (fail)
  go_wp2_with (first
    | (go_at_call 91; refine (HLC.out _).mono ?_; rintro e w2 ⟨rfl, rfl⟩)
    | (go_at_call 93; refine (HDC.out _).mono ?_; rintro e w2 ⟨rfl, rfl⟩))
  exact bodyPost_ret (v := .tuple #[.agg #[.int .i64 0, .string ⟨#[]⟩, .int .i64 0, .int .i64 0, .int .i64 0], .int .i64 0, .int .i64 70]) (by simp [results, Tryz.results69, go_sem]) rfl (tokPost_no HT.out (by decide) (by repeat (first | with_reducible exact Chg.refl _ _ | with_reducible exact hca | with_reducible refine Chg.setCell ?_ (by first | exact .inr (Nat.le_refl _) | (refine .inr ?_; first | omega | (simp; done) | (simp; omega)) | (refine .inl ?_; simp; done)) _ | with_reducible refine Chg.drewN ?_ _ | with_reducible refine Chg.drew ?_ | with_reducible refine Chg.alloc ?_ _)) rfl)

set_option maxHeartbeats 2000000 in
set_option maxRecDepth 100000 in
theorem token_digit (ha : a < s.size) (hdg : isDigit s[a] = true) : Calls Tryz.prog 69 #[.pointer (some ⟨b, 0, none⟩)] w (TokPost w a (L.drop a)) := by
  have hcons := drop_cons_of hL ha
  have hca := (Chg.refl [] w).alloc (.cells #[.int .i64 0, .string ⟨#[]⟩, .int .i64 0, .int .i64 0, .int .i64 0] 63)
  have hx := h.keep hca (by simp)
  have h0 := hx.c0
  have h1 := hx.c1
  have n1 : b ≠ w.heap.size := by have := blk_lt h.blk; omega
  have n2 : w.heap.size ≠ b := by omega
  have g1 : ((a : Int) == (s.size : Int)) = false := by simp; omega
  have g2 : (a == s.size) = false := by simp; omega
  have hc48 : 48 ≤ s[a].toNat ∧ s[a].toNat ≤ 57 := by simpa [isDigit] using hdg
  have hl : isLetter s[a] = false := by simp [isLetter]; omega
  have hDc := fun W => digit_calls s[a] W
  rw [hdg] at hDc
  have HDC := hid hDc
  clear hDc
  have e45 : ((s[a].toNat : Int) == 45) = false := by simp; omega
  have hLc := fun W => letter_calls s[a] W
  rw [hl] at hLc
  have HLC := hid hLc
  have hN := fun W (hW : Lx W b s a ln g) => number_calls hW hs L hL ha
  rcases hn : numTokAt (L.drop a) with _ | ⟨v, n⟩
  · have hN2 := fun W (hW : Lx W b s a ln g) => (hN W hW).mono (fun e w' hp => by unfold NumPost at hp; rw [hn] at hp; exact hp)
    have HN := hid hN2
    have HT := hid (show tokAt (L.drop a) = (71, 0, [], 0, 0) by rw [hcons] at hn ⊢; simp only [tokAt]; rw [if_neg (by simp [hl]), if_pos (.inl hdg), hn])
    clear hN hN2 hn
    clear hLc hl hcons hdg
    go_enter Tryz.func69, Tryz.ntmps69
    go_wp2
    go_quiet (fail)
    go_wp2
    go_quiet (fail)
    go_wp2_with (first
      | (go_at_call 91; refine (HLC.out _).mono ?_; rintro e w2 ⟨rfl, rfl⟩)
      | (go_at_call 94; refine (HN.out _ (hx.keep (Chg.of_drewN [] _ _) (by simp))).mono ?_; rintro e w3 ⟨rfl, hc3⟩; have hc3' := (hca.drewN _).trans' hc3; have hz : w.heap.size + 1 ≤ w3.heap.size := (by have := hc3.size; simpa using this); (try unfold zeroTok); (try unfold tokV); have yb : w3.heap[w.heap.size]? = some (.cells #[.int .i64 0, .string ⟨#[]⟩, .int .i64 0, .int .i64 0, .int .i64 0] 63 (0, 0)) := hc3.heap (heap_alloc_new w _) (by simp); have yf := fun i => blk_free yb i; have y0 : w3.cell? ⟨w.heap.size, 0, none⟩ = some (.int .i64 0) := (blk_cell yb 0).trans rfl; have y1 : w3.cell? ⟨w.heap.size, 1, none⟩ = some (.string ⟨#[]⟩) := (blk_cell yb 1).trans rfl; have y2 : w3.cell? ⟨w.heap.size, 2, none⟩ = some (.int .i64 0) := (blk_cell yb 2).trans rfl; have y3 : w3.cell? ⟨w.heap.size, 3, none⟩ = some (.int .i64 0) := (blk_cell yb 3).trans rfl; have y4 : w3.cell? ⟨w.heap.size, 4, none⟩ = some (.int .i64 0) := (blk_cell yb 4).trans rfl; clear yb)
      | (go_at_call 93; refine (HDC.out _).mono ?_; rintro e w2 ⟨rfl, rfl⟩))
    exact bodyPost_ret (v := .tuple #[.agg #[.int .i64 0, .string ⟨#[]⟩, .int .i64 0, .int .i64 0, .int .i64 0], .int .i64 0, .int .i64 71]) (by simp [results, Tryz.results69, go_sem, y0, y1, y2, y3, y4]) rfl (tokPost_no HT.out (by decide) (by repeat (first | with_reducible exact Chg.refl _ _ | with_reducible exact hc3' | with_reducible refine Chg.setCell ?_ (by first | exact .inr (Nat.le_refl _) | (refine .inr ?_; first | omega | (simp; done) | (simp; omega)) | (refine .inl ?_; simp; done)) _ | with_reducible refine Chg.drewN ?_ _ | with_reducible refine Chg.drew ?_ | with_reducible refine Chg.alloc ?_ _)) rfl)
  · have hN2 := fun W (hW : Lx W b s a ln g) => (hN W hW).mono (fun e w' hp => by unfold NumPost at hp; rw [hn] at hp; exact hp)
    have HN := hid hN2
    have HT := hid (show tokAt (L.drop a) = (0, 2, [], v, n) by rw [hcons] at hn ⊢; simp only [tokAt]; rw [if_neg (by simp [hl]), if_pos (.inl hdg), hn])
    clear hN hN2 hn
    clear hLc hl hcons hdg
    go_enter Tryz.func69, Tryz.ntmps69
    go_wp2
    go_quiet (fail)
    go_wp2
    go_quiet (fail)
    go_wp2_with (first
      | (go_at_call 91; refine (HLC.out _).mono ?_; rintro e w2 ⟨rfl, rfl⟩)
      | (go_at_call 94; refine (HN.out _ (hx.keep (Chg.of_drewN [] _ _) (by simp))).mono ?_; rintro e w3 ⟨rfl, hc3⟩; have hc3' := (hca.drewN _).trans' hc3; have hz : w.heap.size + 1 ≤ w3.heap.size := (by have := hc3.size; simpa using this); (try unfold zeroTok); (try unfold tokV); have yb : w3.heap[w.heap.size]? = some (.cells #[.int .i64 0, .string ⟨#[]⟩, .int .i64 0, .int .i64 0, .int .i64 0] 63 (0, 0)) := hc3.heap (heap_alloc_new w _) (by simp); have yf := fun i => blk_free yb i; have y0 : w3.cell? ⟨w.heap.size, 0, none⟩ = some (.int .i64 0) := (blk_cell yb 0).trans rfl; have y1 : w3.cell? ⟨w.heap.size, 1, none⟩ = some (.string ⟨#[]⟩) := (blk_cell yb 1).trans rfl; have y2 : w3.cell? ⟨w.heap.size, 2, none⟩ = some (.int .i64 0) := (blk_cell yb 2).trans rfl; have y3 : w3.cell? ⟨w.heap.size, 3, none⟩ = some (.int .i64 0) := (blk_cell yb 3).trans rfl; have y4 : w3.cell? ⟨w.heap.size, 4, none⟩ = some (.int .i64 0) := (blk_cell yb 4).trans rfl; clear yb)
      | (go_at_call 93; refine (HDC.out _).mono ?_; rintro e w2 ⟨rfl, rfl⟩))
    exact bodyPost_ret (v := .tuple #[.agg #[.int .i64 2, .string ⟨#[]⟩, .int .i64 v, .int .i64 0, .int .i64 0], .int .i64 ((a : Int) + (n : Int)), .int .i64 0]) (by simp [results, Tryz.results69, go_sem, y0, y1, y2, y3, y4]) rfl (tokPost_yes HT.out (by repeat (first | with_reducible exact Chg.refl _ _ | with_reducible exact hc3' | with_reducible refine Chg.setCell ?_ (by first | exact .inr (Nat.le_refl _) | (refine .inr ?_; first | omega | (simp; done) | (simp; omega)) | (refine .inl ?_; simp; done)) _ | with_reducible refine Chg.drewN ?_ _ | with_reducible refine Chg.drew ?_ | with_reducible refine Chg.alloc ?_ _)) rfl rfl rfl (by omega))

set_option maxHeartbeats 2000000 in
set_option maxRecDepth 100000 in
theorem token_minus (ha : a < s.size) (hc : s[a].toNat = 45) (hdn : isDigit (byteAtB s (a + 1)) = true) : Calls Tryz.prog 69 #[.pointer (some ⟨b, 0, none⟩)] w (TokPost w a (L.drop a)) := by
  have hcons := drop_cons_of hL ha
  have hca := (Chg.refl [] w).alloc (.cells #[.int .i64 0, .string ⟨#[]⟩, .int .i64 0, .int .i64 0, .int .i64 0] 63)
  have hx := h.keep hca (by simp)
  have h0 := hx.c0
  have h1 := hx.c1
  have n1 : b ≠ w.heap.size := by have := blk_lt h.blk; omega
  have n2 : w.heap.size ≠ b := by omega
  have g1 : ((a : Int) == (s.size : Int)) = false := by simp; omega
  have g2 : (a == s.size) = false := by simp; omega
  have hl : isLetter s[a] = false := by simp [isLetter, hc]
  have hdg : isDigit s[a] = false := by simp [isDigit, hc]
  have hnx : ∃ d ∈ (L.drop (a + 1)).head?, isDigit d = true := by
    unfold byteAtB at hdn
    split at hdn
    · rename_i h1
      exact ⟨s[a + 1], by rw [head_of hL h1]; rfl, hdn⟩
    · exact absurd hdn (by decide)
  have e45 : ((s[a].toNat : Int) == 45) = true := by simp; omega
  have hDc := fun W => digit_calls (byteAtB s (a + 1)) W
  rw [hdn] at hDc
  have HDC := hid hDc
  have HBA := hid (fun W (hW : Lx W b s a ln g) => byteAt_calls hW hs (a + 1))
  have hLc := fun W => letter_calls s[a] W
  rw [hl] at hLc
  have HLC := hid hLc
  have hN := fun W (hW : Lx W b s a ln g) => number_calls hW hs L hL ha
  rcases hn : numTokAt (L.drop a) with _ | ⟨v, n⟩
  · have hN2 := fun W (hW : Lx W b s a ln g) => (hN W hW).mono (fun e w' hp => by unfold NumPost at hp; rw [hn] at hp; exact hp)
    have HN := hid hN2
    have HT := hid (show tokAt (L.drop a) = (71, 0, [], 0, 0) by rw [hcons] at hn ⊢; simp only [tokAt]; rw [if_neg (by simp [hl]), if_pos (.inr ⟨hc, hnx⟩), hn])
    clear hN hN2 hn
    clear hLc hl hcons hdg hc hdn hnx hDc
    go_enter Tryz.func69, Tryz.ntmps69
    go_wp2
    go_quiet (fail)
    go_wp2
    go_quiet (fail)
    go_wp2_with (first
      | (go_at_call 91; refine (HLC.out _).mono ?_; rintro e w2 ⟨rfl, rfl⟩)
      | (go_at_call 94; refine (HN.out _ (hx.keep (Chg.of_drewN [] _ _) (by simp))).mono ?_; rintro e w3 ⟨rfl, hc3⟩; have hc3' := (hca.drewN _).trans' hc3; have hz : w.heap.size + 1 ≤ w3.heap.size := (by have := hc3.size; simpa using this); (try unfold zeroTok); (try unfold tokV); have yb : w3.heap[w.heap.size]? = some (.cells #[.int .i64 0, .string ⟨#[]⟩, .int .i64 0, .int .i64 0, .int .i64 0] 63 (0, 0)) := hc3.heap (heap_alloc_new w _) (by simp); have yf := fun i => blk_free yb i; have y0 : w3.cell? ⟨w.heap.size, 0, none⟩ = some (.int .i64 0) := (blk_cell yb 0).trans rfl; have y1 : w3.cell? ⟨w.heap.size, 1, none⟩ = some (.string ⟨#[]⟩) := (blk_cell yb 1).trans rfl; have y2 : w3.cell? ⟨w.heap.size, 2, none⟩ = some (.int .i64 0) := (blk_cell yb 2).trans rfl; have y3 : w3.cell? ⟨w.heap.size, 3, none⟩ = some (.int .i64 0) := (blk_cell yb 3).trans rfl; have y4 : w3.cell? ⟨w.heap.size, 4, none⟩ = some (.int .i64 0) := (blk_cell yb 4).trans rfl; clear yb)
      | (go_at_call 66; refine (HBA.out _ (hx.keep (Chg.of_drewN [] _ _) (by simp))).mono ?_; rintro e w2 ⟨rfl, rfl⟩)
      | (go_at_call 93; refine (HDC.out _).mono ?_; rintro e w2 ⟨rfl, rfl⟩))
    exact bodyPost_ret (v := .tuple #[.agg #[.int .i64 0, .string ⟨#[]⟩, .int .i64 0, .int .i64 0, .int .i64 0], .int .i64 0, .int .i64 71]) (by simp [results, Tryz.results69, go_sem, y0, y1, y2, y3, y4]) rfl (tokPost_no HT.out (by decide) (by repeat (first | with_reducible exact Chg.refl _ _ | with_reducible exact hc3' | with_reducible refine Chg.setCell ?_ (by first | exact .inr (Nat.le_refl _) | (refine .inr ?_; first | omega | (simp; done) | (simp; omega)) | (refine .inl ?_; simp; done)) _ | with_reducible refine Chg.drewN ?_ _ | with_reducible refine Chg.drew ?_ | with_reducible refine Chg.alloc ?_ _)) rfl)
  · have hN2 := fun W (hW : Lx W b s a ln g) => (hN W hW).mono (fun e w' hp => by unfold NumPost at hp; rw [hn] at hp; exact hp)
    have HN := hid hN2
    have HT := hid (show tokAt (L.drop a) = (0, 2, [], v, n) by rw [hcons] at hn ⊢; simp only [tokAt]; rw [if_neg (by simp [hl]), if_pos (.inr ⟨hc, hnx⟩), hn])
    clear hN hN2 hn
    clear hLc hl hcons hdg hc hdn hnx hDc
    go_enter Tryz.func69, Tryz.ntmps69
    go_wp2
    go_quiet (fail)
    go_wp2
    go_quiet (fail)
    go_wp2_with (first
      | (go_at_call 91; refine (HLC.out _).mono ?_; rintro e w2 ⟨rfl, rfl⟩)
      | (go_at_call 94; refine (HN.out _ (hx.keep (Chg.of_drewN [] _ _) (by simp))).mono ?_; rintro e w3 ⟨rfl, hc3⟩; have hc3' := (hca.drewN _).trans' hc3; have hz : w.heap.size + 1 ≤ w3.heap.size := (by have := hc3.size; simpa using this); (try unfold zeroTok); (try unfold tokV); have yb : w3.heap[w.heap.size]? = some (.cells #[.int .i64 0, .string ⟨#[]⟩, .int .i64 0, .int .i64 0, .int .i64 0] 63 (0, 0)) := hc3.heap (heap_alloc_new w _) (by simp); have yf := fun i => blk_free yb i; have y0 : w3.cell? ⟨w.heap.size, 0, none⟩ = some (.int .i64 0) := (blk_cell yb 0).trans rfl; have y1 : w3.cell? ⟨w.heap.size, 1, none⟩ = some (.string ⟨#[]⟩) := (blk_cell yb 1).trans rfl; have y2 : w3.cell? ⟨w.heap.size, 2, none⟩ = some (.int .i64 0) := (blk_cell yb 2).trans rfl; have y3 : w3.cell? ⟨w.heap.size, 3, none⟩ = some (.int .i64 0) := (blk_cell yb 3).trans rfl; have y4 : w3.cell? ⟨w.heap.size, 4, none⟩ = some (.int .i64 0) := (blk_cell yb 4).trans rfl; clear yb)
      | (go_at_call 66; refine (HBA.out _ (hx.keep (Chg.of_drewN [] _ _) (by simp))).mono ?_; rintro e w2 ⟨rfl, rfl⟩)
      | (go_at_call 93; refine (HDC.out _).mono ?_; rintro e w2 ⟨rfl, rfl⟩))
    exact bodyPost_ret (v := .tuple #[.agg #[.int .i64 2, .string ⟨#[]⟩, .int .i64 v, .int .i64 0, .int .i64 0], .int .i64 ((a : Int) + (n : Int)), .int .i64 0]) (by simp [results, Tryz.results69, go_sem, y0, y1, y2, y3, y4]) rfl (tokPost_yes HT.out (by repeat (first | with_reducible exact Chg.refl _ _ | with_reducible exact hc3' | with_reducible refine Chg.setCell ?_ (by first | exact .inr (Nat.le_refl _) | (refine .inr ?_; first | omega | (simp; done) | (simp; omega)) | (refine .inl ?_; simp; done)) _ | with_reducible refine Chg.drewN ?_ _ | with_reducible refine Chg.drew ?_ | with_reducible refine Chg.alloc ?_ _)) rfl rfl rfl (by omega))

set_option maxHeartbeats 2000000 in
set_option maxRecDepth 100000 in
theorem token_dash (ha : a < s.size) (hc : s[a].toNat = 45) (hdn : isDigit (byteAtB s (a + 1)) = false) : Calls Tryz.prog 69 #[.pointer (some ⟨b, 0, none⟩)] w (TokPost w a (L.drop a)) := by
  have hcons := drop_cons_of hL ha
  have hca := (Chg.refl [] w).alloc (.cells #[.int .i64 0, .string ⟨#[]⟩, .int .i64 0, .int .i64 0, .int .i64 0] 63)
  have hx := h.keep hca (by simp)
  have h0 := hx.c0
  have h1 := hx.c1
  have n1 : b ≠ w.heap.size := by have := blk_lt h.blk; omega
  have n2 : w.heap.size ≠ b := by omega
  have g1 : ((a : Int) == (s.size : Int)) = false := by simp; omega
  have g2 : (a == s.size) = false := by simp; omega
  have hl : isLetter s[a] = false := by simp [isLetter, hc]
  have hdg : isDigit s[a] = false := by simp [isDigit, hc]
  have hnx : ¬ ∃ d ∈ (L.drop (a + 1)).head?, isDigit d = true := by
    rintro ⟨d, hd, hd2⟩
    unfold byteAtB at hdn
    split at hdn
    · rename_i h1
      rw [head_of hL h1] at hd
      cases hd
      rw [hdn] at hd2; cases hd2
    · rename_i h1
      rw [List.drop_of_length_le (by rw [len_of hL]; omega)] at hd
      cases hd
  have HT := hid (show tokAt (L.drop a) = (70, 0, [], 0, 0) by rw [hcons]; simp only [tokAt]; rw [if_neg (by simp [hl]), if_neg (by intro h; rcases h with h | h; rw [hdg] at h; cases h; exact hnx h.2)]; simp [hc])
  have hLc := fun W => letter_calls s[a] W
  rw [hl] at hLc
  have HLC := hid hLc
  have e45 : ((s[a].toNat : Int) == 45) = true := by simp; omega
  have e44 : ((s[a].toNat : Int) == 44) = false := by simp; omega
  have e58 : ((s[a].toNat : Int) == 58) = false := by simp; omega
  have e61 : ((s[a].toNat : Int) == 61) = false := by simp; omega
  have e10 : ((s[a].toNat : Int) == 10) = false := by simp; omega
  have hDc := fun W => digit_calls (byteAtB s (a + 1)) W
  rw [hdn] at hDc
  have HDC := hid hDc
  have HBA := hid (fun W (hW : Lx W b s a ln g) => byteAt_calls hW hs (a + 1))
  clear hDc hdg
  clear hLc hl hcons hc hdn hnx
  go_enter Tryz.func69, Tryz.ntmps69
  go_wp2
  go_quiet (fail)
  go_wp2
  go_quiet (fail)
  go_wp2_with (first
    | (go_at_call 91; refine (HLC.out _).mono ?_; rintro e w2 ⟨rfl, rfl⟩)
    | (go_at_call 66; refine (HBA.out _ (hx.keep (Chg.of_drewN [] _ _) (by simp))).mono ?_; rintro e w2 ⟨rfl, rfl⟩)
    | (go_at_call 93; refine (HDC.out _).mono ?_; rintro e w2 ⟨rfl, rfl⟩))
  exact bodyPost_ret (v := .tuple #[.agg #[.int .i64 0, .string ⟨#[]⟩, .int .i64 0, .int .i64 0, .int .i64 0], .int .i64 0, .int .i64 70]) (by simp [results, Tryz.results69, go_sem]) rfl (tokPost_no HT.out (by decide) (by repeat (first | with_reducible exact Chg.refl _ _ | with_reducible exact hca | with_reducible refine Chg.setCell ?_ (by first | exact .inr (Nat.le_refl _) | (refine .inr ?_; first | omega | (simp; done) | (simp; omega)) | (refine .inl ?_; simp; done)) _ | with_reducible refine Chg.drewN ?_ _ | with_reducible refine Chg.drew ?_ | with_reducible refine Chg.alloc ?_ _)) rfl)

theorem token_calls (ha : a ≤ s.size) : Calls Tryz.prog 69 #[.pointer (some ⟨b, 0, none⟩)] w (TokPost w a (L.drop a)) := by
  by_cases h1 : a < s.size
  · rcases Bool.eq_false_or_eq_true (isLetter s[a]) with hl | hl
    · exact token_letter h hs L hL h1 hl
    rcases Bool.eq_false_or_eq_true (isDigit s[a]) with hdg | hdg
    · exact token_digit h hs L hL h1 hdg
    by_cases h45 : s[a].toNat = 45
    · rcases Bool.eq_false_or_eq_true (isDigit (byteAtB s (a + 1))) with hn | hn
      · exact token_minus h hs L hL h1 h45 hn
      · exact token_dash h hs L hL h1 h45 hn
    by_cases h44 : s[a].toNat = 44
    · exact token_comma h hs L hL h1 h44
    by_cases h58 : s[a].toNat = 58
    · exact token_colon h hs L hL h1 h58
    by_cases h61 : s[a].toNat = 61
    · exact token_equal h hs L hL h1 h61
    by_cases h10 : s[a].toNat = 10
    · exact token_line h hs L hL h1 h10
    exact token_other h hs L hL h1 hl hdg h45 h44 h58 h61 h10
  · exact token_end h hs L hL (by omega)
end
end Go.Proofs.YtmahcabidggmeaaGreatDoor
