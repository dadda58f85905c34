/- Walks of the builder: what block leans on: lists of strings that are made, numbers as text, labels so far. -/
import Derived.Test.YtaknmhipaifdkaaDoorMa
import Derived.Test.YtaknmhipaifdkaaDoorShelf
import Derived.Laws.MakeOwn
import Derived.Laws.OwnMore
import Derived.Lib.ItoaLen
set_option linter.unusedSimpArgs false
set_option linter.unusedVariables false
set_option linter.unusedSectionVars false
namespace Go.Proofs.YtaknmhipaifdkaaDoor
open Go.RowKit Go.AB

/-- The table of the powers of ten stands as the row says. -/
def Pow10 (w : World) : Prop := Lib.TabIs Tryd.prog w "internal/strconv.uint64pow10" .u64 Lib.pow10Tab
theorem tab_chg {P : Program} {w w' : World} {name : String} {k : IntKind} {zs : List Int} (h : Lib.TabIs P w name k zs) (hc : Chg [] w w') : Lib.TabIs P w' name k zs := by
  unfold Lib.TabIs World.var? at *
  cases hg : P.globalNamed name with
  | none => simp [hg] at h
  | some g =>
    simp only [hg, Option.bind_some] at h ⊢
    have hlt : g < w.heap.size := by
      rcases Nat.lt_or_ge g w.heap.size with h' | h'
      · exact h'
      · rw [Array.getElem?_eq_none h'] at h; simp at h
    rw [hc.block g hlt (by simp)]
    exact h
theorem Pow10.keep {w w' : World} (h : Pow10 w) (hc : Chg [] w w') : Pow10 w' := tab_chg h hc
theorem chg_grow (w : World) (k : Nat) (os : Array Obj) : Chg [] w (Sort.grow (w.drewN k) os) := by
  refine ⟨rfl, rfl, rfl, ?_, fun i hi _ => ?_⟩
  · show w.heap.size ≤ (w.heap ++ os).size
    simp
  · show (w.heap ++ os)[i]? = w.heap[i]?
    rw [Array.getElem?_append_left hi]
/-- A number's decimal digits. -/
def decS (u : Nat) : ByteArray := ⟨(Lib.decDigits u).toArray⟩
theorem itoa_calls (t : Nat) (ht : t < 4294967296) (w : World) (htab : Pow10 w) :
    Calls Tryd.prog 30 #[.int .i64 t] w fun e w' => e = .returned (.string (decS t)) ∧ Chg [] w w' := by
  refine (Tryd.strconv_Itoa (t : Int) (by omega) (by omega) w htab).mono ?_
  rintro e w' ⟨rfl, k, os, rfl⟩
  rw [Lib.itoa_nonneg]
  exact ⟨rfl, chg_grow _ _ _⟩
theorem info_parts' {P : Program} {t : TypeId} {z : Value} {n b : Nat} (h : (P.info? t).map (fun i => (i.zero, i.size, i.bytes)) = some (some z, n, b)) : ∃ i, P.info? t = some i ∧ i.zero = some z ∧ i.size = n ∧ i.bytes = b := by
  cases hi : P.info? t with
  | none => rw [hi] at h; cases h
  | some i =>
    rw [hi] at h
    simp only [Option.map_some, Option.some.injEq, Prod.mk.injEq] at h
    exact ⟨i, rfl, h.1, h.2.1, h.2.2⟩
theorem mk_strs (W : World) (n : Nat) (hn : n ≤ 1048576) : (Instr.makeSlice 28 (.int .i64 (n : Int)) (.int .i64 (n : Int))).run Tryd.prog W = .ok (.slice (some ⟨W.heap.size, 0, none⟩) n n) (W.alloc (.cells ((List.replicate n (⟨#[]⟩ : ByteArray)).flatMap strC).toArray 9)) := by
  obtain ⟨i, hi, hz0, hz1, hz2⟩ := info_parts' info_str
  have h := run_make (P := Tryd.prog) W 28 9 i (.string ⟨#[]⟩) Tryd.underlying28 hi hz0 .i64 .i64 (n : Int) (n : Int) (by omega) (by omega) (by rw [hz2]; omega) (by omega)
  have e : madeCells (Value.string ⟨#[]⟩).cells (((n : Int)).toNat * i.size) = ((List.replicate n (⟨#[]⟩ : ByteArray)).flatMap strC).toArray := by
    apply Array.ext'
    rw [hz1, show (Value.string ⟨#[]⟩).cells = #[.string ⟨#[]⟩] from rfl, toList_madeCells_one]
    simp only [Int.toNat_natCast, Nat.mul_one, List.flatMap_replicate]
    clear h hn
    induction n with
    | zero => rfl
    | succ n ih => rw [List.replicate_succ, List.replicate_succ, List.flatten_cons, ← ih]; rfl
  rw [e] at h
  simpa using h
def lS : ByteArray := ⟨#[108]⟩
def eS : ByteArray := ⟨#[]⟩
/-- What is marked by the first j instructions. -/
def m1 (code : List InsD) (j : Nat) : List ByteArray := (List.range code.length).map fun i => if isTgt (code.take j) i = true then lS else eS
theorem m1_len (code : List InsD) (j : Nat) : (m1 code j).length = code.length := by simp [m1]
theorem m1_zero (code : List InsD) : m1 code 0 = List.replicate code.length eS := by
  unfold m1
  apply List.ext_getElem
  · simp
  · intro i h1 h2
    simp [isTgt]
theorem tgt_succ (code : List InsD) {j : Nat} (hj : j < code.length) (i : Nat) : isTgt (code.take (j + 1)) i = (isTgt (code.take j) i || (decide (touchB code[j].op = 6) && decide (code[j].n = (i : Int)))) := by
  unfold isTgt
  rw [List.take_succ_eq_append_getElem hj, List.any_append]
  simp
theorem m1_no (code : List InsD) {j : Nat} (hj : j < code.length) (h : touchB code[j].op ≠ 6) : m1 code (j + 1) = m1 code j := by
  unfold m1
  apply List.map_congr_left
  intro i _
  rw [tgt_succ code hj, decide_eq_false h]
  simp
theorem m1_set (code : List InsD) {j N : Nat} (hj : j < code.length) (h : touchB code[j].op = 6) (hN : code[j].n = (N : Int)) (hNl : N < code.length) : (m1 code j).set N lS = m1 code (j + 1) := by
  apply List.ext_getElem
  · simp [m1]
  · intro i h1 h2
    have hi : i < code.length := by simpa [m1] using h2
    rw [List.getElem_set]
    simp only [m1, List.getElem_map, List.getElem_range]
    rw [tgt_succ code hj, decide_eq_true h, hN]
    by_cases hiN : N = i
    · subst hiN
      simp
    · have : ¬ ((N : Int) = (i : Int)) := by omega
      rw [if_neg hiN]
      simp [this]
/-- The labels, of which the first i bear their numbers. -/
def m2 (code : List InsD) (i : Nat) : List ByteArray := (List.range code.length).map fun j => if isTgt code j = true then (if j < i then lblS decS code j else lS) else eS
theorem m2_len (code : List InsD) (i : Nat) : (m2 code i).length = code.length := by simp [m2]
theorem m2_zero (code : List InsD) : m1 code code.length = m2 code 0 := by
  unfold m1 m2
  rw [List.take_length]
  simp
theorem m2_at (code : List InsD) {i : Nat} (hi : i < code.length) : (m2 code i)[i]'(by rw [m2_len]; exact hi) = if isTgt code i = true then lS else eS := by
  simp [m2]
theorem m2_no (code : List InsD) {i : Nat} (h : ¬ isTgt code i = true) : m2 code (i + 1) = m2 code i := by
  unfold m2
  apply List.map_congr_left
  intro j _
  by_cases hj : isTgt code j = true
  · rw [if_pos hj, if_pos hj]
    have : j ≠ i := fun e => h (by rw [← e]; exact hj)
    by_cases h2 : j < i
    · rw [if_pos h2, if_pos (by omega)]
    · rw [if_neg h2, if_neg (by omega)]
  · rw [if_neg hj, if_neg hj]
theorem m2_set (code : List InsD) {i : Nat} (hi : i < code.length) (h : isTgt code i = true) : (m2 code i).set i (lblS decS code i) = m2 code (i + 1) := by
  apply List.ext_getElem
  · simp [m2]
  · intro j h1 h2
    rw [List.getElem_set]
    simp only [m2, List.getElem_map, List.getElem_range]
    by_cases hj : i = j
    · subst hj
      rw [if_pos rfl, if_pos h, if_pos (by omega)]
    · rw [if_neg hj]
      by_cases ht : isTgt code j = true
      · rw [if_pos ht, if_pos ht]
        by_cases h2 : j < i
        · rw [if_pos h2, if_pos (by omega)]
        · rw [if_neg h2, if_neg (by omega)]
      · rw [if_neg ht, if_neg ht]
theorem lblN_succ (code : List InsD) (i : Nat) : lblN code (i + 1) = lblN code i + if isTgt code i = true then 1 else 0 := by
  unfold lblN
  rw [List.range_succ, List.filter_append, List.length_append]
  congr 1
  by_cases h : isTgt code i = true <;> simp [h]
/-- The marks, all of them. -/
theorem m2_all (code : List InsD) {i : Nat} (hi : i < code.length) : (m2 code code.length)[i]'(by rw [m2_len]; exact hi) = if isTgt code i = true then lblS decS code i else eS := by
  simp [m2, hi]
theorem lS_ne : lS.size ≠ 0 := by decide
theorem lbl_ne (code : List InsD) (i : Nat) : (lblS decS code i).size ≠ 0 := by
  show (pre1 108 (decS (lblN code i))).size ≠ 0
  rw [pre1_size]
  omega
theorem digs_len {u : Nat} (h : u < 18446744073709551616) : (decS u).size ≤ 20 := by
  show (Lib.decDigits u).toArray.size ≤ _
  rw [List.size_toArray, Lib.decDigits_length]
  exact Lib.nDigits_le20 u h

/-- What block answers. -/
def BlockP (w : World) (o : Option BkD) (e : Ending) (w' : World) : Prop := match o with
  | none => e = .returned (.tuple #[.agg #[.string ⟨#[]⟩, .slice none 0 0, .int .i64 0, .int .i64 0], .bool false]) ∧ Chg [] w w'
  | some k => ∃ v' r, e = .returned (.tuple #[.agg #[.string k.name, v', .int .i64 0, .int .i64 0], .bool true]) ∧ Row w' 82 10 v' r k.items.length (k.items.flatMap itC) ∧ Chg [] w w' ∧ Fresh w none r
end Go.Proofs.YtaknmhipaifdkaaDoor
