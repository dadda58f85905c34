/- Several texts of this seat, one behind the other: Gv, Sa, Sb, Sc. -/
import Derived.Test.YtbikekgljabalaaGb
import Derived.Laws.StructEq
/- Slices of structs that are read; programs in memory. -/
namespace Go.AB
open Go.RowKit
set_option linter.unusedVariables false

theorem flat_len {α : Type} {f : α → List Value} {k : Nat} (hf : ∀ x, (f x).length = k) (xs : List α) : (xs.flatMap f).length = xs.length * k := by
  induction xs with
  | nil => simp
  | cons x xs ih => rw [List.flatMap_cons, List.length_append, hf, ih, List.length_cons, Nat.add_mul]; omega
theorem flat_get {α : Type} {f : α → List Value} {k : Nat} (hf : ∀ x, (f x).length = k) : ∀ (xs : List α) (i j : Nat) (hi : i < xs.length) (hj : j < k), (xs.flatMap f).getD (i * k + j) undef = (f xs[i]).getD j undef
  | [], i, _, hi, _ => by simp at hi
  | x :: xs, 0, j, _, hj => by
    rw [List.flatMap_cons, Nat.zero_mul, Nat.zero_add]
    simp only [List.getD]
    rw [List.getElem?_append_left (by rw [hf]; exact hj)]
    rfl
  | x :: xs, i + 1, j, hi, hj => by
    have h := flat_get hf xs i j (by simpa using hi) hj
    rw [List.flatMap_cons]
    simp only [List.getD] at h ⊢
    rw [List.getElem?_append_right (by rw [hf, Nat.add_mul]; omega), hf, show (i + 1) * k + j - k = i * k + j from by rw [Nat.add_mul]; omega, h]
    rfl
/-- A slice whose elements' cells are those of a list. -/
def Lst {α : Type} (f : α → List Value) (k : Nat) (w : World) (v : Value) (xs : List α) : Prop := View w k v xs.length (xs.flatMap f)
theorem Lst.at {α : Type} {f : α → List Value} {k : Nat} (hf : ∀ x, (f x).length = k) {w : World} {ao : Option Addr} {n cap : Nat} {xs : List α} (h : Lst f k w (.slice ao n cap) xs) {i : Nat} (hi : i < xs.length) (hk : 0 < k) :
    ∃ b off, ao = some ⟨b, off, none⟩ ∧ ∀ j, j < k → w.cell? ⟨b, off + i * k + j, none⟩ = some ((f xs[i]).getD j undef) := by
  obtain ⟨_, _, ao', cap', hv, _, _, _, hc⟩ := h
  simp only [Value.slice.injEq] at hv
  obtain ⟨rfl, rfl, rfl⟩ := hv
  have h1 : (i + 1) * k ≤ xs.length * k := Nat.mul_le_mul_right k (by omega)
  rw [Nat.add_mul] at h1
  obtain ⟨b, off, rfl, hcell⟩ := hc (by omega)
  refine ⟨b, off, rfl, fun j hj => ?_⟩
  rw [Nat.add_assoc, hcell (i * k + j) (by omega), flat_get hf xs i j hi hj]
theorem Lst.len {α : Type} {f : α → List Value} {k : Nat} {w : World} {v : Value} {xs : List α} (h : Lst f k w v xs) : ∃ ao cap, v = .slice ao xs.length cap ∧ xs.length ≤ cap ∧ cap ≤ maxLen ∧ xs.length ≤ maxLen := by
  obtain ⟨_, h1, ao, cap, rfl, h2, h3, _⟩ := h
  exact ⟨ao, cap, rfl, h2, h3, h1⟩
theorem Lst.keep {α : Type} {f : α → List Value} {k : Nat} {w w' : World} {v : Value} {xs : List α} (h : Lst f k w v xs) (hc : Chg [] w w') : Lst f k w' v xs := View.keep h hc (by simp)
theorem varC_len (v : VarD) : (varC v).length = 2 := rfl
theorem insC_len (v : InsD) : (insC v).length = 5 := rfl
theorem plcC_len (v : PlcD) : (plcC v).length = 2 := rfl
def strC (s : ByteArray) : List Value := [.string s]
theorem strC_len (s : ByteArray) : (strC s).length = 1 := rfl
/-- A thread's value: its name, and two slices. -/
structure ThrV where
  t : ThrD
  code : Value
  places : Value
def thrC (x : ThrV) : List Value := [.string x.t.name, x.code, x.places]
theorem thrC_len (x : ThrV) : (thrC x).length = 3 := rfl
/-- A program in memory. -/
structure PrgV (w : World) (v : Value) (p : PrgD) : Prop where
  mk' : ∃ a b c d e : Value, ∃ ts : List ThrV, v = .agg #[a, b, c, d, e] ∧ Lst varC 2 w a p.vars ∧ Lst varC 2 w b p.vols ∧ Lst strC 1 w c p.locks ∧ Lst varC 2 w d p.bars ∧ Lst thrC 3 w e ts ∧ ts.map ThrV.t = p.thrs ∧
    ∀ x ∈ ts, Lst insC 5 w x.code x.t.code ∧ Lst plcC 2 w x.places x.t.places
theorem PrgV.keep {w w' : World} {v : Value} {p : PrgD} (h : PrgV w v p) (hc : Chg [] w w') : PrgV w' v p := by
  obtain ⟨a, b, c, d, e, ts, h0, h1, h2, h3, h4, h5, h6, h7⟩ := h
  exact ⟨a, b, c, d, e, ts, h0, h1.keep hc, h2.keep hc, h3.keep hc, h4.keep hc, h5.keep hc, h6, fun x hx => ⟨(h7 x hx).1.keep hc, (h7 x hx).2.keep hc⟩⟩
end Go.AB

/- Structs compared: what the program's tables say. -/
namespace Go.Proofs.Ytbikekgljabalaa
open Go.RowKit Go.AB
set_option linter.unusedSimpArgs false

/-- A claim as a bool. -/
noncomputable def eqB (p : Prop) : Bool := @decide p (Classical.propDecidable p)
theorem eqB_true {p : Prop} (h : p) : eqB p = true := by unfold eqB; simp [h]
theorem eqB_false {p : Prop} (h : ¬ p) : eqB p = false := by unfold eqB; simp [h]
theorem eqB_iff {p q : Prop} (h : p ↔ q) : eqB p = eqB q := by rw [propext h]
theorem list_inj {a b : ByteArray} : a.toList = b.toList ↔ a = b := by
  constructor
  · intro h
    have h2 := beq_toListBytes a b
    rw [h, beq_self_eq_true] at h2
    cases a with | mk x => cases b with | mk y => exact congrArg ByteArray.mk (eq_of_beq (show (x == y) = true from h2))
  · intro h; rw [h]
theorem und_var : Try.prog.underlying 53 = some (.struct (Try.prog.fieldsOf 53)) := by kernel_rfl
theorem guard_var (u : World) (x y : Operand) (xs ys : Array Value) : (eqGuard .neq 53 x y (.agg xs) (.agg ys)).run Try.prog u = .ok () u := run_eqGuard_agg u .neq 53 x y xs ys (by kernel_rfl)
theorem neq_var (u : World) (a0 b0 : ByteArray) (a1 b1 : Int) : (binOp .neq 53 (.agg #[.string a0, .int .i64 a1]) (.agg #[.string b0, .int .i64 b1])).run Try.prog u = .ok (.bool (!(eqB (a0 = b0 ∧ a1 = b1)))) u := by
  have he : eqB (a0 = b0 ∧ a1 = b1) = ((a0.toList == b0.toList) && (a1 == b1)) := by
    by_cases h : a0 = b0 ∧ a1 = b1
    · rw [eqB_true h]
      obtain ⟨rfl, rfl⟩ := h
      simp
    · rw [eqB_false h]
      symm
      simp only [Bool.and_eq_false_iff, beq_eq_false_iff_ne, ne_eq]
      try simp only [list_inj]
      first | omega | (by_cases q0 : a0 = b0 <;> simp_all)
  rw [he, run_neq_struct, run_equalIn_agg u 9999 53 _ _ und_var (by kernel_rfl)]
  simp [go_sem]
  repeat' split
  all_goals simp_all
theorem und_bar : Try.prog.underlying 55 = some (.struct (Try.prog.fieldsOf 55)) := by kernel_rfl
theorem guard_bar (u : World) (x y : Operand) (xs ys : Array Value) : (eqGuard .neq 55 x y (.agg xs) (.agg ys)).run Try.prog u = .ok () u := run_eqGuard_agg u .neq 55 x y xs ys (by kernel_rfl)
theorem neq_bar (u : World) (a0 b0 : ByteArray) (a1 b1 : Int) : (binOp .neq 55 (.agg #[.string a0, .int .i64 a1]) (.agg #[.string b0, .int .i64 b1])).run Try.prog u = .ok (.bool (!(eqB (a0 = b0 ∧ a1 = b1)))) u := by
  have he : eqB (a0 = b0 ∧ a1 = b1) = ((a0.toList == b0.toList) && (a1 == b1)) := by
    by_cases h : a0 = b0 ∧ a1 = b1
    · rw [eqB_true h]
      obtain ⟨rfl, rfl⟩ := h
      simp
    · rw [eqB_false h]
      symm
      simp only [Bool.and_eq_false_iff, beq_eq_false_iff_ne, ne_eq]
      try simp only [list_inj]
      first | omega | (by_cases q0 : a0 = b0 <;> simp_all)
  rw [he, run_neq_struct, run_equalIn_agg u 9999 55 _ _ und_bar (by kernel_rfl)]
  simp [go_sem]
  repeat' split
  all_goals simp_all
theorem und_ins : Try.prog.underlying 61 = some (.struct (Try.prog.fieldsOf 61)) := by kernel_rfl
theorem guard_ins (u : World) (x y : Operand) (xs ys : Array Value) : (eqGuard .neq 61 x y (.agg xs) (.agg ys)).run Try.prog u = .ok () u := run_eqGuard_agg u .neq 61 x y xs ys (by kernel_rfl)
theorem neq_ins (u : World) (a0 b0 : Int) (a1 b1 : Int) (a2 b2 : Int) (a3 b3 : Int) (a4 b4 : Int) : (binOp .neq 61 (.agg #[.int .i64 a0, .int .i64 a1, .int .i64 a2, .int .i64 a3, .int .i64 a4]) (.agg #[.int .i64 b0, .int .i64 b1, .int .i64 b2, .int .i64 b3, .int .i64 b4])).run Try.prog u = .ok (.bool (!(eqB (a0 = b0 ∧ a1 = b1 ∧ a2 = b2 ∧ a3 = b3 ∧ a4 = b4)))) u := by
  have he : eqB (a0 = b0 ∧ a1 = b1 ∧ a2 = b2 ∧ a3 = b3 ∧ a4 = b4) = ((a0 == b0) && (a1 == b1) && (a2 == b2) && (a3 == b3) && (a4 == b4)) := by
    by_cases h : a0 = b0 ∧ a1 = b1 ∧ a2 = b2 ∧ a3 = b3 ∧ a4 = b4
    · rw [eqB_true h]
      obtain ⟨rfl, rfl, rfl, rfl, rfl⟩ := h
      simp
    · rw [eqB_false h]
      symm
      simp only [Bool.and_eq_false_iff, beq_eq_false_iff_ne, ne_eq]
      try simp only [list_inj]
      first | omega | (by_cases q0 : a0 = b0 <;> simp_all)
  rw [he, run_neq_struct, run_equalIn_agg u 9999 61 _ _ und_ins (by kernel_rfl)]
  simp [go_sem]
  repeat' split
  all_goals simp_all
theorem und_plc : Try.prog.underlying 63 = some (.struct (Try.prog.fieldsOf 63)) := by kernel_rfl
theorem guard_plc (u : World) (x y : Operand) (xs ys : Array Value) : (eqGuard .neq 63 x y (.agg xs) (.agg ys)).run Try.prog u = .ok () u := run_eqGuard_agg u .neq 63 x y xs ys (by kernel_rfl)
theorem neq_plc (u : World) (a0 b0 : Int) (a1 b1 : Int) : (binOp .neq 63 (.agg #[.int .i64 a0, .int .i64 a1]) (.agg #[.int .i64 b0, .int .i64 b1])).run Try.prog u = .ok (.bool (!(eqB (a0 = b0 ∧ a1 = b1)))) u := by
  have he : eqB (a0 = b0 ∧ a1 = b1) = ((a0 == b0) && (a1 == b1)) := by
    by_cases h : a0 = b0 ∧ a1 = b1
    · rw [eqB_true h]
      obtain ⟨rfl, rfl⟩ := h
      simp
    · rw [eqB_false h]
      symm
      simp only [Bool.and_eq_false_iff, beq_eq_false_iff_ne, ne_eq]
      try simp only [list_inj]
      first | omega | (by_cases q0 : a0 = b0 <;> simp_all)
  rw [he, run_neq_struct, run_equalIn_agg u 9999 63 _ _ und_plc (by kernel_rfl)]
  simp [go_sem]
  repeat' split
  all_goals simp_all
end Go.Proofs.Ytbikekgljabalaa

/- Walks of the code layer: lists compared. -/
namespace Go.Proofs.Ytbikekgljabalaa
open Go.RowKit Go.AB
set_option linter.unusedSimpArgs false
set_option linter.unusedVariables false

theorem take_ne {α : Type} {xs ys : List α} {k : Nat} (h1 : k < xs.length) (h2 : k < ys.length) (h : xs[k] ≠ ys[k]) : ¬ xs = ys := fun e => h (by subst e; rfl)
theorem take_next {α : Type} {xs ys : List α} {k : Nat} (h1 : k < xs.length) (h2 : k < ys.length) (ht : xs.take k = ys.take k) (h : xs[k] = ys[k]) : xs.take (k + 1) = ys.take (k + 1) := by
  rw [List.take_succ_eq_append_getElem h1, List.take_succ_eq_append_getElem h2, ht, h]
theorem len_ne {α : Type} {xs ys : List α} (h : xs.length ≠ ys.length) : ¬ xs = ys := fun e => h (by rw [e])
theorem neq_str (u : World) (a b : ByteArray) : (binOp .neq 9 (.string a) (.string b)).run Try.prog u = .ok (.bool (!(eqB (a = b)))) u := by
  have he : eqB (a = b) = (a.toList == b.toList) := by
    by_cases h : a = b
    · rw [eqB_true h, h]; simp
    · rw [eqB_false h]
      symm
      simp only [beq_eq_false_iff_ne, ne_eq, list_inj]
      exact h
  rw [he]
  simp [go_sem]
  done

set_option maxHeartbeats 2000000 in
set_option maxRecDepth 100000 in
theorem r_sameVars_calls (xs ys : List VarD) (hn : xs.length ≤ 1048576) (hm : ys.length ≤ 1048576) {va vb : Value} (w : World) (ha : Lst varC 2 w va xs) (hb : Lst varC 2 w vb ys) :
    Calls Try.prog 57 #[va, vb] w fun e w' => e = .returned (.bool (eqB (xs = ys))) ∧ Chg [] w w' := by
  obtain ⟨aa, ca, rfl, _⟩ := ha.len
  obtain ⟨ab, cb, rfl, _⟩ := hb.len
  have HA := hid ha
  have HB := hid hb
  obtain ⟨n, hnx⟩ : ∃ n, xs.length = n := ⟨_, rfl⟩
  obtain ⟨m, hmy⟩ : ∃ n, ys.length = n := ⟨_, rfl⟩
  have HN := hid (And.intro hnx hmy)
  obtain ⟨t, ht⟩ : ∃ t, eqB (xs = ys) = t := ⟨_, rfl⟩
  rw [hnx] at hn ⊢
  rw [hmy] at hm ⊢
  rw [ht]
  have HT := hid ht
  have g1 := fun u => guard_var u
  clear ha hb hnx hmy ht
  by_cases hl : n = m
  · subst hl
    have z0 : ((n : Int) != (n : Int)) = false := by simp
    go_enter Try.func57, Try.ntmps57
    go_wp2
    go_loopw [5] (fun vi wr => ∃ k : Nat, k ≤ n ∧ vi = .int .i64 k ∧ Hid (xs.take k = ys.take k) ∧ Hid (Chg [] w wr)) (fun vi _ => n - (intOf vi).toNat)
    case atStart => exact ⟨0, Nat.zero_le _, rfl, hid (by simp), hid (Chg.refl _ _)⟩
    case round =>
      obtain ⟨k, hk, rfl, HE, HC⟩ := hrel
      by_cases hlt : k < n
      · have hk1 : k < xs.length := by rw [HN.out.1]; exact hlt
        have hk2 : k < ys.length := by rw [HN.out.2]; exact hlt
        obtain ⟨b1, o1, hb1, c1⟩ := (HA.out.keep HC.out).at varC_len hk1 (by omega)
        obtain ⟨b2, o2, hb2, c2⟩ := (HB.out.keep HC.out).at varC_len hk2 (by omega)
        have zl : (k : Int) < (n : Int) := by omega
        have x0 : wr.cell? ⟨b1, o1 + k * 2, none⟩ = some (.string xs[k].name) := c1 0 (by omega)
        have y0 : wr.cell? ⟨b2, o2 + k * 2, none⟩ = some (.string ys[k].name) := c2 0 (by omega)
        have x1 : wr.cell? ⟨b1, o1 + k * 2 + 1, none⟩ = some (.int .i64 xs[k].first) := c1 1 (by omega)
        have y1 : wr.cell? ⟨b2, o2 + k * 2 + 1, none⟩ = some (.int .i64 ys[k].first) := c2 1 (by omega)
        obtain ⟨X, hX⟩ : ∃ X, xs[k] = X := ⟨_, rfl⟩
        obtain ⟨Y, hY⟩ : ∃ X, ys[k] = X := ⟨_, rfl⟩
        rw [hX] at x0 x1
        rw [hY] at y0 y1
        obtain ⟨xa0, xa1⟩ := X
        obtain ⟨ya0, ya1⟩ := Y
        simp only at x0 x1 y0 y1
        have q := fun u => neq_var u xa0 ya0 xa1 ya1
        have HXY := hid (And.intro hX hY)
        subst hb1 hb2
        clear c1 c2 hX hY
        by_cases heq : xa0 = ya0 ∧ xa1 = ya1
        · rw [eqB_true heq] at q
          have HE2 := hid (take_next hk1 hk2 HE.out (by rw [HXY.out.1, HXY.out.2, heq.1, heq.2]))
          clear heq
          go_wp2_with fail
          go_quiet (fail)
          go_wp2_with fail
          go_roundw
          case rel => exact ⟨k + 1, by omega, by go_num, HE2, hid (HC.out.drewN _)⟩
          case measure => simp [intOf]; omega
        · rw [eqB_false heq] at q
          have hf : eqB (xs = ys) = false := eqB_false (take_ne hk1 hk2 (by rw [HXY.out.1, HXY.out.2]; intro e; simp only [VarD.mk.injEq] at e; exact heq e))
          have ht2 : t = false := HT.out.symm.trans hf
          subst ht2
          clear heq hf
          go_wp2_with fail
          go_quiet (fail)
          go_wp2
          go_ret
          exact ⟨rfl, HC.out.drewN _⟩
      · have hf : eqB (xs = ys) = true := eqB_true (by
          have h := HE.out
          rwa [List.take_of_length_le (by rw [HN.out.1]; omega), List.take_of_length_le (by rw [HN.out.2]; omega)] at h)
        have ht2 : t = true := HT.out.symm.trans hf
        subst ht2
        clear hf
        go_wp2
        go_ret
        exact ⟨rfl, HC.out⟩
  · have hf : eqB (xs = ys) = false := eqB_false (len_ne (by rw [HN.out.1, HN.out.2]; exact hl))
    have ht2 : t = false := HT.out.symm.trans hf
    subst ht2
    have z0 : ((n : Int) != (m : Int)) = true := by simp; omega
    clear hf
    go_enter Try.func57, Try.ntmps57
    go_wp2
    go_ret
    exact ⟨rfl, Chg.refl _ _⟩

set_option maxHeartbeats 2000000 in
set_option maxRecDepth 100000 in
theorem eqVars_calls (xs ys : List VarD) (hn : xs.length ≤ 1048576) (hm : ys.length ≤ 1048576) {va vb : Value} (w : World) (ha : Lst varC 2 w va xs) (hb : Lst varC 2 w vb ys) :
    Calls Try.prog 61 #[va, vb] w fun e w' => e = .returned (.bool (eqB (xs = ys))) ∧ Chg [] w w' := by
  obtain ⟨aa, ca, rfl, _⟩ := ha.len
  obtain ⟨ab, cb, rfl, _⟩ := hb.len
  have HA := hid ha
  have HB := hid hb
  obtain ⟨n, hnx⟩ : ∃ n, xs.length = n := ⟨_, rfl⟩
  obtain ⟨m, hmy⟩ : ∃ n, ys.length = n := ⟨_, rfl⟩
  have HN := hid (And.intro hnx hmy)
  obtain ⟨t, ht⟩ : ∃ t, eqB (xs = ys) = t := ⟨_, rfl⟩
  rw [hnx] at hn ⊢
  rw [hmy] at hm ⊢
  rw [ht]
  have HT := hid ht
  have g1 := fun u => guard_var u
  clear ha hb hnx hmy ht
  by_cases hl : n = m
  · subst hl
    have z0 : ((n : Int) != (n : Int)) = false := by simp
    go_enter Try.func61, Try.ntmps61
    go_wp2
    go_loopw [13] (fun vi wr => ∃ k : Nat, k ≤ n ∧ vi = .int .i64 k ∧ Hid (xs.take k = ys.take k) ∧ Hid (Chg [] w wr)) (fun vi _ => n - (intOf vi).toNat)
    case atStart => exact ⟨0, Nat.zero_le _, rfl, hid (by simp), hid (Chg.refl _ _)⟩
    case round =>
      obtain ⟨k, hk, rfl, HE, HC⟩ := hrel
      by_cases hlt : k < n
      · have hk1 : k < xs.length := by rw [HN.out.1]; exact hlt
        have hk2 : k < ys.length := by rw [HN.out.2]; exact hlt
        obtain ⟨b1, o1, hb1, c1⟩ := (HA.out.keep HC.out).at varC_len hk1 (by omega)
        obtain ⟨b2, o2, hb2, c2⟩ := (HB.out.keep HC.out).at varC_len hk2 (by omega)
        have zl : (k : Int) < (n : Int) := by omega
        have x0 : wr.cell? ⟨b1, o1 + k * 2, none⟩ = some (.string xs[k].name) := c1 0 (by omega)
        have y0 : wr.cell? ⟨b2, o2 + k * 2, none⟩ = some (.string ys[k].name) := c2 0 (by omega)
        have x1 : wr.cell? ⟨b1, o1 + k * 2 + 1, none⟩ = some (.int .i64 xs[k].first) := c1 1 (by omega)
        have y1 : wr.cell? ⟨b2, o2 + k * 2 + 1, none⟩ = some (.int .i64 ys[k].first) := c2 1 (by omega)
        obtain ⟨X, hX⟩ : ∃ X, xs[k] = X := ⟨_, rfl⟩
        obtain ⟨Y, hY⟩ : ∃ X, ys[k] = X := ⟨_, rfl⟩
        rw [hX] at x0 x1
        rw [hY] at y0 y1
        obtain ⟨xa0, xa1⟩ := X
        obtain ⟨ya0, ya1⟩ := Y
        simp only at x0 x1 y0 y1
        have q := fun u => neq_var u xa0 ya0 xa1 ya1
        have HXY := hid (And.intro hX hY)
        subst hb1 hb2
        clear c1 c2 hX hY
        by_cases heq : xa0 = ya0 ∧ xa1 = ya1
        · rw [eqB_true heq] at q
          have HE2 := hid (take_next hk1 hk2 HE.out (by rw [HXY.out.1, HXY.out.2, heq.1, heq.2]))
          clear heq
          go_wp2_with fail
          go_quiet (fail)
          go_wp2_with fail
          go_roundw
          case rel => exact ⟨k + 1, by omega, by go_num, HE2, hid (HC.out.drewN _)⟩
          case measure => simp [intOf]; omega
        · rw [eqB_false heq] at q
          have hf : eqB (xs = ys) = false := eqB_false (take_ne hk1 hk2 (by rw [HXY.out.1, HXY.out.2]; intro e; simp only [VarD.mk.injEq] at e; exact heq e))
          have ht2 : t = false := HT.out.symm.trans hf
          subst ht2
          clear heq hf
          go_wp2_with fail
          go_quiet (fail)
          go_wp2
          go_ret
          exact ⟨rfl, HC.out.drewN _⟩
      · have hf : eqB (xs = ys) = true := eqB_true (by
          have h := HE.out
          rwa [List.take_of_length_le (by rw [HN.out.1]; omega), List.take_of_length_le (by rw [HN.out.2]; omega)] at h)
        have ht2 : t = true := HT.out.symm.trans hf
        subst ht2
        clear hf
        go_wp2
        go_ret
        exact ⟨rfl, HC.out⟩
  · have hf : eqB (xs = ys) = false := eqB_false (len_ne (by rw [HN.out.1, HN.out.2]; exact hl))
    have ht2 : t = false := HT.out.symm.trans hf
    subst ht2
    have z0 : ((n : Int) != (m : Int)) = true := by simp; omega
    clear hf
    go_enter Try.func61, Try.ntmps61
    go_wp2
    go_ret
    exact ⟨rfl, Chg.refl _ _⟩

set_option maxHeartbeats 2000000 in
set_option maxRecDepth 100000 in
theorem eqStrs_calls (xs ys : List ByteArray) (hn : xs.length ≤ 1048576) (hm : ys.length ≤ 1048576) {va vb : Value} (w : World) (ha : Lst strC 1 w va xs) (hb : Lst strC 1 w vb ys) :
    Calls Try.prog 62 #[va, vb] w fun e w' => e = .returned (.bool (eqB (xs = ys))) ∧ Chg [] w w' := by
  obtain ⟨aa, ca, rfl, _⟩ := ha.len
  obtain ⟨ab, cb, rfl, _⟩ := hb.len
  have HA := hid ha
  have HB := hid hb
  obtain ⟨n, hnx⟩ : ∃ n, xs.length = n := ⟨_, rfl⟩
  obtain ⟨m, hmy⟩ : ∃ n, ys.length = n := ⟨_, rfl⟩
  have HN := hid (And.intro hnx hmy)
  obtain ⟨t, ht⟩ : ∃ t, eqB (xs = ys) = t := ⟨_, rfl⟩
  rw [hnx] at hn ⊢
  rw [hmy] at hm ⊢
  rw [ht]
  have HT := hid ht
  clear ha hb hnx hmy ht
  by_cases hl : n = m
  · subst hl
    have z0 : ((n : Int) != (n : Int)) = false := by simp
    go_enter Try.func62, Try.ntmps62
    go_wp2
    go_loopw [13] (fun vi wr => ∃ k : Nat, k ≤ n ∧ vi = .int .i64 k ∧ Hid (xs.take k = ys.take k) ∧ Hid (Chg [] w wr)) (fun vi _ => n - (intOf vi).toNat)
    case atStart => exact ⟨0, Nat.zero_le _, rfl, hid (by simp), hid (Chg.refl _ _)⟩
    case round =>
      obtain ⟨k, hk, rfl, HE, HC⟩ := hrel
      by_cases hlt : k < n
      · have hk1 : k < xs.length := by rw [HN.out.1]; exact hlt
        have hk2 : k < ys.length := by rw [HN.out.2]; exact hlt
        obtain ⟨b1, o1, hb1, c1⟩ := (HA.out.keep HC.out).at strC_len hk1 (by omega)
        obtain ⟨b2, o2, hb2, c2⟩ := (HB.out.keep HC.out).at strC_len hk2 (by omega)
        have zl : (k : Int) < (n : Int) := by omega
        have x0 : wr.cell? ⟨b1, o1 + k, none⟩ = some (.string xs[k]) := by have h := c1 0 (by omega); simpa [strC] using h
        have y0 : wr.cell? ⟨b2, o2 + k, none⟩ = some (.string ys[k]) := by have h := c2 0 (by omega); simpa [strC] using h
        obtain ⟨X, hX⟩ : ∃ X, xs[k] = X := ⟨_, rfl⟩
        obtain ⟨Y, hY⟩ : ∃ X, ys[k] = X := ⟨_, rfl⟩
        rw [hX] at x0
        rw [hY] at y0
        have q := fun u => neq_str u X Y
        have HXY := hid (And.intro hX hY)
        subst hb1 hb2
        clear c1 c2 hX hY
        by_cases heq : X = Y
        · rw [eqB_true heq] at q
          have HE2 := hid (take_next hk1 hk2 HE.out (by rw [HXY.out.1, HXY.out.2, heq]))
          have w1 : X.toList = Y.toList := by rw [heq]
          have w2 : (X.toList == Y.toList) = true := by rw [heq]; simp
          have w3 : (X == Y) = true := by rw [beq_toListBytes]; exact w2
          have w4 : (X != Y) = false := by show (!(X == Y)) = false; rw [w3]; rfl
          clear heq
          go_wp2_with fail
          go_quiet (fail)
          go_wp2_with fail
          go_roundw
          case rel => exact ⟨k + 1, by omega, by go_num, HE2, hid (HC.out.drewN _)⟩
          case measure => simp [intOf]; omega
        · rw [eqB_false heq] at q
          have hf : eqB (xs = ys) = false := eqB_false (take_ne hk1 hk2 (by rw [HXY.out.1, HXY.out.2]; intro e; exact heq e))
          have ht2 : t = false := HT.out.symm.trans hf
          subst ht2
          have w1 : ¬ X.toList = Y.toList := fun h => heq (list_inj.1 h)
          have w2 : (X.toList == Y.toList) = false := by simpa using w1
          have w3 : (X == Y) = false := by rw [beq_toListBytes]; exact w2
          have w4 : (X != Y) = true := by show (!(X == Y)) = true; rw [w3]; rfl
          clear heq hf
          go_wp2_with fail
          go_quiet (fail)
          go_wp2
          go_ret
          exact ⟨rfl, HC.out.drewN _⟩
      · have hf : eqB (xs = ys) = true := eqB_true (by
          have h := HE.out
          rwa [List.take_of_length_le (by rw [HN.out.1]; omega), List.take_of_length_le (by rw [HN.out.2]; omega)] at h)
        have ht2 : t = true := HT.out.symm.trans hf
        subst ht2
        clear hf
        go_wp2
        go_ret
        exact ⟨rfl, HC.out⟩
  · have hf : eqB (xs = ys) = false := eqB_false (len_ne (by rw [HN.out.1, HN.out.2]; exact hl))
    have ht2 : t = false := HT.out.symm.trans hf
    subst ht2
    have z0 : ((n : Int) != (m : Int)) = true := by simp; omega
    clear hf
    go_enter Try.func62, Try.ntmps62
    go_wp2
    go_ret
    exact ⟨rfl, Chg.refl _ _⟩

set_option maxHeartbeats 2000000 in
set_option maxRecDepth 100000 in
theorem eqBars_calls (xs ys : List VarD) (hn : xs.length ≤ 1048576) (hm : ys.length ≤ 1048576) {va vb : Value} (w : World) (ha : Lst varC 2 w va xs) (hb : Lst varC 2 w vb ys) :
    Calls Try.prog 63 #[va, vb] w fun e w' => e = .returned (.bool (eqB (xs = ys))) ∧ Chg [] w w' := by
  obtain ⟨aa, ca, rfl, _⟩ := ha.len
  obtain ⟨ab, cb, rfl, _⟩ := hb.len
  have HA := hid ha
  have HB := hid hb
  obtain ⟨n, hnx⟩ : ∃ n, xs.length = n := ⟨_, rfl⟩
  obtain ⟨m, hmy⟩ : ∃ n, ys.length = n := ⟨_, rfl⟩
  have HN := hid (And.intro hnx hmy)
  obtain ⟨t, ht⟩ : ∃ t, eqB (xs = ys) = t := ⟨_, rfl⟩
  rw [hnx] at hn ⊢
  rw [hmy] at hm ⊢
  rw [ht]
  have HT := hid ht
  have g1 := fun u => guard_bar u
  clear ha hb hnx hmy ht
  by_cases hl : n = m
  · subst hl
    have z0 : ((n : Int) != (n : Int)) = false := by simp
    go_enter Try.func63, Try.ntmps63
    go_wp2
    go_loopw [13] (fun vi wr => ∃ k : Nat, k ≤ n ∧ vi = .int .i64 k ∧ Hid (xs.take k = ys.take k) ∧ Hid (Chg [] w wr)) (fun vi _ => n - (intOf vi).toNat)
    case atStart => exact ⟨0, Nat.zero_le _, rfl, hid (by simp), hid (Chg.refl _ _)⟩
    case round =>
      obtain ⟨k, hk, rfl, HE, HC⟩ := hrel
      by_cases hlt : k < n
      · have hk1 : k < xs.length := by rw [HN.out.1]; exact hlt
        have hk2 : k < ys.length := by rw [HN.out.2]; exact hlt
        obtain ⟨b1, o1, hb1, c1⟩ := (HA.out.keep HC.out).at varC_len hk1 (by omega)
        obtain ⟨b2, o2, hb2, c2⟩ := (HB.out.keep HC.out).at varC_len hk2 (by omega)
        have zl : (k : Int) < (n : Int) := by omega
        have x0 : wr.cell? ⟨b1, o1 + k * 2, none⟩ = some (.string xs[k].name) := c1 0 (by omega)
        have y0 : wr.cell? ⟨b2, o2 + k * 2, none⟩ = some (.string ys[k].name) := c2 0 (by omega)
        have x1 : wr.cell? ⟨b1, o1 + k * 2 + 1, none⟩ = some (.int .i64 xs[k].first) := c1 1 (by omega)
        have y1 : wr.cell? ⟨b2, o2 + k * 2 + 1, none⟩ = some (.int .i64 ys[k].first) := c2 1 (by omega)
        obtain ⟨X, hX⟩ : ∃ X, xs[k] = X := ⟨_, rfl⟩
        obtain ⟨Y, hY⟩ : ∃ X, ys[k] = X := ⟨_, rfl⟩
        rw [hX] at x0 x1
        rw [hY] at y0 y1
        obtain ⟨xa0, xa1⟩ := X
        obtain ⟨ya0, ya1⟩ := Y
        simp only at x0 x1 y0 y1
        have q := fun u => neq_bar u xa0 ya0 xa1 ya1
        have HXY := hid (And.intro hX hY)
        subst hb1 hb2
        clear c1 c2 hX hY
        by_cases heq : xa0 = ya0 ∧ xa1 = ya1
        · rw [eqB_true heq] at q
          have HE2 := hid (take_next hk1 hk2 HE.out (by rw [HXY.out.1, HXY.out.2, heq.1, heq.2]))
          clear heq
          go_wp2_with fail
          go_quiet (fail)
          go_wp2_with fail
          go_roundw
          case rel => exact ⟨k + 1, by omega, by go_num, HE2, hid (HC.out.drewN _)⟩
          case measure => simp [intOf]; omega
        · rw [eqB_false heq] at q
          have hf : eqB (xs = ys) = false := eqB_false (take_ne hk1 hk2 (by rw [HXY.out.1, HXY.out.2]; intro e; simp only [VarD.mk.injEq] at e; exact heq e))
          have ht2 : t = false := HT.out.symm.trans hf
          subst ht2
          clear heq hf
          go_wp2_with fail
          go_quiet (fail)
          go_wp2
          go_ret
          exact ⟨rfl, HC.out.drewN _⟩
      · have hf : eqB (xs = ys) = true := eqB_true (by
          have h := HE.out
          rwa [List.take_of_length_le (by rw [HN.out.1]; omega), List.take_of_length_le (by rw [HN.out.2]; omega)] at h)
        have ht2 : t = true := HT.out.symm.trans hf
        subst ht2
        clear hf
        go_wp2
        go_ret
        exact ⟨rfl, HC.out⟩
  · have hf : eqB (xs = ys) = false := eqB_false (len_ne (by rw [HN.out.1, HN.out.2]; exact hl))
    have ht2 : t = false := HT.out.symm.trans hf
    subst ht2
    have z0 : ((n : Int) != (m : Int)) = true := by simp; omega
    clear hf
    go_enter Try.func63, Try.ntmps63
    go_wp2
    go_ret
    exact ⟨rfl, Chg.refl _ _⟩

set_option maxHeartbeats 2000000 in
set_option maxRecDepth 100000 in
theorem eqIns_calls (xs ys : List InsD) (hn : xs.length ≤ 1048576) (hm : ys.length ≤ 1048576) {va vb : Value} (w : World) (ha : Lst insC 5 w va xs) (hb : Lst insC 5 w vb ys) :
    Calls Try.prog 66 #[va, vb] w fun e w' => e = .returned (.bool (eqB (xs = ys))) ∧ Chg [] w w' := by
  obtain ⟨aa, ca, rfl, _⟩ := ha.len
  obtain ⟨ab, cb, rfl, _⟩ := hb.len
  have HA := hid ha
  have HB := hid hb
  obtain ⟨n, hnx⟩ : ∃ n, xs.length = n := ⟨_, rfl⟩
  obtain ⟨m, hmy⟩ : ∃ n, ys.length = n := ⟨_, rfl⟩
  have HN := hid (And.intro hnx hmy)
  obtain ⟨t, ht⟩ : ∃ t, eqB (xs = ys) = t := ⟨_, rfl⟩
  rw [hnx] at hn ⊢
  rw [hmy] at hm ⊢
  rw [ht]
  have HT := hid ht
  have g1 := fun u => guard_ins u
  clear ha hb hnx hmy ht
  by_cases hl : n = m
  · subst hl
    have z0 : ((n : Int) != (n : Int)) = false := by simp
    go_enter Try.func66, Try.ntmps66
    go_wp2
    go_loopw [13] (fun vi wr => ∃ k : Nat, k ≤ n ∧ vi = .int .i64 k ∧ Hid (xs.take k = ys.take k) ∧ Hid (Chg [] w wr)) (fun vi _ => n - (intOf vi).toNat)
    case atStart => exact ⟨0, Nat.zero_le _, rfl, hid (by simp), hid (Chg.refl _ _)⟩
    case round =>
      obtain ⟨k, hk, rfl, HE, HC⟩ := hrel
      by_cases hlt : k < n
      · have hk1 : k < xs.length := by rw [HN.out.1]; exact hlt
        have hk2 : k < ys.length := by rw [HN.out.2]; exact hlt
        obtain ⟨b1, o1, hb1, c1⟩ := (HA.out.keep HC.out).at insC_len hk1 (by omega)
        obtain ⟨b2, o2, hb2, c2⟩ := (HB.out.keep HC.out).at insC_len hk2 (by omega)
        have zl : (k : Int) < (n : Int) := by omega
        have x0 : wr.cell? ⟨b1, o1 + k * 5, none⟩ = some (.int .i64 xs[k].op) := c1 0 (by omega)
        have y0 : wr.cell? ⟨b2, o2 + k * 5, none⟩ = some (.int .i64 ys[k].op) := c2 0 (by omega)
        have x1 : wr.cell? ⟨b1, o1 + k * 5 + 1, none⟩ = some (.int .i64 xs[k].a) := c1 1 (by omega)
        have y1 : wr.cell? ⟨b2, o2 + k * 5 + 1, none⟩ = some (.int .i64 ys[k].a) := c2 1 (by omega)
        have x2 : wr.cell? ⟨b1, o1 + k * 5 + 2, none⟩ = some (.int .i64 xs[k].b) := c1 2 (by omega)
        have y2 : wr.cell? ⟨b2, o2 + k * 5 + 2, none⟩ = some (.int .i64 ys[k].b) := c2 2 (by omega)
        have x3 : wr.cell? ⟨b1, o1 + k * 5 + 3, none⟩ = some (.int .i64 xs[k].c) := c1 3 (by omega)
        have y3 : wr.cell? ⟨b2, o2 + k * 5 + 3, none⟩ = some (.int .i64 ys[k].c) := c2 3 (by omega)
        have x4 : wr.cell? ⟨b1, o1 + k * 5 + 4, none⟩ = some (.int .i64 xs[k].n) := c1 4 (by omega)
        have y4 : wr.cell? ⟨b2, o2 + k * 5 + 4, none⟩ = some (.int .i64 ys[k].n) := c2 4 (by omega)
        obtain ⟨X, hX⟩ : ∃ X, xs[k] = X := ⟨_, rfl⟩
        obtain ⟨Y, hY⟩ : ∃ X, ys[k] = X := ⟨_, rfl⟩
        rw [hX] at x0 x1 x2 x3 x4
        rw [hY] at y0 y1 y2 y3 y4
        obtain ⟨xa0, xa1, xa2, xa3, xa4⟩ := X
        obtain ⟨ya0, ya1, ya2, ya3, ya4⟩ := Y
        simp only at x0 x1 x2 x3 x4 y0 y1 y2 y3 y4
        have q := fun u => neq_ins u xa0 ya0 xa1 ya1 xa2 ya2 xa3 ya3 xa4 ya4
        have HXY := hid (And.intro hX hY)
        subst hb1 hb2
        clear c1 c2 hX hY
        by_cases heq : xa0 = ya0 ∧ xa1 = ya1 ∧ xa2 = ya2 ∧ xa3 = ya3 ∧ xa4 = ya4
        · rw [eqB_true heq] at q
          have HE2 := hid (take_next hk1 hk2 HE.out (by rw [HXY.out.1, HXY.out.2, heq.1, heq.2.1, heq.2.2.1, heq.2.2.2.1, heq.2.2.2.2]))
          clear heq
          go_wp2_with fail
          go_quiet (fail)
          go_wp2_with fail
          go_roundw
          case rel => exact ⟨k + 1, by omega, by go_num, HE2, hid (HC.out.drewN _)⟩
          case measure => simp [intOf]; omega
        · rw [eqB_false heq] at q
          have hf : eqB (xs = ys) = false := eqB_false (take_ne hk1 hk2 (by rw [HXY.out.1, HXY.out.2]; intro e; simp only [InsD.mk.injEq] at e; exact heq e))
          have ht2 : t = false := HT.out.symm.trans hf
          subst ht2
          clear heq hf
          go_wp2_with fail
          go_quiet (fail)
          go_wp2
          go_ret
          exact ⟨rfl, HC.out.drewN _⟩
      · have hf : eqB (xs = ys) = true := eqB_true (by
          have h := HE.out
          rwa [List.take_of_length_le (by rw [HN.out.1]; omega), List.take_of_length_le (by rw [HN.out.2]; omega)] at h)
        have ht2 : t = true := HT.out.symm.trans hf
        subst ht2
        clear hf
        go_wp2
        go_ret
        exact ⟨rfl, HC.out⟩
  · have hf : eqB (xs = ys) = false := eqB_false (len_ne (by rw [HN.out.1, HN.out.2]; exact hl))
    have ht2 : t = false := HT.out.symm.trans hf
    subst ht2
    have z0 : ((n : Int) != (m : Int)) = true := by simp; omega
    clear hf
    go_enter Try.func66, Try.ntmps66
    go_wp2
    go_ret
    exact ⟨rfl, Chg.refl _ _⟩

set_option maxHeartbeats 2000000 in
set_option maxRecDepth 100000 in
theorem eqPlcs_calls (xs ys : List PlcD) (hn : xs.length ≤ 1048576) (hm : ys.length ≤ 1048576) {va vb : Value} (w : World) (ha : Lst plcC 2 w va xs) (hb : Lst plcC 2 w vb ys) :
    Calls Try.prog 67 #[va, vb] w fun e w' => e = .returned (.bool (eqB (xs = ys))) ∧ Chg [] w w' := by
  obtain ⟨aa, ca, rfl, _⟩ := ha.len
  obtain ⟨ab, cb, rfl, _⟩ := hb.len
  have HA := hid ha
  have HB := hid hb
  obtain ⟨n, hnx⟩ : ∃ n, xs.length = n := ⟨_, rfl⟩
  obtain ⟨m, hmy⟩ : ∃ n, ys.length = n := ⟨_, rfl⟩
  have HN := hid (And.intro hnx hmy)
  obtain ⟨t, ht⟩ : ∃ t, eqB (xs = ys) = t := ⟨_, rfl⟩
  rw [hnx] at hn ⊢
  rw [hmy] at hm ⊢
  rw [ht]
  have HT := hid ht
  have g1 := fun u => guard_plc u
  clear ha hb hnx hmy ht
  by_cases hl : n = m
  · subst hl
    have z0 : ((n : Int) != (n : Int)) = false := by simp
    go_enter Try.func67, Try.ntmps67
    go_wp2
    go_loopw [13] (fun vi wr => ∃ k : Nat, k ≤ n ∧ vi = .int .i64 k ∧ Hid (xs.take k = ys.take k) ∧ Hid (Chg [] w wr)) (fun vi _ => n - (intOf vi).toNat)
    case atStart => exact ⟨0, Nat.zero_le _, rfl, hid (by simp), hid (Chg.refl _ _)⟩
    case round =>
      obtain ⟨k, hk, rfl, HE, HC⟩ := hrel
      by_cases hlt : k < n
      · have hk1 : k < xs.length := by rw [HN.out.1]; exact hlt
        have hk2 : k < ys.length := by rw [HN.out.2]; exact hlt
        obtain ⟨b1, o1, hb1, c1⟩ := (HA.out.keep HC.out).at plcC_len hk1 (by omega)
        obtain ⟨b2, o2, hb2, c2⟩ := (HB.out.keep HC.out).at plcC_len hk2 (by omega)
        have zl : (k : Int) < (n : Int) := by omega
        have x0 : wr.cell? ⟨b1, o1 + k * 2, none⟩ = some (.int .i64 xs[k].line) := c1 0 (by omega)
        have y0 : wr.cell? ⟨b2, o2 + k * 2, none⟩ = some (.int .i64 ys[k].line) := c2 0 (by omega)
        have x1 : wr.cell? ⟨b1, o1 + k * 2 + 1, none⟩ = some (.int .i64 xs[k].col) := c1 1 (by omega)
        have y1 : wr.cell? ⟨b2, o2 + k * 2 + 1, none⟩ = some (.int .i64 ys[k].col) := c2 1 (by omega)
        obtain ⟨X, hX⟩ : ∃ X, xs[k] = X := ⟨_, rfl⟩
        obtain ⟨Y, hY⟩ : ∃ X, ys[k] = X := ⟨_, rfl⟩
        rw [hX] at x0 x1
        rw [hY] at y0 y1
        obtain ⟨xa0, xa1⟩ := X
        obtain ⟨ya0, ya1⟩ := Y
        simp only at x0 x1 y0 y1
        have q := fun u => neq_plc u xa0 ya0 xa1 ya1
        have HXY := hid (And.intro hX hY)
        subst hb1 hb2
        clear c1 c2 hX hY
        by_cases heq : xa0 = ya0 ∧ xa1 = ya1
        · rw [eqB_true heq] at q
          have HE2 := hid (take_next hk1 hk2 HE.out (by rw [HXY.out.1, HXY.out.2, heq.1, heq.2]))
          clear heq
          go_wp2_with fail
          go_quiet (fail)
          go_wp2_with fail
          go_roundw
          case rel => exact ⟨k + 1, by omega, by go_num, HE2, hid (HC.out.drewN _)⟩
          case measure => simp [intOf]; omega
        · rw [eqB_false heq] at q
          have hf : eqB (xs = ys) = false := eqB_false (take_ne hk1 hk2 (by rw [HXY.out.1, HXY.out.2]; intro e; simp only [PlcD.mk.injEq] at e; exact heq e))
          have ht2 : t = false := HT.out.symm.trans hf
          subst ht2
          clear heq hf
          go_wp2_with fail
          go_quiet (fail)
          go_wp2
          go_ret
          exact ⟨rfl, HC.out.drewN _⟩
      · have hf : eqB (xs = ys) = true := eqB_true (by
          have h := HE.out
          rwa [List.take_of_length_le (by rw [HN.out.1]; omega), List.take_of_length_le (by rw [HN.out.2]; omega)] at h)
        have ht2 : t = true := HT.out.symm.trans hf
        subst ht2
        clear hf
        go_wp2
        go_ret
        exact ⟨rfl, HC.out⟩
  · have hf : eqB (xs = ys) = false := eqB_false (len_ne (by rw [HN.out.1, HN.out.2]; exact hl))
    have ht2 : t = false := HT.out.symm.trans hf
    subst ht2
    have z0 : ((n : Int) != (m : Int)) = true := by simp; omega
    clear hf
    go_enter Try.func67, Try.ntmps67
    go_wp2
    go_ret
    exact ⟨rfl, Chg.refl _ _⟩
end Go.Proofs.Ytbikekgljabalaa

/- Walks of the code layer's reference: threads compared. -/
namespace Go.Proofs.Ytbikekgljabalaa
open Go.RowKit Go.AB
set_option linter.unusedSimpArgs false
set_option linter.unusedVariables false

theorem str_eq {X Y : ByteArray} (heq : X = Y) : X.toList = Y.toList ∧ (X.toList == Y.toList) = true ∧ (X == Y) = true ∧ (X != Y) = false := by
  have w1 : X.toList = Y.toList := by rw [heq]
  have w2 : (X.toList == Y.toList) = true := by rw [heq]; simp
  have w3 : (X == Y) = true := by rw [beq_toListBytes]; exact w2
  exact ⟨w1, w2, w3, by show (!(X == Y)) = false; rw [w3]; rfl⟩
theorem str_ne {X Y : ByteArray} (heq : ¬ X = Y) : (¬ X.toList = Y.toList) ∧ (X.toList == Y.toList) = false ∧ (X == Y) = false ∧ (X != Y) = true := by
  have w1 : ¬ X.toList = Y.toList := fun h => heq (list_inj.1 h)
  have w2 : (X.toList == Y.toList) = false := by simpa using w1
  have w3 : (X == Y) = false := by rw [beq_toListBytes]; exact w2
  exact ⟨w1, w2, w3, by show (!(X == Y)) = true; rw [w3]; rfl⟩
theorem int_ne {n m : Nat} (h : ¬ n = m) : ((n : Int) != (m : Int)) = true := by simp; omega
theorem int_eq (n : Nat) : ((n : Int) != (n : Int)) = false := by simp
theorem two_boxes (w : World) (o1 o2 : Obj) : ((w.alloc o1).alloc o2).heap[w.heap.size]? = some o1 ∧ ((w.alloc o1).alloc o2).heap[w.heap.size + 1]? = some o2 := by
  have h := heap_alloc_new (w.alloc o1) o2
  rw [World.size_alloc] at h
  exact ⟨blk_alloc_old (heap_alloc_new w o1) o2, h⟩

set_option maxHeartbeats 4000000 in
set_option maxRecDepth 100000 in
theorem r_sameThread_calls (nx ny : ByteArray) (cx cy : List InsD) (px py : List PlcD) (h1 : cx.length ≤ 1048576) (h2 : cy.length ≤ 1048576) (h3 : px.length ≤ 1048576) (h4 : py.length ≤ 1048576) {vcx vcy vpx vpy : Value} (w : World) (a1 : Lst insC 5 w vcx cx) (a2 : Lst insC 5 w vcy cy) (a3 : Lst plcC 2 w vpx px) (a4 : Lst plcC 2 w vpy py) :
    Calls Try.prog 58 #[.agg #[.string nx, vcx, vpx], .agg #[.string ny, vcy, vpy]] w fun e w' => e = .returned (.bool (eqB ((⟨nx, cx, px⟩ : ThrD) = ⟨ny, cy, py⟩))) ∧ Chg [] w w' := by
  obtain ⟨ac1, kc1, rfl, _⟩ := a1.len
  obtain ⟨ac2, kc2, rfl, _⟩ := a2.len
  obtain ⟨ap1, kp1, rfl, _⟩ := a3.len
  obtain ⟨ap2, kp2, rfl, _⟩ := a4.len
  have A1 := hid a1
  have A2 := hid a2
  have A3 := hid a3
  have A4 := hid a4
  obtain ⟨n1, hn1⟩ : ∃ n, cx.length = n := ⟨_, rfl⟩
  obtain ⟨n2, hn2⟩ : ∃ n, cy.length = n := ⟨_, rfl⟩
  obtain ⟨n3, hn3⟩ : ∃ n, px.length = n := ⟨_, rfl⟩
  obtain ⟨n4, hn4⟩ : ∃ n, py.length = n := ⟨_, rfl⟩
  have HN := hid (And.intro hn1 (And.intro hn2 (And.intro hn3 hn4)))
  obtain ⟨t, ht⟩ : ∃ t, eqB ((⟨nx, cx, px⟩ : ThrD) = ⟨ny, cy, py⟩) = t := ⟨_, rfl⟩
  rw [ht]
  have HT := hid ht
  rw [hn1] at h1 ⊢
  rw [hn2] at h2 ⊢
  rw [hn3] at h3 ⊢
  rw [hn4] at h4 ⊢
  have hc0 := ((Chg.refl [] w).alloc (.cells #[.string nx, .slice ac1 n1 kc1, .slice ap1 n3 kp1] 59)).alloc (.cells #[.string ny, .slice ac2 n2 kc2, .slice ap2 n4 kp2] 59)
  have g1 := fun u => guard_ins u
  have g2 := fun u => guard_plc u
  clear a1 a2 a3 a4 hn1 hn2 hn3 hn4 ht
  by_cases e1 : nx = ny
  · obtain ⟨s1, s2, s3, s4⟩ := str_eq e1
    have HE1 := hid e1
    by_cases e2 : n1 = n2
    · by_cases e3 : n3 = n4
      · subst e2 e3
        have z0 := int_eq n1
        have z1 := int_eq n3
        clear e1
        have hbx := two_boxes w (.cells #[.string nx, .slice ac1 n1 kc1, .slice ap1 n3 kp1] 59) (.cells #[.string ny, .slice ac2 n1 kc2, .slice ap2 n3 kp2] 59)
        have HBX := hid hbx
        have HW0 := hid hc0
        clear hbx hc0
        go_enter Try.func58, Try.ntmps58
        go_wp2
        obtain ⟨W0, hW0⟩ : ∃ x : World, (w.alloc (.cells #[.string nx, .slice ac1 n1 kc1, .slice ap1 n3 kp1] 59)).alloc (.cells #[.string ny, .slice ac2 n1 kc2, .slice ap2 n3 kp2] 59) = x := ⟨_, rfl⟩
        rw [hW0] at HBX HW0 ⊢
        clear hW0 s1 s2 s3 s4
        go_loopw [5] (fun vi wr => ∃ k : Nat, k ≤ n1 ∧ vi = .int .i64 k ∧ Hid (cx.take k = cy.take k) ∧ Hid (Chg [] W0 wr)) (fun vi _ => n1 - (intOf vi).toNat)
        case atStart => exact ⟨0, Nat.zero_le _, rfl, hid (by simp), hid (Chg.refl _ _)⟩
        case round =>
          obtain ⟨k, hk, rfl, HE, HC⟩ := hrel
          have bx1 : wr.cell? ⟨w.heap.size, 1, none⟩ = some (.slice ac1 n1 kc1) := blk_cell (HC.out.heap HBX.out.1 (by simp)) 1
          have bx2 : wr.cell? ⟨w.heap.size, 2, none⟩ = some (.slice ap1 n3 kp1) := blk_cell (HC.out.heap HBX.out.1 (by simp)) 2
          have by1 : wr.cell? ⟨w.heap.size + 1, 1, none⟩ = some (.slice ac2 n1 kc2) := blk_cell (HC.out.heap HBX.out.2 (by simp)) 1
          have by2 : wr.cell? ⟨w.heap.size + 1, 2, none⟩ = some (.slice ap2 n3 kp2) := blk_cell (HC.out.heap HBX.out.2 (by simp)) 2
          by_cases hlt : k < n1
          · have hk1 : k < cx.length := by rw [HN.out.1]; exact hlt
            have hk2 : k < cy.length := by rw [HN.out.2.1]; exact hlt
            obtain ⟨b1, o1, hb1, c1⟩ := (A1.out.keep ((HW0.out).trans' HC.out)).at insC_len hk1 (by omega)
            obtain ⟨b2, o2, hb2, c2⟩ := (A2.out.keep ((HW0.out).trans' HC.out)).at insC_len hk2 (by omega)
            have zl : (k : Int) < (n1 : Int) := by omega
            have x0 : wr.cell? ⟨b1, o1 + k * 5, none⟩ = some (.int .i64 cx[k].op) := c1 0 (by omega)
            have y0 : wr.cell? ⟨b2, o2 + k * 5, none⟩ = some (.int .i64 cy[k].op) := c2 0 (by omega)
            have x1 : wr.cell? ⟨b1, o1 + k * 5 + 1, none⟩ = some (.int .i64 cx[k].a) := c1 1 (by omega)
            have y1 : wr.cell? ⟨b2, o2 + k * 5 + 1, none⟩ = some (.int .i64 cy[k].a) := c2 1 (by omega)
            have x2 : wr.cell? ⟨b1, o1 + k * 5 + 2, none⟩ = some (.int .i64 cx[k].b) := c1 2 (by omega)
            have y2 : wr.cell? ⟨b2, o2 + k * 5 + 2, none⟩ = some (.int .i64 cy[k].b) := c2 2 (by omega)
            have x3 : wr.cell? ⟨b1, o1 + k * 5 + 3, none⟩ = some (.int .i64 cx[k].c) := c1 3 (by omega)
            have y3 : wr.cell? ⟨b2, o2 + k * 5 + 3, none⟩ = some (.int .i64 cy[k].c) := c2 3 (by omega)
            have x4 : wr.cell? ⟨b1, o1 + k * 5 + 4, none⟩ = some (.int .i64 cx[k].n) := c1 4 (by omega)
            have y4 : wr.cell? ⟨b2, o2 + k * 5 + 4, none⟩ = some (.int .i64 cy[k].n) := c2 4 (by omega)
            obtain ⟨X, hX⟩ : ∃ X, cx[k] = X := ⟨_, rfl⟩
            obtain ⟨Y, hY⟩ : ∃ X, cy[k] = X := ⟨_, rfl⟩
            rw [hX] at x0 x1 x2 x3 x4
            rw [hY] at y0 y1 y2 y3 y4
            obtain ⟨xa0, xa1, xa2, xa3, xa4⟩ := X
            obtain ⟨ya0, ya1, ya2, ya3, ya4⟩ := Y
            simp only at x0 x1 x2 x3 x4 y0 y1 y2 y3 y4
            have qq := fun u => neq_ins u xa0 ya0 xa1 ya1 xa2 ya2 xa3 ya3 xa4 ya4
            have HXY := hid (And.intro hX hY)
            have HB12 := hid (And.intro hb1 hb2)
            subst hb1 hb2
            clear c1 c2 hX hY
            by_cases heq : xa0 = ya0 ∧ xa1 = ya1 ∧ xa2 = ya2 ∧ xa3 = ya3 ∧ xa4 = ya4
            · rw [eqB_true heq] at qq
              have HE2 := hid (take_next hk1 hk2 HE.out (by rw [HXY.out.1, HXY.out.2, heq.1, heq.2.1, heq.2.2.1, heq.2.2.2.1, heq.2.2.2.2]))
              clear heq
              go_wp2_with fail
              go_quiet (fail)
              go_wp2_with fail
              go_roundw
              case rel => exact ⟨k + 1, by omega, by go_num, HE2, hid (HC.out.drewN _)⟩
              case measure => simp [intOf]; omega
            · rw [eqB_false heq] at qq
              have hf := (fun h e => h (by simp only [ThrD.mk.injEq] at e; exact e.2.1) : ¬ cx = cy → ¬ (⟨nx, cx, px⟩ : ThrD) = ⟨ny, cy, py⟩) (take_ne hk1 hk2 (by rw [HXY.out.1, HXY.out.2]; intro e; simp only [InsD.mk.injEq] at e; exact heq e))
              have ht2 : t = false := HT.out.symm.trans (eqB_false hf)
              subst ht2
              clear heq hf
              go_wp2_with fail
              go_quiet (fail)
              go_wp2
              go_ret
              exact ⟨rfl, HW0.out.trans' (HC.out.drewN _)⟩
          · have HEQ : Hid (cx = cy) := hid (by have h := HE.out; rwa [List.take_of_length_le (by rw [HN.out.1]; omega), List.take_of_length_le (by rw [HN.out.2.1]; omega)] at h)
            have HQ1 := HEQ
            clear HEQ HE
            go_wp2_with fail
            go_loopw [6] (fun vi wr => ∃ k : Nat, k ≤ n3 ∧ vi = .int .i64 k ∧ Hid (px.take k = py.take k) ∧ Hid (Chg [] W0 wr)) (fun vi _ => n3 - (intOf vi).toNat)
            case atStart => exact ⟨0, Nat.zero_le _, rfl, hid (by simp), HC⟩
            case round =>
              obtain ⟨k, hk, rfl, HE, HC⟩ := hrel
              have bx1 : wr.cell? ⟨w.heap.size, 1, none⟩ = some (.slice ac1 n1 kc1) := blk_cell (HC.out.heap HBX.out.1 (by simp)) 1
              have bx2 : wr.cell? ⟨w.heap.size, 2, none⟩ = some (.slice ap1 n3 kp1) := blk_cell (HC.out.heap HBX.out.1 (by simp)) 2
              have by1 : wr.cell? ⟨w.heap.size + 1, 1, none⟩ = some (.slice ac2 n1 kc2) := blk_cell (HC.out.heap HBX.out.2 (by simp)) 1
              have by2 : wr.cell? ⟨w.heap.size + 1, 2, none⟩ = some (.slice ap2 n3 kp2) := blk_cell (HC.out.heap HBX.out.2 (by simp)) 2
              by_cases hlt : k < n3
              · have hk1 : k < px.length := by rw [HN.out.2.2.1]; exact hlt
                have hk2 : k < py.length := by rw [HN.out.2.2.2]; exact hlt
                obtain ⟨b1, o1, hb1, c1⟩ := (A3.out.keep ((HW0.out).trans' HC.out)).at plcC_len hk1 (by omega)
                obtain ⟨b2, o2, hb2, c2⟩ := (A4.out.keep ((HW0.out).trans' HC.out)).at plcC_len hk2 (by omega)
                have zl : (k : Int) < (n3 : Int) := by omega
                have x0 : wr.cell? ⟨b1, o1 + k * 2, none⟩ = some (.int .i64 px[k].line) := c1 0 (by omega)
                have y0 : wr.cell? ⟨b2, o2 + k * 2, none⟩ = some (.int .i64 py[k].line) := c2 0 (by omega)
                have x1 : wr.cell? ⟨b1, o1 + k * 2 + 1, none⟩ = some (.int .i64 px[k].col) := c1 1 (by omega)
                have y1 : wr.cell? ⟨b2, o2 + k * 2 + 1, none⟩ = some (.int .i64 py[k].col) := c2 1 (by omega)
                obtain ⟨X, hX⟩ : ∃ X, px[k] = X := ⟨_, rfl⟩
                obtain ⟨Y, hY⟩ : ∃ X, py[k] = X := ⟨_, rfl⟩
                rw [hX] at x0 x1
                rw [hY] at y0 y1
                obtain ⟨xa0, xa1⟩ := X
                obtain ⟨ya0, ya1⟩ := Y
                simp only at x0 x1 y0 y1
                have qq := fun u => neq_plc u xa0 ya0 xa1 ya1
                have HXY := hid (And.intro hX hY)
                have HB12 := hid (And.intro hb1 hb2)
                subst hb1 hb2
                clear c1 c2 hX hY
                by_cases heq : xa0 = ya0 ∧ xa1 = ya1
                · rw [eqB_true heq] at qq
                  have HE2 := hid (take_next hk1 hk2 HE.out (by rw [HXY.out.1, HXY.out.2, heq.1, heq.2]))
                  clear heq
                  go_wp2_with fail
                  go_quiet (fail)
                  go_wp2_with fail
                  go_roundw
                  case rel => exact ⟨k + 1, by omega, by go_num, HE2, hid (HC.out.drewN _)⟩
                  case measure => simp [intOf]; omega
                · rw [eqB_false heq] at qq
                  have hf := (fun h e => h (by simp only [ThrD.mk.injEq] at e; exact e.2.2) : ¬ px = py → ¬ (⟨nx, cx, px⟩ : ThrD) = ⟨ny, cy, py⟩) (take_ne hk1 hk2 (by rw [HXY.out.1, HXY.out.2]; intro e; simp only [PlcD.mk.injEq] at e; exact heq e))
                  have ht2 : t = false := HT.out.symm.trans (eqB_false hf)
                  subst ht2
                  clear heq hf
                  go_wp2_with fail
                  go_quiet (fail)
                  go_wp2
                  go_ret
                  exact ⟨rfl, HW0.out.trans' (HC.out.drewN _)⟩
              · have HEQ : Hid (px = py) := hid (by have h := HE.out; rwa [List.take_of_length_le (by rw [HN.out.2.2.1]; omega), List.take_of_length_le (by rw [HN.out.2.2.2]; omega)] at h)
                have ht2 : t = true := HT.out.symm.trans (eqB_true (by rw [HE1.out, HQ1.out, HEQ.out]))
                subst ht2
                go_wp2
                go_ret
                exact ⟨rfl, HW0.out.trans' HC.out⟩
      · have ht2 : t = false := HT.out.symm.trans (eqB_false (fun e => e3 (by have := HN.out; simp only [ThrD.mk.injEq] at e; rw [← this.2.2.1, ← this.2.2.2, e.2.2])))
        subst ht2
        subst e2
        have z0 := int_eq n1
        have z1 := int_ne e3
        clear e1 e3
        go_enter Try.func58, Try.ntmps58
        go_wp2
        go_ret
        exact ⟨rfl, hc0⟩
    · have ht2 : t = false := HT.out.symm.trans (eqB_false (fun e => e2 (by have := HN.out; simp only [ThrD.mk.injEq] at e; rw [← this.1, ← this.2.1, e.2.1])))
      subst ht2
      have z0 := int_ne e2
      clear e1 e2
      go_enter Try.func58, Try.ntmps58
      go_wp2
      go_ret
      exact ⟨rfl, hc0⟩
  · have ht2 : t = false := HT.out.symm.trans (eqB_false (fun e => e1 (by simp only [ThrD.mk.injEq] at e; exact e.1)))
    subst ht2
    obtain ⟨s1, s2, s3, s4⟩ := str_ne e1
    clear e1
    go_enter Try.func58, Try.ntmps58
    go_wp2
    go_ret
    exact ⟨rfl, hc0⟩
end Go.Proofs.Ytbikekgljabalaa
