/- Walks of the lexer's laws: two lists of tokens that are alike. -/
import Derived.Test.YtppijmpdoejdmaaAg
namespace Go.Proofs.Ytppijmpdoejdmaa
open Go.RowKit Go.AB
set_option linter.unusedSimpArgs false
set_option linter.unusedVariables false
set_option linter.unusedSectionVars false

theorem tokC_length (x : Tok) : (tokC x).length = 5 := rfl
theorem tokC_flat (ts : List Tok) : (ts.flatMap tokC).length = ts.length * 5 := by
  induction ts with
  | nil => rfl
  | cons x ts ih => rw [List.flatMap_cons, List.length_append, ih, tokC_length, List.length_cons]; omega
theorem tokC_get (ts : List Tok) (i j : Nat) (hi : i < ts.length) (hj : j < 5) : (ts.flatMap tokC).getD (i * 5 + j) undef = (tokC ts[i]).getD j undef := by
  induction ts generalizing i with
  | nil => simp at hi
  | cons x ts ih =>
    rw [List.flatMap_cons]
    cases i with
    | zero => simp only [Nat.zero_mul, Nat.zero_add, List.getD]; rw [List.getElem?_append_left (by rw [tokC_length]; omega)]; rfl
    | succ i =>
      have := ih i (by simpa using hi)
      simp only [List.getD] at this ⊢
      rw [List.getElem?_append_right (by rw [tokC_length]; omega), tokC_length, show (i + 1) * 5 + j - 5 = i * 5 + j from by omega, this]
      rfl
/-- A slice of tokens that is read. -/
def TView (w : World) (v : Value) (ts : List Tok) : Prop := View w 5 v ts.length (ts.flatMap tokC)
theorem TView.at {w : World} {ao : Option Addr} {n cap : Nat} {ts : List Tok} (h : TView w (.slice ao n cap) ts) {i : Nat} (hi : i < ts.length) : ∃ b off, ao = some ⟨b, off, none⟩ ∧
    w.cell? ⟨b, off + i * 5, none⟩ = some (.int .i64 ts[i].kind) ∧ w.cell? ⟨b, off + i * 5 + 1, none⟩ = some (.string ⟨ts[i].text.toArray⟩) ∧ w.cell? ⟨b, off + i * 5 + 2, none⟩ = some (.int .i64 ts[i].num) ∧
    w.cell? ⟨b, off + i * 5 + 3, none⟩ = some (.int .i64 ts[i].line) ∧ w.cell? ⟨b, off + i * 5 + 4, none⟩ = some (.int .i64 ts[i].col) := by
  obtain ⟨_, _, ao', cap', hv, _, _, _, hc⟩ := h
  simp only [Value.slice.injEq] at hv
  obtain ⟨rfl, rfl, rfl⟩ := hv
  obtain ⟨b, off, rfl, hcell⟩ := hc (by omega)
  have key : ∀ j, j < 5 → w.cell? ⟨b, off + i * 5 + j, none⟩ = some ((tokC ts[i]).getD j undef) := fun j hj => by
    rw [Nat.add_assoc, hcell (i * 5 + j) (by omega), tokC_get ts i j hi hj]
  exact ⟨b, off, rfl, key 0 (by omega), key 1 (by omega), key 2 (by omega), key 3 (by omega), key 4 (by omega)⟩
theorem TView.len {w : World} {v : Value} {ts : List Tok} (h : TView w v ts) : ∃ ao cap, v = .slice ao ts.length cap := by
  obtain ⟨_, _, ao, cap, rfl, _⟩ := h
  exact ⟨ao, cap, rfl⟩

def alike (p : Bool) (x y : Tok) : Prop := x.kind = y.kind ∧ x.text = y.text ∧ x.num = y.num ∧ (p = true → x.line = y.line ∧ x.col = y.col)

set_option maxHeartbeats 2000000 in
set_option maxRecDepth 100000 in
theorem same_calls (w : World) (va vb : Value) (ta tb : List Tok) (p : Bool) (ha : TView w va ta) (hb : TView w vb tb) (hl : ta.length = tb.length) (hn : ta.length ≤ 16777216) (hs : ∀ i (h1 : i < ta.length) (h2 : i < tb.length), alike p ta[i] tb[i]) :
    Calls Try.prog 12 #[va, vb, .bool p] w fun e w' => e = .returned (.bool true) ∧ ∃ n, w' = w.drewN n := by
  obtain ⟨aa, ca, rfl⟩ := ha.len
  obtain ⟨ab, cb, rfl⟩ := hb.len
  have HA := hid ha
  have HB := hid hb
  have hl1 : ta.length ≤ tb.length := by omega
  have hl2 : tb.length ≤ ta.length := by omega
  have g1 : ((ta.length : Int) != (tb.length : Int)) = false := by simp; omega
  have g2 : ((ta.length : Int) == (tb.length : Int)) = true := by simp; omega
  have g3 : (ta.length != tb.length) = false := by simp; omega
  have g4 : (ta.length == tb.length) = true := by simp; omega
  have HS := hid hs
  clear ha hb hl hs
  go_enter Try.func12, Try.ntmps12
  go_wp2
  go_loopw [7] (fun i wr => ∃ k m : Nat, k ≤ ta.length ∧ i = .int .i64 k ∧ wr = w.drewN m) (fun i _ => ta.length - (intOf i).toNat)
  case atStart => exact ⟨0, 0, Nat.zero_le _, rfl, rfl⟩
  case round =>
    obtain ⟨k, m, hk, rfl, rfl⟩ := hrel
    by_cases hlt : k < ta.length
    · have hlt2 : k < tb.length := by omega
      obtain ⟨ba, oa, rfl, a0, a1, a2, a3, a4⟩ := HA.out.at hlt
      obtain ⟨bb, ob, rfl, b0, b1, b2, b3, b4⟩ := HB.out.at hlt2
      obtain ⟨e0, e1, e2, e3⟩ := HS.out k hlt hlt2
      rw [← e0] at b0
      rw [← e1] at b1
      rw [← e2] at b2
      have z1 : (k : Int) < (ta.length : Int) := by omega
      have z2 : (k : Int) < (tb.length : Int) := by omega
      cases p
      · clear e0 e1 e2 e3 a3 a4 b3 b4
        go_wp2_with fail
        go_quiet (fail)
        go_wp2
        go_roundw
        case rel => exact ⟨k + 1, _, by omega, by go_num, rfl⟩
        case measure => simp [intOf]; omega
      · obtain ⟨e4, e5⟩ := e3 rfl
        rw [← e4] at b3
        rw [← e5] at b4
        clear e0 e1 e2 e3 e4 e5
        go_wp2_with fail
        go_quiet (fail)
        go_wp2
        go_roundw
        case rel => exact ⟨k + 1, _, by omega, by go_num, rfl⟩
        case measure => simp [intOf]; omega
    · go_wp2
      go_ret
      exact ⟨rfl, _, rfl⟩
end Go.Proofs.Ytppijmpdoejdmaa
