/- Walks of the lexer's laws: what Tokens answers where there is no fault, and where there is one. -/
import Derived.Test.YtppijmpdoejdmaaAi
import Derived.Test.YtppijmpdoejdmaaBlexed
namespace Go.Proofs.Ytppijmpdoejdmaa
open Go.RowKit Go.AB
set_option linter.unusedSimpArgs false
set_option linter.unusedVariables false
set_option linter.unusedSectionVars false

/-- Tokens without fault. -/
def TokOk (w : World) (n : Nat) (ts : List Tok) (e : Ending) (w' : World) : Prop :=
  ∃ ao cap r, e = .returned (.tuple #[.slice ao n cap, .agg #[.int .i64 0, .int .i64 0, .int .i64 0]]) ∧ Row w' 38 5 (.slice ao n cap) r n (ts.flatMap tokC) ∧ Fresh w none r ∧ Chg [] w w'
def TokBad (w : World) (e : Ending) (w' : World) : Prop :=
  ∃ (ao : Option Addr) (cap : Nat) (f0 f1 f2 : Int), (f0 == 0) = false ∧ (f0 != 0) = true ∧ e = .returned (.tuple #[.slice ao 0 cap, .agg #[.int .i64 f0, .int .i64 f1, .int .i64 f2]]) ∧ Chg [] w w'
theorem tokens_ok {s : ByteArray} (w : World) (hs : s.size ≤ 1048576) {L : List UInt8} (hL : Hid (s.data.toList = L)) {ts : List Tok} (h : scanD L 1 1 = (ts, (0, 0, 0))) {n : Nat} (hn : ts.length = n) : Calls Try.prog 11 #[.string s] w (TokOk w n ts) := by
  have hT : tokensB L = (ts, (0, 0, 0)) := by unfold tokensB; rw [h]; rfl
  have hc := tokens_calls w hs L hL
  rw [hT] at hc
  refine hc.mono ?_
  rintro e w' ⟨ts', ao, cap, r, rfl, h1, h2, h3, HL⟩
  obtain rfl : ts' = ts := HL.out
  subst hn
  exact ⟨ao, cap, r, rfl, h1, h2, h3⟩
theorem tokens_bad {s : ByteArray} (w : World) (hs : s.size ≤ 1048576) {L : List UInt8} (hL : Hid (s.data.toList = L)) (h : (scanD L 1 1).2.1 ≠ 0) : Calls Try.prog 11 #[.string s] w (TokBad w) := by
  have hT : tokensB L = ([], (scanD L 1 1).2) := by unfold tokensB; rw [if_neg h]
  have hc := tokens_calls w hs L hL
  rw [hT] at hc
  refine hc.mono ?_
  rintro e w' ⟨ts', ao, cap, r, rfl, h1, h2, h3, HL⟩
  obtain rfl : ts' = [] := HL.out
  exact ⟨ao, cap, (scanD L 1 1).2.1, _, _, by simp; omega, by simp; omega, rfl, h3⟩
theorem lexed_or (L : List UInt8) : (∃ ts, Lexed L (1, 1) ts ∧ scanD L 1 1 = (ts, (0, 0, 0)) ∧ ts ≠ [] ∧ ts.length ≤ L.length + 1) ∨ (scanD L 1 1).2.1 ≠ 0 := by
  by_cases h : (scanD L 1 1).2.1 = 0
  · have h1 := lexed_of_scan (L.length + 1) L (1, 1) (by omega) h
    refine .inl ⟨_, h1, h1.scan, ?_, scanD_len _ _ _⟩
    intro he
    rw [he] at h1
    have key : ∀ {d p ts}, Lexed d p ts → ts ≠ [] := fun h => by induction h <;> simp_all
    exact key h1 rfl
  · exact .inr h
end Go.Proofs.Ytppijmpdoejdmaa
