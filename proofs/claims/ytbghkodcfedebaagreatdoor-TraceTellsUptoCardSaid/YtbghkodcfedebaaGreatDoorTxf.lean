/- Walks of the trace layer's reference: a body, bytes. -/
import Derived.Test.YtbghkodcfedebaaGreatDoorTxe
set_option linter.unusedVariables false
set_option linter.unusedSectionVars false
set_option linter.unusedSimpArgs false
namespace Go.Proofs.YtbghkodcfedebaaGreatDoor
open Go.RowKit Go.AB
set_option linter.unusedSimpArgs false
set_option linter.unusedVariables false
set_option linter.unusedSectionVars false
theorem short18_calls (u : Nat) (hu : u < 9223372036854775808) (w : World) : Calls Tryz.prog 81 #[.int .i64 u] w (NewB 5 w (shortB u)) := by
  have HS := hid (ref_short_calls u (by unfold U64; omega) w)
  have e1 : IntKind.u64.wrap (u : Int) = (u : Int) := by rw [IntKind.wrap_u64]; omega
  go_enter Tryz.func81, Tryz.ntmps81
  go_wp2_with (go_at_call 106; refine HS.out.mono ?_; rintro e w1 ⟨l', ao, cap, r, rfl, hr, hf, hc, HL⟩; have HH := hid (And.intro hr (And.intro hf hc)); clear hr hf hc)
  go_ret
  exact ⟨l', ao, cap, r, rfl, HH.out.1, HH.out.2.1, HH.out.2.2, HL⟩
/-- A list of events of its own, beside a row that grows. -/
structure KR (w : World) (v : Value) (r : List Ev) (rb : Option Nat) : Prop where
  lst : Lst evC 3 w v r
  sep : ∀ g, v.ownBlock = some g → rb ≠ some g ∧ g < w.heap.size
theorem KR.same {w w' : World} {v : Value} {r : List Ev} {rb : Option Nat} (h : KR w v r rb) (hc : Chg [] w w') : KR w' v r rb :=
  ⟨h.lst.keep hc, fun g hg => ⟨(h.sep g hg).1, Nat.lt_of_lt_of_le (h.sep g hg).2 hc.size⟩⟩
theorem KR.app {w w' : World} {v : Value} {r : List Ev} {rb r' : Option Nat} (h : KR w v r rb) (hc : Chg rb.toList w w') (hf : Fresh w rb r') : KR w' v r r' :=
  ⟨View.keep h.lst hc (fun g hg hm => (h.sep g hg).1 (by simpa using hm)), fun g hg => ⟨fun e => by
    rcases hf g e with h1 | h1
    · exact (h.sep g hg).1 h1
    · have := (h.sep g hg).2; omega, Nat.lt_of_lt_of_le (h.sep g hg).2 hc.size⟩⟩
theorem KR.start {w w' : World} {v : Value} {l : List Ev} {rb : Option Nat} (h : NewE w l v w') (hb : ∀ g, rb = some g → g < w.heap.size) : KR w' v l rb := by
  obtain ⟨ao, cap, r, rfl, hr, hf, hc⟩ := h
  refine ⟨hr.view, fun g hg => ?_⟩
  have hrg : r = some g := by
    rcases hr.form with ⟨h1, h2, h3, h4⟩ | ⟨g', cap', cur, h1, h2, _⟩
    · rw [h1] at hg; cases hg
    · rw [h1] at hg
      rw [h2]
      exact hg
  refine ⟨fun e => ?_, hr.lt g hrg⟩
  have h1 := hb g e
  rcases hf g hrg with h2 | h2
  · cases h2
  · omega
end Go.Proofs.YtbghkodcfedebaaGreatDoor
