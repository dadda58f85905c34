/- Walks of the lexer's laws: a small source. -/
import Derived.Test.YtppijmpdoejdmaaAh
namespace Go.Proofs.Ytppijmpdoejdmaa
open Go.RowKit Go.AB
set_option linter.unusedSimpArgs false
set_option linter.unusedVariables false
set_option linter.unusedSectionVars false

theorem known_tokens : tokensB [97, 58, 10, 32, 98, 61, 45, 51, 32, 59, 32, 120] = ([⟨1, [97], 0, 1, 1⟩, ⟨4, [], 0, 1, 2⟩, ⟨6, [], 0, 1, 3⟩, ⟨1, [98], 0, 2, 2⟩, ⟨5, [], 0, 2, 3⟩, ⟨2, [], -3, 2, 4⟩, ⟨7, [], 0, 2, 10⟩], (0, 0, 0)) := by kernel_rfl

set_option maxHeartbeats 2000000 in
set_option maxRecDepth 100000 in
theorem known_calls (w : World) : Calls Try.prog 14 #[] w fun e w' => e = .returned (.bool true) ∧ Chg [] w w' := by
  have HT := hid (tokens_calls (s := ⟨#[97, 58, 10, 32, 98, 61, 45, 51, 32, 59, 32, 120]⟩) w (by show (12 : Nat) ≤ _; omega) [97, 58, 10, 32, 98, 61, 45, 51, 32, 59, 32, 120] (hid rfl))
  rw [known_tokens] at HT
  go_enter Try.func14, Try.ntmps14
  go_wp2_with (go_at_call 11; refine HT.out.mono ?_; rintro e w2 ⟨ts, ao, cap, r, rfl, hr, hf, hc, HL⟩; refine halt (fun X hX => ?_))
  rw [hX.out]; clear hX
  have hts : ts = [⟨1, [97], 0, 1, 1⟩, ⟨4, [], 0, 1, 2⟩, ⟨6, [], 0, 1, 3⟩, ⟨1, [98], 0, 2, 2⟩, ⟨5, [], 0, 2, 3⟩, ⟨2, [], -3, 2, 4⟩, ⟨7, [], 0, 2, 10⟩] := HL.out
  subst hts
  have hv : TView w2 (.slice ao 7 cap) [⟨1, [97], 0, 1, 1⟩, ⟨4, [], 0, 1, 2⟩, ⟨6, [], 0, 1, 3⟩, ⟨1, [98], 0, 2, 2⟩, ⟨5, [], 0, 2, 3⟩, ⟨2, [], -3, 2, 4⟩, ⟨7, [], 0, 2, 10⟩] := hr.view
  obtain ⟨b, off, rfl, a0, a1, a2, a3, a4⟩ := hv.at (i := 5) (by simp)
  obtain ⟨b', off', hbo, c0, c1, c2, c3, c4⟩ := hv.at (i := 6) (by simp)
  simp only [Option.some.injEq, Addr.mk.injEq, and_true] at hbo
  obtain ⟨rfl, rfl⟩ := hbo
  have d2 : ∀ o, (w2.alloc o).cell? ⟨b, off + 27, none⟩ = some (.int .i64 (-3)) := fun o => ((Chg.refl [] w2).alloc o).cell a2 (by simp)
  have d3 : ∀ o, (w2.alloc o).cell? ⟨b, off + 28, none⟩ = some (.int .i64 2) := fun o => ((Chg.refl [] w2).alloc o).cell a3 (by simp)
  have d4 : ∀ o, (w2.alloc o).cell? ⟨b, off + 29, none⟩ = some (.int .i64 4) := fun o => ((Chg.refl [] w2).alloc o).cell a4 (by simp)
  have d0 : ∀ o, (w2.alloc o).cell? ⟨b, off + 30, none⟩ = some (.int .i64 7) := fun o => ((Chg.refl [] w2).alloc o).cell c0 (by simp)
  clear HL HT hv a0 a1 a2 a3 a4 c0 c1 c2 c3 c4
  go_wp2
  go_ret
  exact ⟨rfl, hc.alloc _⟩
end Go.Proofs.Ytppijmpdoejdmaa
