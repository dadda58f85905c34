/- Walks of the trace layer's reference: bytes. -/
import Derived.Test.YtbghkodcfedebaaGreatDoorTxg
set_option linter.unusedVariables false
set_option linter.unusedSectionVars false
set_option linter.unusedSimpArgs false
namespace Go.Proofs.YtbghkodcfedebaaGreatDoor
open Go.RowKit Go.AB
set_option linter.unusedSimpArgs false
set_option linter.unusedVariables false
set_option linter.unusedSectionVars false
set_option maxHeartbeats 4000000 in
set_option maxRecDepth 100000 in
theorem rencode_calls {v : Value} (l : List Ev) (w : World) (hl : Lst evC 3 w v l) (hn : l.length ≤ 1048576) :
    Calls Tryz.prog 16 #[v] w (NewB2 5 w (encE l).1 (encE l).2) := by
  have HO := hid (rplains_calls l w hl (by omega))
  obtain ⟨ao, cap, rfl, -⟩ := hl.len
  obtain ⟨D, hD⟩ : ∃ D, encE l = D := ⟨_, rfl⟩
  rw [hD]
  have HL := hid hl
  cases hp : l.all plainE with
  | false =>
    rw [hp] at HO
    have HD : Hid (D = ([], 6)) := hid (by rw [← hD]; unfold encE; rw [hp]; rfl)
    clear hp hD hl
    go_enter Tryz.func16, Tryz.ntmps16
    go_wp2_with (go_at_call 42; refine HO.out.mono ?_; rintro e w1 ⟨rfl, hc⟩)
    first | go_ret2 | go_ret
    rw [HD.out]
    exact ⟨[], none, 0, none, rfl, Row.nil _ _ _, Fresh.refl _ _, hc, hid rfl⟩
  | true =>
    rw [hp] at HO
    have hall := List.all_eq_true.1 hp
    have hbl := body_len hall hn
    have HD : Hid (D = (frameB 3 (bodyE l), 0)) := hid (by rw [← hD]; unfold encE; rw [hp, if_pos rfl, if_neg (by omega)])
    have HBD := hid fun W (hc : Chg [] w W) => rbody_calls l W (HL.out.keep hc) hall hn
    have HLN := hid hbl
    clear hp hD hl hall hbl
    go_enter Tryz.func16, Tryz.ntmps16
    go_wp2_with (first
      | (go_at_call 42; refine HO.out.mono ?_; rintro e w1 ⟨rfl, hc1⟩; have HC1 := hid hc1; clear hc1)
      | (go_at_call 49; refine (HBD.out _ HC1.out).mono ?_; rintro e w2 ⟨l2, a2, c2, r2, rfl, hr2, hf2, hc2, hl2⟩; refine halt (fun XX hXX => ?_)))
    have HF0 := q_frame_calls 3 _ l2 w2 hr2.view (by rw [hl2.out]; exact HLN.out)
    have HF := hid HF0
    have HC2 := hid (HC1.out.trans' hc2)
    clear hr2 hf2 hc2 HF0
    rw [hXX.out]; clear hXX XX
    go_wp2_with (go_at_call 48; refine HF.out.mono ?_; rintro e w3 ⟨l3, a3, c3, r3, rfl, hr3, hf3, hc3, hl3⟩; refine halt (fun XX hXX => ?_))
    have H3 := hid (And.intro hr3 (And.intro hf3 hc3))
    clear hr3 hf3 hc3 HF
    rw [hXX.out]; clear hXX XX
    go_wp2_with fail
    first | go_ret2 | go_ret
    rw [HD.out]
    refine ⟨l3, a3, c3, r3, rfl, H3.out.1, ?_, HC2.out.trans' H3.out.2.2, hid (by rw [hl3.out, hl2.out])⟩
    exact H3.out.2.1.mono HC2.out.size
end Go.Proofs.YtbghkodcfedebaaGreatDoor
