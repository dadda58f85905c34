/- Walks of the epochs' laws: EpochTexts. -/
import Derived.Test.YtngpfoddeebbmaaDoorEu
namespace Go.Proofs.YtngpfoddeebbmaaDoor
open Go.RowKit Go.AB
set_option linter.unusedSimpArgs false
set_option linter.unusedVariables false

theorem parseE_bd (l : List UInt8) : 0 ≤ (parseE l).1 ∧ (parseE l).1 < 18446744073709551616 := by
  rcases parse_cases l with ⟨h1, h2⟩ | ⟨t, c, h0, h1, h2, h3, h4⟩ | ⟨h1, h2, h3⟩
  · rw [h2]; simp
  · rw [h4]; simp only; omega
  · rw [h3]; simp

set_option maxHeartbeats 8000000 in
set_option maxRecDepth 100000 in
theorem texts_walk (s : ByteArray) (hs : s.size ≤ 1048576) (w : World) (hw : Vars0 w) :
    Calls Tryd.prog 8 #[.string s] w fun e w' => e = .returned (.bool true) ∧ Chg [] w w' := by
  obtain ⟨l, hl⟩ : ∃ l, s.data.toList = l := ⟨_, rfl⟩
  have pa := parse_calls s l hl hs w hw
  rw [prog_eq] at pa
  have pb := r_parse_calls s l hl hs
  have bd := parseE_bd l
  have tx := text_calls (parseE l).1 bd.1 bd.2
  have tp := fun h => text_parse (l := l) h
  obtain ⟨⟨P1, P2⟩, hP⟩ : ∃ p : Int × Int, parseE l = p := ⟨_, rfl⟩
  rw [hP] at pa pb tx tp
  simp only at pa pb tx tp
  have tl := textE_list P1
  obtain ⟨S, hS⟩ : ∃ S, textE P1 = S := ⟨_, rfl⟩
  rw [hS] at tx tl
  have hSs : P2 = 0 → (S.toList == s.toList) = true := fun h => by rw [beq_data, tl, hl, tp h]; simp
  have PA := hid pa
  have PB := hid pb
  have TX := hid tx
  have HW := hid hw
  have HL := hid lives_calls
  clear pa pb tx tp tl hS hP bd hl hw
  by_cases h2 : P2 = 0
  · have hSe := hSs h2
    subst h2
    clear hSs
    go_enter Tryd.func8, Tryd.ntmps8
    go_wp2_with (first
      | (go_at_call 34; refine PA.out.mono ?_; rintro e w1 ⟨rfl, hc1⟩; have HC1 := hid hc1; clear hc1)
      | (go_at_call 35; refine (PB.out _).mono ?_; rintro e w' ⟨rfl, rfl⟩)
      | (go_at_call 12; refine (num_calls _ _).mono ?_; rintro e w' ⟨rfl, rfl⟩)
      | (go_at_call 25; refine (TX.out _ (HW.out.keep HC1.out).pow).mono ?_; rintro e w2 ⟨rfl, hc2⟩; have HC2 := hid (HC1.out.trans' hc2); clear hc2)
      | (go_at_call 15; refine (HL.out _).mono ?_; rintro e w3 ⟨rfl, hc3⟩))
    go_ret
    exact ⟨rfl, HC2.out.trans' hc3⟩
  · have d1 : (P2 == 0) = false := by rw [beq_eq_false_iff_ne]; exact h2
    have d2 : (P2 != 0) = true := by rw [bne, d1]; rfl
    clear hSs
    go_enter Tryd.func8, Tryd.ntmps8
    go_wp2_with (first
      | (go_at_call 34; refine PA.out.mono ?_; rintro e w1 ⟨rfl, hc1⟩; have HC1 := hid hc1; clear hc1)
      | (go_at_call 35; refine (PB.out _).mono ?_; rintro e w' ⟨rfl, rfl⟩)
      | (go_at_call 12; refine (num_calls _ _).mono ?_; rintro e w' ⟨rfl, rfl⟩)
      | (go_at_call 15; refine (HL.out _).mono ?_; rintro e w3 ⟨rfl, hc3⟩))
    go_ret
    exact ⟨rfl, HC1.out.trans' hc3⟩
end Go.Proofs.YtngpfoddeebbmaaDoor
