/- Walks of the trace layer's reference: bytes read. -/
import Derived.Test.YtbghkodcfedebaaGreatDoorTxu
set_option linter.unusedVariables false
set_option linter.unusedSectionVars false
set_option linter.unusedSimpArgs false
namespace Go.Proofs.YtbghkodcfedebaaGreatDoor
open Go.RowKit Go.AB
set_option linter.unusedSimpArgs false
set_option linter.unusedVariables false
set_option linter.unusedSectionVars false
theorem newE_from {w w1 w2 : World} {xs : List Ev} {v : Value} (hc : Chg [] w w1) (h : NewE w1 xs v w2) : NewE w xs v w2 := by
  obtain ⟨ao, cap, r, hv, hr, hf, h2⟩ := h
  exact ⟨ao, cap, r, hv, hr, hf.mono hc.size, hc.trans' h2⟩
set_option maxHeartbeats 8000000 in
set_option maxRecDepth 100000 in
theorem rdecode_calls (v : Value) (L : List UInt8) (w : World) (hv : Bytes w v L) (hl : L.length ≤ 16777216) : Calls Tryz.prog 24 #[v] w (DecE w (decE L)) := by
  obtain ⟨D, hD⟩ : ∃ D, decE L = D := ⟨_, rfl⟩
  rw [hD]
  have hop := q_open_calls v L w hv hl
  have hbl : (openB L).2.2 = 0 → (openB L).2.1.length ≤ 16777216 := fun hc => by
    have hf := openB_frame L hc
    have h1 := congrArg List.length hf
    rw [frameB_length] at h1
    omega
  unfold decE at hD
  obtain ⟨k, bd, c, ho⟩ : ∃ k bd c, openB L = (k, bd, c) := ⟨_, _, _, rfl⟩
  rw [ho] at hop hbl hD
  simp only at hbl hD
  have HO := hid hop
  clear hop ho hv hl
  by_cases hc : c = 0
  · subst hc
    by_cases hk : k = 3
    · subst hk
      have hbdl := hbl rfl
      have HD : Hid (D = match dBodyE bd with
        | some l => (l, 0)
        | none => ([], 181)) := hid (by rw [← hD, if_neg (by simp), if_neg (by simp)]; cases dBodyE bd <;> rfl)
      clear hD hbl
      go_enter Tryz.func24, Tryz.ntmps24
      go_upto_region 6 with (go_at_call 60; refine (HO.out).mono ?_; rintro e w1 ⟨l', ao, cap, r, rfl, hr1, hf1, hc1, HL1⟩; refine halt (fun XX hXX => ?_); obtain rfl : l' = bd := HL1.out; have HB := hid (rbodied_calls (.slice ao l'.length cap) l' w1 hr1.view hbdl); have HC1 := hid hc1; clear hr1 hf1 hc1 HL1; rw [hXX.out]; clear hXX XX)
      clear HO
      go_wp2_with (go_at_call 61; refine (HB.out).mono ?_; rintro e w2 hbp; refine halt (fun XX hXX => ?_))
      rcases hbp with ⟨xs, v2, hd, rfl, hn⟩ | ⟨hd, v2, rfl, hc2⟩
      · have HD2 : Hid (D = (xs, 0)) := hid (by rw [HD.out, hd])
        have HN := hid (newE_from HC1.out hn)
        clear hd hn HD
        rw [hXX.out]; clear hXX XX
        go_wp2_with fail
        first | go_ret2 | go_ret | go_ret3
        exact .inr ⟨xs, v2, HD2.out, rfl, HN.out⟩
      · have HD2 : Hid (D = ([], 181)) := hid (by rw [HD.out, hd])
        have HC2 := hid (HC1.out.trans' hc2)
        clear hd hc2 HD
        rw [hXX.out]; clear hXX XX
        go_wp2_with fail
        first | go_ret2 | go_ret | go_ret3
        exact .inl ⟨181, HD2.out, by decide, rfl, HC2.out⟩
    · have hkk : ((k.toNat : Int) != 3) = true := by
        have : k.toNat ≠ 3 := fun e => hk (UInt8.toNat_inj.1 (by simpa using e))
        simpa using (show (k.toNat : Int) ≠ 3 by omega)
      have HD : Hid (D = ([], 182)) := hid (by rw [← hD]; simp [hk])
      clear hD hbl hk
      go_enter Tryz.func24, Tryz.ntmps24
      go_wp2_with (go_at_call 60; refine (HO.out).mono ?_; rintro e w1 ⟨l', ao, cap, r, rfl, hr1, hf1, hc1, HL1⟩; have HC1 := hid hc1; clear hr1 hf1 hc1 HL1)
      first | go_ret2 | go_ret | go_ret3
      exact .inl ⟨182, HD.out, by decide, rfl, HC1.out⟩
  · have hcc : ((c : Int) != 0) = true := by simpa using hc
    have HD : Hid (D = ([], c)) := hid (by rw [← hD]; simp [hc])
    have HC := hid hc
    clear hD hbl hc
    go_enter Tryz.func24, Tryz.ntmps24
    go_wp2_with (go_at_call 60; refine (HO.out).mono ?_; rintro e w1 ⟨l', ao, cap, r, rfl, hr1, hf1, hc1, HL1⟩; have HC1 := hid hc1; clear hr1 hf1 hc1 HL1)
    first | go_ret2 | go_ret | go_ret3
    exact .inl ⟨c, HD.out, HC.out, rfl, HC1.out⟩
end Go.Proofs.YtbghkodcfedebaaGreatDoor
