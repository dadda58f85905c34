/- Walks of the frames: a frame opened, by the document. -/
import Derived.Test.YtbikekgljabalaaM02
namespace Go.Proofs.Ytbikekgljabalaa
open Go.RowKit Go.AB
set_option linter.unusedSimpArgs false

/-- A kind, a slice of bytes in new memory, a number. -/
def NewB3 (U : Nat) (w : World) (p : UInt8 × List UInt8 × Nat) (e : Ending) (w' : World) : Prop :=
  ∃ l' ao cap r, e = .returned (.tuple #[.int .u8 p.1.toNat, .slice ao l'.length cap, .int .i64 p.2.2]) ∧ Row w' U 1 (.slice ao l'.length cap) r l'.length (l'.map B) ∧ Fresh w none r ∧ Chg [] w w' ∧ Hid (l' = p.2.1)
theorem newB3_err {U : Nat} {w w' : World} {c : Nat} {p : UInt8 × List UInt8 × Nat} (h : p = (0, [], c)) (hc : Chg [] w w') : NewB3 U w p (.returned (.tuple #[.int .u8 0, .slice none 0 0, .int .i64 c])) w' := by
  subst h; exact ⟨[], none, 0, none, rfl, Row.nil _ _ _, Fresh.refl _ _, hc, hid rfl⟩

/-- The ways of the opening. -/
theorem openB_cases (l : List UInt8) : (l.length < 11 ∧ openB l = (0, [], 14)) ∨
    (11 ≤ l.length ∧ (∃ h0 : 0 < l.length, l[0] ≠ 97) ∧ openB l = (0, [], 14)) ∨
    (11 ≤ l.length ∧ (∃ h0 : 0 < l.length, l[0] = 97) ∧ (∃ h0 : 1 < l.length, l[1] ≠ 98) ∧ openB l = (0, [], 14)) ∨
    (11 ≤ l.length ∧ (∃ h0 : 0 < l.length, l[0] = 97) ∧ (∃ h0 : 1 < l.length, l[1] = 98) ∧ openB l = (if 16777216 < leNat ((l.drop 3).take 4) then (0, [], 14)
  else if l.length - 11 < leNat ((l.drop 3).take 4) then (0, [], 10)
  else if leNat ((l.drop 3).take 4) < l.length - 11 then (0, [], 13)
  else if (l.drop 7).take 4 ≠ fixedB 4 (sumB ((l.drop 2).take 5 ++ l.drop 11)) then (0, [], 15)
  else (l.getD 2 0, l.drop 11, 0))) := by
  by_cases h1 : l.length < 11
  · exact .inl ⟨h1, by unfold openB; rw [if_pos (.inl h1)]⟩
  · have h0 : 0 < l.length := by omega
    have h01 : 1 < l.length := by omega
    by_cases h2 : l[0] = 97
    · by_cases h3 : l[1] = 98
      · refine .inr (.inr (.inr ⟨by omega, ⟨h0, h2⟩, ⟨h01, h3⟩, ?_⟩))
        unfold openB
        rw [if_neg (by rw [List.getElem?_eq_getElem h0, List.getElem?_eq_getElem h01, h2, h3]; simp; omega)]
      · refine .inr (.inr (.inl ⟨by omega, ⟨h0, h2⟩, ⟨h01, h3⟩, ?_⟩))
        unfold openB
        rw [if_pos (.inr (.inr (by rw [List.getElem?_eq_getElem h01]; simpa using h3)))]
    · refine .inr (.inl ⟨by omega, ⟨h0, h2⟩, ?_⟩)
      unfold openB
      rw [if_pos (.inr (.inl (by rw [List.getElem?_eq_getElem h0]; simpa using h2)))]
theorem b97 {x : UInt8} (h : x = 97) : x.toNat = 97 := by subst h; rfl
theorem b98 {x : UInt8} (h : x = 98) : x.toNat = 98 := by subst h; rfl
theorem n97 {x : UInt8} (h : x ≠ 97) : x.toNat ≠ 97 := fun e => h (UInt8.toNat_inj.1 (by simpa using e))
theorem n98 {x : UInt8} (h : x ≠ 98) : x.toNat ≠ 98 := fun e => h (UInt8.toNat_inj.1 (by simpa using e))

/-- What the frame of an opened body bears where the sum stands. -/
theorem frame_bytes (l : List UInt8) (h : 11 ≤ l.length) (hn : leNat ((l.drop 3).take 4) + 11 = l.length) :
    ∀ j, j < 4 → (frameB (l[2]'(by omega)) (l.drop 11))[7 + j]? = (fixedB 4 (sumB ((l.drop 2).take 5 ++ l.drop 11)))[j]? := by
  intro j hj
  have e1 : fixedB 4 (l.drop 11).length = (l.drop 3).take 4 := by
    have h4 : ((l.drop 3).take 4).length = 4 := by simp; omega
    have := fixedB_leNat ((l.drop 3).take 4)
    rw [h4] at this
    rw [← this]
    congr 1
    simp; omega
  have e2 : headB (l[2]'(by omega)) (l.drop 11).length = (l.drop 2).take 5 := by
    unfold headB
    rw [e1, List.drop_eq_getElem_cons (show 2 < l.length by omega)]
    rfl
  unfold frameB
  rw [e2]
  have h5 : ((l.drop 2).take 5).length = 5 := by simp; omega
  rw [List.append_assoc, List.append_assoc, List.getElem?_append_right (by simp; omega), List.getElem?_append_right (by simp; omega), List.getElem?_append_left (by rw [fixedB_length]; simp; omega)]
  congr 1
  simp
  omega
theorem head_num (l : List UInt8) (h : 11 ≤ l.length) : ((l[3].toNat : Nat) : Int) + 256 * ((l[4].toNat : Nat) : Int) + 65536 * ((l[5].toNat : Nat) : Int) + 16777216 * ((l[6].toNat : Nat) : Int) = ((leNat ((l.drop 3).take 4) : Nat) : Int) := by
  have e : (l.drop 3).take 4 = [l[3], l[4], l[5], l[6]] := by
    apply List.ext_getElem
    · simp; omega
    · intro i h1 h2
      simp only [List.length_cons, List.length_nil] at h2
      match i, h2 with
      | 0, _ | 1, _ | 2, _ | 3, _ => simp
  rw [e]
  simp only [leNat]
  omega
set_option maxHeartbeats 2000000 in
set_option maxRecDepth 100000 in
theorem q_open_calls (v : Value) (l : List UInt8) (w : World) (hv : Bytes w v l) (hl : l.length ≤ 16777216) :
    Calls Try.prog 55 #[v] w (NewB3 5 w (openB l)) := by
  have hv' := hv
  obtain ⟨ao, cap, rfl, hcap, hcm, _, hcells⟩ := hv.out
  clear hv
  rcases openB_cases l with ⟨h1, he⟩ | ⟨h1, ⟨h0, h2⟩, he⟩ | ⟨h1, ⟨h0, h2⟩, ⟨h01, h3⟩, he⟩ | ⟨h1, ⟨h0, h2⟩, ⟨h01, h3⟩, he⟩
  · have HE := hid he
    clear he hv' hcells
    go_enter Try.func55, Try.ntmps55
    go_wp2
    go_ret3
    exact newB3_err HE.out (Chg.refl _ _)
  · obtain ⟨b, off, rfl, hc⟩ := hcells (by omega)
    have x0 := hc 0 (by omega)
    have hx : (((l[0].toNat : Nat) : Int) == 97) = false := by have := n97 h2; simp; omega
    have hx2 : (((l[0].toNat : Nat) : Int) != 97) = true := by have := n97 h2; simp; omega
    have hd : decide ((l.length : Int) < 11) = false := by simp; omega
    simp only [Nat.add_zero] at x0
    have HE := hid he
    clear he hv' hcells hc h2
    go_enter Try.func55, Try.ntmps55
    go_wp2
    go_ret3
    exact newB3_err HE.out (Chg.refl _ _)
  · obtain ⟨b, off, rfl, hc⟩ := hcells (by omega)
    have x0 := hc 0 (by omega)
    have x1 := hc 1 (by omega)
    have hx : (((l[1].toNat : Nat) : Int) == 98) = false := by have := n98 h3; simp; omega
    have hx2 : (((l[1].toNat : Nat) : Int) != 98) = true := by have := n98 h3; simp; omega
    have hd : decide ((l.length : Int) < 11) = false := by simp; omega
    have x0 : w.cell? ⟨b, off, none⟩ = some (.int .u8 97) := by rw [h2] at x0; exact x0
    have HE := hid he
    clear he hv' hcells hc h2 h3
    go_enter Try.func55, Try.ntmps55
    go_wp2
    go_ret3
    exact newB3_err HE.out (Chg.refl _ _)
  · obtain ⟨b, off, rfl, hc⟩ := hcells (by omega)
    have x0 : w.cell? ⟨b, off, none⟩ = some (.int .u8 97) := by have := hc 0 (by omega); rw [h2] at this; exact this
    have x1 : w.cell? ⟨b, off + 1, none⟩ = some (.int .u8 98) := by have := hc 1 (by omega); rw [h3] at this; exact this
    have x2 := hc 2 (by omega)
    have x3 := hc 3 (by omega)
    have x4 := hc 4 (by omega)
    have x5 := hc 5 (by omega)
    have x6 := hc 6 (by omega)
    have hN := head_num l h1
    have hd : decide ((l.length : Int) < 11) = false := by simp; omega
    obtain ⟨N, hNe⟩ : ∃ N, leNat ((l.drop 3).take 4) = N := ⟨_, rfl⟩
    rw [hNe] at hN he
    have l3 := l[3].toNat_lt
    have l4 := l[4].toNat_lt
    have l5 := l[5].toNat_lt
    have l6 := l[6].toNat_lt
    obtain ⟨b3, hb3⟩ : ∃ x, l[3].toNat = x := ⟨_, rfl⟩
    obtain ⟨b4, hb4⟩ : ∃ x, l[4].toNat = x := ⟨_, rfl⟩
    obtain ⟨b5, hb5⟩ : ∃ x, l[5].toNat = x := ⟨_, rfl⟩
    obtain ⟨b6, hb6⟩ : ∃ x, l[6].toNat = x := ⟨_, rfl⟩
    rw [hb3] at x3 l3 hN
    rw [hb4] at x4 l4 hN
    rw [hb5] at x5 l5 hN
    rw [hb6] at x6 l6 hN
    have HNE := hid hNe
    clear hb3 hb4 hb5 hb6 hNe
    by_cases c1 : 16777216 < N
    · rw [if_pos c1] at he
      have HE := hid he
      clear he hc hv' hcells
      go_enter Try.func55, Try.ntmps55
      go_wp2
      go_quiet (fail)
      go_wp2
      go_ret3
      exact newB3_err HE.out (Chg.of_drewN _ _ _)
    rw [if_neg c1] at he
    by_cases c2 : l.length - 11 < N
    · rw [if_pos c2] at he
      have HE := hid he
      clear he hc hv' hcells
      go_enter Try.func55, Try.ntmps55
      go_wp2
      go_quiet (fail)
      go_wp2
      go_ret3
      exact newB3_err HE.out (Chg.of_drewN _ _ _)
    rw [if_neg c2] at he
    by_cases c3 : N < l.length - 11
    · rw [if_pos c3] at he
      have HE := hid he
      clear he hc hv' hcells
      go_enter Try.func55, Try.ntmps55
      go_wp2
      go_quiet (fail)
      go_wp2
      go_ret3
      exact newB3_err HE.out (Chg.of_drewN _ _ _)
    rw [if_neg c3] at he
    have hNl : N + 11 = l.length := by omega
    have hSL := frame_bytes l h1 (by rw [HNE.out]; exact hNl)
    obtain ⟨S, hS⟩ : ∃ S, sumB ((l.drop 2).take 5 ++ l.drop 11) = S := ⟨_, rfl⟩
    rw [hS] at he hSL
    have hx : ∀ u, Below w.heap.size w u → ∀ j (hj : j < l.length), u.cell? ⟨b, off + j, none⟩ = some (.int .u8 (l[j].toNat : Nat)) := fun u hu j hj => (hu.cell (World.block_lt_of_cell? w _ (hc j hj))).trans (hc j hj)
    have HX := hid hx
    have HSL := hid hSL
    have HE := hid he
    have hbody : (l.drop 11).length ≤ 16777216 := by simp; omega
    have key : ∀ v : Value, Bytes w v (l.drop 11) → ∀ u, Chg [] w u → Calls Try.prog 52 #[v, .slice none 0 0] u (NewB 5 u (l.drop 11 ++ [])) := fun v hv u hu =>
      joined_calls _ _ (l.drop 11) [] u (hv.keep hu (by simp)) (Row.nil u 5 1).view (by omega) (by simp)
    have HK := hid key
    have hvw : cap ≠ 11 → Bytes w (.slice (some ⟨b, off + 11, none⟩) (l.length - 11) (cap - 11)) (l.drop 11) := fun _ => by
      have := View.part (w := w) (l := l) (bb := b) (off := off) (cap := cap) (p := 11) (v := l.length - 11) ⟨by simp, by omega, fun j hj => by rw [hc j (by omega)]; simp [List.getD, show j < l.length by omega, B]⟩ (by omega) hcap hcm
      have e : (l.drop 11).take (l.length - 11) = l.drop 11 := List.take_of_length_le (by simp)
      rw [e] at this
      unfold Bytes
      rw [List.length_drop]
      exact this
    have hvw0 : cap = 11 → Bytes w (.slice (some ⟨b, off, none⟩) 0 0) (l.drop 11) := fun e => by
      have : l.drop 11 = [] := List.drop_of_length_le (by omega)
      rw [this]
      exact ⟨rfl, by simp [maxLen], _, _, rfl, Nat.le_refl _, by simp [maxLen], (fun h => by cases h), fun h => by simp at h⟩
    have HV := hid hvw
    have HV0 := hid hvw0
    clear c1 c2 c3 hcells hvw hvw0 key hSL he hx hc hS hv'
    by_cases hcp : cap = 11
    · subst hcp
      have HB := hid (HV0.out rfl)
      clear HV HV0
      go_enter Try.func55, Try.ntmps55
      go_wp2
      go_quiet (fail)
      go_wp2_with (go_at_call 52; refine (HK.out _ HB.out _ (Chg.of_drewN _ _ _)).mono ?_; rintro e w1 ⟨l6, ao6, cap6, r6, rfl, hr6, hf6, hc6, HL6⟩; refine halt (fun X hX => ?_))
      rw [hX.out]; clear hX
      have H6 : Hid (l6 = l.drop 11) := hid (by rw [HL6.out, List.append_nil])
      have h6l : l6.length ≤ 16777216 := by rw [H6.out]; exact hbody
      have hc6W : Chg [] w w1 := (Chg.of_drewN [] w _).trans' hc6
      have y2 : w1.cell? ⟨b, off + 2, none⟩ = some (.int .u8 (l[2].toNat : Nat)) := hc6W.cell x2 (by simp)
      have HF := hid (q_frame_calls l[2] _ l6 w1 hr6.view h6l)
      clear HL6 HK HB
      go_wp2_with (go_at_call 19; refine HF.out.mono ?_; rintro e w2 ⟨l7, ao7, cap7, r7, rfl, hr7, hf7, hc7, HL7⟩; refine halt (fun X hX => ?_))
      rw [hX.out]; clear hX
      have hc7W : Chg [] w w2 := hc6W.trans' hc7
      have hr62 := hr6.keep hc7 (by simp)
      have hl7 : l7.length = l6.length + 11 := by rw [HL7.out, frameB_length]
      have hl7b : 11 ≤ l7.length := by omega
      have hl7c : l7.length ≤ 16777227 := by omega
      have HF7 : Hid (∀ j, j < 4 → l7[7 + j]? = (fixedB 4 S)[j]?) := hid (by rw [HL7.out, H6.out]; exact HSL.out)
      clear hl7 HL7 HSL HF
      go_wp2_with fail
      go_loopw [9] (fun i wr => ∃ q m : Nat, q ≤ 4 ∧ i = .int .i64 (q : Nat) ∧ Hid (∀ j, j < q → l[7 + j]? = (fixedB 4 S)[j]?) ∧ wr = w2.drewN m)
        (fun i _ => 4 - (intOf i).toNat)
      case atStart => exact ⟨0, 0, by omega, rfl, hid (fun j hj => by omega), rfl⟩
      case round =>
        obtain ⟨q, m, hq, rfl, HQ, rfl⟩ := hrel
        by_cases hq4 : q < 4
        · obtain ⟨g, rfl, rfl, z1, _⟩ := Row.at hr7 (k := 7 + q) (by omega)
          have z2 := HX.out w2 hc7W.to_below (7 + q) (by omega)
          have h7 := HF7.out q hq4
          have hs5 : (fixedB 4 S).length = 4 := fixedB_length 4 S
          have h7l : 7 + q < l.length := by omega
          have h7f : 7 + q < l7.length := by omega
          rw [List.getElem?_eq_getElem h7f, List.getElem?_eq_getElem (show q < (fixedB 4 S).length by omega)] at h7
          have h7e : l7[7 + q] = (fixedB 4 S)[q]'(by omega) := by simpa using h7
          have n1 : (7 : Int) + (q : Int) < (l.length : Int) := by omega
          have n2 : (7 : Int) + (q : Int) < (l7.length : Int) := by omega
          have n3 : (0 : Int) ≤ (7 : Int) + (q : Int) := by omega
          by_cases heq : l7[7 + q] = l[7 + q]
          · have hb : (((l7[7 + q].toNat : Nat) : Int) == ((l[7 + q].toNat : Nat) : Int)) = true := by rw [heq]; simp
            have hb2 : (((l7[7 + q].toNat : Nat) : Int) != ((l[7 + q].toNat : Nat) : Int)) = false := by rw [heq]; simp
            have HN : Hid (∀ j, j < q + 1 → l[7 + j]? = (fixedB 4 S)[j]?) := hid (fun j hj => by
              rcases Nat.lt_or_ge j q with h | h
              · exact HQ.out j h
              · obtain rfl : j = q := by omega
                rw [List.getElem?_eq_getElem h7l, List.getElem?_eq_getElem (show j < (fixedB 4 S).length by omega), ← heq, h7e])
            clear heq h7e h7 hs5
            obtain ⟨ba, hba⟩ : ∃ x, l7[7 + q].toNat = x := ⟨_, rfl⟩
            obtain ⟨bb, hbb⟩ : ∃ x, l[7 + q].toNat = x := ⟨_, rfl⟩
            rw [hba] at z1 hb hb2
            rw [hbb] at z2 hb hb2
            clear hba hbb
            go_wp2
            go_quiet (fail)
            go_wp2
            go_roundw
            case rel => exact ⟨q + 1, _, by omega, by go_num, HN, rfl⟩
            case measure => simp [intOf]; omega
          · have hne : l7[7 + q].toNat ≠ l[7 + q].toNat := fun e => heq (UInt8.toNat_inj.1 e)
            have hb : (((l7[7 + q].toNat : Nat) : Int) == ((l[7 + q].toNat : Nat) : Int)) = false := by simp; omega
            have hb2 : (((l7[7 + q].toNat : Nat) : Int) != ((l[7 + q].toNat : Nat) : Int)) = true := by simp; omega
            have hbad : (l.drop 7).take 4 ≠ fixedB 4 S := fun e => by
              have h1 : ((l.drop 7).take 4)[q]? = (fixedB 4 S)[q]? := by rw [e]
              rw [List.getElem?_take, if_pos hq4, List.getElem?_drop, List.getElem?_eq_getElem h7l, List.getElem?_eq_getElem (show q < (fixedB 4 S).length by omega)] at h1
              apply heq
              rw [h7e]
              simpa using h1.symm
            have hE := HE.out
            rw [if_pos hbad] at hE
            have HE2 := hid hE
            clear heq h7e h7 hs5 hne hbad hE
            obtain ⟨ba, hba⟩ : ∃ x, l7[7 + q].toNat = x := ⟨_, rfl⟩
            obtain ⟨bb, hbb⟩ : ∃ x, l[7 + q].toNat = x := ⟨_, rfl⟩
            rw [hba] at z1 hb hb2
            rw [hbb] at z2 hb hb2
            clear hba hbb
            go_wp2
            go_quiet (fail)
            go_wp2
            go_ret3
            exact newB3_err HE2.out ((hc7W.drewN _).drewN _)
        · obtain rfl : q = 4 := by omega
          have hgood : (l.drop 7).take 4 = fixedB 4 S := by
            apply List.ext_getElem?
            intro j
            rcases Nat.lt_or_ge j 4 with h | h
            · rw [List.getElem?_take, if_pos h, List.getElem?_drop, HQ.out j h]
            · rw [List.getElem?_eq_none (by simp; omega), List.getElem?_eq_none (by rw [fixedB_length]; exact h)]
          have hE := HE.out
          rw [if_neg (fun h => h hgood)] at hE
          have y2' : w2.cell? ⟨b, off + 2, none⟩ = some (.int .u8 (l[2].toNat : Nat)) := hc7W.cell x2 (by simp)
          have hgd : l.getD 2 0 = l[2] := by simp [List.getD, List.getElem?_eq_getElem (show 2 < l.length by omega)]
          rw [hgd] at hE
          have HE2 := hid hE
          have hf6' : Fresh w none r6 := (Fresh.refl w none).trans (Nat.le_refl _) (hf6.mono (Nat.le_refl _))
          clear hgood hE hgd
          go_wp2
          go_ret3
          exact ⟨l6, ao6, cap6, r6, by rw [HE2.out]; rfl, hr62.keep (Chg.of_drewN [] _ _) (by simp), hf6', hc7W.drewN _, hid (by rw [HE2.out]; exact H6.out)⟩
    · have HB := hid (HV.out hcp)
      clear HV HV0
      go_enter Try.func55, Try.ntmps55
      go_wp2
      go_quiet (fail)
      go_wp2_with (go_at_call 52; refine (HK.out _ HB.out _ (Chg.of_drewN _ _ _)).mono ?_; rintro e w1 ⟨l6, ao6, cap6, r6, rfl, hr6, hf6, hc6, HL6⟩; refine halt (fun X hX => ?_))
      rw [hX.out]; clear hX
      have H6 : Hid (l6 = l.drop 11) := hid (by rw [HL6.out, List.append_nil])
      have h6l : l6.length ≤ 16777216 := by rw [H6.out]; exact hbody
      have hc6W : Chg [] w w1 := (Chg.of_drewN [] w _).trans' hc6
      have y2 : w1.cell? ⟨b, off + 2, none⟩ = some (.int .u8 (l[2].toNat : Nat)) := hc6W.cell x2 (by simp)
      have HF := hid (q_frame_calls l[2] _ l6 w1 hr6.view h6l)
      clear HL6 HK HB
      go_wp2_with (go_at_call 19; refine HF.out.mono ?_; rintro e w2 ⟨l7, ao7, cap7, r7, rfl, hr7, hf7, hc7, HL7⟩; refine halt (fun X hX => ?_))
      rw [hX.out]; clear hX
      have hc7W : Chg [] w w2 := hc6W.trans' hc7
      have hr62 := hr6.keep hc7 (by simp)
      have hl7 : l7.length = l6.length + 11 := by rw [HL7.out, frameB_length]
      have hl7b : 11 ≤ l7.length := by omega
      have hl7c : l7.length ≤ 16777227 := by omega
      have HF7 : Hid (∀ j, j < 4 → l7[7 + j]? = (fixedB 4 S)[j]?) := hid (by rw [HL7.out, H6.out]; exact HSL.out)
      clear hl7 HL7 HSL HF
      go_wp2_with fail
      go_loopw [9] (fun i wr => ∃ q m : Nat, q ≤ 4 ∧ i = .int .i64 (q : Nat) ∧ Hid (∀ j, j < q → l[7 + j]? = (fixedB 4 S)[j]?) ∧ wr = w2.drewN m)
        (fun i _ => 4 - (intOf i).toNat)
      case atStart => exact ⟨0, 0, by omega, rfl, hid (fun j hj => by omega), rfl⟩
      case round =>
        obtain ⟨q, m, hq, rfl, HQ, rfl⟩ := hrel
        by_cases hq4 : q < 4
        · obtain ⟨g, rfl, rfl, z1, _⟩ := Row.at hr7 (k := 7 + q) (by omega)
          have z2 := HX.out w2 hc7W.to_below (7 + q) (by omega)
          have h7 := HF7.out q hq4
          have hs5 : (fixedB 4 S).length = 4 := fixedB_length 4 S
          have h7l : 7 + q < l.length := by omega
          have h7f : 7 + q < l7.length := by omega
          rw [List.getElem?_eq_getElem h7f, List.getElem?_eq_getElem (show q < (fixedB 4 S).length by omega)] at h7
          have h7e : l7[7 + q] = (fixedB 4 S)[q]'(by omega) := by simpa using h7
          have n1 : (7 : Int) + (q : Int) < (l.length : Int) := by omega
          have n2 : (7 : Int) + (q : Int) < (l7.length : Int) := by omega
          have n3 : (0 : Int) ≤ (7 : Int) + (q : Int) := by omega
          by_cases heq : l7[7 + q] = l[7 + q]
          · have hb : (((l7[7 + q].toNat : Nat) : Int) == ((l[7 + q].toNat : Nat) : Int)) = true := by rw [heq]; simp
            have hb2 : (((l7[7 + q].toNat : Nat) : Int) != ((l[7 + q].toNat : Nat) : Int)) = false := by rw [heq]; simp
            have HN : Hid (∀ j, j < q + 1 → l[7 + j]? = (fixedB 4 S)[j]?) := hid (fun j hj => by
              rcases Nat.lt_or_ge j q with h | h
              · exact HQ.out j h
              · obtain rfl : j = q := by omega
                rw [List.getElem?_eq_getElem h7l, List.getElem?_eq_getElem (show j < (fixedB 4 S).length by omega), ← heq, h7e])
            clear heq h7e h7 hs5
            obtain ⟨ba, hba⟩ : ∃ x, l7[7 + q].toNat = x := ⟨_, rfl⟩
            obtain ⟨bb, hbb⟩ : ∃ x, l[7 + q].toNat = x := ⟨_, rfl⟩
            rw [hba] at z1 hb hb2
            rw [hbb] at z2 hb hb2
            clear hba hbb
            go_wp2
            go_quiet (fail)
            go_wp2
            go_roundw
            case rel => exact ⟨q + 1, _, by omega, by go_num, HN, rfl⟩
            case measure => simp [intOf]; omega
          · have hne : l7[7 + q].toNat ≠ l[7 + q].toNat := fun e => heq (UInt8.toNat_inj.1 e)
            have hb : (((l7[7 + q].toNat : Nat) : Int) == ((l[7 + q].toNat : Nat) : Int)) = false := by simp; omega
            have hb2 : (((l7[7 + q].toNat : Nat) : Int) != ((l[7 + q].toNat : Nat) : Int)) = true := by simp; omega
            have hbad : (l.drop 7).take 4 ≠ fixedB 4 S := fun e => by
              have h1 : ((l.drop 7).take 4)[q]? = (fixedB 4 S)[q]? := by rw [e]
              rw [List.getElem?_take, if_pos hq4, List.getElem?_drop, List.getElem?_eq_getElem h7l, List.getElem?_eq_getElem (show q < (fixedB 4 S).length by omega)] at h1
              apply heq
              rw [h7e]
              simpa using h1.symm
            have hE := HE.out
            rw [if_pos hbad] at hE
            have HE2 := hid hE
            clear heq h7e h7 hs5 hne hbad hE
            obtain ⟨ba, hba⟩ : ∃ x, l7[7 + q].toNat = x := ⟨_, rfl⟩
            obtain ⟨bb, hbb⟩ : ∃ x, l[7 + q].toNat = x := ⟨_, rfl⟩
            rw [hba] at z1 hb hb2
            rw [hbb] at z2 hb hb2
            clear hba hbb
            go_wp2
            go_quiet (fail)
            go_wp2
            go_ret3
            exact newB3_err HE2.out ((hc7W.drewN _).drewN _)
        · obtain rfl : q = 4 := by omega
          have hgood : (l.drop 7).take 4 = fixedB 4 S := by
            apply List.ext_getElem?
            intro j
            rcases Nat.lt_or_ge j 4 with h | h
            · rw [List.getElem?_take, if_pos h, List.getElem?_drop, HQ.out j h]
            · rw [List.getElem?_eq_none (by simp; omega), List.getElem?_eq_none (by rw [fixedB_length]; exact h)]
          have hE := HE.out
          rw [if_neg (fun h => h hgood)] at hE
          have y2' : w2.cell? ⟨b, off + 2, none⟩ = some (.int .u8 (l[2].toNat : Nat)) := hc7W.cell x2 (by simp)
          have hgd : l.getD 2 0 = l[2] := by simp [List.getD, List.getElem?_eq_getElem (show 2 < l.length by omega)]
          rw [hgd] at hE
          have HE2 := hid hE
          have hf6' : Fresh w none r6 := (Fresh.refl w none).trans (Nat.le_refl _) (hf6.mono (Nat.le_refl _))
          clear hgood hE hgd
          go_wp2
          go_ret3
          exact ⟨l6, ao6, cap6, r6, by rw [HE2.out]; rfl, hr62.keep (Chg.of_drewN [] _ _) (by simp), hf6', hc7W.drewN _, hid (by rw [HE2.out]; exact H6.out)⟩
end Go.Proofs.Ytbikekgljabalaa
