/- Walks of the epochs: texts read, both, on. -/
import Derived.Test.YtngpfoddeebbmaaDoorEs
namespace Go.Proofs.YtngpfoddeebbmaaDoor
open Go.RowKit Go.AB
set_option linter.unusedSimpArgs false
set_option linter.unusedVariables false

theorem parse_num {l a b : List UInt8} (hn : l ≠ [110, 111, 110, 101]) (h : cutAt l = some (a, b)) :
    parseE l = if numI 281474976710655 a < 1 ∨ numI 65534 b < 0 then (0, 21) else packE (numI 65534 b) (numI 281474976710655 a) := by
  unfold parseE numI
  rw [if_neg hn, h]
  simp only
  cases numL 281474976710655 a with
  | none => rw [if_pos (.inl (by simp))]
  | some c =>
    cases numL 65534 b with
    | none => rw [if_pos (.inr (by simp))]
    | some t =>
      simp only
      by_cases hc : c < 1
      · rw [if_pos hc, if_pos (.inl (by omega))]
      · rw [if_neg hc, if_neg (by omega)]
theorem numI_bd (most : Nat) (l : List UInt8) : -1 ≤ numI most l ∧ numI most l ≤ most := by
  unfold numI
  cases h : numL most l with
  | none => simp only; omega
  | some n => have := (numL_some h).2; simp only; omega
theorem cut_go {l : List UInt8} {k : Nat} {c : UInt8} (hk : l[k]? = some c) (hc : c ≠ 64) (h : cutAt l = (cutAt (l.drop k)).map fun p => (l.take k ++ p.1, p.2)) : cutAt l = (cutAt (l.drop (k + 1))).map fun p => (l.take (k + 1) ++ p.1, p.2) := by
  obtain ⟨hk2, hk3⟩ := List.getElem?_eq_some_iff.1 hk
  rw [h, List.drop_eq_getElem_cons hk2, hk3, cutAt, if_neg hc, Option.map_map, List.take_succ_eq_append_getElem hk2, hk3]
  congr 1
  funext p
  simp
theorem cut_here {l : List UInt8} {k : Nat} {c : UInt8} (hk : l[k]? = some c) (hc : c = 64) (h : cutAt l = (cutAt (l.drop k)).map fun p => (l.take k ++ p.1, p.2)) : cutAt l = some (l.take k, l.drop (k + 1)) := by
  obtain ⟨hk2, hk3⟩ := List.getElem?_eq_some_iff.1 hk
  rw [h, List.drop_eq_getElem_cons hk2, hk3, cutAt, if_pos hc]
  simp
theorem parse_nocut {l : List UInt8} (hn : l ≠ [110, 111, 110, 101]) (h : cutAt l = none) : parseE l = (0, 21) := by unfold parseE; rw [if_neg hn, h]
theorem none_iff (s : ByteArray) : (s.toList == [110, 111, 110, 101]) = true ↔ s.data.toList = [110, 111, 110, 101] := by rw [Lib.toList_data]; simp

set_option maxHeartbeats 8000000 in
set_option maxRecDepth 100000 in
theorem r_parse_calls (s : ByteArray) (l : List UInt8) (hl : s.data.toList = l) (hs : s.size ≤ 1048576) (w : World) :
    Calls Tryd.prog 35 #[.string s] w fun e w' => e = .returned (.tuple #[.int .u64 (parseE l).1, .int .i64 (parseE l).2]) ∧ w = w' := by
  have hsz := size_data hl
  by_cases hn : l = [110, 111, 110, 101]
  · obtain rfl : s = ⟨#[110, 111, 110, 101]⟩ := by
      apply ByteArray.ext
      rw [← Array.toList_inj, hl, hn]
    subst hn
    clear hl hsz
    go_enter Tryd.func35, Tryd.ntmps35
    go_wp2
    go_ret2
    exact ⟨rfl, rfl⟩
  have HL := hid hl
  have HSZ := hid hsz
  have HN := hid hn
  have hnb : (s.toList == [110, 111, 110, 101]) = false := by
    rw [Bool.eq_false_iff]
    intro h
    exact hn (by rw [← hl]; exact (none_iff s).1 h)
  clear hl hsz hn
  go_enter Tryd.func35, Tryd.ntmps35
  go_wp2
  go_loop [4] (fun vi => ∃ k : Nat, k ≤ s.size ∧ vi = .int .i64 k ∧ Hid (cutAt l = (cutAt (l.drop k)).map fun p => (l.take k ++ p.1, p.2))) (fun vi => s.size - (intOf vi).toNat)
  case atStart => exact ⟨0, Nat.zero_le _, rfl, by show cutAt l = _; simp⟩
  case round =>
    obtain ⟨k, hk, rfl, hh⟩ := hrel
    by_cases hlt : k < s.size
    · have hg := byte_at HL.out hlt
      have zl : (k : Int) < (s.size : Int) := by omega
      by_cases hc : s[k] = 64
      · have hcut := cut_here hg hc hh.out
        have hc' : (s[k].toNat : Int) = 64 := by rw [hc]; rfl
        have hc2 : ((s[k].toNat : Int) == 64) = true := by rw [hc']; rfl
        have hp := parse_num HN.out hcut
        have ba := numI_bd 281474976710655 (l.take k)
        have bb := numI_bd 65534 (l.drop (k + 1))
        have ra := fun u => r_number 281474976710655 (by omega) (by omega) (s.extract 0 k) (l.take k) (by rw [Lib.extract_data, HL.out]; simp) u
        have rb := fun u => r_number 65534 (by omega) (by omega) (s.extract (k + 1) s.size) (l.drop (k + 1)) (by rw [Lib.extract_data, HL.out, HSZ.out, List.take_of_length_le (by rw [List.length_drop]; omega)]) u
        have hs1 : ∀ u : World, (Instr.slice 9 (.string s) none (some (.int .i64 (k : Int))) none).run Tryd.prog u = .ok (.string (s.extract 0 k)) u := fun u => by
          have h := run_slice_string_h (P := Tryd.prog) u 9 s Tryd.underlying9 .i64 (k : Int) (by omega) (by omega)
          simpa using h
        have hs2 : ∀ u : World, (Instr.slice 9 (.string s) (some (.int .i64 ((k : Int) + 1))) none none).run Tryd.prog u = .ok (.string (s.extract (k + 1) s.size)) u := fun u => by
          have h := run_slice_string_l (P := Tryd.prog) u 9 s Tryd.underlying9 .i64 ((k : Int) + 1) (by omega) (by omega)
          rw [show ((k : Int) + 1).toNat = k + 1 from by omega] at h
          exact h
        obtain ⟨A, hA⟩ : ∃ A, s.extract 0 k = A := ⟨_, rfl⟩
        obtain ⟨B, hB⟩ : ∃ B, s.extract (k + 1) s.size = B := ⟨_, rfl⟩
        obtain ⟨X, hX⟩ : ∃ X, numI 281474976710655 (l.take k) = X := ⟨_, rfl⟩
        obtain ⟨Y, hY⟩ : ∃ Y, numI 65534 (l.drop (k + 1)) = Y := ⟨_, rfl⟩
        rw [show ((281474976710655 : Int)).toNat = 281474976710655 from rfl, hX, hA] at ra
        rw [show ((65534 : Int)).toNat = 65534 from rfl, hY, hB] at rb
        rw [hA] at hs1
        rw [hB] at hs2
        rw [hX] at hp ba
        rw [hY] at hp bb
        have HP := hid hp
        have RA := hid ra
        have RB := hid rb
        clear hcut hh hg hp ra rb hX hY hA hB hc
        by_cases hbad : X < 1 ∨ Y < 0
        · have hpq := HP.out
          rw [if_pos hbad] at hpq
          have HQ := hid hpq
          clear hpq
          go_wp2_with (first
            | (go_at_call 42; (with_reducible refine (RA.out _).mono ?_); rintro e w' ⟨rfl, rfl⟩)
            | (go_at_call 42; (with_reducible refine (RB.out _).mono ?_); rintro e w' ⟨rfl, rfl⟩))
          all_goals go_ret2
          all_goals exact ⟨by rw [HQ.out]; rfl, rfl⟩
        · have hpq := HP.out
          rw [if_neg hbad] at hpq
          have b1 : 1 ≤ X := by omega
          have b2 : 0 ≤ Y := by omega
          have b3 : ¬ X < 1 := by omega
          have b4 : ¬ Y < 0 := by omega
          have rp := r_pack_calls Y X (by omega)
          obtain ⟨⟨P1, P2⟩, hP⟩ : ∃ p : Int × Int, packE Y X = p := ⟨_, rfl⟩
          rw [hP] at rp hpq
          have HQ := hid hpq
          have RP := hid rp
          obtain ⟨ba1, ba2⟩ := ba
          clear hpq rp hP hbad
          go_wp2_with (first
            | (go_at_call 42; (with_reducible refine (RA.out _).mono ?_); rintro e w' ⟨rfl, rfl⟩)
            | (go_at_call 42; (with_reducible refine (RB.out _).mono ?_); rintro e w' ⟨rfl, rfl⟩)
            | (go_at_call 11; refine (RP.out _).mono ?_; rintro e w' ⟨rfl, rfl⟩))
          all_goals go_ret2
          all_goals exact ⟨by rw [HQ.out]; rfl, rfl⟩
      · have hcut := hid (cut_go hg hc hh.out)
        have hc' : ¬ (s[k].toNat : Int) = 64 := fun h => hc (UInt8.toNat_inj.1 (by
          have e64 : (64 : UInt8).toNat = 64 := rfl
          omega))
        have hc2 : ((s[k].toNat : Int) == 64) = false := by rw [beq_eq_false_iff_ne]; exact hc'
        clear hh hg hc
        go_wp2
        refine ⟨⟨k + 1, by omega, by go_num, hcut⟩, by simp [intOf]; omega⟩
    · obtain rfl : k = s.size := by omega
      have hp : parseE l = (0, 21) := parse_nocut HN.out (by
        rw [hh.out, List.drop_eq_nil_of_le (by rw [HSZ.out]; exact Nat.le_refl _)]
        rfl)
      have HQ := hid hp
      clear hh hp
      go_wp2
      go_ret2
      exact ⟨by rw [HQ.out]; rfl, rfl⟩
end Go.Proofs.YtngpfoddeebbmaaDoor
