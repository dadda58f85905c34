/- Walks of the lexer's laws: places, gaps, widths. -/
import Derived.Test.YtppijmpdoejdmaaBk
import Derived.Test.YtppijmpdoejdmaaBspot
namespace Go.Proofs.Ytppijmpdoejdmaa
open Go.RowKit Go.AB
set_option linter.unusedSimpArgs false
set_option linter.unusedVariables false
set_option linter.unusedSectionVars false

theorem pos_bound (l : List UInt8) : ∀ p : Nat × Nat, 1 ≤ p.2 → (pos p l).1 ≤ p.1 + l.length ∧ (pos p l).2 ≤ p.2 + l.length ∧ 1 ≤ (pos p l).2 := by
  induction l with
  | nil => intro p h; exact ⟨by simp [pos], by simp [pos], h⟩
  | cons c l ih =>
    intro p h
    show (pos (adv p c) l).1 ≤ _ ∧ (pos (adv p c) l).2 ≤ _ ∧ 1 ≤ (pos (adv p c) l).2
    have hp : 1 ≤ (adv p c).2 := by unfold adv; split <;> simp
    have h1 := ih (adv p c) hp
    have h2 : (adv p c).1 ≤ p.1 + 1 := by unfold adv; split <;> simp
    have h3 : (adv p c).2 ≤ p.2 + 1 := by unfold adv; split <;> simp
    simp only [List.length_cons]
    omega
theorem get_eq {L : List UInt8} {s : ByteArray} (hL : Hid (s.data.toList = L)) {k : Nat} (hk : k < s.size) (hk2 : k < L.length) : L[k] = s[k] := by
  have h := hL.out
  subst h
  rfl

set_option maxHeartbeats 2000000 in
set_option maxRecDepth 100000 in
theorem offset_calls {s : ByteArray} (w : World) (hs : s.size ≤ 4294967296) (L : List UInt8) (hL : Hid (s.data.toList = L)) (a A Bc : Nat) (ha : a ≤ s.size) (hp : pos (1, 1) (L.take a) = (A, Bc)) :
    Calls Try.prog 15 #[.string s, .agg #[.int .i64 A, .int .i64 Bc]] w fun e w' => e = .returned (.int .i64 a) ∧ Chg [] w w' := by
  have HP := hid hp
  have HLN := hid (len_of hL)
  have hca := (Chg.refl [] w).alloc (.cells #[.int .i64 A, .int .i64 Bc] 26)
  clear hp
  go_enter Try.func15, Try.ntmps15
  go_wp2
  go_loop [5, 6, 7] (fun l c i => ∃ k la cb : Nat, k ≤ a ∧ i = .int .i64 k ∧ l = .int .i64 la ∧ c = .int .i64 cb ∧ la ≤ k + 1 ∧ cb ≤ k + 1 ∧ Hid (pos (1, 1) (L.take k) = (la, cb))) (fun _ _ i => s.size + 1 - (intOf i).toNat)
  case atStart => exact ⟨0, 1, 1, Nat.zero_le _, rfl, rfl, rfl, by omega, by omega, hid rfl⟩
  case round =>
    obtain ⟨k, la, cb, hk, rfl, rfl, rfl, hla, hcb, HQ⟩ := hrel
    by_cases hlt : k < a
    · have hks : k < s.size := by omega
      have hkL : k < L.length := by rw [HLN.out]; exact hks
      have hne : ¬ (la = A ∧ cb = Bc) := by
        rintro ⟨rfl, rfl⟩
        exact pos_ne hlt (by rw [HLN.out]; exact ha) (1, 1) (HQ.out.trans HP.out.symm)
      have hsn := pos_snoc hkL (1, 1)
      rw [HQ.out, get_eq hL hks hkL] at hsn
      have HS := hid hsn
      clear hsn
      have hcase : (((la : Int) == (A : Int)) = false) ∨ (((la : Int) == (A : Int)) = true ∧ ((cb : Int) == (Bc : Int)) = false) := by
        by_cases h1 : la = A
        · exact .inr ⟨by simp [h1], by simp; omega⟩
        · exact .inl (by simp; omega)
      clear hne
      by_cases h10 : s[k].toNat = 10
      · have e1 : ((s[k].toNat : Int) == 10) = true := by simp; omega
        have HH := hid h10
        clear h10
        rcases hcase with h1 | ⟨h1, h2⟩
        all_goals
          go_wp2
          go_round
          case rel => exact ⟨k + 1, la + 1, 1, by omega, by go_num, by go_num, rfl, by omega, by omega, hid (by rw [HS.out]; unfold adv; rw [if_pos HH.out])⟩
          case measure => simp [intOf]; omega
      · have e1 : ((s[k].toNat : Int) == 10) = false := by simp; omega
        have HH := hid h10
        clear h10
        rcases hcase with h1 | ⟨h1, h2⟩
        all_goals
          go_wp2
          go_round
          case rel => exact ⟨k + 1, la, cb + 1, by omega, by go_num, rfl, by go_num, by omega, by omega, hid (by rw [HS.out]; unfold adv; rw [if_neg HH.out])⟩
          case measure => simp [intOf]; omega
    · obtain rfl : k = a := by omega
      have he := HQ.out.symm.trans HP.out
      simp only [Prod.mk.injEq] at he
      obtain ⟨rfl, rfl⟩ := he
      by_cases hks : k < s.size
      · go_wp2
        go_ret
        exact ⟨rfl, hca⟩
      · obtain rfl : k = s.size := by omega
        go_wp2
        go_ret
        exact ⟨rfl, hca⟩

set_option maxHeartbeats 2000000 in
set_option maxRecDepth 100000 in
theorem gap_calls {s : ByteArray} (w : World) (hs : s.size ≤ 4294967296) (L : List UInt8) (hL : Hid (s.data.toList = L)) (hg : gapB L = true) :
    Calls Try.prog 16 #[.string s] w fun e w' => e = .returned (.bool true) ∧ w = w' := by
  have HG := hid hg
  clear hg
  go_enter Try.func16, Try.ntmps16
  go_wp2
  go_loop [3, 4] (fun i _ => ∃ k : Nat, k ≤ s.size ∧ i = .int .i64 k ∧ Hid (gapB (L.drop k) = true)) (fun i _ => s.size - (intOf i).toNat)
  case atStart => exact ⟨0, Nat.zero_le _, rfl, HG⟩
  case round =>
    obtain ⟨k, hk, rfl, HK⟩ := hrel
    by_cases hlt : k < s.size
    · have hd := drop_cons_of hL hlt
      have hgk := HK.out
      rw [hd] at hgk
      have hx := s[k].toNat_lt
      by_cases h59 : s[k].toNat = 59
      · have e1 : ((s[k].toNat : Int) == 59) = true := by simp; omega
        simp only [gapB, if_pos h59] at hgk
        have hall : ∀ j (hj : j < s.size), k ≤ j → s[j].toNat ≠ 10 := by
          intro j hj hkj
          by_cases hjk : j = k
          · subst hjk; omega
          · have hm : s[j] ∈ L.drop (k + 1) := by
              have h2 := drop_cons_of hL hj
              have h3 : L.drop j = (L.drop (k + 1)).drop (j - (k + 1)) := by rw [List.drop_drop]; congr 1; omega
              rw [h3] at h2
              exact List.mem_of_mem_drop (by rw [h2]; exact List.mem_cons_self)
            have := List.all_eq_true.1 hgk _ hm
            simpa [notLf] using this
        have HA := hid hall
        clear hall hgk hd h59 HK
        go_wp2
        go_loop [4] (fun j => ∃ m : Nat, k ≤ m ∧ m ≤ s.size ∧ j = .int .i64 m) (fun j => s.size - (intOf j).toNat)
        case atStart => exact ⟨k, Nat.le_refl _, by omega, rfl⟩
        case round =>
          obtain ⟨m, hm1, hm2, rfl⟩ := hrel
          by_cases hmlt : m < s.size
          · have e2 : ((s[m].toNat : Int) == 10) = false := by have := HA.out m hmlt hm1; simp; omega
            go_wp2
            go_round
            case rel => exact ⟨m + 1, by omega, by omega, by go_num⟩
            case measure => simp [intOf]; omega
          · go_wp2
            go_ret
            exact ⟨rfl, rfl⟩
      · have e1 : ((s[k].toNat : Int) == 59) = false := by simp; omega
        simp only [gapB, if_neg h59, Bool.and_eq_true] at hgk
        obtain ⟨hb, hrest⟩ := hgk
        have HR := hid hrest
        have hbb : (((s[k].toNat : Int) != 9) = false) ∨ (((s[k].toNat : Int) != 9) = true ∧ ((s[k].toNat : Int) != 13) = false) ∨ (((s[k].toNat : Int) != 9) = true ∧ ((s[k].toNat : Int) != 13) = true ∧ ((s[k].toNat : Int) != 32) = false) := by
          simp only [isBlank, Bool.or_eq_true, beq_iff_eq] at hb
          simp only [bne_eq_false_iff_eq, bne_iff_ne]
          omega
        clear hb hrest hd h59 HK
        rcases hbb with g1 | ⟨g1, g2⟩ | ⟨g1, g2, g3⟩
        all_goals
          go_wp2
          go_round
          case rel => exact ⟨k + 1, by omega, by go_num, HR⟩
          case measure => simp [intOf]; omega
    · go_wp2
      go_ret
      exact ⟨rfl, rfl⟩
end Go.Proofs.Ytppijmpdoejdmaa
