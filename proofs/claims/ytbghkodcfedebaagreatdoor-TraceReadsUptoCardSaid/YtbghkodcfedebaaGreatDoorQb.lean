/- Walks of the reference's reader: the short number that stands there. -/
import Derived.Test.YtbghkodcfedebaaGreatDoorQa
import Derived.Deep.Light
namespace Go.Proofs.YtbghkodcfedebaaGreatDoor
open Go.RowKit Go.AB
set_option linter.unusedSimpArgs false

theorem q_pair {a c : Nat} {p : Nat × Nat} (h : p = (a, c)) {A C : Int} (hA : A = a) (hC : C = c) : Ending.returned (.tuple #[.int .i64 A, .int .i64 C]) = .returned (.tuple #[.int .i64 p.1, .int .i64 p.2]) := by
  subst h hA hC; rfl

theorem leNat_take_drop (L : List UInt8) (j : Nat) : leNat (L.drop j) * 256 ^ j ≤ leNat L := by
  induction j generalizing L with
  | zero => simp
  | succ j ih =>
    cases L with
    | nil => simp [leNat]
    | cons x L =>
      have := ih L
      simp only [List.drop_succ_cons, leNat, Nat.pow_succ]
      have e : leNat (L.drop j) * (256 ^ j * 256) = 256 * (leNat (L.drop j) * 256 ^ j) := by
        rw [← Nat.mul_assoc, Nat.mul_comm]
      omega
theorem leNat_drop_le (L : List UInt8) (j : Nat) : leNat (L.drop j) ≤ leNat L := by
  have h := leNat_take_drop L j
  have h1 : 1 ≤ 256 ^ j := Nat.pow_pos (by decide)
  have h2 : leNat (L.drop j) * 1 ≤ leNat (L.drop j) * 256 ^ j := Nat.mul_le_mul_left _ h1
  omega

section
variable {w : World} {b : Nat} {l : List UInt8} {ao : Option Addr} {cap pos wh bad : Nat} (hR : Rd 161 w b l ao cap pos wh bad)
include hR

set_option maxHeartbeats 1000000 in
set_option maxRecDepth 100000 in
theorem q_length_calls (hl : l.length ≤ 1099511627776) : Calls Tryz.prog 136 #[.pointer (some ⟨b, 0, none⟩)] w fun e w' => e = .returned (.tuple #[.int .i64 (peekS (l.drop pos)).2.1, .int .i64 (peekS (l.drop pos)).2.2]) ∧ Drew w w' := by
  have h0 := hR.c0
  have h1 := hR.c1
  have hok := hR.ok
  obtain ⟨_, _, ao', cap', hao, _, _, _, hcells⟩ := hR.view
  simp only [Value.slice.injEq, true_and] at hao
  obtain ⟨rfl, rfl⟩ := hao
  go_enter Tryz.func136, Tryz.ntmps136
  go_wp2
  go_loopw [4, 5] (fun i _ wr => ∃ q n, q ≤ 10 ∧ i = .int .i64 ((q : Nat) + 1) ∧ pos + q ≤ l.length ∧ Hid ((peekS (l.drop pos)).2 = (peekF (10 - q) q (l.drop (pos + q))).2) ∧ wr = w.drewN n)
    (fun i _ _ => 11 - (intOf i).toNat)
  case atStart => exact ⟨0, 0, by omega, rfl, by omega, hid rfl, rfl⟩
  case round =>
    obtain ⟨q, n, hq, rfl, hpq, HP, rfl⟩ := hrel
    by_cases hq10 : q < 10
    · by_cases hlt : pos + q < l.length
      · obtain ⟨bb, off, rfl, hc⟩ := hcells (by omega)
        have hx : w.cell? ⟨bb, off + (pos + q), none⟩ = some (.int .u8 (l[pos + q].toNat : Int)) := (hc (pos + q) (by omega)).trans (by simp [List.getD, hlt, B])
        have hdrop : l.drop (pos + q) = l[pos + q] :: l.drop (pos + q + 1) := List.drop_eq_getElem_cons hlt
        have hP := HP.out
        rw [hdrop, show 10 - q = (9 - q) + 1 from by omega] at hP
        have hx8 := l[pos + q].toNat_lt
        clear hc hcells HP hdrop
        obtain ⟨x, hxe⟩ : ∃ x, l[pos + q] = x := ⟨_, rfl⟩
        rw [hxe] at hP hx hx8
        clear hxe
        by_cases hx128 : x.toNat < 128
        · rw [peekF_end _ _ _ _ hx128] at hP
          by_cases c1 : (q = 9 ∧ 1 < x.toNat) ∨ (x.toNat = 0 ∧ 0 < q)
          · rw [if_pos c1] at hP
            have HP := hid hP
            clear hP
            go_wp2
            go_quiet (fail)
            go_wp2
            go_quiet (fail)
            go_wp2
            all_goals go_ret2
            all_goals first | exact ⟨q_pair HP.out (by first | rfl | omega) rfl, (by first | exact Drew.refl | exact Drew.refl.trans Drew.refl)⟩ | (exfalso; go_light; simp only [beq_iff_eq, beq_eq_false_iff_ne, ne_eq] at *; omega)
          · rw [if_neg c1] at hP
            have HP := hid hP
            clear hP
            go_wp2
            go_quiet (fail)
            go_wp2
            go_quiet (fail)
            go_wp2
            all_goals go_ret2
            all_goals first | exact ⟨q_pair HP.out (by first | rfl | omega) rfl, (by first | exact Drew.refl | exact Drew.refl.trans Drew.refl)⟩ | (exfalso; go_light; simp only [beq_iff_eq, beq_eq_false_iff_ne, ne_eq] at *; omega)
        · rw [peekF_by _ _ _ _ (by omega) (by omega)] at hP
          have HP := hid hP
          clear hP
          go_wp2
          go_quiet (fail)
          go_wp2
          go_quiet (fail)
          go_wp2
          go_roundw
          case rel => exact ⟨q + 1, _, by omega, by go_num, by omega, hid (by rw [HP.out, show 9 - q = 10 - (q + 1) from by omega, Nat.add_assoc]), rfl⟩
          case measure => simp [intOf]; omega
      · have hP := HP.out
        have hd : l.drop (pos + q) = [] := List.drop_of_length_le (by omega)
        rw [hd, show 10 - q = (9 - q) + 1 from by omega, peekF] at hP
        have HP2 := hid hP
        clear hP HP hcells hd
        go_wp2
        go_quiet (fail)
        go_wp2
        go_ret2
        exact ⟨q_pair HP2.out rfl rfl, (by first | exact Drew.refl | exact Drew.refl.trans Drew.refl)⟩
    · have hP := HP.out
      obtain rfl : q = 10 := by omega
      rw [show 10 - 10 = 0 from rfl, peekF] at hP
      have HP2 := hid hP
      clear hP HP hcells
      go_wp2
      go_ret2
      exact ⟨q_pair HP2.out rfl rfl, (by first | exact Drew.refl | exact Drew.refl.trans Drew.refl)⟩

set_option maxHeartbeats 1000000 in
set_option maxRecDepth 100000 in
theorem q_peek_ok (hl : l.length ≤ 1099511627776) {v n : Nat} (h : peekS (l.drop pos) = (v, n, 0)) : Calls Tryz.prog 110 #[.pointer (some ⟨b, 0, none⟩)] w fun e w' => e = .returned (.tuple #[.int .u64 v, .int .i64 n, .int .i64 0]) ∧ Drew w w' := by
  have hq := q_length_calls hR hl
  have hval : v = sevens ((l.drop pos).take n) := by
    have := peekF_val 10 0 (l.drop pos) (by rw [show peekF 10 0 (l.drop pos) = (v, n, 0) from h])
    rw [show peekF 10 0 (l.drop pos) = (v, n, 0) from h] at this
    simpa using this
  have hpo := peekS_pos l pos hR.ok (by rw [h])
  have hn := peekF_len 10 0 (l.drop pos) (by rw [show peekF 10 0 (l.drop pos) = (v, n, 0) from h])
  rw [show peekF 10 0 (l.drop pos) = (v, n, 0) from h] at hn
  have hvu := peekS_U64 (l.drop pos)
  rw [h] at hvu hq hpo
  simp only at hq hn hpo hvu
  have hlt : v < 18446744073709551616 := hvu.out
  have hpart : ∀ j, sevens (((l.drop pos).take n).drop j) ≤ v := fun j => by rw [hval]; exact sevens_mono j _
  have HQ := hid hq
  have HV := hid hval
  have HU := hid hlt
  clear hq h hval hvu hlt
  have hn1 : n ≤ l.length := by omega
  have hn0 : 0 < n := by omega
  go_enter Tryz.func110, Tryz.ntmps110
  go_wp2_with (go_at_call 136; refine HQ.out.mono ?_; rintro e w1 ⟨rfl, n1, rfl⟩; refine halt (fun X hX => ?_))
  rw [hX.out]; clear hX
  have h0 := hR.c0
  have h1 := hR.c1
  obtain ⟨_, _, ao', cap', hao, _, _, _, hcells⟩ := hR.view
  simp only [Value.slice.injEq, true_and] at hao
  obtain ⟨rfl, rfl⟩ := hao
  obtain ⟨bb, off, rfl, hc⟩ := hcells (by omega)
  clear hcells HQ
  go_wp2_with fail
  go_loopw [7, 8] (fun x i wr => ∃ j acc m, j ≤ n ∧ i = .int .i64 ((j : Nat) - 1) ∧ x = .int .u64 (acc : Nat) ∧ Hid (acc = sevens (((l.drop pos).take n).drop j)) ∧ wr = w.drewN m)
    (fun _ i _ => (intOf i + 1).toNat)
  case atStart => exact ⟨n, 0, n1, by omega, rfl, rfl, hid (by rw [List.drop_of_length_le (by simp; omega)]; rfl), rfl⟩
  case round =>
    obtain ⟨j, acc, m, hj, rfl, rfl, HA, rfl⟩ := hrel
    by_cases hj0 : 0 < j
    · obtain ⟨i, rfl⟩ : ∃ i, j = i + 1 := ⟨j - 1, by omega⟩
      have hlt : pos + i < l.length := by omega
      have hx : w.cell? ⟨bb, off + (pos + i), none⟩ = some (.int .u8 (l[pos + i].toNat : Int)) := (hc (pos + i) (by omega)).trans (by simp [List.getD, hlt, B])
      have hs : sevens (((l.drop pos).take n).drop i) = l[pos + i].toNat % 128 + 128 * acc := by
        rw [List.drop_eq_getElem_cons (by simp; omega), sevens, ← HA.out]
        simp
      have hb := hpart i
      rw [hs] at hb
      have hu := HU.out
      have hmul : IntKind.u64.wrap (128 * (acc : Int)) = ((128 * acc : Nat) : Int) := by rw [IntKind.wrap_u64]; omega
      have hx8 := l[pos + i].toNat_lt
      obtain ⟨x, hxe⟩ : ∃ x, l[pos + i].toNat = x := ⟨_, rfl⟩
      rw [hxe] at hx hs hb hx8
      have HS := hid hs
      have hz0 : (0 : Int) ≤ (i : Int) := by omega
      have hz1 : (pos : Int) + (i : Int) < (l.length : Int) := by omega
      have hz2 : (0 : Int) ≤ (pos : Int) + (i : Int) := by omega
      clear hs hxe hc
      go_wp2
      go_quiet (fail)
      go_wp2
      go_roundw
      case rel => exact ⟨i, x % 128 + 128 * acc, _, by omega, by go_num, congrArg (Value.int .u64) (by omega), hid HS.out.symm, rfl⟩
      case measure => simp [intOf]
    · obtain rfl : j = 0 := by omega
      have ha : acc = v := by rw [HA.out, HV.out]; rfl
      go_wp2
      go_ret3
      exact ⟨by subst ha; rfl, by first | exact Drew.refl.trans Drew.refl | exact Drew.refl⟩
set_option maxHeartbeats 1000000 in
theorem q_peek_bad (hl : l.length ≤ 1099511627776) {c : Nat} (hc : c ≠ 0) (h : peekS (l.drop pos) = (0, 0, c)) : Calls Tryz.prog 110 #[.pointer (some ⟨b, 0, none⟩)] w fun e w' => e = .returned (.tuple #[.int .u64 0, .int .i64 0, .int .i64 c]) ∧ Drew w w' := by
  have hq := q_length_calls hR hl
  rw [h] at hq
  simp only at hq
  have HQ := hid hq
  clear hq h
  go_enter Tryz.func110, Tryz.ntmps110
  go_wp2_with (go_at_call 136; refine HQ.out.mono ?_; rintro e w1 ⟨rfl, n1, rfl⟩)
  go_ret3
  exact ⟨rfl, Drew.refl⟩
set_option maxHeartbeats 1000000 in
set_option maxRecDepth 100000 in
theorem q_fixed_calls (hl : l.length ≤ 1099511627776) (n : Nat) (hn8 : n ≤ 8) : Calls Tryz.prog 97 #[.pointer (some ⟨b, 0, none⟩), .int .i64 n] w (RdPost 161 w b l ao cap (.int .u64 (rFixed n l ⟨pos, wh, bad⟩).1) (rFixed n l ⟨pos, wh, bad⟩).2) := by
  have h0 := hR.c0
  have h1 := hR.c1
  have h3 := hR.c3
  have hok := hR.ok
  by_cases hb : bad = 0
  · subst hb
    by_cases hs : l.length - pos < n
    · have he : rFixed n l ⟨pos, wh, 0⟩ = (0, ⟨pos, pos, 10⟩) := by unfold rFixed; simp [hs, RS.fails]
      rw [he]
      clear he
      go_enter Tryz.func97, Tryz.ntmps97
      go_wp2
      go_quiet (fail)
      have hR' := fun n => hR.keep (Chg.of_drewN [] w n) (by simp) (by simp)
      go_wp2_with (go_at_call 111; refine (q_fails_calls (hR' _) 10).mono ?_; rintro e w' ⟨rfl, hR2, hc2⟩)
      go_ret
      exact ⟨rfl, hR2, (Chg.of_drewN _ _ _).trans' hc2⟩
    · obtain ⟨total, ht⟩ : ∃ t, leNat ((l.drop pos).take n) = t := ⟨_, rfl⟩
      have he : rFixed n l ⟨pos, wh, 0⟩ = (total, ⟨pos + n, wh, 0⟩) := by unfold rFixed; simp [hs, ht]
      have htl : total < 18446744073709551616 := by
        have h5 := leNat_lt ((l.drop pos).take n)
        have h6 : 256 ^ ((l.drop pos).take n).length ≤ 256 ^ 8 := Nat.pow_le_pow_right (by decide) (by simp; omega)
        omega
      have hpart : ∀ j, leNat (((l.drop pos).take n).drop j) ≤ total := fun j => by rw [← ht]; exact leNat_drop_le _ j
      rw [he]
      have HT := hid ht
      have HU := hid htl
      clear he ht htl
      obtain ⟨_, _, ao', cap', hao, _, _, _, hcells⟩ := hR.view
      simp only [Value.slice.injEq, true_and] at hao
      obtain ⟨rfl, rfl⟩ := hao
      go_enter Tryz.func97, Tryz.ntmps97
      go_wp2
      go_quiet (fail)
      go_wp2
      go_loopw [5, 6] (fun x i wr => ∃ j acc m, j ≤ n ∧ i = .int .i64 ((j : Nat) - 1) ∧ x = .int .u64 (acc : Nat) ∧ Hid (acc = leNat (((l.drop pos).take n).drop j)) ∧ wr = w.drewN m)
        (fun _ i _ => (intOf i + 1).toNat)
      case atStart => exact ⟨n, 0, _, by omega, rfl, rfl, hid (by rw [List.drop_of_length_le (by simp; omega)]; rfl), rfl⟩
      case round =>
        obtain ⟨j, acc, m, hj, rfl, rfl, HA, rfl⟩ := hrel
        by_cases hj0 : 0 < j
        · obtain ⟨i, rfl⟩ : ∃ i, j = i + 1 := ⟨j - 1, by omega⟩
          have hlt : pos + i < l.length := by omega
          obtain ⟨bb, off, rfl, hc⟩ := hcells (by omega)
          have hx : w.cell? ⟨bb, off + (pos + i), none⟩ = some (.int .u8 (l[pos + i].toNat : Int)) := (hc (pos + i) (by omega)).trans (by simp [List.getD, hlt, B])
          have hss : leNat (((l.drop pos).take n).drop i) = l[pos + i].toNat + 256 * acc := by
            rw [List.drop_eq_getElem_cons (by simp; omega), leNat, ← HA.out]
            simp
          have hb := hpart i
          rw [hss] at hb
          have hu := HU.out
          have hx8 := l[pos + i].toNat_lt
          obtain ⟨x, hxe⟩ : ∃ x, l[pos + i].toNat = x := ⟨_, rfl⟩
          rw [hxe] at hx hss hb hx8
          have HS := hid hss
          have hz0 : (0 : Int) ≤ (i : Int) := by omega
          have hz1 : (pos : Int) + (i : Int) < (l.length : Int) := by omega
          have hz2 : (0 : Int) ≤ (pos : Int) + (i : Int) := by omega
          clear hss hxe hc hcells
          go_wp2
          go_quiet (fail)
          go_wp2
          go_roundw
          case rel => exact ⟨i, x + 256 * acc, _, by omega, by go_num, congrArg (Value.int .u64) (by omega), hid HS.out.symm, rfl⟩
          case measure => simp [intOf]
        · obtain rfl : j = 0 := by omega
          have ha : acc = total := by rw [HA.out, ← HT.out]; rfl
          have hR1 := Qd_drew hR (Drew.refl (n := m))
          have g1 := hR1.c1
          have f1 := hR1.fr 1
          obtain ⟨hset, hcset⟩ := hR1.set1 (pos + n) (by omega)
          clear hcells
          go_wp2
          go_ret
          exact ⟨by subst ha; rfl, hset, (Chg.of_drewN _ _ _).trans' hcset⟩
  · have he : rFixed n l ⟨pos, wh, bad⟩ = (0, ⟨pos, wh, bad⟩) := by unfold rFixed; simp [hb]
    rw [he]
    clear he
    go_enter Tryz.func97, Tryz.ntmps97
    go_wp2
    go_ret
    exact ⟨rfl, hR, Chg.refl _ _⟩
end
end Go.Proofs.YtbghkodcfedebaaGreatDoor
