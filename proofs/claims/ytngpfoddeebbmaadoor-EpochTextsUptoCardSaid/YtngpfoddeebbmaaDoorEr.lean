/- Walks of the library's reading of a number, on: ParseUint. -/
import Derived.Test.YtngpfoddeebbmaaDoorEn
namespace Go.Proofs.YtngpfoddeebbmaaDoor
open Go.RowKit Go.AB
set_option linter.unusedSimpArgs false
set_option linter.unusedVariables false

/-- A number, or an error beside one. -/
def PuIn (o : Option Nat) (e : Ending) : Prop := match o with
  | some n => e = .returned (.tuple #[.int .u64 n, .nilIface])
  | none => ∃ x r : Int, (r = 1 ∨ r = 2) ∧ e = .returned (.tuple #[.int .u64 x, .iface 80 (.int .i64 r)])
def PuOut (o : Option Nat) (e : Ending) : Prop := match o with
  | some n => e = .returned (.tuple #[.int .u64 n, .nilIface])
  | none => ∃ (x : Int) (t : TypeId) (p : Value), e = .returned (.tuple #[.int .u64 x, .iface t p])
theorem PuIn.bad {x r : Int} (hr : r = 1 ∨ r = 2) : PuIn none (.returned (.tuple #[.int .u64 x, .iface 80 (.int .i64 r)])) := ⟨x, r, hr, rfl⟩
theorem chg_bytes (w : World) (e : TypeId) (s : ByteArray) : Chg [] w (Lib.bytesWorld w e s) := by
  refine ⟨?_, ?_, ?_, ?_, fun k hk _ => Lib.bytesWorld_at_old w e s k hk⟩
  · rfl
  · rfl
  · rfl
  · unfold Lib.bytesWorld
    simp [World.freeze]

set_option maxHeartbeats 32000000 in
set_option maxRecDepth 100000 in
theorem i_parseUint64 (t : ByteArray) (hmax : t.size ≤ 1048576) (w : World) :
    Calls Tryd.prog 46 #[.string t, .int .i64 10, .int .i64 64] w fun e w' => PuIn (puL 18446744073709551615 t.data.toList) e ∧ Chg [] w w' := by
  by_cases hne : t.size = 0
  · obtain rfl : t = ⟨#[]⟩ := by
      apply ByteArray.ext
      exact Array.eq_empty_of_size_eq_zero hne
    go_enter Tryd.func46, Tryd.ntmps46
    go_wp2
    go_ret2
    exact ⟨PuIn.bad (.inr rfl), Chg.refl _ _⟩
  have hemp : t.toList.isEmpty = false := by
    rw [← decide_eq_emptyBytes]
    exact decide_eq_false (fun h => hne (by rw [h]; rfl))
  have hpl : puL 18446744073709551615 t.data.toList = pu 18446744073709551615 0 t.data.toList := by
    unfold puL
    rw [if_neg (fun h => hne (by rw [Lib.size_eq, h]; rfl))]
  have hcv := Lib.run_convert_string_bytes (P := Tryd.prog) w 9 50 5 t (u := .string) Tryd.underlying9 Tryd.underlying50 Tryd.underlying5
  have hB : ∀ j, j < t.size → (Lib.bytesWorld w 5 t).cell? ⟨w.heap.size, j, none⟩ = some (.int .u8 (t.data.toList.getD j 0).toNat) := fun j hj => Lib.bytesWorld_cell w 5 t j hj
  have hch := chg_bytes w 5 t
  obtain ⟨W1, hW1⟩ : ∃ W1, W1 = Lib.bytesWorld w 5 t := ⟨_, rfl⟩
  rw [← hW1] at hcv hB hch
  clear hW1
  obtain ⟨bs, hL⟩ : ∃ bs, bs = t.data.toList := ⟨_, rfl⟩
  have hLn : bs.length = t.size := by rw [hL, Lib.size_eq]
  rw [hpl]
  rw [← hL] at hB ⊢
  have HCH := hid hch
  clear hL hpl hch
  have hmv : IntKind.u64.wrap (IntKind.u64.wrap 18446744073709551616 - 1) = 18446744073709551615 := by
    rw [IntKind.wrap_u64, IntKind.wrap_u64]
    decide
  go_enter Tryd.func46, Tryd.ntmps46
  go_wp2
  go_loop [12, 13, 101] (fun vu vn vi => ∃ (k acc : Nat) (a : Int), vu = .bool false ∧ vn = .int .u64 a ∧ vi = .int .i64 k ∧ k ≤ t.size ∧ Hid (a = (acc : Int) ∧ acc ≤ 18446744073709551615 ∧ pu 18446744073709551615 0 bs = pu 18446744073709551615 acc (bs.drop k)))
    (fun _ _ vi => t.size - (intOf vi).toNat)
  case atStart => exact ⟨0, 0, 0, rfl, rfl, rfl, by omega, rfl, by omega, rfl⟩
  case round =>
    obtain ⟨k, acc, a, rfl, rfl, rfl, hk, hh⟩ := hrel
    obtain ⟨ha, hacc, hdec⟩ := hh.out
    clear hh
    have a0 : 0 ≤ a := by omega
    have a1 : a < 18446744073709551616 := by omega
    by_cases hkn : k < t.size
    · have hc := hB k hkn
      have hdrop : bs.drop k = bs[k]'(by omega) :: bs.drop (k + 1) := List.drop_eq_getElem_cons (by omega)
      have hget : bs.getD k 0 = bs[k]'(by omega) := by simp [List.getD, List.getElem?_eq_getElem (show k < bs.length by omega)]
      rw [hdrop] at hdec
      rw [hget] at hc
      generalize bs[k]'(by omega) = c at hc hdec
      have hc256 : c.toNat < 256 := c.toNat_lt
      clear hB hdrop hget
      by_cases hdig : 48 ≤ c.toNat ∧ c.toNat ≤ 57
      · have hdg := isDg_iff.2 hdig
        obtain ⟨hd0, hd1⟩ := hdig
        by_cases hcut : 1844674407370955162 ≤ acc
        · have hF : pu 18446744073709551615 acc (c :: bs.drop (k + 1)) = none := by
            show (if _ then _ else _) = _
            rw [if_neg (fun h => by omega)]
          rw [hF] at hdec
          have icut : 1844674407370955162 ≤ a := by omega
          have HD := hid hdec
          clear hcut hacc hF ha hdec
          go_wp2
          go_ret2
          exact ⟨by rw [HD.out]; exact PuIn.bad (.inl rfl), HCH.out⟩
        · by_cases hov : 18446744073709551615 < acc * 10 + (c.toNat - 48)
          · have hF : pu 18446744073709551615 acc (c :: bs.drop (k + 1)) = none := by
              show (if _ then _ else _) = _
              rw [if_neg (fun h => by omega)]
            rw [hF] at hdec
            have icut : a < 1844674407370955162 := by omega
            have iov : 18446744073709551616 ≤ a * 10 + ((c.toNat : Int) - 48) := by omega
            have hwr : IntKind.u64.wrap (a * 10 + ((c.toNat : Int) - 48)) = a * 10 + ((c.toNat : Int) - 48) - 18446744073709551616 := by
              rw [IntKind.wrap_u64]
              omega
            have HD := hid hdec
            clear hcut hacc hF hov ha hdec hdg
            go_wp2
            go_ret2
            exact ⟨by rw [HD.out]; exact PuIn.bad (.inl rfl), HCH.out⟩
          · have hF : pu 18446744073709551615 acc (c :: bs.drop (k + 1)) = pu 18446744073709551615 (acc * 10 + (c.toNat - 48)) (bs.drop (k + 1)) := by
              show (if _ then _ else _) = _
              rw [if_pos ⟨hdg, by omega⟩]
            have HN : Hid (a * 10 + ((c.toNat : Int) - 48) = ((acc * 10 + (c.toNat - 48) : Nat) : Int) ∧ acc * 10 + (c.toNat - 48) ≤ 18446744073709551615 ∧ pu 18446744073709551615 0 bs = pu 18446744073709551615 (acc * 10 + (c.toNat - 48)) (bs.drop (k + 1))) := hid ⟨by omega, by omega, hdec.trans hF⟩
            have icut : a < 1844674407370955162 := by omega
            have iov : a * 10 + ((c.toNat : Int) - 48) < 18446744073709551616 := by omega
            clear hcut hacc hF hov hdec ha hdg
            go_wp2
            refine ⟨⟨k + 1, acc * 10 + (c.toNat - 48), a * 10 + ((c.toNat : Int) - 48), rfl, (by first | rfl | (congr 1; omega)), (by first | rfl | (congr 1; omega)), by omega, HN⟩, by simp [intOf]; omega⟩
      · have hF : pu 18446744073709551615 acc (c :: bs.drop (k + 1)) = none := by
          show (if _ then _ else _) = _
          rw [if_neg (fun h => hdig (isDg_iff.1 h.1))]
        rw [hF] at hdec
        have HD := hid hdec
        clear hacc hF ha hdec
        have hv0 := bits_lo_u8 .or (c.toNat : Int) 32
        have hv1 := bits_hi_u8 .or (c.toNat : Int) 32
        have hu0 := bits_lo_u8 .or 95 32
        have hu1 := bits_hi_u8 .or 95 32
        go_wp2_with (go_at_call 54; refine (lower_calls _ _).mono ?_; rintro e w' ⟨rfl, rfl⟩)
        all_goals go_ret2
        all_goals exact ⟨by rw [HD.out]; exact PuIn.bad (.inr rfl), HCH.out⟩
    · have hkk : k = t.size := by omega
      subst hkk
      have hF : pu 18446744073709551615 acc (bs.drop t.size) = some acc := by rw [List.drop_eq_nil_of_le (by omega)]; rfl
      rw [hF] at hdec
      have HD := hid hdec
      subst ha
      have HN : Hid (PuIn (some acc) (.returned (.tuple #[.int .u64 acc, .nilIface]))) := hid rfl
      clear hacc hF a0 a1 hdec
      go_wp2
      go_ret2
      exact ⟨by rw [HD.out]; exact HN.out, HCH.out⟩

set_option maxHeartbeats 32000000 in
set_option maxRecDepth 100000 in
theorem i_parseUint16 (t : ByteArray) (hmax : t.size ≤ 1048576) (w : World) :
    Calls Tryd.prog 46 #[.string t, .int .i64 10, .int .i64 16] w fun e w' => PuIn (puL 65535 t.data.toList) e ∧ Chg [] w w' := by
  by_cases hne : t.size = 0
  · obtain rfl : t = ⟨#[]⟩ := by
      apply ByteArray.ext
      exact Array.eq_empty_of_size_eq_zero hne
    go_enter Tryd.func46, Tryd.ntmps46
    go_wp2
    go_ret2
    exact ⟨PuIn.bad (.inr rfl), Chg.refl _ _⟩
  have hemp : t.toList.isEmpty = false := by
    rw [← decide_eq_emptyBytes]
    exact decide_eq_false (fun h => hne (by rw [h]; rfl))
  have hpl : puL 65535 t.data.toList = pu 65535 0 t.data.toList := by
    unfold puL
    rw [if_neg (fun h => hne (by rw [Lib.size_eq, h]; rfl))]
  have hcv := Lib.run_convert_string_bytes (P := Tryd.prog) w 9 50 5 t (u := .string) Tryd.underlying9 Tryd.underlying50 Tryd.underlying5
  have hB : ∀ j, j < t.size → (Lib.bytesWorld w 5 t).cell? ⟨w.heap.size, j, none⟩ = some (.int .u8 (t.data.toList.getD j 0).toNat) := fun j hj => Lib.bytesWorld_cell w 5 t j hj
  have hch := chg_bytes w 5 t
  obtain ⟨W1, hW1⟩ : ∃ W1, W1 = Lib.bytesWorld w 5 t := ⟨_, rfl⟩
  rw [← hW1] at hcv hB hch
  clear hW1
  obtain ⟨bs, hL⟩ : ∃ bs, bs = t.data.toList := ⟨_, rfl⟩
  have hLn : bs.length = t.size := by rw [hL, Lib.size_eq]
  rw [hpl]
  rw [← hL] at hB ⊢
  have HCH := hid hch
  clear hL hpl hch
  go_enter Tryd.func46, Tryd.ntmps46
  go_wp2
  go_loop [12, 13, 101] (fun vu vn vi => ∃ (k acc : Nat) (a : Int), vu = .bool false ∧ vn = .int .u64 a ∧ vi = .int .i64 k ∧ k ≤ t.size ∧ Hid (a = (acc : Int) ∧ acc ≤ 65535 ∧ pu 65535 0 bs = pu 65535 acc (bs.drop k)))
    (fun _ _ vi => t.size - (intOf vi).toNat)
  case atStart => exact ⟨0, 0, 0, rfl, rfl, rfl, by omega, rfl, by omega, rfl⟩
  case round =>
    obtain ⟨k, acc, a, rfl, rfl, rfl, hk, hh⟩ := hrel
    obtain ⟨ha, hacc, hdec⟩ := hh.out
    clear hh
    have a0 : 0 ≤ a := by omega
    have a1 : a < 18446744073709551616 := by omega
    by_cases hkn : k < t.size
    · have hc := hB k hkn
      have hdrop : bs.drop k = bs[k]'(by omega) :: bs.drop (k + 1) := List.drop_eq_getElem_cons (by omega)
      have hget : bs.getD k 0 = bs[k]'(by omega) := by simp [List.getD, List.getElem?_eq_getElem (show k < bs.length by omega)]
      rw [hdrop] at hdec
      rw [hget] at hc
      generalize bs[k]'(by omega) = c at hc hdec
      have hc256 : c.toNat < 256 := c.toNat_lt
      clear hB hdrop hget
      by_cases hdig : 48 ≤ c.toNat ∧ c.toNat ≤ 57
      · have hdg := isDg_iff.2 hdig
        obtain ⟨hd0, hd1⟩ := hdig
        · have hcut : ¬ 1844674407370955162 ≤ acc := by omega
          by_cases hov : 65535 < acc * 10 + (c.toNat - 48)
          · have hF : pu 65535 acc (c :: bs.drop (k + 1)) = none := by
              show (if _ then _ else _) = _
              rw [if_neg (fun h => by omega)]
            rw [hF] at hdec
            have icut : a < 1844674407370955162 := by omega
            have iov : 65535 < a * 10 + ((c.toNat : Int) - 48) := by omega
            have iov2 : a * 10 + ((c.toNat : Int) - 48) < 18446744073709551616 := by omega
            have HD := hid hdec
            clear hcut hacc hF hov ha hdec hdg
            go_wp2
            go_ret2
            exact ⟨by rw [HD.out]; exact PuIn.bad (.inl rfl), HCH.out⟩
          · have hF : pu 65535 acc (c :: bs.drop (k + 1)) = pu 65535 (acc * 10 + (c.toNat - 48)) (bs.drop (k + 1)) := by
              show (if _ then _ else _) = _
              rw [if_pos ⟨hdg, by omega⟩]
            have HN : Hid (a * 10 + ((c.toNat : Int) - 48) = ((acc * 10 + (c.toNat - 48) : Nat) : Int) ∧ acc * 10 + (c.toNat - 48) ≤ 65535 ∧ pu 65535 0 bs = pu 65535 (acc * 10 + (c.toNat - 48)) (bs.drop (k + 1))) := hid ⟨by omega, by omega, hdec.trans hF⟩
            have icut : a < 1844674407370955162 := by omega
            have iov : a * 10 + ((c.toNat : Int) - 48) ≤ 65535 := by omega
            clear hcut hacc hF hov hdec ha hdg
            go_wp2
            refine ⟨⟨k + 1, acc * 10 + (c.toNat - 48), a * 10 + ((c.toNat : Int) - 48), rfl, (by first | rfl | (congr 1; omega)), (by first | rfl | (congr 1; omega)), by omega, HN⟩, by simp [intOf]; omega⟩
      · have hF : pu 65535 acc (c :: bs.drop (k + 1)) = none := by
          show (if _ then _ else _) = _
          rw [if_neg (fun h => hdig (isDg_iff.1 h.1))]
        rw [hF] at hdec
        have HD := hid hdec
        clear hacc hF ha hdec
        have hv0 := bits_lo_u8 .or (c.toNat : Int) 32
        have hv1 := bits_hi_u8 .or (c.toNat : Int) 32
        have hu0 := bits_lo_u8 .or 95 32
        have hu1 := bits_hi_u8 .or 95 32
        go_wp2_with (go_at_call 54; refine (lower_calls _ _).mono ?_; rintro e w' ⟨rfl, rfl⟩)
        all_goals go_ret2
        all_goals exact ⟨by rw [HD.out]; exact PuIn.bad (.inr rfl), HCH.out⟩
    · have hkk : k = t.size := by omega
      subst hkk
      have hF : pu 65535 acc (bs.drop t.size) = some acc := by rw [List.drop_eq_nil_of_le (by omega)]; rfl
      rw [hF] at hdec
      have HD := hid hdec
      subst ha
      have HN : Hid (PuIn (some acc) (.returned (.tuple #[.int .u64 acc, .nilIface]))) := hid rfl
      clear hacc hF a0 a1 hdec
      go_wp2
      go_ret2
      exact ⟨by rw [HD.out]; exact HN.out, HCH.out⟩

set_option maxHeartbeats 4000000 in
set_option maxRecDepth 100000 in
theorem parseUint64 (t : ByteArray) (hmax : t.size ≤ 1048576) (w : World) (hg : ErrAt 2 w) (hg2 : ErrAt 3 w) :
    Calls Tryd.prog 41 #[.string t, .int .i64 10, .int .i64 64] w fun e w' => PuOut (puL 18446744073709551615 t.data.toList) e ∧ Chg [] w w' := by
  have hi := i_parseUint64 t hmax
  have ht := fun r (hr : r = 1 ∨ r = 2) u (hu : Chg [] w u) => toError_calls r hr ⟨#[80, 97, 114, 115, 101, 85, 105, 110, 116]⟩ t 10 64 u hmax (hg.keep hu) (hg2.keep hu)
  have HI := hid hi
  have HT := hid ht
  clear hi ht hg hg2
  cases ho : puL 18446744073709551615 t.data.toList with
  | some n =>
    rw [ho] at HI
    clear ho
    go_enter Tryd.func41, Tryd.ntmps41
    go_wp2_with (go_at_call 46; refine (HI.out _).mono ?_; rintro e w1 ⟨hp, hc1⟩; obtain rfl : e = .returned (.tuple #[.int .u64 n, .nilIface]) := hp)
    go_ret2
    exact ⟨rfl, hc1⟩
  | none =>
    rw [ho] at HI
    clear ho
    go_enter Tryd.func41, Tryd.ntmps41
    go_wp2_with (first
      | (go_at_call 46; refine (HI.out _).mono ?_; rintro e w1 ⟨⟨x, r, hr, rfl⟩, hc1⟩)
      | (go_at_call 47; refine (HT.out r hr _ hc1).mono ?_; rintro e w2 ⟨⟨t2, p2, rfl⟩, hc2⟩))
    go_ret2
    exact ⟨⟨_, _, _, rfl⟩, hc1.trans' hc2⟩
set_option maxHeartbeats 4000000 in
set_option maxRecDepth 100000 in
theorem parseUint16 (t : ByteArray) (hmax : t.size ≤ 1048576) (w : World) (hg : ErrAt 2 w) (hg2 : ErrAt 3 w) :
    Calls Tryd.prog 41 #[.string t, .int .i64 10, .int .i64 16] w fun e w' => PuOut (puL 65535 t.data.toList) e ∧ Chg [] w w' := by
  have hi := i_parseUint16 t hmax
  have ht := fun r (hr : r = 1 ∨ r = 2) u (hu : Chg [] w u) => toError_calls r hr ⟨#[80, 97, 114, 115, 101, 85, 105, 110, 116]⟩ t 10 16 u hmax (hg.keep hu) (hg2.keep hu)
  have HI := hid hi
  have HT := hid ht
  clear hi ht hg hg2
  cases ho : puL 65535 t.data.toList with
  | some n =>
    rw [ho] at HI
    clear ho
    go_enter Tryd.func41, Tryd.ntmps41
    go_wp2_with (go_at_call 46; refine (HI.out _).mono ?_; rintro e w1 ⟨hp, hc1⟩; obtain rfl : e = .returned (.tuple #[.int .u64 n, .nilIface]) := hp)
    go_ret2
    exact ⟨rfl, hc1⟩
  | none =>
    rw [ho] at HI
    clear ho
    go_enter Tryd.func41, Tryd.ntmps41
    go_wp2_with (first
      | (go_at_call 46; refine (HI.out _).mono ?_; rintro e w1 ⟨⟨x, r, hr, rfl⟩, hc1⟩)
      | (go_at_call 47; refine (HT.out r hr _ hc1).mono ?_; rintro e w2 ⟨⟨t2, p2, rfl⟩, hc2⟩))
    go_ret2
    exact ⟨⟨_, _, _, rfl⟩, hc1.trans' hc2⟩
end Go.Proofs.YtngpfoddeebbmaaDoor
