/- Walks of the epochs: texts read, both. -/
import Derived.Test.YtngpfoddeebbmaaDoorEr
namespace Go.Proofs.YtngpfoddeebbmaaDoor
open Go.RowKit Go.AB
set_option linter.unusedSimpArgs false
set_option linter.unusedVariables false

/-- What a text's reading wants of the program's variables. -/
structure Vars0 (w : World) : Prop where
  pow : Pow10 w
  syn : ErrAt 2 w
  rng : ErrAt 3 w
  max : ∃ m, w.cell? ⟨1, 0, none⟩ = some (.int .i64 m)
theorem Vars0.keep {w w' : World} (h : Vars0 w) (hc : Chg [] w w') : Vars0 w' :=
  ⟨h.pow.keep hc, h.syn.keep hc, h.rng.keep hc, h.max.elim fun m hm => ⟨m, hc.cell hm (by simp)⟩⟩

theorem beq_data (a b : ByteArray) : (a.toList == b.toList) = (a.data.toList == b.data.toList) := by rw [Lib.toList_data, Lib.toList_data]
theorem textE_list (E : Int) : (textE E).data.toList = textL E := by
  unfold textE textL
  split
  · rfl
  · simp [decS, ByteArray.data_append]

theorem valL_lt : ∀ (l : List UInt8) (a k : Nat), (∀ c ∈ l, isDg c = true) → a < 10 ^ k → valL a l < 10 ^ (k + l.length)
  | [], a, k, _, h => h
  | c :: r, a, k, hd, h => by
    have h1 := isDg_iff.1 (hd c (by simp))
    have h2 := valL_lt r (a * 10 + (c.toNat - 48)) (k + 1) (fun x hx => hd x (by simp [hx])) (by rw [Nat.pow_succ]; omega)
    have e : k + 1 + r.length = k + (c :: r).length := by rw [List.length_cons]; omega
    rw [e] at h2
    exact h2
theorem valL_snoc (l : List UInt8) (c : UInt8) : valL 0 (l ++ [c]) = valL 0 l * 10 + (c.toNat - 48) := by rw [valL_append]; rfl

def numI (most : Nat) (l : List UInt8) : Int := match numL most l with
  | some n => n
  | none => -1
theorem numI_bad {most : Nat} {l : List UInt8} (h : numL most l = none) : numI most l = -1 := by unfold numI; rw [h]
theorem size_data {t : ByteArray} {l : List UInt8} (h : t.data.toList = l) : t.size = l.length := by rw [Lib.size_eq, h]
theorem byte_at {t : ByteArray} {l : List UInt8} (h : t.data.toList = l) {i : Nat} (hi : i < t.size) : l[i]? = some t[i] := by
  subst h
  rw [List.getElem?_eq_getElem (by rw [← Lib.size_eq]; exact hi)]
  rfl
set_option maxHeartbeats 8000000 in
set_option maxRecDepth 100000 in
theorem r_number (most : Int) (h0 : 0 ≤ most) (h1 : most ≤ 281474976710655) (t : ByteArray) (l : List UInt8) (hl : t.data.toList = l) (w : World) :
    Calls Tryd.prog 42 #[.string t, .int .u64 most] w fun e w' => e = .returned (.int .i64 (numI most.toNat l)) ∧ w = w' := by
  have hsz := size_data hl
  by_cases ha : t.size = 0
  · obtain rfl : t = ⟨#[]⟩ := by
      apply ByteArray.ext
      exact Array.eq_empty_of_size_eq_zero ha
    subst hl
    have hn : numI most.toNat [] = -1 := rfl
    show Calls _ _ _ _ (fun e w' => e = .returned (.int .i64 (numI most.toNat [])) ∧ w = w')
    rw [hn]
    clear hsz hn ha h0 h1
    go_enter Tryd.func42, Tryd.ntmps42
    go_wp2
    go_ret
    exact ⟨rfl, rfl⟩
  have z1 : (t.size == 0) = false := by simpa using ha
  have z2 : ((t.size : Int) == 0) = false := by rw [beq_eq_false_iff_ne]; omega
  by_cases hb : 15 < t.size
  · have hn : numI most.toNat l = -1 := numI_bad (by unfold numL; rw [if_pos (.inr (.inl (by omega)))])
    rw [hn]
    have z3 : (15 : Int) < (t.size : Int) := by omega
    clear hsz hn ha h0 h1 hl
    go_enter Tryd.func42, Tryd.ntmps42
    go_wp2
    go_ret
    exact ⟨rfl, rfl⟩
  have z3 : (t.size : Int) ≤ 15 := by omega
  have z4 : ¬ (15 : Int) < (t.size : Int) := by omega
  have hp0 : 0 < t.size := by omega
  have g0 := byte_at hl hp0
  have hh : l.head? = some t[0] := by rw [List.head?_eq_getElem?]; exact g0
  have e48 : (48 : UInt8).toNat = 48 := rfl
  by_cases hz : 1 < t.size ∧ t[0].toNat = 48
  · have hn : numI most.toNat l = -1 := numI_bad (by unfold numL; rw [if_pos (.inr (.inr ⟨by omega, by rw [hh, UInt8.toNat_inj.1 (hz.2.trans e48.symm)]⟩))])
    rw [hn]
    have z5 : (1 : Int) < (t.size : Int) := by omega
    have z6 : (t[0].toNat == 48) = true := by simpa using hz.2
    have z7 : ((t[0].toNat : Int) == 48) = true := by simp; omega
    have z8 := hz.2
    clear hsz hn ha h0 h1 hl g0 hh hz
    go_enter Tryd.func42, Tryd.ntmps42
    go_wp2
    go_ret
    exact ⟨rfl, rfl⟩
  have hnum : numL most.toNat l = if (∀ c ∈ l, isDg c = true) ∧ valL 0 l ≤ most.toNat then some (valL 0 l) else none := by
    unfold numL
    rw [if_neg]
    rintro (h | h | ⟨h, h'⟩)
    · rw [h] at hsz; exact ha hsz
    · omega
    · rw [hh] at h'
      simp only [Option.some.injEq] at h'
      exact hz ⟨by omega, by rw [h']; rfl⟩
  have HNUM := hid hnum
  have HL := hid hl
  have HZ : Hid (t.size ≤ 15 ∧ t.size = l.length) := hid ⟨by omega, hsz⟩
  have hor : (t.size : Int) ≤ 1 ∨ ((1 : Int) < (t.size : Int) ∧ ((t[0].toNat : Int) == 48) = false) := by
    by_cases h : 1 < t.size
    · have h3 : ¬ t[0].toNat = 48 := fun h4 => hz ⟨h, h4⟩
      exact .inr ⟨by omega, by rw [beq_eq_false_iff_ne]; omega⟩
    · exact .inl (by omega)
  clear hnum hl hsz hh g0 hz hb
  rcases hor with y1 | ⟨y1, y2⟩
  all_goals (
    go_enter Tryd.func42, Tryd.ntmps42
    go_wp2
    go_loop [5, 6] (fun vn vi => ∃ (k : Nat) (a : Int), k ≤ t.size ∧ vn = .int .u64 a ∧ vi = .int .i64 k ∧ 0 ≤ a ∧ a < 1000000000000000 ∧ Hid (a = ((valL 0 (l.take k) : Nat) : Int) ∧ ∀ c ∈ l.take k, isDg c = true)) (fun _ vi => t.size - (intOf vi).toNat)
    case atStart => exact ⟨0, 0, Nat.zero_le _, rfl, rfl, by omega, by omega, rfl, by simp⟩
    case round =>
      obtain ⟨k, a, hk, rfl, rfl, a0, a1, hh⟩ := hrel
      by_cases hlt : k < t.size
      · have hg := byte_at HL.out hlt
        have hts : l.take (k + 1) = l.take k ++ [t[k]] := by
          have hk2 : k < l.length := by have := HZ.out.2; omega
          rw [List.take_succ_eq_append_getElem hk2]
          rw [List.getElem?_eq_getElem hk2] at hg
          rw [Option.some.inj hg]
        have zl : (k : Int) < (t.size : Int) := by omega
        by_cases hd : isDg t[k] = true
        · obtain ⟨d0, d1⟩ := isDg_iff.1 hd
          have hall : ∀ c ∈ l.take (k + 1), isDg c = true := fun c hc => by
            rw [hts] at hc
            rcases List.mem_append.1 hc with h | h
            · exact hh.out.2 c h
            · simp only [List.mem_singleton] at h; rw [h]; exact hd
          have hv : ((valL 0 (l.take (k + 1)) : Nat) : Int) = a * 10 + t[k].toNat - 48 := by
            rw [hts, valL_snoc, hh.out.1]; omega
          have hb15 : valL 0 (l.take (k + 1)) < 1000000000000000 := by
            have h3 := valL_lt (l.take (k + 1)) 0 0 hall (by simp)
            have h4 : 0 + (l.take (k + 1)).length ≤ 15 := by rw [List.length_take]; have := HZ.out.1; omega
            exact Nat.lt_of_lt_of_le h3 (Nat.pow_le_pow_right (by omega) h4)
          have hba : 0 ≤ a * 10 + t[k].toNat - 48 ∧ a * 10 + t[k].toNat - 48 < 1000000000000000 := by omega
          have HN : Hid ((0 ≤ a * 10 + (t[k].toNat : Int) - 48 ∧ a * 10 + (t[k].toNat : Int) - 48 < 1000000000000000) ∧ a * 10 + (t[k].toNat : Int) - 48 = ((valL 0 (l.take (k + 1)) : Nat) : Int) ∧ ∀ c ∈ l.take (k + 1), isDg c = true) := hid ⟨hba, hv.symm, hall⟩
          clear hh hg hts hall hv hb15 hd
          obtain ⟨hb0, hb1⟩ := hba
          go_wp2
          refine ⟨⟨k + 1, a * 10 + (t[k].toNat : Int) - 48, by omega, rfl, by go_num, HN.out.1.1, HN.out.1.2, HN.out.2⟩, by simp [intOf]; omega⟩
        · have hn : numI most.toNat l = -1 := numI_bad (by
            rw [HNUM.out, if_neg]
            intro h
            exact hd (h.1 _ (List.mem_of_getElem? hg)))
          have HD := hid hn
          have hd2 : ¬ (48 ≤ t[k].toNat ∧ t[k].toNat ≤ 57) := fun h => hd (isDg_iff.2 h)
          clear hh hg hts hn hd
          go_wp2
          all_goals go_ret
          all_goals exact ⟨by rw [HD.out]; rfl, rfl⟩
      · obtain rfl : k = t.size := by omega
        have htk : l.take t.size = l := List.take_of_length_le (by have := HZ.out.2; omega)
        have hh2 := hh.out
        rw [htk] at hh2
        obtain ⟨hv, hall⟩ := hh2
        have hn := HNUM.out
        by_cases hm : a ≤ most
        · rw [if_pos ⟨hall, by omega⟩] at hn
          have HD : Hid (numI most.toNat l = a) := hid (by unfold numI; rw [hn, hv])
          clear hh hv hn hall htk
          go_wp2
          go_ret
          exact ⟨by rw [HD.out]; rfl, rfl⟩
        · rw [if_neg (fun h => hm (by omega))] at hn
          have HD := hid (numI_bad hn)
          clear hh hv hn hall htk
          go_wp2
          go_ret
          exact ⟨by rw [HD.out]; rfl, rfl⟩)
end Go.Proofs.YtngpfoddeebbmaaDoor
