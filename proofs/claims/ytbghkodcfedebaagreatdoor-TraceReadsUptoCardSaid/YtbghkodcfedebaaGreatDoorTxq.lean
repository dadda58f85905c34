/- Walks of the trace layer's reference: numbers, pieces. -/
import Derived.Test.YtbghkodcfedebaaGreatDoorTxm
set_option linter.unusedVariables false
set_option linter.unusedSectionVars false
set_option linter.unusedSimpArgs false
namespace Go.AB
open Go.RowKit
theorem sizeT {t : ByteArray} {l : List UInt8} (h : t.data.toList = l) : t.size = l.length := by rw [Lib.size_eq, h]
theorem byteT {t : ByteArray} {l : List UInt8} (h : t.data.toList = l) {i : Nat} (hi : i < t.size) : l[i]? = some t[i] := by
  subst h
  rw [List.getElem?_eq_getElem (by rw [← Lib.size_eq]; exact hi)]
  rfl
end Go.AB
namespace Go.Proofs.YtbghkodcfedebaaGreatDoor
open Go.RowKit Go.AB
set_option linter.unusedSimpArgs false
set_option linter.unusedVariables false
set_option linter.unusedSectionVars false
set_option maxHeartbeats 8000000 in
set_option maxRecDepth 100000 in
theorem rnumber_calls (t : ByteArray) (l : List UInt8) (hl : t.data.toList = l) (w : World) : Calls Tryz.prog 88 #[.string t] w fun e w' => e = .returned (.int .i64 (numR l)) ∧ w = w' := by
  have hsz := sizeT hl
  by_cases ha : t.size = 0
  · obtain rfl : t = ⟨#[]⟩ := by
      apply ByteArray.ext
      exact Array.eq_empty_of_size_eq_zero ha
    subst hl
    have hn : numR [] = -1 := numR_bad (.inl rfl)
    show Calls _ _ _ _ (fun e w' => e = .returned (.int .i64 (numR [])) ∧ w = w')
    rw [hn]
    clear hsz hn ha
    go_enter Tryz.func88, Tryz.ntmps88
    go_wp2
    go_ret
    exact ⟨rfl, rfl⟩
  have z1 : (t.size == 0) = false := by simpa using ha
  have z2 : ((t.size : Int) == 0) = false := by rw [beq_eq_false_iff_ne]; omega
  by_cases hb : 5 < t.size
  · have hn : numR l = -1 := numR_bad (.inr (.inl (by omega)))
    rw [hn]
    have z3 : (5 : Int) < (t.size : Int) := by omega
    clear hsz hn ha hl
    go_enter Tryz.func88, Tryz.ntmps88
    go_wp2
    go_ret
    exact ⟨rfl, rfl⟩
  have z3 : (t.size : Int) ≤ 5 := by omega
  have z4 : ¬ (5 : Int) < (t.size : Int) := by omega
  have hp0 : 0 < t.size := by omega
  have g0 := byteT hl hp0
  have hh : l.head? = some t[0] := by rw [List.head?_eq_getElem?]; exact g0
  have e48 : (48 : UInt8).toNat = 48 := rfl
  by_cases hz : 1 < t.size ∧ t[0].toNat = 48
  · have hn : numR l = -1 := numR_bad (.inr (.inr (.inl ⟨by omega, by rw [hh, UInt8.toNat_inj.1 (hz.2.trans e48.symm)]⟩)))
    rw [hn]
    have z5 : (1 : Int) < (t.size : Int) := by omega
    have z6 : (t[0].toNat == 48) = true := by simpa using hz.2
    have z7 : ((t[0].toNat : Int) == 48) = true := by simp; omega
    have z8 := hz.2
    clear hsz hn ha hl g0 hh hz
    go_enter Tryz.func88, Tryz.ntmps88
    go_wp2
    go_ret
    exact ⟨rfl, rfl⟩
  have hnum : digD l → numR l = valD l := fun hd => numR_val (by
    rintro (h | h | ⟨h, h'⟩ | h)
    · rw [h] at hsz; exact ha hsz
    · omega
    · rw [hh] at h'
      simp only [Option.some.injEq] at h'
      exact hz ⟨by omega, by rw [h']; rfl⟩
    · exact h hd)
  have HNUM := hid hnum
  have HL := hid hl
  have HZ : Hid (t.size ≤ 5 ∧ t.size = l.length) := hid ⟨by omega, hsz⟩
  have hor : (t.size : Int) ≤ 1 ∨ ((1 : Int) < (t.size : Int) ∧ ((t[0].toNat : Int) == 48) = false) := by
    by_cases h : 1 < t.size
    · have h3 : ¬ t[0].toNat = 48 := fun h4 => hz ⟨h, h4⟩
      exact .inr ⟨by omega, by rw [beq_eq_false_iff_ne]; omega⟩
    · exact .inl (by omega)
  clear hnum hl hsz hh g0 hz hb
  rcases hor with y1 | ⟨y1, y2⟩
  all_goals (
    go_enter Tryz.func88, Tryz.ntmps88
    go_wp2
    go_loop [3, 4] (fun vn vi => ∃ (k a : Nat), k ≤ t.size ∧ vn = .int .i64 a ∧ vi = .int .i64 k ∧ a < 100000 ∧ Hid (a = valD (l.take k) ∧ digD (l.take k))) (fun _ vi => t.size - (intOf vi).toNat)
    case atStart => exact ⟨0, 0, Nat.zero_le _, rfl, rfl, by omega, rfl, by simp [digD]⟩
    case round =>
      obtain ⟨k, a, hk, rfl, rfl, a1, hh⟩ := hrel
      by_cases hlt : k < t.size
      · have hg := byteT HL.out hlt
        have hts : l.take (k + 1) = l.take k ++ [t[k]] := by
          have hk2 : k < l.length := by have := HZ.out.2; omega
          rw [List.take_succ_eq_append_getElem hk2]
          rw [List.getElem?_eq_getElem hk2] at hg
          rw [Option.some.inj hg]
        have zl : (k : Int) < (t.size : Int) := by omega
        by_cases hd : 48 ≤ t[k].toNat ∧ t[k].toNat ≤ 57
        · obtain ⟨d0, d1⟩ := hd
          have hall : digD (l.take (k + 1)) := fun c hc => by
            rw [hts] at hc
            rcases List.mem_append.1 hc with h | h
            · exact hh.out.2 c h
            · simp only [List.mem_singleton] at h; rw [h]; exact ⟨d0, d1⟩
          have hv : valD (l.take (k + 1)) = 10 * a + (t[k].toNat - 48) := by
            rw [hts, valD_snoc, hh.out.1]
          have hb5 : valD (l.take (k + 1)) < 100000 := by
            have h3 := valD_lt _ (l.take (k + 1)) rfl hall
            have h4 : (l.take (k + 1)).length ≤ 5 := by rw [List.length_take]; have := HZ.out.1; omega
            exact Nat.lt_of_lt_of_le h3 (Nat.pow_le_pow_right (by omega) h4)
          have HN : Hid (10 * a + (t[k].toNat - 48) < 100000 ∧ 10 * a + (t[k].toNat - 48) = valD (l.take (k + 1)) ∧ digD (l.take (k + 1))) := hid ⟨by omega, hv.symm, hall⟩
          have hba : 10 * a + (t[k].toNat - 48) < 100000 := by omega
          have u1 : ¬ ((t[k].toNat : Int) < 48) := by omega
          have u2 : ¬ ((57 : Int) < (t[k].toNat : Int)) := by omega
          have u3 : IntKind.u8.wrap ((t[k].toNat : Int) - 48) = (t[k].toNat : Int) - 48 := by rw [IntKind.wrap_u8]; omega
          have u4 : IntKind.i64.wrap ((t[k].toNat : Int) - 48) = (t[k].toNat : Int) - 48 := by rw [IntKind.wrap_i64]; omega
          have u5 : wrap64 (10 * (a : Int)) = 10 * (a : Int) := IntWalk.wrap64_in _ (by omega)
          have u6 : wrap64 (10 * (a : Int) + ((t[k].toNat : Int) - 48)) = 10 * (a : Int) + ((t[k].toNat : Int) - 48) := IntWalk.wrap64_in _ (by omega)
          clear hh hg hts hall hv hb5
          go_wp2
          refine ⟨⟨k + 1, 10 * a + (t[k].toNat - 48), by omega, by first | go_num | (congr 1; omega), by go_num, HN.out.1, HN.out.2⟩, by simp [intOf]; omega⟩
        · have hn : numR l = -1 := numR_bad (.inr (.inr (.inr (fun h => hd (h _ (List.mem_of_getElem? hg))))))
          have HD := hid hn
          clear hh hg hts hn
          have hd2 : t[k].toNat < 48 ∨ 57 < t[k].toNat := by omega
          rcases hd2 with hd2 | hd2
          · have u1 : ((t[k].toNat : Int) < 48) := by omega
            clear hd
            go_wp2
            all_goals go_ret
            all_goals exact ⟨by rw [HD.out]; rfl, rfl⟩
          · have u1 : ¬ ((t[k].toNat : Int) < 48) := by omega
            have u2 : ((57 : Int) < (t[k].toNat : Int)) := by omega
            clear hd
            go_wp2
            all_goals go_ret
            all_goals exact ⟨by rw [HD.out]; rfl, rfl⟩
      · obtain rfl : k = t.size := by omega
        have htk : l.take t.size = l := List.take_of_length_le (by have := HZ.out.2; omega)
        have hh2 := hh.out
        rw [htk] at hh2
        have HD : Hid (numR l = a) := hid (by rw [HNUM.out hh2.2, hh2.1])
        clear hh hh2 htk
        go_wp2
        go_ret
        exact ⟨by rw [HD.out]; rfl, rfl⟩)
theorem info_strT : (Tryz.prog.info? 9).map (fun i => (i.zero, i.size, i.bytes)) = some (some (.string ⟨#[]⟩), 1, 16) := by kernel_rfl
theorem elem_strT : ElemOk Tryz.prog 122 9 1 16 := .of Tryz.underlying122 info_strT rfl (by decide)
/-- A list of texts in new memory. -/
def NewPs (w : World) (l : List (List UInt8)) (v : Value) (w' : World) : Prop := ∃ ao cap r n, l.length = n ∧ v = .slice ao n cap ∧ Row w' 9 1 (.slice ao n cap) r n (l.map fun p => Value.string (bA p)) ∧ Fresh w none r ∧ Chg [] w w'
set_option maxHeartbeats 8000000 in
set_option maxRecDepth 100000 in
theorem rpieces_calls (t : ByteArray) (s : List UInt8) (hs : t.data.toList = s) (hn : s.length ≤ 16777216) (w : World) :
    Calls Tryz.prog 87 #[.string t] w fun e w' => ∃ v', e = .returned v' ∧ NewPs w (splitE s) v' w' := by
  have hsz := sizeT hs
  have hts : t.size ≤ 16777216 := by omega
  have HS := hid hs
  have HSZ := hid hsz
  clear hs hsz hn
  go_enter Tryz.func87, Tryz.ntmps87
  go_wp2_with fail
  go_loopg [3, 4, 5] (t.size + 1) (fun gk v3 v4 v5 wr => ∃ (f i m : Nat) (ab : Option Addr) (cb : Nat) (rb : Option Nat) (D : List (List UInt8)), v3 = .slice ab m cb ∧ v4 = .int .i64 f ∧ v5 = .int .i64 i ∧ Hid (gk + i = t.size + 1) ∧ m ≤ i ∧
      Hid ((i ≤ t.size ∧ f ≤ i ∧ D ++ splitE (s.drop f) = splitE s ∧ 32 ∉ (s.drop f).take (i - f)) ∨ (i = t.size + 1 ∧ D = splitE s)) ∧ Hid (D.length = m) ∧ Hid (Row wr 9 1 (.slice ab m cb) rb m (D.map fun p => Value.string (bA p)) ∧ Fresh w none rb ∧ Chg [] w wr))
  case atStart => exact ⟨0, 0, 0, none, 0, none, [], rfl, rfl, rfl, hid (by omega), by omega, hid (.inl ⟨by omega, by omega, by simp, by simp⟩), hid rfl, hid ⟨Row.nil _ _ _, Fresh.refl _ _, Chg.refl _ _⟩⟩
  case round =>
    obtain ⟨f, i, m, ab, cb, rb, D, rfl, rfl, rfl, HG, hmi, HI, HLEN, HR⟩ := hrel
    by_cases hi : i ≤ t.size
    · have hii : (i : Int) ≤ (t.size : Int) := by omega
      have hst := HI.out.resolve_right (by rintro ⟨h, _⟩; omega)
      obtain ⟨-, hfi, hD, hno⟩ := hst
      have hsl : ∀ u : World, (Instr.slice 9 (.string t) (some (.int .i64 (f : Int))) (some (.int .i64 (i : Int))) none).run Tryz.prog u = .ok (.string (bA ((s.drop f).take (i - f)))) u := fun u => by
        have h := run_slice_string (P := Tryz.prog) u 9 t .i64 .i64 (f : Int) (i : Int) Tryz.underlying9 (by omega) (by omega) (by omega)
        rw [show (f : Int).toNat = f from by omega, show (i : Int).toNat = i from by omega] at h
        rw [h]
        congr 2
        refine bA_eq ?_
        rw [Lib.extract_data, HS.out]
      obtain ⟨q, hq⟩ : ∃ q, (s.drop f).take (i - f) = q := ⟨_, rfl⟩
      rw [hq] at hsl hno
      have hsplit : s.drop f = q ++ s.drop i := by
        rw [← hq]
        conv => lhs; rw [← List.take_append_drop (i - f) (s.drop f)]
        rw [List.drop_drop, show f + (i - f) = i from by omega]
      have hone : (D ++ [q]).length = m + 1 := by rw [List.length_append, HLEN.out]; rfl
      have hrow := fun o => HR.out.1.keep ((Chg.refl [] wr).alloc o) (by simp)
      by_cases hie : i = t.size
      · have hq1 : ((i : Int) == (t.size : Int)) = true := by simp; omega
        have hdone : D ++ [q] = splitE s := by
          rw [hsplit, List.drop_of_length_le (by have := HSZ.out; omega), List.append_nil] at hD
          exact split_end hD hno
        have HX := hid (And.intro hdone hone)
        have HIE := hid hie
        clear hdone hone hsplit hq hD hno HI hie
        go_wp2_with (at_builtin; refine wpList_grew rfl _ _ 122 rfl elem_strT rfl (hrow _) rfl (View.one _ _ _) (by simp [Value.oneCell']) (by unfold maxLen; omega) (by omega) (fun ao' cap' r' w2 hr2 hg2 => halt (fun X hX => ?_)))
        have HR4 : Hid (Row w2 9 1 (.slice ao' (m + 1) cap') r' (m + 1) ((D ++ [q]).map fun p => Value.string (bA p)) ∧ Fresh w none r' ∧ Chg [] w w2) := hid ⟨by rw [List.map_append]; exact hr2, fresh_step HR.out.2.2 HR.out.2.1 ((Chg.refl [] wr).alloc _) hg2.fresh, own_step HR.out.2.2 HR.out.2.1 ((Chg.refl [] wr).alloc _) hg2.chg⟩
        clear hr2 hg2 hrow hsl
        rw [hX.out]; clear hX
        go_wp2_with fail
        go_roundg (gk - 1)
        case measure => have := HG.out; omega
        case rel => exact ⟨i + 1, i + 1, m + 1, ao', cap', r', D ++ [q], by first | rfl | go_num, by go_num, by go_num, hid (by have := HG.out; omega), by omega, hid (.inr ⟨by have := HIE.out; omega, HX.out.1⟩), hid HX.out.2, HR4⟩
      · have hlt : i < t.size := by omega
        have hq1 : ((i : Int) == (t.size : Int)) = false := by simp; omega
        have hg := byteT HS.out hlt
        have hil : i < s.length := by have := HSZ.out; omega
        have hdc : s.drop i = t[i] :: s.drop (i + 1) := by
          rw [List.drop_eq_getElem_cons hil]
          rw [List.getElem?_eq_getElem hil] at hg
          rw [Option.some.inj hg]
        by_cases h32 : t[i].toNat = 32
        · have hc32 : t[i] = 32 := UInt8.toNat_inj.1 h32
          have hq2 : ((t[i].toNat : Int) == 32) = true := by simp; omega
          have hq3 : (t[i].toNat == 32) = true := by simpa using h32
          have hdone : (D ++ [q]) ++ splitE (s.drop (i + 1)) = splitE s := by
            rw [hsplit, hdc, hc32] at hD
            exact split_go hD hno
          have HX := hid (And.intro hdone hone)
          clear hdone hone hsplit hq hD hno HI hie hg hdc hc32
          go_wp2_with (at_builtin; refine wpList_grew rfl _ _ 122 rfl elem_strT rfl (hrow _) rfl (View.one _ _ _) (by simp [Value.oneCell']) (by unfold maxLen; omega) (by omega) (fun ao' cap' r' w2 hr2 hg2 => halt (fun X hX => ?_)))
          have HR4 : Hid (Row w2 9 1 (.slice ao' (m + 1) cap') r' (m + 1) ((D ++ [q]).map fun p => Value.string (bA p)) ∧ Fresh w none r' ∧ Chg [] w w2) := hid ⟨by rw [List.map_append]; exact hr2, fresh_step HR.out.2.2 HR.out.2.1 ((Chg.refl [] wr).alloc _) hg2.fresh, own_step HR.out.2.2 HR.out.2.1 ((Chg.refl [] wr).alloc _) hg2.chg⟩
          clear hr2 hg2 hrow hsl
          rw [hX.out]; clear hX
          go_wp2_with fail
          go_roundg (gk - 1)
          case measure => have := HG.out; omega
          case rel => exact ⟨i + 1, i + 1, m + 1, ao', cap', r', D ++ [q], by first | rfl | go_num, by go_num, by go_num, hid (by have := HG.out; omega), by omega, hid (.inl ⟨by omega, by omega, HX.out.1, by simp⟩), hid HX.out.2, HR4⟩
        · have hq2 : ((t[i].toNat : Int) == 32) = false := by simp; omega
          have hq3 : (t[i].toNat == 32) = false := by simpa using h32
          have hno2 : 32 ∉ (s.drop f).take (i + 1 - f) := by
            have e1 : (s.drop f).take (i + 1 - f) = q ++ [t[i]] := by
              rw [hsplit, hdc]
              have hql : q.length = i - f := by rw [← hq, List.length_take, List.length_drop]; omega
              rw [show i + 1 - f = q.length + 1 from by omega, show q ++ t[i] :: s.drop (i + 1) = (q ++ [t[i]]) ++ s.drop (i + 1) from by simp, List.take_left' (by simp)]
            rw [e1]
            simp only [List.mem_append, List.mem_singleton, not_or]
            exact ⟨hno, fun e => h32 (by rw [← e]; rfl)⟩
          have HX := hid (And.intro hD hno2)
          clear hone hsplit hq hD hno hno2 HI hie hg hdc hrow hsl
          go_wp2_with fail
          go_roundg (gk - 1)
          case measure => have := HG.out; omega
          case rel => exact ⟨f, i + 1, m, ab, cb, rb, D, rfl, rfl, by go_num, hid (by have := HG.out; omega), by omega, hid (.inl ⟨by omega, by omega, HX.out.1, HX.out.2⟩), HLEN, HR⟩
    · have hii : ¬ (i : Int) ≤ (t.size : Int) := by omega
      have HE : Hid (D = splitE s) := hid (by
        rcases HI.out with h | h
        · omega
        · exact h.2)
      clear HI
      go_wp2
      go_ret
      exact ⟨_, rfl, ab, cb, rb, m, by rw [← HE.out, HLEN.out], rfl, by rw [← HE.out]; exact HR.out.1, HR.out.2.1, HR.out.2.2⟩
end Go.Proofs.YtbghkodcfedebaaGreatDoor
