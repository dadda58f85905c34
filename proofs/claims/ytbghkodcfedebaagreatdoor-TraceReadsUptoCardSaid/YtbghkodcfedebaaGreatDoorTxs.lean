/- Walks of the trace layer's reference: a text read. -/
import Derived.Test.YtbghkodcfedebaaGreatDoorTxr
set_option linter.unusedVariables false
set_option linter.unusedSectionVars false
set_option linter.unusedSimpArgs false
namespace Go.AB
open Go.RowKit
theorem cut_hit {q r : List UInt8} (h : 10 ∉ q) : cutE (q ++ 10 :: r) = some (q, r) := cutE_app q r h
end Go.AB
namespace Go.Proofs.YtbghkodcfedebaaGreatDoor
open Go.RowKit Go.AB
set_option linter.unusedSimpArgs false
set_option linter.unusedVariables false
set_option linter.unusedSectionVars false
set_option maxHeartbeats 16000000 in
set_option maxRecDepth 100000 in
theorem rparse_calls (t : ByteArray) (s : List UInt8) (hs : t.data.toList = s) (hn : s.length ≤ 16777216) (w : World) : Calls Tryz.prog 21 #[.string t] w (ParP w (parseD s)) := by
  obtain ⟨D, hD⟩ : ∃ D, parseD s = D := ⟨_, rfl⟩
  rw [hD]
  have HD : Hid (parseE (s.length + 1) s [] = D) := hid (by rw [← hD]; rfl)
  have hsz := sizeT hs
  have hts : t.size ≤ 16777216 := by omega
  have htg : ¬ ((16777216 : Int) < (t.size : Int)) := by omega
  have HS := hid hs
  have HSZ := hid hsz
  have HRE := hid rread_calls
  clear hs hsz hn hD
  go_enter Tryz.func21, Tryz.ntmps21
  go_upto_region 6 with fail
  go_loopg [5, 6, 7] t.size (fun gk v5 v6 v7 wr => ∃ (f i m : Nat) (ao : Option Addr) (cap : Nat) (r : Option Nat) (acc : List Ev), v5 = .slice ao m cap ∧ v6 = .int .i64 f ∧ v7 = .int .i64 i ∧ Hid (gk + i = t.size) ∧ m ≤ i ∧ f ≤ i ∧ Hid (acc.length = m) ∧ Hid (10 ∉ (s.drop f).take (i - f)) ∧
      Hid (∃ g, s.length ≤ g + f ∧ parseE (g + 1) (s.drop f) acc = D) ∧ Hid (Row wr 28 3 (.slice ao m cap) r m (acc.flatMap evC) ∧ Fresh w none r ∧ Chg [] w wr))
  case atStart => exact ⟨0, 0, 0, none, 0, none, [], rfl, rfl, rfl, hid (by omega), by omega, by omega, hid rfl, hid (by simp), hid ⟨s.length, by omega, HD.out⟩, hid ⟨Row.nil _ _ _, Fresh.refl _ _, Chg.refl _ _⟩⟩
  case round =>
    clear HD
    obtain ⟨f, i, m, ao, cap, r, acc, rfl, rfl, rfl, HG, hmi, hfi, HLEN, HNO, HP, HR⟩ := hrel
    have hal : wrap64 ((m : Int) + 1) = (m : Int) + 1 := IntWalk.wrap64_in _ (by have := HG.out; omega)
    by_cases hi : i < t.size
    · have hii : (i : Int) < (t.size : Int) := by omega
      have hg := byteT HS.out hi
      have hil : i < s.length := by have := HSZ.out; omega
      have hdc : s.drop i = t[i] :: s.drop (i + 1) := by
        rw [List.drop_eq_getElem_cons hil]
        rw [List.getElem?_eq_getElem hil] at hg
        rw [Option.some.inj hg]
      obtain ⟨q, hq⟩ : ∃ q, (s.drop f).take (i - f) = q := ⟨_, rfl⟩
      have hsplit : s.drop f = q ++ s.drop i := by
        rw [← hq]
        conv => lhs; rw [← List.take_append_drop (i - f) (s.drop f)]
        rw [List.drop_drop, show f + (i - f) = i from by omega]
      have hno := HNO.out
      rw [hq] at hno
      by_cases h10 : t[i].toNat = 10
      · have hc10 : t[i] = 10 := UInt8.toNat_inj.1 h10
        have hq2 : ((t[i].toNat : Int) != 10) = false := by simp; omega
        have hq3 : (t[i].toNat != 10) = false := by simpa using h10
        have hsl : ∀ u : World, (Instr.slice 9 (.string t) (some (.int .i64 (f : Int))) (some (.int .i64 (i : Int))) none).run Tryz.prog u = .ok (.string (bA q)) u := fun u => by
          have h := run_slice_string (P := Tryz.prog) u 9 t .i64 .i64 (f : Int) (i : Int) Tryz.underlying9 (by omega) (by omega) (by omega)
          rw [show (f : Int).toNat = f from by omega, show (i : Int).toNat = i from by omega] at h
          rw [h]
          congr 2
          refine bA_eq ?_
          rw [Lib.extract_data, HS.out, hq]
        have hcut : cutE (s.drop f) = some (q, s.drop (i + 1)) := by
          rw [hsplit, hdc, hc10]
          exact cut_hit hno
        have hne : s.drop f ≠ [] := by rw [hsplit, hdc]; simp
        have hql : q.length ≤ 16777216 := by
          rw [← hq, List.length_take, List.length_drop]
          have := HSZ.out
          omega
        have HRQ := hid (HRE.out (bA q) q (by simp [bA]) hql wr)
        have HCU := hid (And.intro hcut hne)
        clear hcut hne hsplit hdc hc10 hg hno hq h10 hql
        go_upto_region 10 with (go_at_call 52; refine HRQ.out.mono ?_; rintro e w2 ⟨⟨x, ok, rfl, hx⟩, hc2⟩; unfold evV; have HC2 := hid (HR.out.2.2.trans' hc2); have HR2 := hid (HR.out.1.keep hc2 (by simp)); have HX := hid hx.out; clear hc2 hx)
        rcases HX.out with ⟨rfl, hrd⟩ | ⟨rfl, hrd⟩
        · have hx2 := heap_alloc_new w2 (.cells #[.int .i64 x.k, .int .i64 x.t, .int .i64 x.o] 28)
          have hc3 := (Chg.refl [] w2).alloc (.cells #[.int .i64 x.k, .int .i64 x.t, .int .i64 x.o] 28)
          have HR3 := hid (HR2.out.keep hc3 (by simp))
          have HC3 := hid (HC2.out.trans' hc3)
          have x0 := (blk_cell hx2 0).trans rfl
          have x1 := (blk_cell hx2 1).trans rfl
          have x2 := (blk_cell hx2 2).trans rfl
          have HPN : Hid (∃ g, s.length ≤ g + (i + 1) ∧ parseE (g + 1) (s.drop (i + 1)) (acc ++ [x]) = D) := hid (by
            obtain ⟨g, hg, hp⟩ := HP.out
            obtain ⟨g', rfl⟩ : ∃ g', g = g' + 1 := ⟨g - 1, by have := HSZ.out; omega⟩
            refine ⟨g', by omega, ?_⟩
            rw [← hp, parseE_fed HCU.out.1 hrd])
          generalize hw3 : w2.alloc (.cells #[.int .i64 x.k, .int .i64 x.t, .int .i64 x.o] 28) = w3 at HR3 HC3 x0 x1 x2 ⊢
          have hlt : w2.heap.size < w3.heap.size := by rw [← hw3]; simp
          generalize w2.heap.size = E at x0 x1 x2 hlt ⊢
          clear hrd hx2 hc3 hw3 HR2 HC2 HCU HX HRQ hsl hal
          go_wp2_with (at_builtin; refine wpList_grew rfl _ _ 22 rfl elem_ev rfl (HR3.out.keep ((Chg.refl [] w3).alloc _) (by simp)) rfl (View.struct _ [.int .i64 x.k, .int .i64 x.t, .int .i64 x.o] 28 rfl) (by simp [Value.oneCell']) (by unfold maxLen; omega) (by omega) (fun ao' cap' r' w4 hr4 hg4 => halt (fun X hX => ?_)))
          have hcA := (Chg.refl [] w3).alloc (.cells [Value.int .i64 x.k, .int .i64 x.t, .int .i64 x.o].toArray 28)
          rw [evs_snoc] at hr4
          have hfr : Fresh w none r' := HR.out.2.1.trans (HC3.out.trans' hcA).size hg4.fresh
          have hch : Chg [] w w4 := (HC3.out.trans' hcA).trans hg4.chg (fun g hg => .inr (by
            have := HR.out.2.1 g (by simpa using hg)
            simpa using this))
          have HF := hid (And.intro hr4 (And.intro hfr hch))
          clear hr4 hg4 hfr hch hcA x0 x1 x2 hlt
          rw [hX.out]; clear hX
          go_wp2_with fail
          go_roundg (gk - 1)
          case measure => have := HG.out; omega
          case rel => exact ⟨i + 1, i + 1, m + 1, ao', cap', r', acc ++ [x], by first | rfl | go_num, by go_num, by go_num, hid (by have := HG.out; omega), by omega, by omega, hid (by rw [List.length_append, HLEN.out]; rfl), hid (by simp), HPN, HF⟩
        · have HO : Hid (D = .error (m + 1)) := hid (by
            obtain ⟨g, hg, hp⟩ := HP.out
            rw [← hp, ← HLEN.out]
            exact parseE_bad HCU.out.2 (.inr ⟨q, _, HCU.out.1, hrd⟩))
          clear hrd HX
          go_wp2
          go_ret3
          rw [HO.out]
          refine ⟨?_, HC2.out.alloc _⟩
          first | rfl | (push_cast; rfl)
      · have hq2 : ((t[i].toNat : Int) != 10) = true := by simp; omega
        have hq3 : (t[i].toNat != 10) = true := by simpa using h10
        have hno2 : 10 ∉ (s.drop f).take (i + 1 - f) := by
          have e1 : (s.drop f).take (i + 1 - f) = q ++ [t[i]] := by
            rw [hsplit, hdc]
            have hql : q.length = i - f := by rw [← hq, List.length_take, List.length_drop]; omega
            rw [show i + 1 - f = q.length + 1 from by omega, show q ++ t[i] :: s.drop (i + 1) = (q ++ [t[i]]) ++ s.drop (i + 1) from by simp, List.take_left' (by simp)]
          rw [e1]
          simp only [List.mem_append, List.mem_singleton, not_or]
          exact ⟨hno, fun e => h10 (by rw [← e]; rfl)⟩
        have HNO2 := hid hno2
        clear hsplit hq hno hno2 hg hdc
        go_wp2_with fail
        go_roundg (gk - 1)
        case measure => have := HG.out; omega
        case rel => exact ⟨f, i + 1, m, ao, cap, r, acc, rfl, rfl, by go_num, hid (by have := HG.out; omega), by omega, by omega, HLEN, HNO2, HP, HR⟩
    · have hii : ¬ (i : Int) < (t.size : Int) := by omega
      have hie : i = s.length := by have := HG.out; have := HSZ.out; omega
      by_cases hf : f < t.size
      · have hff : (f : Int) < (t.size : Int) := by omega
        have HO : Hid (D = .error (m + 1)) := hid (by
          obtain ⟨g, hg, hp⟩ := HP.out
          rw [← hp, ← HLEN.out]
          refine parseE_bad (fun e => ?_) (.inl (cutE_none.2 (fun hm => HNO.out ?_)))
          · have := congrArg List.length e
            rw [List.length_drop] at this
            have := HSZ.out
            simp at *
            omega
          · rw [List.take_of_length_le (by rw [List.length_drop]; omega)]
            exact hm)
        clear hie
        go_wp2
        go_ret3
        rw [HO.out]
        refine ⟨?_, HR.out.2.2⟩
        first | rfl | (push_cast; rfl)
      · have hff : ¬ (f : Int) < (t.size : Int) := by omega
        have HO : Hid (D = .ok acc) := hid (by
          obtain ⟨g, hg, hp⟩ := HP.out
          rw [← hp, List.drop_of_length_le (by have := HSZ.out; omega)]
          exact parseE_nil _ _)
        clear hie
        go_wp2
        go_ret3
        rw [HO.out]
        refine ⟨_, rfl, ao, cap, r, ?_, ?_⟩
        · rw [HLEN.out]; rfl
        · rw [HLEN.out]; exact HR.out
end Go.Proofs.YtbghkodcfedebaaGreatDoor
