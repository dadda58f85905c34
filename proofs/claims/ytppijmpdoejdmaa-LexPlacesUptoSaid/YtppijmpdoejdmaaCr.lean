/- Walks of the lexer's places: the program's, two lists that are alike. -/
import Derived.Test.YtppijmpdoejdmaaCq
namespace Go.Proofs.Ytppijmpdoejdmaa
open Go.RowKit Go.AB
set_option linter.unusedSimpArgs false
set_option linter.unusedVariables false
set_option linter.unusedSectionVars false

def natC (x : Nat) : Value := .int .i64 x
section
variable {s : ByteArray} (hs : s.size ≤ 1048576) (L : List UInt8) (hL : Hid (s.data.toList = L))
include hs hL

set_option maxHeartbeats 4000000 in
set_option maxRecDepth 100000 in
theorem places_calls (w : World) {ao : Option Addr} {cap : Nat} (xs : List Int) (hn : xs.length ≤ 16777216) (hv : View w 1 (.slice ao xs.length cap) xs.length (xs.map (Value.int .i64))) :
    Calls Try.prog 20 #[.string s, .slice ao xs.length cap] w (NewP w (xs.map (plOf L))) := by
  have HV := hid hv
  have HLN := hid (len_of hL)
  have HG := hid (fun k (hk : k < s.size) (hk2 : k < L.length) => (show s[k] = L[k] by have := hL.out; subst this; rfl))
  clear hv
  go_enter Try.func20, Try.ntmps20
  go_wp2
  go_loopw [5, 6, 14] (fun v _ i wr => ∃ (k : Nat) (ao' : Option Addr) (cap' : Nat) (r : Option Nat), k ≤ s.size ∧ i = .int .i64 k ∧ v = .slice ao' (lfsTo L k).length cap' ∧ Row wr 3 1 (.slice ao' (lfsTo L k).length cap') r (lfsTo L k).length ((lfsTo L k).map natC) ∧ Fresh w none r ∧ Chg [] w wr) (fun _ _ i _ => s.size - (intOf i).toNat)
  case atStart => exact ⟨0, none, 0, none, Nat.zero_le _, rfl, rfl, Row.nil _ _ _, Fresh.refl _ _, Chg.refl _ _⟩
  case round =>
    obtain ⟨k, ao', cap', r, hk, rfl, rfl, hrow, hf, hch⟩ := hrel
    have hlk := lfsTo_len L k
    by_cases hlt : k < s.size
    · have hkL : k < L.length := by rw [HLN.out]; exact hlt
      have hg := HG.out k hlt hkL
      have hge : L[k]? = some L[k] := List.getElem?_eq_getElem hkL
      by_cases h10 : s[k].toNat = 10
      · have hyes := lfsTo_yes (L := L) (i := k) (by rw [hge, ← hg]; congr 1; exact UInt8.toNat_inj.1 h10)
        have g1 : ((s[k].toNat : Int) == 10) = true := by simp; omega
        have HY := hid hyes
        have HF := hid (And.intro hf hch)
        obtain ⟨l, hl⟩ : ∃ l, lfsTo L k = l := ⟨_, rfl⟩
        rw [hl] at hrow hlk HY
        have hrow' := fun o => hrow.keep ((Chg.refl [] wr).alloc o) (by simp)
        rw [hl]
        clear hyes hg hge h10 hf hch hrow hl
        go_wp2_with (at_builtin; refine wpList_grew rfl _ _ 46 rfl elem_int rfl (hrow' _) rfl (View.one _ _ _) (by simp [Value.oneCell']) (by unfold maxLen; omega) (by omega) (fun ao' cap' r' w3 hr3 hg3 => halt (fun X hX => ?_)))
        rw [hX.out]; clear hX
        have hc3 : Chg [] wr (wr.alloc (.cells #[.int .i64 k] 3)) := (Chg.refl [] wr).alloc _
        have hfs := fresh_step HF.out.2 HF.out.1 hc3 hg3.fresh
        have hcs := own_step HF.out.2 HF.out.1 hc3 hg3.chg
        have hfin : Row w3 3 1 (.slice ao' (lfsTo L (k + 1)).length cap') r' (lfsTo L (k + 1)).length ((lfsTo L (k + 1)).map natC) := by
          rw [HY.out, List.length_append, List.map_append]; exact hr3
        have HR3 := hid (And.intro hfin (And.intro hfs hcs))
        have HLL := hid (show l.length + 1 = (lfsTo L (k + 1)).length by rw [HY.out, List.length_append]; rfl)
        clear hr3 hfs hcs hg3 hc3 hrow' hfin
        go_wp2
        go_roundw
        case rel => exact ⟨k + 1, ao', cap', r', by omega, by go_num, by rw [HLL.out], HR3.out.1, HR3.out.2.1, HR3.out.2.2⟩
        case measure => simp [intOf]; omega
      · have hno := lfsTo_no (L := L) (i := k) (by rw [hge, ← hg]; intro e; simp only [Option.some.injEq] at e; rw [e] at h10; exact h10 rfl)
        have g1 : ((s[k].toNat : Int) == 10) = false := by simp; omega
        have HY := hid hno
        have HF := hid (And.intro hf (And.intro hch hrow))
        clear hno hg hge h10 hf hch hrow
        go_wp2
        go_roundw
        case rel => exact ⟨k + 1, ao', cap', r, by omega, by go_num, by rw [HY.out], by rw [HY.out]; exact HF.out.2.2, HF.out.1, HF.out.2.1⟩
        case measure => simp [intOf]; omega
    · obtain rfl : k = s.size := by omega
      obtain ⟨wl, rfl⟩ : ∃ wl : World, wl = wr := ⟨_, rfl⟩
      have HRL := hid (And.intro hf (And.intro hch hrow))
      obtain ⟨l, hl⟩ : ∃ l, lfsTo L s.size = l := ⟨_, rfl⟩
      have hlL : lfsTo L L.length = l := by rw [HLN.out, hl]
      rw [hl] at HRL hlk
      rw [hl]
      have HLL := hid hlL
      clear hf hch hrow hl hlL
      go_wp2
      go_loopw [7, 9, 10, 11, 28] (fun v _ _ _ i wr => ∃ (k : Nat) (ao2 : Option Addr) (cap2 : Nat) (r2 : Option Nat), k ≤ xs.length ∧ i = .int .i64 k ∧ v = .slice ao2 k cap2 ∧ Row wr 26 2 (.slice ao2 k cap2) r2 k (((xs.take k).map (plOf L)).flatMap plC) ∧ Fresh wl none r2 ∧ Chg [] wl wr) (fun _ _ _ _ i _ => xs.length - (intOf i).toNat)
      case atStart => exact ⟨0, none, 0, none, Nat.zero_le _, rfl, rfl, Row.nil _ _ _, Fresh.refl _ _, Chg.refl _ _⟩
      case round =>
        obtain ⟨k, ao2, cap2, r2, hk, rfl, rfl, hrow, hf, hch⟩ := hrel
        by_cases hlt3 : k < xs.length
        · obtain ⟨b, off, hao, hcv⟩ := view_at ((HV.out.keep HRL.out.2.1 (by simp)).keep hch (by simp)) (by omega)
          have c0 := hcv k (by omega)
          rw [show (xs.map (Value.int .i64)).getD k undef = .int .i64 xs[k] from by simp [List.getD, hlt3]] at c0
          have hts : (xs.take (k + 1)).map (plOf L) = (xs.take k).map (plOf L) ++ [plOf L xs[k]] := by rw [List.take_succ_eq_append_getElem hlt3, List.map_append]; rfl
          have z1 : (k : Int) < (xs.length : Int) := by omega
          obtain ⟨x, hx⟩ : ∃ x, xs[k] = x := ⟨_, rfl⟩
          rw [hx] at c0 hts
          have HAO := hid hao
          subst hao
          clear hcv hx
          by_cases hin : 0 ≤ x ∧ x ≤ (s.size : Int)
          · obtain ⟨a, rfl⟩ : ∃ a : Nat, x = (a : Int) := ⟨x.toNat, by omega⟩
            have ha : a ≤ s.size := by omega
            rw [plOf_in L HLN.out ha] at hts
            have HTS := hid hts
            have HF := hid (And.intro hf (And.intro hch hrow))
            have hvl := (HRL.out.2.2.view.keep hch (by simp))
            have HVL := hid hvl
            clear hts hin hrow hf hch hvl
            obtain ⟨wm, rfl⟩ : ∃ wm : World, wm = wr := ⟨_, rfl⟩
            go_wp2_with fail
            go_loop [10, 11] (fun nn bg => ∃ n g : Nat, n ≤ l.length ∧ nn = .int .i64 n ∧ bg = .int .i64 g ∧ g ≤ a ∧ Hid (g = begunOf (l.take n)) ∧ Hid (∀ j (hj : j < l.length), j < n → l[j] < a)) (fun nn _ => l.length - (intOf nn).toNat)
            case atStart => exact ⟨0, 0, Nat.zero_le _, rfl, rfl, Nat.zero_le _, hid rfl, hid (fun j hj h => by omega)⟩
            case round =>
              obtain ⟨n, g, hn2, rfl, rfl, hga, HG2, HJ⟩ := hrel
              by_cases hnl : n < l.length
              · obtain ⟨bl, ol, hbl, hcl⟩ := view_at HVL.out (by omega)
                have cl := hcl n (by omega)
                rw [show (l.map natC).getD n undef = .int .i64 (l[n] : Nat) from by simp [List.getD, hnl, natC]] at cl
                have hln : l[n] < s.size := by
                  have h1 := lfsTo_lt L L.length l[n] (by rw [HLL.out]; exact List.getElem_mem hnl)
                  rw [HLN.out] at h1; exact h1
                have HN := hid (begun_take l n hnl)
                obtain ⟨x, hx⟩ : ∃ x, l[n] = x := ⟨_, rfl⟩
                have HX := hid hx
                rw [hx] at cl hln HN
                have HBL := hid hbl
                subst hbl
                clear hcl hx
                have z3 : (n : Int) < (l.length : Int) := by omega
                by_cases hxa : x < a
                · have d1 : decide ((x : Int) < (a : Int)) = true := by simp; omega
                  have d2 : decide (x < a) = true := by simp; omega
                  go_wp2
                  go_round
                  case rel => exact ⟨n + 1, x + 1, by omega, by go_num, by go_num, by omega, hid (by rw [HN.out]), hid (fun j hj h => by
                    by_cases hjn : j < n
                    · exact HJ.out j hj hjn
                    · obtain rfl : j = n := by omega
                      rw [HX.out]; exact hxa)⟩
                  case measure => simp [intOf]; omega
                · have d1 : decide ((x : Int) < (a : Int)) = false := by simp; omega
                  have d2 : decide (x < a) = false := by simp; omega
                  have hls := lines_stop (L := L) (a := a) (n := n) (by rw [HLN.out]; exact ha) (by rw [HLL.out]; omega) (fun j hj h => by simp only [HLL.out] at hj ⊢; exact HJ.out j hj h) (fun hj => by simp only [HLL.out] at hj ⊢; rw [HX.out]; omega)
                  rw [HLL.out, ← HG2.out] at hls
                  have HLS := hid hls
                  clear hls hxa
                  have hc3 : Chg [] wm (wm.alloc (.cells #[.int .i64 ((n : Int) + 1), .int .i64 ((a : Int) - (g : Int) + 1)] 26)) := (Chg.refl [] wm).alloc _
                  have hv5 := View.struct wm [.int .i64 ((n : Int) + 1), .int .i64 ((a : Int) - (g : Int) + 1)] 26 (k := 2) rfl
                  go_wp2_with (at_builtin; refine wpList_grew rfl _ _ 47 rfl elem_place rfl (HF.out.2.2.keep hc3 (by simp)) rfl hv5 (by simp [Value.oneCell']) (by unfold maxLen; omega) (by omega) (fun ao' cap' r' w3 hr3 hg3 => halt (fun X hX => ?_)))
                  rw [hX.out]; clear hX
                  have hfs := fresh_step HF.out.2.1 HF.out.1 hc3 hg3.fresh
                  have hcs := own_step HF.out.2.1 HF.out.1 hc3 hg3.chg
                  rw [show ((xs.take k).map (plOf L)).flatMap plC ++ [.int .i64 ((n : Int) + 1), .int .i64 ((a : Int) - (g : Int) + 1)] = ((xs.take (k + 1)).map (plOf L)).flatMap plC from by
                    rw [HTS.out, List.flatMap_append, HLS.out.1]
                    have h5 := HLS.out.2
                    simp [plC]
                    omega] at hr3
                  have HR3 := hid (And.intro hr3 (And.intro hfs hcs))
                  clear hr3 hfs hcs hg3 hc3 hv5
                  go_wp2
                  go_roundw
                  case rel => exact ⟨k + 1, ao', cap', r', by omega, by go_num, rfl, HR3.out.1, HR3.out.2.1, HR3.out.2.2⟩
                  case measure => simp [intOf]; omega
              · have hls := lines_stop (L := L) (a := a) (n := n) (by rw [HLN.out]; exact ha) (by rw [HLL.out]; omega) (fun j hj h => by simp only [HLL.out] at hj ⊢; exact HJ.out j hj h) (fun hj => by rw [HLL.out] at hj; omega)
                rw [HLL.out, ← HG2.out] at hls
                have HLS := hid hls
                clear hls
                have hc3 : Chg [] wm (wm.alloc (.cells #[.int .i64 ((n : Int) + 1), .int .i64 ((a : Int) - (g : Int) + 1)] 26)) := (Chg.refl [] wm).alloc _
                have hv5 := View.struct wm [.int .i64 ((n : Int) + 1), .int .i64 ((a : Int) - (g : Int) + 1)] 26 (k := 2) rfl
                go_wp2_with (at_builtin; refine wpList_grew rfl _ _ 47 rfl elem_place rfl (HF.out.2.2.keep hc3 (by simp)) rfl hv5 (by simp [Value.oneCell']) (by unfold maxLen; omega) (by omega) (fun ao' cap' r' w3 hr3 hg3 => halt (fun X hX => ?_)))
                rw [hX.out]; clear hX
                have hfs := fresh_step HF.out.2.1 HF.out.1 hc3 hg3.fresh
                have hcs := own_step HF.out.2.1 HF.out.1 hc3 hg3.chg
                rw [show ((xs.take k).map (plOf L)).flatMap plC ++ [.int .i64 ((n : Int) + 1), .int .i64 ((a : Int) - (g : Int) + 1)] = ((xs.take (k + 1)).map (plOf L)).flatMap plC from by
                  rw [HTS.out, List.flatMap_append, HLS.out.1]
                  have h5 := HLS.out.2
                  simp [plC]
                  omega] at hr3
                have HR3 := hid (And.intro hr3 (And.intro hfs hcs))
                clear hr3 hfs hcs hg3 hc3 hv5
                go_wp2
                go_roundw
                case rel => exact ⟨k + 1, ao', cap', r', by omega, by go_num, rfl, HR3.out.1, HR3.out.2.1, HR3.out.2.2⟩
                case measure => simp [intOf]; omega
          · rw [plOf_out L HLN.out (by omega)] at hts
            have HTS := hid hts
            have HF := hid (And.intro hf (And.intro hch hrow))
            clear hts hrow hf hch
            by_cases hneg : x < 0
            · have d1 : decide (x < 0) = true := decide_eq_true hneg
              have hc3 : Chg [] wr (wr.alloc (.cells #[.int .i64 0, .int .i64 0] 26)) := (Chg.refl [] wr).alloc _
              have hv5 := View.struct wr [.int .i64 0, .int .i64 0] 26 (k := 2) rfl
              go_wp2_with (at_builtin; refine wpList_grew rfl _ _ 47 rfl elem_place rfl (HF.out.2.2.keep hc3 (by simp)) rfl hv5 (by simp [Value.oneCell']) (by unfold maxLen; omega) (by omega) (fun ao' cap' r' w3 hr3 hg3 => halt (fun X hX => ?_)))
              rw [hX.out]; clear hX
              have hfs := fresh_step HF.out.2.1 HF.out.1 hc3 hg3.fresh
              have hcs := own_step HF.out.2.1 HF.out.1 hc3 hg3.chg
              rw [show ((xs.take k).map (plOf L)).flatMap plC ++ [.int .i64 0, .int .i64 0] = ((xs.take (k + 1)).map (plOf L)).flatMap plC from by rw [HTS.out, List.flatMap_append]; rfl] at hr3
              have HR3 := hid (And.intro hr3 (And.intro hfs hcs))
              clear hr3 hfs hcs hg3 hc3 hv5
              go_wp2
              go_roundw
              case rel => exact ⟨k + 1, ao', cap', r', by omega, by go_num, rfl, HR3.out.1, HR3.out.2.1, HR3.out.2.2⟩
              case measure => simp [intOf]; omega
            · have d1 : decide (x < 0) = false := decide_eq_false hneg
              have d2 : decide ((s.size : Int) < x) = true := decide_eq_true (by omega)
              have hc3 : Chg [] wr (wr.alloc (.cells #[.int .i64 0, .int .i64 0] 26)) := (Chg.refl [] wr).alloc _
              have hv5 := View.struct wr [.int .i64 0, .int .i64 0] 26 (k := 2) rfl
              go_wp2_with (at_builtin; refine wpList_grew rfl _ _ 47 rfl elem_place rfl (HF.out.2.2.keep hc3 (by simp)) rfl hv5 (by simp [Value.oneCell']) (by unfold maxLen; omega) (by omega) (fun ao' cap' r' w3 hr3 hg3 => halt (fun X hX => ?_)))
              rw [hX.out]; clear hX
              have hfs := fresh_step HF.out.2.1 HF.out.1 hc3 hg3.fresh
              have hcs := own_step HF.out.2.1 HF.out.1 hc3 hg3.chg
              rw [show ((xs.take k).map (plOf L)).flatMap plC ++ [.int .i64 0, .int .i64 0] = ((xs.take (k + 1)).map (plOf L)).flatMap plC from by rw [HTS.out, List.flatMap_append]; rfl] at hr3
              have HR3 := hid (And.intro hr3 (And.intro hfs hcs))
              clear hr3 hfs hcs hg3 hc3 hv5
              go_wp2
              go_roundw
              case rel => exact ⟨k + 1, ao', cap', r', by omega, by go_num, rfl, HR3.out.1, HR3.out.2.1, HR3.out.2.2⟩
              case measure => simp [intOf]; omega
        · obtain rfl : k = xs.length := by omega
          have HF := hid (And.intro hf (And.intro hch hrow))
          clear hf hch hrow
          go_wp2
          go_ret
          exact newP_mk HF.out.2.2 (by simp) (by rw [List.take_length]) (fun g hg => .inr (by have := (HF.out.1 g hg).resolve_left (by simp); have := HRL.out.2.1.size; omega)) (HRL.out.2.1.trans' HF.out.2.1)
end
end Go.Proofs.Ytppijmpdoejdmaa
