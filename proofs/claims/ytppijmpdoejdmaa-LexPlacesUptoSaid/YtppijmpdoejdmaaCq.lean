/- Walks of the lexer's places: the reference's, the program's, two lists that are alike. -/
import Derived.Test.YtppijmpdoejdmaaCg
import Derived.Test.YtppijmpdoejdmaaCp
namespace Go.Proofs.Ytppijmpdoejdmaa
open Go.RowKit Go.AB
set_option linter.unusedSimpArgs false
set_option linter.unusedVariables false
set_option linter.unusedSectionVars false

def plC (p : Nat × Nat) : List Value := [.int .i64 p.1, .int .i64 p.2]
theorem info_place : (Try.prog.info? 26).map (fun i => (i.zero, i.size, i.bytes)) = some (some (.agg #[.int .i64 0, .int .i64 0]), 2, 16) := by kernel_rfl
theorem elem_place : ElemOk Try.prog 47 26 2 16 := .of Try.underlying47 info_place rfl (by decide)
theorem info_int : (Try.prog.info? 3).map (fun i => (i.zero, i.size, i.bytes)) = some (some (.int .i64 0), 1, 8) := by kernel_rfl
theorem elem_int : ElemOk Try.prog 46 3 1 8 := .of Try.underlying46 info_int rfl (by decide)

section
variable {s : ByteArray} (hs : s.size ≤ 1048576) (L : List UInt8) (hL : Hid (s.data.toList = L))
include hs hL

set_option maxHeartbeats 2000000 in
set_option maxRecDepth 100000 in
theorem r_placeOf_calls (w : World) (a : Nat) (ha : a ≤ s.size) : Calls Try.prog 28 #[.string s, .int .i64 a] w fun e w' => e = .returned (.agg #[.int .i64 (plAt L a).1, .int .i64 (plAt L a).2]) ∧ Chg [] w w' := by
  have HLN := hid (len_of hL)
  have HG := hid (fun k (hk : k < s.size) (hk2 : k < L.length) => (show s[k] = L[k] by have := hL.out; subst this; rfl))
  go_enter Try.func28, Try.ntmps28
  go_wp2
  go_loopw [6] (fun i wr => ∃ k l c : Nat, k ≤ a ∧ i = .int .i64 k ∧ l ≤ k + 1 ∧ c ≤ k + 1 ∧ Hid (plAt L k = (l, c)) ∧ wr = (w.alloc (.cells #[.int .i64 0, .int .i64 0] 26)).alloc (.cells #[.int .i64 l, .int .i64 c] 26)) (fun i _ => a - (intOf i).toNat)
  case atStart => exact ⟨0, 1, 1, Nat.zero_le _, rfl, by omega, by omega, hid (plAt_zero L), rfl⟩
  case round =>
    obtain ⟨k, l, c, hk, rfl, hl, hc, HP, rfl⟩ := hrel
    by_cases hlt : k < a
    · have hks : k < s.size := by omega
      have hkL : k < L.length := by rw [HLN.out]; exact hks
      have hst := plAt_succ L k hkL
      rw [HP.out, ← HG.out k hks hkL] at hst
      unfold plStep at hst
      by_cases h10 : s[k].toNat = 10
      · rw [if_pos h10] at hst
        have g1 : ((s[k].toNat : Int) == 10) = true := by simp; omega
        have HN := hid hst
        clear hst h10
        go_wp2
        go_roundw
        case rel => exact ⟨k + 1, l + 1, 1, by omega, by go_num, by omega, by omega, HN, by simp⟩
        case measure => simp [intOf]; omega
      · rw [if_neg h10] at hst
        have g1 : ((s[k].toNat : Int) == 10) = false := by simp; omega
        have HN := hid hst
        clear hst h10
        go_wp2
        go_roundw
        case rel => exact ⟨k + 1, l, c + 1, by omega, by go_num, by omega, by omega, HN, by simp⟩
        case measure => simp [intOf]; omega
    · obtain rfl : k = a := by omega
      go_wp2
      exact bodyPost_ret (v := .agg #[.int .i64 l, .int .i64 c]) (by simp [results, Try.results28, go_sem]) rfl ⟨by rw [HP.out], ((Chg.refl [] w).alloc _).alloc _⟩

/-- A list of places in new memory. -/
def NewP (w : World) (ps : List (Nat × Nat)) (e : Ending) (w' : World) : Prop :=
  ∃ qs ao cap r, e = .returned (.slice ao qs.length cap) ∧ Row w' 26 2 (.slice ao qs.length cap) r qs.length (qs.flatMap plC) ∧ Fresh w none r ∧ Chg [] w w' ∧ Hid (qs = ps)
omit hs hL in
theorem newP_mk {w w' : World} {ps : List (Nat × Nat)} {n : Nat} {ao : Option Addr} {cap : Nat} {r : Option Nat} {xs : List Value} (hr : Row w' 26 2 (.slice ao n cap) r n xs) (hn : n = ps.length) (hx : xs = ps.flatMap plC) (hf : Fresh w none r) (hc : Chg [] w w') : NewP w ps (.returned (.slice ao n cap)) w' := by
  subst hn hx
  exact ⟨ps, ao, cap, r, rfl, hr, hf, hc, rfl⟩
omit hs hL in
theorem plOf_in (h : L.length = s.size) {a : Nat} (ha : a ≤ s.size) : plOf L a = plAt L a := by
  unfold plOf
  rw [if_neg (by omega)]
  rfl
omit hs hL in
theorem plOf_out (h : L.length = s.size) {x : Int} (hx : x < 0 ∨ (s.size : Int) < x) : plOf L x = (0, 0) := by
  unfold plOf
  rw [if_pos (by omega)]

set_option maxHeartbeats 2000000 in
set_option maxRecDepth 100000 in
theorem r_places_calls (w : World) {ao : Option Addr} {cap : Nat} (xs : List Int) (hn : xs.length ≤ 16777216) (hv : View w 1 (.slice ao xs.length cap) xs.length (xs.map (Value.int .i64))) :
    Calls Try.prog 22 #[.string s, .slice ao xs.length cap] w (NewP w (xs.map (plOf L))) := by
  have HV := hid hv
  have HLN := hid (len_of hL)
  have HPO := hid (fun W a ha => r_placeOf_calls hs L hL W a ha)
  clear hv
  go_enter Try.func22, Try.ntmps22
  go_wp2
  go_loopw [5, 6] (fun v i wr => ∃ (k : Nat) (ao' : Option Addr) (cap' : Nat) (r : Option Nat), k ≤ xs.length ∧ i = .int .i64 k ∧ v = .slice ao' k cap' ∧ Row wr 26 2 (.slice ao' k cap') r k (((xs.take k).map (plOf L)).flatMap plC) ∧ Fresh w none r ∧ Chg [] w wr) (fun _ i _ => xs.length - (intOf i).toNat)
  case atStart => exact ⟨0, none, 0, none, Nat.zero_le _, rfl, rfl, Row.nil _ _ _, Fresh.refl _ _, Chg.refl _ _⟩
  case round =>
    obtain ⟨k, ao', cap', r, hk, rfl, rfl, hrow, hf, hch⟩ := hrel
    by_cases hlt : k < xs.length
    · obtain ⟨b, off, hao, hcv⟩ := view_at (HV.out.keep hch (by simp)) (by omega)
      have c0 := hcv k (by omega)
      rw [show (xs.map (Value.int .i64)).getD k undef = .int .i64 xs[k] from by simp [List.getD, hlt]] at c0
      have hts : (xs.take (k + 1)).map (plOf L) = (xs.take k).map (plOf L) ++ [plOf L xs[k]] := by rw [List.take_succ_eq_append_getElem hlt, List.map_append]; rfl
      have z1 : (k : Int) < (xs.length : Int) := by omega
      obtain ⟨x, hx⟩ : ∃ x, xs[k] = x := ⟨_, rfl⟩
      rw [hx] at c0 hts
      subst hao
      clear hcv hx
      by_cases hin : 0 ≤ x ∧ x ≤ (s.size : Int)
      · obtain ⟨a, rfl⟩ : ∃ a : Nat, x = (a : Int) := ⟨x.toNat, by omega⟩
        have ha : a ≤ s.size := by omega
        have hple := plAt_le L a (by rw [HLN.out]; exact ha)
        rw [plOf_in L HLN.out ha] at hts
        have hp := HPO.out wr a ha
        obtain ⟨l, c, hlc⟩ : ∃ l c, plAt L a = (l, c) := ⟨_, _, rfl⟩
        rw [hlc] at hts hp hple
        have HTS := hid hts
        have HPC := hid hp
        have HF := hid (And.intro hf hch)
        have HR := hid hrow
        clear hts hp hlc hin hrow hf hch
        go_wp2_with (first
          | (go_at_call 28; refine HPC.out.mono ?_; rintro e w2 ⟨rfl, hc2⟩)
          | (at_builtin; refine halt (fun X hX => ?_)))
        rw [hX.out]; clear hX
        have hv5 := View.struct w2 [.int .i64 (l : Int), .int .i64 (c : Int)] 26 (k := 2) rfl
        have hc3 : Chg [] wr (w2.alloc (.cells #[.int .i64 l, .int .i64 c] 26)) := hc2.alloc _
        refine wpList_grew rfl _ _ 47 rfl elem_place rfl (HR.out.keep hc3 (by simp)) rfl hv5 (by simp [Value.oneCell']) (by unfold maxLen; omega) (by omega) (fun ao' cap' r' w3 hr3 hg3 => ?_)
        have hfs := fresh_step HF.out.2 HF.out.1 hc3 hg3.fresh
        have hcs := own_step HF.out.2 HF.out.1 hc3 hg3.chg
        rw [show ((xs.take k).map (plOf L)).flatMap plC ++ [.int .i64 (l : Int), .int .i64 (c : Int)] = ((xs.take (k + 1)).map (plOf L)).flatMap plC from by rw [HTS.out, List.flatMap_append]; rfl] at hr3
        have HR3 := hid (And.intro hr3 (And.intro hfs hcs))
        clear hr3 hfs hcs hg3 hc3 hc2 hv5
        go_wp2
        go_roundw
        case rel => exact ⟨k + 1, ao', cap', r', by omega, by go_num, rfl, HR3.out.1, HR3.out.2.1, HR3.out.2.2⟩
        case measure => simp [intOf]; omega
      · rw [plOf_out L HLN.out (by omega)] at hts
        have HTS := hid hts
        have HF := hid (And.intro hf hch)
        have HR := hid hrow
        clear hts hrow hf hch
        have hv5 := View.struct wr [.int .i64 0, .int .i64 0] 26 (k := 2) rfl
        have hc3 : Chg [] wr (wr.alloc (.cells #[.int .i64 0, .int .i64 0] 26)) := (Chg.refl [] wr).alloc _
        by_cases hneg : x < 0
        · have d1 : decide (x < 0) = true := decide_eq_true hneg
          go_wp2_with (at_builtin; refine wpList_grew rfl _ _ 47 rfl elem_place rfl (HR.out.keep hc3 (by simp)) rfl hv5 (by simp [Value.oneCell']) (by unfold maxLen; omega) (by omega) (fun ao' cap' r' w3 hr3 hg3 => halt (fun X hX => ?_)))
          rw [hX.out]; clear hX
          have hfs := fresh_step HF.out.2 HF.out.1 hc3 hg3.fresh
          have hcs := own_step HF.out.2 HF.out.1 hc3 hg3.chg
          rw [show ((xs.take k).map (plOf L)).flatMap plC ++ [.int .i64 0, .int .i64 0] = ((xs.take (k + 1)).map (plOf L)).flatMap plC from by rw [HTS.out, List.flatMap_append]; rfl] at hr3
          have HR3 := hid (And.intro hr3 (And.intro hfs hcs))
          clear hr3 hfs hcs hg3 hc3 hv5
          go_wp2
          go_roundw
          case rel => exact ⟨k + 1, ao', cap', r', by omega, by go_num, rfl, HR3.out.1, HR3.out.2.1, HR3.out.2.2⟩
          case measure => simp [intOf]; omega
        · have d1 : decide (x < 0) = false := decide_eq_false hneg
          have d2 : decide ((s.size : Int) < x) = true := decide_eq_true (by omega)
          go_wp2_with (at_builtin; refine wpList_grew rfl _ _ 47 rfl elem_place rfl (HR.out.keep hc3 (by simp)) rfl hv5 (by simp [Value.oneCell']) (by unfold maxLen; omega) (by omega) (fun ao' cap' r' w3 hr3 hg3 => halt (fun X hX => ?_)))
          rw [hX.out]; clear hX
          have hfs := fresh_step HF.out.2 HF.out.1 hc3 hg3.fresh
          have hcs := own_step HF.out.2 HF.out.1 hc3 hg3.chg
          rw [show ((xs.take k).map (plOf L)).flatMap plC ++ [.int .i64 0, .int .i64 0] = ((xs.take (k + 1)).map (plOf L)).flatMap plC from by rw [HTS.out, List.flatMap_append]; rfl] at hr3
          have HR3 := hid (And.intro hr3 (And.intro hfs hcs))
          clear hr3 hfs hcs hg3 hc3 hv5
          go_wp2
          go_roundw
          case rel => exact ⟨k + 1, ao', cap', r', by omega, by go_num, rfl, HR3.out.1, HR3.out.2.1, HR3.out.2.2⟩
          case measure => simp [intOf]; omega
    · obtain rfl : k = xs.length := by omega
      have HF := hid (And.intro hf (And.intro hch hrow))
      clear hf hch hrow
      go_wp2
      go_ret
      exact newP_mk HF.out.2.2 (by simp) (by rw [List.take_length]) HF.out.1 HF.out.2.1
end
end Go.Proofs.Ytppijmpdoejdmaa
