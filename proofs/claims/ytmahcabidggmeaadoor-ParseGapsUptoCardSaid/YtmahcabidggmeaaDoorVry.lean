/- Joined by join.py out of Vra, Vrb, Vrc, Vrd. -/
import Derived.Test.YtmahcabidggmeaaDoorVqx
import Derived.Deep.RegionWith
import Derived.Deep.DeepCutAuto
set_option linter.unusedSimpArgs false
set_option linter.unusedVariables false
set_option linter.unusedSectionVars false

/- Places: plain; the walk of the lexer's Places; lines without feeds, lists of numbers. -/
set_option linter.unusedVariables false
set_option linter.unusedSectionVars false
set_option linter.unusedSimpArgs false
namespace Go.AB
open Go.RowKit

/-- The line and column behind a byte. -/
def plStep (p : Nat × Nat) (c : UInt8) : Nat × Nat := if c.toNat = 10 then (p.1 + 1, 1) else (p.1, p.2 + 1)
/-- The line and column of the byte at a place. -/
def plAt (L : List UInt8) (a : Nat) : Nat × Nat := (L.take a).foldl plStep (1, 1)
/-- Of any number the place; what is none has none. -/
def plOf (L : List UInt8) (a : Int) : Nat × Nat := if a < 0 ∨ (L.length : Int) < a then (0, 0) else plAt L a.toNat
theorem plAt_zero (L : List UInt8) : plAt L 0 = (1, 1) := rfl
theorem plAt_succ (L : List UInt8) (a : Nat) (h : a < L.length) : plAt L (a + 1) = plStep (plAt L a) L[a] := by
  unfold plAt
  rw [List.take_succ_eq_append_getElem h, List.foldl_append]
  rfl
theorem plAt_le (L : List UInt8) : ∀ a, a ≤ L.length → 1 ≤ (plAt L a).1 ∧ (plAt L a).1 ≤ a + 1 ∧ 1 ≤ (plAt L a).2 ∧ (plAt L a).2 ≤ a + 1
  | 0, _ => by simp [plAt_zero]
  | a + 1, h => by
    have ih := plAt_le L a (by omega)
    rw [plAt_succ L a (by omega)]
    unfold plStep
    split <;> simp only <;> omega
/-- The places of the line feeds ahead of a place. -/
def lfsTo (L : List UInt8) : Nat → List Nat
  | 0 => []
  | i + 1 => if L[i]? = some 10 then lfsTo L i ++ [i] else lfsTo L i
theorem lfsTo_yes {L : List UInt8} {i : Nat} (h : L[i]? = some 10) : lfsTo L (i + 1) = lfsTo L i ++ [i] := by rw [lfsTo, if_pos h]
theorem lfsTo_no {L : List UInt8} {i : Nat} (h : L[i]? ≠ some 10) : lfsTo L (i + 1) = lfsTo L i := by rw [lfsTo, if_neg h]
theorem lfsTo_lt (L : List UInt8) : ∀ i, ∀ x ∈ lfsTo L i, x < i
  | 0, x, h => by simp [lfsTo] at h
  | i + 1, x, h => by
    rw [lfsTo] at h
    split at h
    · rcases List.mem_append.1 h with h | h
      · have := lfsTo_lt L i x h; omega
      · simp at h; omega
    · have := lfsTo_lt L i x h; omega
theorem lfsTo_len (L : List UInt8) : ∀ i, (lfsTo L i).length ≤ i
  | 0 => by simp [lfsTo]
  | i + 1 => by
    have := lfsTo_len L i
    rw [lfsTo]
    split
    · simp; omega
    · omega
theorem lfsTo_more (L : List UInt8) (i : Nat) : ∀ k, ∃ r, lfsTo L (i + k) = lfsTo L i ++ r ∧ ∀ x ∈ r, i ≤ x
  | 0 => ⟨[], by simp, by simp⟩
  | k + 1 => by
    obtain ⟨r, h1, h2⟩ := lfsTo_more L i k
    rw [show i + (k + 1) = (i + k) + 1 from rfl, lfsTo]
    split
    · refine ⟨r ++ [i + k], by rw [h1, List.append_assoc], fun x hx => ?_⟩
      rcases List.mem_append.1 hx with h | h
      · exact h2 x h
      · simp at h; omega
    · exact ⟨r, h1, h2⟩
/-- Where the line begins that the last of these ends. -/
def begunOf (l : List Nat) : Nat := match l.getLast? with | some x => x + 1 | none => 0
theorem begunOf_snoc (l : List Nat) (x : Nat) : begunOf (l ++ [x]) = x + 1 := by simp [begunOf]
theorem begunOf_nil : begunOf [] = 0 := rfl
theorem plAt_lfs (L : List UInt8) : ∀ a, a ≤ L.length → plAt L a = ((lfsTo L a).length + 1, a - begunOf (lfsTo L a) + 1) ∧ begunOf (lfsTo L a) ≤ a
  | 0, _ => by simp [plAt_zero, lfsTo, begunOf_nil]
  | a + 1, h => by
    obtain ⟨ih, ih2⟩ := plAt_lfs L a (by omega)
    have hg : L[a]? = some L[a] := List.getElem?_eq_getElem (by omega)
    rw [plAt_succ L a (by omega), ih]
    unfold plStep
    by_cases h10 : L[a].toNat = 10
    · have h1 : L[a]? = some 10 := by rw [hg]; congr 1; exact UInt8.toNat_inj.1 h10
      rw [if_pos h10, lfsTo_yes h1, begunOf_snoc]
      simp
    · have h1 : L[a]? ≠ some 10 := by rw [hg]; intro e; simp only [Option.some.injEq] at e; rw [e] at h10; exact h10 rfl
      rw [if_neg h10, lfsTo_no h1]
      refine ⟨?_, by omega⟩
      congr 1
      show a - begunOf (lfsTo L a) + 1 + 1 = a + 1 - begunOf (lfsTo L a) + 1
      omega
/-- How many of the lines' ends lie ahead, found by going over them. -/
theorem lfs_stop {L : List UInt8} {a n : Nat} (ha : a ≤ L.length) (hn : n ≤ (lfsTo L L.length).length) (h1 : ∀ j (hj : j < (lfsTo L L.length).length), j < n → (lfsTo L L.length)[j] < a) (h2 : ∀ (hj : n < (lfsTo L L.length).length), a ≤ (lfsTo L L.length)[n]) :
    plAt L a = (n + 1, a - begunOf ((lfsTo L L.length).take n) + 1) ∧ begunOf ((lfsTo L L.length).take n) ≤ a := by
  obtain ⟨r, hr1, hr2⟩ := lfsTo_more L a (L.length - a)
  rw [show a + (L.length - a) = L.length from by omega] at hr1
  have hlt := lfsTo_lt L a
  have hnn : n = (lfsTo L a).length := by
    rcases Nat.lt_trichotomy n (lfsTo L a).length with h | h | h
    · have hh := h2 (by rw [hr1, List.length_append]; omega)
      have h4 : (lfsTo L L.length)[n]'(by rw [hr1, List.length_append]; omega) = (lfsTo L a)[n] := by simp only [hr1]; exact List.getElem_append_left h
      rw [h4] at hh
      have := hlt _ (List.getElem_mem h)
      omega
    · exact h
    · have hl : (lfsTo L a).length < (lfsTo L L.length).length := by omega
      have hh := h1 (lfsTo L a).length hl h
      have h4 : (lfsTo L L.length)[(lfsTo L a).length]'hl = r[0]'(by rw [hr1, List.length_append] at hl; omega) := by
        simp only [hr1]
        rw [List.getElem_append_right (Nat.le_refl _)]
        simp
      rw [h4] at hh
      have := hr2 _ (List.getElem_mem (show 0 < r.length by rw [hr1, List.length_append] at hl; omega))
      omega
  have ht : (lfsTo L L.length).take n = lfsTo L a := by rw [hr1, hnn, List.take_left]
  rw [ht, hnn]
  exact plAt_lfs L a ha
theorem begun_take (l : List Nat) (n : Nat) (h : n < l.length) : begunOf (l.take (n + 1)) = l[n] + 1 := by
  rw [List.take_succ_eq_append_getElem h, begunOf_snoc]
end Go.AB
namespace Go.Proofs.YtmahcabidggmeaaDoor
open Go.RowKit Go.AB
set_option linter.unusedSimpArgs false
set_option linter.unusedVariables false
set_option linter.unusedSectionVars false

def plC (p : Nat × Nat) : List Value := [.int .i64 p.1, .int .i64 p.2]
theorem info_place : (Tryd.prog.info? 38).map (fun i => (i.zero, i.size, i.bytes)) = some (some (.agg #[.int .i64 0, .int .i64 0]), 2, 16) := by kernel_rfl
theorem elem_place : ElemOk Tryd.prog 54 38 2 16 := .of Tryd.underlying54 info_place rfl (by decide)
theorem info_int : (Tryd.prog.info? 3).map (fun i => (i.zero, i.size, i.bytes)) = some (some (.int .i64 0), 1, 8) := by kernel_rfl
theorem elem_int : ElemOk Tryd.prog 56 3 1 8 := .of Tryd.underlying56 info_int rfl (by decide)

theorem view_at {w : World} {k : Nat} {ao : Option Addr} {n m cap : Nat} {xs : List Value} (h : View w k (.slice ao m cap) n xs) (hn : 0 < n * k) : ∃ b off, ao = some ⟨b, off, none⟩ ∧ ∀ p, p < n * k → w.cell? ⟨b, off + p, none⟩ = some (xs.getD p undef) := by
  obtain ⟨_, _, ao', cap', hv, _, _, _, hc⟩ := h
  simp only [Value.slice.injEq] at hv
  obtain ⟨rfl, rfl, rfl⟩ := hv
  exact hc hn

def natC (x : Nat) : Value := .int .i64 x
section
variable {s : ByteArray} (hs : s.size ≤ 1048576) (L : List UInt8) (hL : Hid (s.data.toList = L))
include hs hL
/-- A list of places in new memory. -/
def NewP (w : World) (ps : List (Nat × Nat)) (e : Ending) (w' : World) : Prop :=
  ∃ qs ao cap r, e = .returned (.slice ao qs.length cap) ∧ Row w' 38 2 (.slice ao qs.length cap) r qs.length (qs.flatMap plC) ∧ Fresh w none r ∧ Chg [] w w' ∧ Hid (qs = ps)
omit hs hL in
theorem newP_mk {w w' : World} {ps : List (Nat × Nat)} {n : Nat} {ao : Option Addr} {cap : Nat} {r : Option Nat} {xs : List Value} (hr : Row w' 38 2 (.slice ao n cap) r n xs) (hn : n = ps.length) (hx : xs = ps.flatMap plC) (hf : Fresh w none r) (hc : Chg [] w w') : NewP w ps (.returned (.slice ao n cap)) w' := by
  subst hn hx
  exact ⟨ps, ao, cap, r, rfl, hr, hf, hc, rfl⟩
omit hs hL in
theorem plOf_in (h : L.length = s.size) {a : Nat} (ha : a ≤ s.size) : plOf L a = plAt L a := by
  unfold plOf
  rw [if_neg (by omega)]
  rfl
omit hs hL in
theorem plOf_out (h : L.length = s.size) {x : Int} (hx : x < 0 ∨ (s.size : Int) < x) : plOf L x = (0, 0) := by
  unfold plOf
  rw [if_pos (by omega)]


set_option maxHeartbeats 4000000 in
set_option maxRecDepth 100000 in
theorem places_calls (w : World) {ao : Option Addr} {cap : Nat} (xs : List Int) (hn : xs.length ≤ 16777216) (hv : View w 1 (.slice ao xs.length cap) xs.length (xs.map (Value.int .i64))) :
    Calls Tryd.prog 24 #[.string s, .slice ao xs.length cap] w (NewP w (xs.map (plOf L))) := by
  have HV := hid hv
  have HLN := hid (len_of hL)
  have HG := hid (fun k (hk : k < s.size) (hk2 : k < L.length) => (show s[k] = L[k] by have := hL.out; subst this; rfl))
  clear hv
  go_enter Tryd.func24, Tryd.ntmps24
  go_wp2
  go_loopw [5, 6, 14] (fun v _ i wr => ∃ (k : Nat) (ao' : Option Addr) (cap' : Nat) (r : Option Nat), k ≤ s.size ∧ i = .int .i64 k ∧ v = .slice ao' (lfsTo L k).length cap' ∧ Row wr 3 1 (.slice ao' (lfsTo L k).length cap') r (lfsTo L k).length ((lfsTo L k).map natC) ∧ Fresh w none r ∧ Chg [] w wr) (fun _ _ i _ => s.size - (intOf i).toNat)
  case atStart => exact ⟨0, none, 0, none, Nat.zero_le _, rfl, rfl, Row.nil _ _ _, Fresh.refl _ _, Chg.refl _ _⟩
  case round =>
    obtain ⟨k, ao', cap', r, hk, rfl, rfl, hrow, hf, hch⟩ := hrel
    have hlk := lfsTo_len L k
    by_cases hlt : k < s.size
    · have hkL : k < L.length := by rw [HLN.out]; exact hlt
      have hg := HG.out k hlt hkL
      have hge : L[k]? = some L[k] := List.getElem?_eq_getElem hkL
      by_cases h10 : s[k].toNat = 10
      · have hyes := lfsTo_yes (L := L) (i := k) (by rw [hge, ← hg]; congr 1; exact UInt8.toNat_inj.1 h10)
        have g1 : ((s[k].toNat : Int) == 10) = true := by simp; omega
        have HY := hid hyes
        have HF := hid (And.intro hf hch)
        obtain ⟨l, hl⟩ : ∃ l, lfsTo L k = l := ⟨_, rfl⟩
        rw [hl] at hrow hlk HY
        have hrow' := fun o => hrow.keep ((Chg.refl [] wr).alloc o) (by simp)
        rw [hl]
        clear hyes hg hge h10 hf hch hrow hl
        go_wp2_with (at_builtin; refine wpList_grew rfl _ _ 56 rfl elem_int rfl (hrow' _) rfl (View.one _ _ _) (by simp [Value.oneCell']) (by unfold maxLen; omega) (by omega) (fun ao' cap' r' w3 hr3 hg3 => halt (fun X hX => ?_)))
        rw [hX.out]; clear hX
        have hc3 : Chg [] wr (wr.alloc (.cells #[.int .i64 k] 3)) := (Chg.refl [] wr).alloc _
        have hfs := fresh_step HF.out.2 HF.out.1 hc3 hg3.fresh
        have hcs := own_step HF.out.2 HF.out.1 hc3 hg3.chg
        have hfin : Row w3 3 1 (.slice ao' (lfsTo L (k + 1)).length cap') r' (lfsTo L (k + 1)).length ((lfsTo L (k + 1)).map natC) := by
          rw [HY.out, List.length_append, List.map_append]; exact hr3
        have HR3 := hid (And.intro hfin (And.intro hfs hcs))
        have HLL := hid (show l.length + 1 = (lfsTo L (k + 1)).length by rw [HY.out, List.length_append]; rfl)
        clear hr3 hfs hcs hg3 hc3 hrow' hfin
        go_wp2
        go_roundw
        case rel => exact ⟨k + 1, ao', cap', r', by omega, by go_num, by rw [HLL.out], HR3.out.1, HR3.out.2.1, HR3.out.2.2⟩
        case measure => simp [intOf]; omega
      · have hno := lfsTo_no (L := L) (i := k) (by rw [hge, ← hg]; intro e; simp only [Option.some.injEq] at e; rw [e] at h10; exact h10 rfl)
        have g1 : ((s[k].toNat : Int) == 10) = false := by simp; omega
        have HY := hid hno
        have HF := hid (And.intro hf (And.intro hch hrow))
        clear hno hg hge h10 hf hch hrow
        go_wp2
        go_roundw
        case rel => exact ⟨k + 1, ao', cap', r, by omega, by go_num, by rw [HY.out], by rw [HY.out]; exact HF.out.2.2, HF.out.1, HF.out.2.1⟩
        case measure => simp [intOf]; omega
    · obtain rfl : k = s.size := by omega
      obtain ⟨wl, rfl⟩ : ∃ wl : World, wl = wr := ⟨_, rfl⟩
      have HRL := hid (And.intro hf (And.intro hch hrow))
      obtain ⟨l, hl⟩ : ∃ l, lfsTo L s.size = l := ⟨_, rfl⟩
      have hlL : lfsTo L L.length = l := by rw [HLN.out, hl]
      rw [hl] at HRL hlk
      rw [hl]
      have HLL := hid hlL
      clear hf hch hrow hl hlL
      go_wp2
      go_loopw [7, 9, 10, 11, 28] (fun v _ _ _ i wr => ∃ (k : Nat) (ao2 : Option Addr) (cap2 : Nat) (r2 : Option Nat), k ≤ xs.length ∧ i = .int .i64 k ∧ v = .slice ao2 k cap2 ∧ Row wr 38 2 (.slice ao2 k cap2) r2 k (((xs.take k).map (plOf L)).flatMap plC) ∧ Fresh wl none r2 ∧ Chg [] wl wr) (fun _ _ _ _ i _ => xs.length - (intOf i).toNat)
      case atStart => exact ⟨0, none, 0, none, Nat.zero_le _, rfl, rfl, Row.nil _ _ _, Fresh.refl _ _, Chg.refl _ _⟩
      case round =>
        obtain ⟨k, ao2, cap2, r2, hk, rfl, rfl, hrow, hf, hch⟩ := hrel
        by_cases hlt3 : k < xs.length
        · obtain ⟨b, off, hao, hcv⟩ := view_at ((HV.out.keep HRL.out.2.1 (by simp)).keep hch (by simp)) (by omega)
          have c0 := hcv k (by omega)
          rw [show (xs.map (Value.int .i64)).getD k undef = .int .i64 xs[k] from by simp [List.getD, hlt3]] at c0
          have hts : (xs.take (k + 1)).map (plOf L) = (xs.take k).map (plOf L) ++ [plOf L xs[k]] := by rw [List.take_succ_eq_append_getElem hlt3, List.map_append]; rfl
          have z1 : (k : Int) < (xs.length : Int) := by omega
          obtain ⟨x, hx⟩ : ∃ x, xs[k] = x := ⟨_, rfl⟩
          rw [hx] at c0 hts
          have HAO := hid hao
          subst hao
          clear hcv hx
          by_cases hin : 0 ≤ x ∧ x ≤ (s.size : Int)
          · obtain ⟨a, rfl⟩ : ∃ a : Nat, x = (a : Int) := ⟨x.toNat, by omega⟩
            have ha : a ≤ s.size := by omega
            rw [plOf_in L HLN.out ha] at hts
            have HTS := hid hts
            have HF := hid (And.intro hf (And.intro hch hrow))
            have hvl := (HRL.out.2.2.view.keep hch (by simp))
            have HVL := hid hvl
            clear hts hin hrow hf hch hvl
            obtain ⟨wm, rfl⟩ : ∃ wm : World, wm = wr := ⟨_, rfl⟩
            go_wp2_with fail
            go_loop [10, 11] (fun nn bg => ∃ n g : Nat, n ≤ l.length ∧ nn = .int .i64 n ∧ bg = .int .i64 g ∧ g ≤ a ∧ Hid (g = begunOf (l.take n)) ∧ Hid (∀ j (hj : j < l.length), j < n → l[j] < a)) (fun nn _ => l.length - (intOf nn).toNat)
            case atStart => exact ⟨0, 0, Nat.zero_le _, rfl, rfl, Nat.zero_le _, hid rfl, hid (fun j hj h => by omega)⟩
            case round =>
              obtain ⟨n, g, hn2, rfl, rfl, hga, HG2, HJ⟩ := hrel
              by_cases hnl : n < l.length
              · obtain ⟨bl, ol, hbl, hcl⟩ := view_at HVL.out (by omega)
                have cl := hcl n (by omega)
                rw [show (l.map natC).getD n undef = .int .i64 (l[n] : Nat) from by simp [List.getD, hnl, natC]] at cl
                have hln : l[n] < s.size := by
                  have h1 := lfsTo_lt L L.length l[n] (by rw [HLL.out]; exact List.getElem_mem hnl)
                  rw [HLN.out] at h1; exact h1
                have HN := hid (begun_take l n hnl)
                obtain ⟨x, hx⟩ : ∃ x, l[n] = x := ⟨_, rfl⟩
                have HX := hid hx
                rw [hx] at cl hln HN
                have HBL := hid hbl
                subst hbl
                clear hcl hx
                have z3 : (n : Int) < (l.length : Int) := by omega
                by_cases hxa : x < a
                · have d1 : decide ((x : Int) < (a : Int)) = true := by simp; omega
                  have d2 : decide (x < a) = true := by simp; omega
                  go_wp2
                  go_round
                  case rel => exact ⟨n + 1, x + 1, by omega, by go_num, by go_num, by omega, hid (by rw [HN.out]), hid (fun j hj h => by
                    by_cases hjn : j < n
                    · exact HJ.out j hj hjn
                    · obtain rfl : j = n := by omega
                      rw [HX.out]; exact hxa)⟩
                  case measure => simp [intOf]; omega
                · have d1 : decide ((x : Int) < (a : Int)) = false := by simp; omega
                  have d2 : decide (x < a) = false := by simp; omega
                  have hls := lfs_stop (L := L) (a := a) (n := n) (by rw [HLN.out]; exact ha) (by rw [HLL.out]; omega) (fun j hj h => by simp only [HLL.out] at hj ⊢; exact HJ.out j hj h) (fun hj => by simp only [HLL.out] at hj ⊢; rw [HX.out]; omega)
                  rw [HLL.out, ← HG2.out] at hls
                  have HLS := hid hls
                  clear hls hxa
                  have hc3 : Chg [] wm (wm.alloc (.cells #[.int .i64 ((n : Int) + 1), .int .i64 ((a : Int) - (g : Int) + 1)] 38)) := (Chg.refl [] wm).alloc _
                  have hv5 := View.struct wm [.int .i64 ((n : Int) + 1), .int .i64 ((a : Int) - (g : Int) + 1)] 38 (k := 2) rfl
                  go_wp2_with (at_builtin; refine wpList_grew rfl _ _ 54 rfl elem_place rfl (HF.out.2.2.keep hc3 (by simp)) rfl hv5 (by simp [Value.oneCell']) (by unfold maxLen; omega) (by omega) (fun ao' cap' r' w3 hr3 hg3 => halt (fun X hX => ?_)))
                  rw [hX.out]; clear hX
                  have hfs := fresh_step HF.out.2.1 HF.out.1 hc3 hg3.fresh
                  have hcs := own_step HF.out.2.1 HF.out.1 hc3 hg3.chg
                  rw [show ((xs.take k).map (plOf L)).flatMap plC ++ [.int .i64 ((n : Int) + 1), .int .i64 ((a : Int) - (g : Int) + 1)] = ((xs.take (k + 1)).map (plOf L)).flatMap plC from by
                    rw [HTS.out, List.flatMap_append, HLS.out.1]
                    have h5 := HLS.out.2
                    simp [plC]
                    omega] at hr3
                  have HR3 := hid (And.intro hr3 (And.intro hfs hcs))
                  clear hr3 hfs hcs hg3 hc3 hv5
                  go_wp2
                  go_roundw
                  case rel => exact ⟨k + 1, ao', cap', r', by omega, by go_num, rfl, HR3.out.1, HR3.out.2.1, HR3.out.2.2⟩
                  case measure => simp [intOf]; omega
              · have hls := lfs_stop (L := L) (a := a) (n := n) (by rw [HLN.out]; exact ha) (by rw [HLL.out]; omega) (fun j hj h => by simp only [HLL.out] at hj ⊢; exact HJ.out j hj h) (fun hj => by rw [HLL.out] at hj; omega)
                rw [HLL.out, ← HG2.out] at hls
                have HLS := hid hls
                clear hls
                have hc3 : Chg [] wm (wm.alloc (.cells #[.int .i64 ((n : Int) + 1), .int .i64 ((a : Int) - (g : Int) + 1)] 38)) := (Chg.refl [] wm).alloc _
                have hv5 := View.struct wm [.int .i64 ((n : Int) + 1), .int .i64 ((a : Int) - (g : Int) + 1)] 38 (k := 2) rfl
                go_wp2_with (at_builtin; refine wpList_grew rfl _ _ 54 rfl elem_place rfl (HF.out.2.2.keep hc3 (by simp)) rfl hv5 (by simp [Value.oneCell']) (by unfold maxLen; omega) (by omega) (fun ao' cap' r' w3 hr3 hg3 => halt (fun X hX => ?_)))
                rw [hX.out]; clear hX
                have hfs := fresh_step HF.out.2.1 HF.out.1 hc3 hg3.fresh
                have hcs := own_step HF.out.2.1 HF.out.1 hc3 hg3.chg
                rw [show ((xs.take k).map (plOf L)).flatMap plC ++ [.int .i64 ((n : Int) + 1), .int .i64 ((a : Int) - (g : Int) + 1)] = ((xs.take (k + 1)).map (plOf L)).flatMap plC from by
                  rw [HTS.out, List.flatMap_append, HLS.out.1]
                  have h5 := HLS.out.2
                  simp [plC]
                  omega] at hr3
                have HR3 := hid (And.intro hr3 (And.intro hfs hcs))
                clear hr3 hfs hcs hg3 hc3 hv5
                go_wp2
                go_roundw
                case rel => exact ⟨k + 1, ao', cap', r', by omega, by go_num, rfl, HR3.out.1, HR3.out.2.1, HR3.out.2.2⟩
                case measure => simp [intOf]; omega
          · rw [plOf_out L HLN.out (by omega)] at hts
            have HTS := hid hts
            have HF := hid (And.intro hf (And.intro hch hrow))
            clear hts hrow hf hch
            by_cases hneg : x < 0
            · have d1 : decide (x < 0) = true := decide_eq_true hneg
              have hc3 : Chg [] wr (wr.alloc (.cells #[.int .i64 0, .int .i64 0] 38)) := (Chg.refl [] wr).alloc _
              have hv5 := View.struct wr [.int .i64 0, .int .i64 0] 38 (k := 2) rfl
              go_wp2_with (at_builtin; refine wpList_grew rfl _ _ 54 rfl elem_place rfl (HF.out.2.2.keep hc3 (by simp)) rfl hv5 (by simp [Value.oneCell']) (by unfold maxLen; omega) (by omega) (fun ao' cap' r' w3 hr3 hg3 => halt (fun X hX => ?_)))
              rw [hX.out]; clear hX
              have hfs := fresh_step HF.out.2.1 HF.out.1 hc3 hg3.fresh
              have hcs := own_step HF.out.2.1 HF.out.1 hc3 hg3.chg
              rw [show ((xs.take k).map (plOf L)).flatMap plC ++ [.int .i64 0, .int .i64 0] = ((xs.take (k + 1)).map (plOf L)).flatMap plC from by rw [HTS.out, List.flatMap_append]; rfl] at hr3
              have HR3 := hid (And.intro hr3 (And.intro hfs hcs))
              clear hr3 hfs hcs hg3 hc3 hv5
              go_wp2
              go_roundw
              case rel => exact ⟨k + 1, ao', cap', r', by omega, by go_num, rfl, HR3.out.1, HR3.out.2.1, HR3.out.2.2⟩
              case measure => simp [intOf]; omega
            · have d1 : decide (x < 0) = false := decide_eq_false hneg
              have d2 : decide ((s.size : Int) < x) = true := decide_eq_true (by omega)
              have hc3 : Chg [] wr (wr.alloc (.cells #[.int .i64 0, .int .i64 0] 38)) := (Chg.refl [] wr).alloc _
              have hv5 := View.struct wr [.int .i64 0, .int .i64 0] 38 (k := 2) rfl
              go_wp2_with (at_builtin; refine wpList_grew rfl _ _ 54 rfl elem_place rfl (HF.out.2.2.keep hc3 (by simp)) rfl hv5 (by simp [Value.oneCell']) (by unfold maxLen; omega) (by omega) (fun ao' cap' r' w3 hr3 hg3 => halt (fun X hX => ?_)))
              rw [hX.out]; clear hX
              have hfs := fresh_step HF.out.2.1 HF.out.1 hc3 hg3.fresh
              have hcs := own_step HF.out.2.1 HF.out.1 hc3 hg3.chg
              rw [show ((xs.take k).map (plOf L)).flatMap plC ++ [.int .i64 0, .int .i64 0] = ((xs.take (k + 1)).map (plOf L)).flatMap plC from by rw [HTS.out, List.flatMap_append]; rfl] at hr3
              have HR3 := hid (And.intro hr3 (And.intro hfs hcs))
              clear hr3 hfs hcs hg3 hc3 hv5
              go_wp2
              go_roundw
              case rel => exact ⟨k + 1, ao', cap', r', by omega, by go_num, rfl, HR3.out.1, HR3.out.2.1, HR3.out.2.2⟩
              case measure => simp [intOf]; omega
        · obtain rfl : k = xs.length := by omega
          have HF := hid (And.intro hf (And.intro hch hrow))
          clear hf hch hrow
          go_wp2
          go_ret
          exact newP_mk HF.out.2.2 (by simp) (by rw [List.take_length]) (fun g hg => .inr (by have := (HF.out.1 g hg).resolve_left (by simp); have := HRL.out.2.1.size; omega)) (HRL.out.2.1.trans' HF.out.2.1)
end
end Go.Proofs.YtmahcabidggmeaaDoor

/- Walks of the law ParseGaps: a text without line feeds, the numbers up to one, the tokens. -/
set_option linter.unusedVariables false
set_option linter.unusedSectionVars false
set_option linter.unusedSimpArgs false
namespace Go.AB
open Go.RowKit
theorem take_snoc8 {α : Type} (l : List α) (j : Nat) (h : j < l.length) : l.take (j + 1) = l.take j ++ [l[j]] := List.take_succ_eq_append_getElem h
/-- A text's bytes that are no line feeds. -/
def noLf (l : List UInt8) : List UInt8 := l.filter fun c => decide (c.toNat ≠ 10)
theorem noLf_len (l : List UInt8) : (noLf l).length ≤ l.length := List.length_filter_le _ _
theorem noLf_mem {l : List UInt8} : ∀ c ∈ noLf l, c.toNat ≠ 10 := fun c hc => of_decide_eq_true (List.mem_filter.1 hc).2
theorem noLf_yes {l : List UInt8} {j : Nat} (h : j < l.length) (hc : l[j].toNat ≠ 10) : noLf (l.take (j + 1)) = noLf (l.take j) ++ [l[j]] := by
  rw [take_snoc8 l j h]
  unfold noLf
  rw [List.filter_append]
  congr 1
  simp [List.filter_cons, hc]
theorem noLf_no {l : List UInt8} {j : Nat} (h : j < l.length) (hc : l[j].toNat = 10) : noLf (l.take (j + 1)) = noLf (l.take j) := by
  rw [take_snoc8 l j h]
  unfold noLf
  rw [List.filter_append]
  simp [List.filter_cons, hc]
def numsTo (n : Nat) : List Int := (List.range n).map fun i : Nat => (i : Int)
theorem numsTo_len (n : Nat) : (numsTo n).length = n := by simp [numsTo]
theorem numsTo_succ (n : Nat) : numsTo (n + 1) = numsTo n ++ [(n : Int)] := by simp [numsTo, List.range_succ]
end Go.AB
namespace Go.Proofs.YtmahcabidggmeaaDoor
open Go.RowKit Go.AB
set_option linter.unusedSimpArgs false
set_option linter.unusedVariables false
set_option linter.unusedSectionVars false

set_option maxHeartbeats 4000000 in
set_option maxRecDepth 100000 in
theorem all_calls (n : Nat) (hn : n ≤ 1048576) (w : World) : Calls Tryd.prog 25 #[.int .i64 n] w fun e w' => ∃ ao cap r, e = .returned (.slice ao (n + 1) cap) ∧ Row w' 3 1 (.slice ao (n + 1) cap) r (n + 1) ((numsTo (n + 1)).map (Value.int .i64)) ∧ Chg [] w w' ∧ Fresh w none r := by
  go_enter Tryd.func25, Tryd.ntmps25
  go_upto_region 3 with fail
  go_loopg [3, 4] (n + 1) (fun gk v3 v4 wr => ∃ (i : Nat) (ao : Option Addr) (cap : Nat) (r : Option Nat), gk + i = n + 1 ∧ v4 = .int .i64 i ∧ v3 = .slice ao i cap ∧ Row wr 3 1 (.slice ao i cap) r i ((numsTo i).map (Value.int .i64)) ∧ Fresh w none r ∧ Chg [] w wr)
  case atStart => exact ⟨0, none, 0, none, by omega, rfl, rfl, Row.nil _ _ _, Fresh.refl _ _, Chg.refl _ _⟩
  case round =>
    obtain ⟨i, ao, cap, r, hg, rfl, rfl, hrow, hf, hch⟩ := hrel
    by_cases hlt : i ≤ n
    · have HF := hid (And.intro hf hch)
      have HS := hid (numsTo_succ i)
      have HG := hid hg
      have hrow' := fun o => hrow.keep ((Chg.refl [] wr).alloc o) (by simp)
      have HR := hid hrow
      clear hf hch hg hrow
      obtain ⟨l, hl⟩ : ∃ l, numsTo i = l := ⟨_, rfl⟩
      rw [hl] at hrow' HR HS
      clear hl
      go_wp2_with (at_builtin; refine wpList_grew rfl _ _ 56 rfl elem_int rfl (hrow' _) rfl (View.one wr (.int .i64 i) 3) (by simp [Value.oneCell']) (by unfold maxLen; omega) (by omega) (fun ao2 cap2 r2 w2 hr2 hg2 => halt (fun X hX => ?_)))
      rw [hX.out]; clear hX
      have hc2 : Chg [] w w2 := (HF.out.2.alloc _).trans hg2.chg (fun x hx => .inr (by have := HF.out.1 x (by simpa using hx); have := this.resolve_left (by simp); omega))
      have hf2 : Fresh w none r2 := HF.out.1.trans (by have := HF.out.2.size; simp; omega) hg2.fresh
      have HZ := hid (And.intro hr2 (And.intro hf2 hc2))
      clear hr2 hg2 hc2 hf2 hrow'
      go_wp2_with fail
      go_roundg (gk - 1)
      case measure => have := HG.out; omega
      case rel => exact ⟨i + 1, ao2, cap2, r2, by have := HG.out; omega, by go_num, rfl, by rw [HS.out, List.map_append]; exact HZ.out.1, HZ.out.2.1, HZ.out.2.2⟩
    · obtain rfl : i = n + 1 := by omega
      go_wp2
      go_ret
      exact ⟨ao, cap, r, rfl, hrow, hch, hf⟩

set_option maxHeartbeats 4000000 in
set_option maxRecDepth 100000 in
theorem oneLine_calls (s : ByteArray) (hs : s.size ≤ 1048576) (w : World) : Calls Tryd.prog 23 #[.string s] w fun e w' => e = .returned (.string (bA (noLf s.data.toList))) ∧ Chg [] w w' := by
  have HL : Hid (s.data.toList.length = s.size) := hid (data_len s)
  obtain ⟨L, hL⟩ : ∃ L, s.data.toList = L := ⟨_, rfl⟩
  have HB := hid (fun k (hk : k < s.size) (hk2 : k < L.length) => (show s[k] = L[k] by subst hL; rfl))
  rw [hL] at HL ⊢
  go_enter Tryd.func23, Tryd.ntmps23
  go_upto_region 3 with fail
  go_loopg [3, 4] s.size (fun gk v3 v4 wr => ∃ (i m : Nat) (ao : Option Addr) (cap : Nat) (r : Option Nat) (l : List UInt8), gk + i = s.size ∧ v4 = .int .i64 i ∧ v3 = .slice ao m cap ∧ m ≤ i ∧ Row wr 5 1 (.slice ao m cap) r m (l.map B) ∧ Fresh w none r ∧ Chg [] w wr ∧ Hid (noLf (L.take i) = l))
  case atStart => exact ⟨0, 0, none, 0, none, [], by omega, rfl, rfl, by omega, Row.nil _ _ _, Fresh.refl _ _, Chg.refl _ _, rfl⟩
  case round =>
    obtain ⟨i, m, ao, cap, r, l, hg, rfl, rfl, hmi, hrow, hf, hch, HN⟩ := hrel
    by_cases hlt : i < s.size
    · have hk2 : i < L.length := by rw [HL.out]; exact hlt
      have hb := HB.out i hlt hk2
      have HF := hid (And.intro hf hch)
      have HG := hid hg
      by_cases h10 : s[i].toNat = 10
      · have e1 : ((s[i].toNat : Int) != 10) = false := by simp; omega
        have hno := noLf_no hk2 (by rw [← hb]; exact h10)
        have HZ := hid (And.intro hno hrow)
        clear hf hch hg hno hb h10 hrow
        go_wp2_with fail
        go_roundg (gk - 1)
        case measure => have := HG.out; omega
        case rel => exact ⟨i + 1, m, ao, cap, r, l, by have := HG.out; omega, by go_num, rfl, by omega, HZ.out.2, HF.out.1, HF.out.2, hid (by rw [HZ.out.1]; exact HN.out)⟩
      · have e1 : ((s[i].toNat : Int) != 10) = true := by simp; omega
        have hno := noLf_yes hk2 (by rw [← hb]; exact h10)
        rw [← hb] at hno
        have HZ := hid hno
        have hrow' := fun o => hrow.keep ((Chg.refl [] wr).alloc o) (by simp)
        clear hf hch hg hno hb h10
        go_wp2_with (at_builtin; refine wpList_grew rfl _ _ 72 rfl elem_u8 rfl (hrow' _) rfl (View.one wr (.int .u8 (s[i].toNat : Int)) 5) (by simp [Value.oneCell']) (by unfold maxLen; omega) (by omega) (fun ao2 cap2 r2 w2 hr2 hg2 => halt (fun X hX => ?_)))
        rw [hX.out]; clear hX
        have hc2 : Chg [] w w2 := (HF.out.2.alloc _).trans hg2.chg (fun x hx => .inr (by have := HF.out.1 x (by simpa using hx); have := this.resolve_left (by simp); omega))
        have hf2 : Fresh w none r2 := HF.out.1.trans (by have := HF.out.2.size; simp; omega) hg2.fresh
        have HY := hid (And.intro hr2 (And.intro hf2 hc2))
        clear hr2 hg2 hc2 hf2 hrow' hrow
        go_wp2_with fail
        go_roundg (gk - 1)
        case measure => have := HG.out; omega
        case rel => exact ⟨i + 1, m + 1, ao2, cap2, r2, l ++ [s[i]], by have := HG.out; omega, by go_num, rfl, by omega, by rw [List.map_append]; exact HY.out.1, HY.out.2.1, HY.out.2.2, hid (by rw [HZ.out, HN.out])⟩
    · have hall : L.take i = L := List.take_of_length_le (by rw [HL.out]; omega)
      rw [hall] at HN
      have hcv := run_conv_view (P := Tryd.prog) (src := 72) (dst := 9) (e := 5) Tryd.underlying72 Tryd.underlying5 Tryd.underlying9 hrow.view wr rfl
      go_wp2
      go_ret
      exact ⟨by rw [HN.out]; rfl, hch⟩

def TokOk (w : World) (ts : List Tok) (e : Ending) (w' : World) : Prop :=
  ∃ ao cap, e = .returned (.tuple #[.slice ao ts.length cap, .agg #[.int .i64 0, .int .i64 0, .int .i64 0]]) ∧ Lst tkC 5 w' (.slice ao ts.length cap) ts ∧ Chg [] w w'
def TokBad (w : World) (e : Ending) (w' : World) : Prop :=
  ∃ (ao : Option Addr) (cap : Nat) (f0 f1 f2 : Int), (f0 == 0) = false ∧ (f0 != 0) = true ∧ e = .returned (.tuple #[.slice ao 0 cap, .agg #[.int .i64 f0, .int .i64 f1, .int .i64 f2]]) ∧ Chg [] w w'
theorem tokens_ok {s : ByteArray} (w : World) (hs : s.size ≤ 1048576) {ts : List Tok} (h : scanD s.data.toList 1 1 = (ts, (0, 0, 0))) : Calls Tryd.prog 22 #[.string s] w (TokOk w ts) := by
  have hT : tokensB s.data.toList = (ts, (0, 0, 0)) := by unfold tokensB; rw [h]; rfl
  have hc := tokens_calls w hs s.data.toList rfl
  rw [hT] at hc
  refine hc.mono ?_
  rintro e w' ⟨ts', ao, cap, r, rfl, h1, h2, h3, HL⟩
  obtain rfl : ts' = ts := HL.out
  exact ⟨ao, cap, rfl, h1.view, h3⟩
theorem tokens_bad {s : ByteArray} (w : World) (hs : s.size ≤ 1048576) (h : (scanD s.data.toList 1 1).2.1 ≠ 0) : Calls Tryd.prog 22 #[.string s] w (TokBad w) := by
  have hT : tokensB s.data.toList = ([], (scanD s.data.toList 1 1).2) := by unfold tokensB; rw [if_neg h]
  have hc := tokens_calls w hs s.data.toList rfl
  rw [hT] at hc
  refine hc.mono ?_
  rintro e w' ⟨ts', ao, cap, r, rfl, h1, h2, h3, HL⟩
  obtain rfl : ts' = [] := HL.out
  exact ⟨ao, cap, (scanD s.data.toList 1 1).2.1, _, _, by simp; omega, by simp; omega, rfl, h3⟩
end Go.Proofs.YtmahcabidggmeaaDoor

/- The law ParseGaps: its walk. -/
set_option linter.unusedVariables false
set_option linter.unusedSectionVars false
set_option linter.unusedSimpArgs false
namespace Go.AB
open Go.RowKit
def sameLn : Int → Int → Int → Int → Prop := fun l _ l' _ => l = l'
theorem pos_plAt (L : List UInt8) (g : Nat) : pos (1, 1) (L.take g) = plAt L g := rfl
def ltP (p q : Nat × Nat) : Prop := p.1 < q.1 ∨ (p.1 = q.1 ∧ p.2 < q.2)
theorem ltP.trans {a b c : Nat × Nat} (h : ltP a b) (k : ltP b c) : ltP a c := by unfold ltP at *; omega
theorem ltP_step (p : Nat × Nat) (c : UInt8) : ltP p (plStep p c) := by
  unfold ltP plStep
  split <;> simp
theorem plAt_lt {L : List UInt8} {a : Nat} : ∀ k, a + (k + 1) ≤ L.length → ltP (plAt L a) (plAt L (a + (k + 1)))
  | 0, h => by rw [plAt_succ L a (by omega)]; exact ltP_step _ _
  | k + 1, h => by
    have h1 := plAt_lt (L := L) (a := a) k (by omega)
    rw [show a + (k + 1 + 1) = (a + (k + 1)) + 1 from by omega, plAt_succ L (a + (k + 1)) (by omega)]
    exact h1.trans (ltP_step _ _)
theorem plAt_inj {L : List UInt8} {a b : Nat} (ha : a ≤ L.length) (hb : b ≤ L.length) (h : plAt L a = plAt L b) : a = b := by
  rcases Nat.lt_trichotomy a b with hlt | rfl | hlt
  · have h1 := plAt_lt (L := L) (a := a) (b - a - 1) (by omega)
    rw [show a + (b - a - 1 + 1) = b from by omega, ← h] at h1
    unfold ltP at h1
    omega
  · rfl
  · have h1 := plAt_lt (L := L) (a := b) (a - b - 1) (by omega)
    rw [show b + (a - b - 1 + 1) = a from by omega, h] at h1
    unfold ltP at h1
    omega
theorem right_tok (ln m : Nat) (t : Tok) : TkR sameLn t (Tok.right ln m t) := by
  unfold Tok.right
  split <;> exact ⟨rfl, rfl, rfl, rfl⟩
theorem right_rel (ln m : Nat) : ∀ l : List Tok, All2 (TkR sameLn) l (l.map (Tok.right ln m))
  | [] => .nil
  | t :: l => .cons (right_tok ln m t) (right_rel ln m l)
/-- A gap ahead of a token: the same unit but for columns, or the same fault on the same line. -/
theorem gaps_rel {L : List UInt8} {ts : List Tok} (h : Lexed L (1, 1) ts) (k : Nat) (hk : k < ts.length) : ∃ g, g ≤ L.length ∧ plAt L g = (ts[k].line, ts[k].col) ∧ ∀ put, PutOk ts[k].kind put → ExR sameLn (UnR sameLn) (sourceD L) (sourceD (L.take g ++ put ++ L.drop g)) := by
  obtain ⟨g, hg, hp, _, _, hput⟩ := h.insert k hk
  refine ⟨g, hg, by rw [← pos_plAt]; exact hp, fun put hpo => ?_⟩
  have h2 := hput put hpo
  have e1 := h.scan
  have e2 := h2.scan
  simp only at e1 e2
  unfold sourceD
  rw [e1, e2]
  simp only [if_true]
  have hr : All2 (TkR sameLn) ts (ts.take k ++ (ts.drop k).map (Tok.right ts[k].line put.length)) := by
    have h3 := (All2.same (R := TkR sameLn) (fun t => ⟨rfl, rfl, rfl, rfl⟩) (ts.take k)).app (right_rel ts[k].line put.length (ts.drop k))
    rw [List.take_append_drop] at h3
    exact h3
  exact unitT_rel hr
theorem rem_idx (a : Int) {n : Nat} (hn : 0 < n) : ∃ k : Nat, k < n ∧ (a.tmod n + n).tmod n = (k : Int) := by
  have h1 := Int.lt_tmod_of_pos a (show (0 : Int) < n by omega)
  have h2 : (0 : Int) ≤ a.tmod n + n := by omega
  have h3 := Int.tmod_nonneg (n : Int) h2
  have h4 := Int.tmod_lt_of_pos (a.tmod n + n) (show (0 : Int) < n by omega)
  exact ⟨((a.tmod n + n).tmod n).toNat, by omega, by omega⟩
def PutRel (kd : Nat) (p : Value) : Prop := ∃ (pb : ByteArray) (put : List UInt8), p = .string pb ∧ pb.size ≤ 1048580 ∧ pb.data.toList = put ∧ PutOk kd put
theorem gap_list (s pb : ByteArray) (g : Nat) : (s.extract 0 g ++ pb ++ s.extract g s.size).data.toList = s.data.toList.take g ++ pb.data.toList ++ s.data.toList.drop g := by
  rw [ByteArray.data_append, ByteArray.data_append, Array.toList_append, Array.toList_append, Lib.extract_data, Lib.extract_data, List.drop_zero, Nat.sub_zero]
  congr 1
  exact List.take_of_length_le (by rw [List.length_drop, data_len]; omega)
end Go.AB
namespace Go.Proofs.YtmahcabidggmeaaDoor
open Go.RowKit Go.AB
set_option linter.unusedSimpArgs false
set_option linter.unusedVariables false
set_option linter.unusedSectionVars false

set_option maxHeartbeats 8000000 in
set_option maxRecDepth 100000 in
theorem gaps_bad (s : ByteArray) (at_ : Int) (rm : ByteArray) (hs : s.size ≤ 1048576) (w : World) (hv : VarsP w) (hf : (scanD s.data.toList 1 1).2.1 ≠ 0) : Calls Tryd.prog 7 #[.string s, .int .i64 at_, .string rm] w fun e w' => e = .returned (.bool true) ∧ Chg [] w w' := by
  have HV := hid hv
  have HT := hid fun u => tokens_bad u hs hf
  clear hv hf
  go_enter Tryd.func7, Tryd.ntmps7
  go_wp2_with (go_at_call 16; refine (lives_calls _ HV.out).mono ?_; rintro e w1 ⟨rfl, hc1⟩; refine halt (fun XX hXX => ?_))
  have HC1 := hid hc1
  clear hc1
  rw [hXX.out]; clear hXX XX
  go_wp2_with (go_at_call 22; refine (HT.out _).mono ?_; rintro e w2 ⟨ao1, cap1, f0, f1, f2, g1, g2, rfl, hc2⟩; refine halt (fun XX hXX => ?_))
  have HC2 := hid (HC1.out.trans' hc2)
  rw [hXX.out]; clear hXX XX
  go_wp2
  go_ret
  exact ⟨rfl, HC2.out.alloc _⟩
end Go.Proofs.YtmahcabidggmeaaDoor

/- The law ParseGaps: its walk, of a text that has tokens. -/
set_option linter.unusedVariables false
set_option linter.unusedSectionVars false
set_option linter.unusedSimpArgs false
namespace Go.Proofs.YtmahcabidggmeaaDoor
open Go.RowKit Go.AB
set_option linter.unusedSimpArgs false
set_option linter.unusedVariables false
set_option linter.unusedSectionVars false

/-- A unit and a fault in two boxes, of a text. -/
def OutU (s : ByteArray) (w9 wx : World) (P F : Nat) : Prop := ∃ ao n cap bo m cap2 fc fl fk, wx.heap[P]? = some (.cells #[.slice ao n cap, .slice bo m cap2] 32 (0, 0)) ∧ wx.heap[F]? = some (.cells #[.int .i64 fc, .int .i64 fl, .int .i64 fk] 40 (0, 0)) ∧ Chg [] w9 wx ∧
  ((∃ f, sourceD s.data.toList = .error f ∧ fc = f.code ∧ fl = f.l ∧ fk = f.c ∧ fc ≠ 0 ∧ ao = none ∧ n = 0 ∧ cap = 0 ∧ bo = none ∧ m = 0 ∧ cap2 = 0) ∨ (∃ u, sourceD s.data.toList = .ok u ∧ fc = 0 ∧ fl = 0 ∧ fk = 0 ∧ UnV wx (.agg #[.slice ao n cap, .slice bo m cap2]) u ∧ SmallN u))
/-- Two boxes are written. -/
theorem two_set {V : World} {p q : Nat} (hpq : p ≠ q) {a0 a1 b0 b1 b2 : Value} (hu : V.heap[p]? = some (.cells #[a0, a1] 32 (0, 0))) (hf : V.heap[q]? = some (.cells #[b0, b1, b2] 40 (0, 0))) (u0 u1 f0 f1 f2 : Value) :
    (((((V.setCell ⟨p, 0, none⟩ u0).setCell ⟨p, 1, none⟩ u1).setCell ⟨q, 0, none⟩ f0).setCell ⟨q, 1, none⟩ f1).setCell ⟨q, 2, none⟩ f2).heap[p]? = some (.cells #[u0, u1] 32 (0, 0)) ∧
    (((((V.setCell ⟨p, 0, none⟩ u0).setCell ⟨p, 1, none⟩ u1).setCell ⟨q, 0, none⟩ f0).setCell ⟨q, 1, none⟩ f1).setCell ⟨q, 2, none⟩ f2).heap[q]? = some (.cells #[f0, f1, f2] 40 (0, 0)) := by
  have h1 := blk_set (blk_set hu 0 u0) 1 u1
  have h2 : ((V.setCell ⟨p, 0, none⟩ u0).setCell ⟨p, 1, none⟩ u1).heap[q]? = some (.cells #[b0, b1, b2] 40 (0, 0)) := by
    rw [blk_set_other hpq.symm, blk_set_other hpq.symm]
    exact hf
  refine ⟨?_, blk_set (blk_set (blk_set h2 0 f0) 1 f1) 2 f2⟩
  rw [blk_set_other hpq, blk_set_other hpq, blk_set_other hpq]
  exact h1
theorem out_mk {s2 : ByteArray} {w9 pre w10 W : World} {P F : Nat} {ao bo : Option Addr} {n cap m cap2 : Nat} {fc fl fk : Int}
    (hB : (∃ f, sourceD s2.data.toList = .error f ∧ fc = f.code ∧ fl = f.l ∧ fk = f.c ∧ fc ≠ 0 ∧ ao = none ∧ n = 0 ∧ cap = 0 ∧ bo = none ∧ m = 0 ∧ cap2 = 0) ∨ (∃ u, sourceD s2.data.toList = .ok u ∧ fc = 0 ∧ fl = 0 ∧ fk = 0 ∧ UnH pre w10 (.agg #[.slice ao n cap, .slice bo m cap2]) u ∧ SmallN u ∧ u.decls.length = n ∧ u.blocks.length = m))
    (hp : W.heap[P]? = some (.cells #[.slice ao n cap, .slice bo m cap2] 32 (0, 0)) ∧ W.heap[F]? = some (.cells #[.int .i64 fc, .int .i64 fl, .int .i64 fk] 40 (0, 0)))
    (hpre : Chg [] w9 pre) (hc10 : Chg [] pre w10) {S : List Nat} (hcS : Chg S w10 W) (hS : ∀ x ∈ S, w9.heap.size ≤ x ∧ x < pre.heap.size) : OutU s2 w9 W P F := by
  refine ⟨_, _, _, _, _, _, _, _, _, hp.1, hp.2, (hpre.trans' hc10).trans hcS (fun x hx => .inr (hS x hx).1), ?_⟩
  rcases hB with h | ⟨u, h1, h2, h3, h4, h5, h6, _, _⟩
  · exact .inl h
  · exact .inr ⟨u, h1, h2, h3, h4, h5.later hcS (fun x hx => (hS x hx).2), h6⟩
theorem plC_len (p : Nat × Nat) : (plC p).length = 2 := rfl
set_option maxHeartbeats 16000000 in
set_option maxRecDepth 100000 in
theorem gaps_main (s : ByteArray) (at_ : Int) (rm : ByteArray) (hs : s.size ≤ 1048576) (hr : rm.size ≤ 1048576) (w : World) (hv : VarsP w) {ts : List Tok} (hlx : Lexed s.data.toList (1, 1) ts) (hn0 : 0 < ts.length) (hn : ts.length ≤ 1048577) : Calls Tryd.prog 7 #[.string s, .int .i64 at_, .string rm] w fun e w' => e = .returned (.bool true) ∧ Chg [] w w' := by
  have HV := hid hv
  have HT := hid fun u => tokens_ok u hs hlx.scan
  have g4 : ((ts.length : Int) == 0) = false := by rw [beq_eq_false_iff_ne]; omega
  have g5 : (ts.length == 0) = false := by rw [beq_eq_false_iff_ne]; omega
  have hmod1 := Int.tmod_lt_of_pos at_ (show (0 : Int) < ts.length by omega)
  have hmod2 := Int.lt_tmod_of_pos at_ (show (0 : Int) < ts.length by omega)
  obtain ⟨k, hk, hq⟩ := rem_idx at_ hn0
  obtain ⟨g, hg, hpl, hrel⟩ := gaps_rel hlx k hk
  have HREL := hid hrel
  obtain ⟨x, hx⟩ : ∃ x, ts[k] = x := ⟨_, rfl⟩
  rw [hx] at hpl HREL
  have HX := hid hx
  have HPL := hid hpl
  have hg2 : g ≤ s.size := by rw [data_len] at hg; exact hg
  clear hv hlx hrel hx hpl hg
  go_enter Tryd.func7, Tryd.ntmps7
  go_wp2_with (go_at_call 16; refine (lives_calls _ HV.out).mono ?_; rintro e w1 ⟨rfl, hc1⟩; refine halt (fun XX hXX => ?_))
  have HC1 := hid hc1
  clear hc1
  rw [hXX.out]; clear hXX XX
  go_wp2_with (go_at_call 22; refine (HT.out _).mono ?_; rintro e w2 ⟨ao1, cap1, rfl, hls, hc2⟩; refine halt (fun XX hXX => ?_))
  obtain ⟨bb, ob, rfl, hcl⟩ := hls.at tkC_len hk (by omega)
  rw [HX.out] at hcl
  have HLS := hid hls
  have HC2 := hid (HC1.out.trans' hc2)
  obtain ⟨n, hnn⟩ : ∃ n, ts.length = n := ⟨_, rfl⟩
  rw [hnn] at hXX hk hmod1 hmod2 hq g4 g5 hn HLS hn0
  have a0 : w2.cell? ⟨bb, ob + k * 5, none⟩ = some (.int .i64 x.kind) := hcl 0 (by omega)
  have a3 : w2.cell? ⟨bb, ob + k * 5 + 3, none⟩ = some (.int .i64 x.line) := hcl 3 (by omega)
  have a4 : w2.cell? ⟨bb, ob + k * 5 + 4, none⟩ = some (.int .i64 x.col) := hcl 4 (by omega)
  have HA := hid (And.intro a0 (And.intro a3 a4))
  have HNN := hid hnn
  clear hc2 hcl hls a3 a4 hnn
  rw [hXX.out]; clear hXX XX
  have hCa : ∀ o, Chg [] w2 (w2.alloc o) := fun o => (Chg.refl [] w2).alloc o
  have b0 := fun o => (hCa o).cell a0 (by simp)
  have j1 : (k : Int) < (n : Int) := by omega
  clear a0
  go_upto_region 6 with fail
  obtain ⟨w3, hw3⟩ : ∃ w3, w2.alloc (.cells #[.int .i64 0, .int .i64 0, .int .i64 0] 40) = w3 := ⟨_, rfl⟩
  have hc3 : Chg [] w2 w3 := by rw [← hw3]; exact hCa _
  have b0 : w3.cell? ⟨bb, ob + k * 5, none⟩ = some (.int .i64 x.kind) := hc3.cell HA.out.1 (by simp)
  rw [hw3]
  have HC3 := hid (HC2.out.trans' hc3)
  have HK3 := hid hc3
  clear hw3 hCa hc3
  go_cut [9] (fun v wx => v = .int .i64 k ∧ w3 = wx)
  case first =>
    go_wp2_with fail
    go_meet
    exact ⟨by first | rfl | rw [hq], rfl⟩
  case rest =>
    obtain ⟨rfl, rfl⟩ := hcut
    clear hq hmod1 hmod2
    have hpk : (((x.kind : Int) == 6) = true ∧ ((x.kind : Int) == 7) = false ∧ (x.kind = 6 ∨ x.kind = 7)) ∨ (((x.kind : Int) == 6) = false ∧ ((x.kind : Int) == 7) = true ∧ (x.kind = 6 ∨ x.kind = 7)) ∨ (((x.kind : Int) == 6) = false ∧ ((x.kind : Int) == 7) = false ∧ ¬ (x.kind = 6 ∨ x.kind = 7)) := by
      by_cases h6 : x.kind = 6
      · rw [h6]; exact .inl ⟨rfl, rfl, .inl rfl⟩
      · by_cases h7 : x.kind = 7
        · rw [h7]; exact .inr (.inl ⟨rfl, rfl, .inr rfl⟩)
        · exact .inr (.inr ⟨by rw [beq_eq_false_iff_ne]; omega, by rw [beq_eq_false_iff_ne]; omega, by omega⟩)
    obtain ⟨bk, hbk⟩ : ∃ bk : Bool, bk = decide (x.kind = 6 ∨ x.kind = 7) := ⟨_, rfl⟩
    have HBK := hid hbk
    clear hbk
    go_upto_region 8 with fail
    go_cut [64] (fun v wx => v = .bool bk ∧ w3 = wx)
    case first =>
      rcases hpk with ⟨q1, q2, q3⟩ | ⟨q1, q2, q3⟩ | ⟨q1, q2, q3⟩
      · go_wp2_with fail
        go_meet
        exact ⟨by rw [HBK.out, decide_eq_true q3], rfl⟩
      · go_wp2_with fail
        go_meet
        exact ⟨by rw [HBK.out, decide_eq_true q3], rfl⟩
      · go_wp2_with fail
        go_meet
        exact ⟨by rw [HBK.out, decide_eq_false q3], rfl⟩
    case rest =>
    obtain ⟨rfl, rfl⟩ := hcut
    clear hpk
    go_upto_if 64 with fail
    go_cut [10] (fun p wx => Hid (PutRel x.kind p) ∧ Hid (Chg [] w3 wx))
    case first =>
      rcases Bool.eq_false_or_eq_true bk with hbk | hbk
      rotate_left 1
      · subst hbk
        go_wp2_with fail
        go_meet
        exact ⟨hid ⟨_, _, rfl, by show (2 : Nat) ≤ _; omega, rfl, by simp, by decide, .inl (by decide)⟩, hid (Chg.refl _ _)⟩
      · subst hbk
        have Q3 : Hid (x.kind = 6 ∨ x.kind = 7) := hid (of_decide_eq_true HBK.out.symm)
        obtain ⟨z, hz⟩ : ∃ z, bA (noLf rm.data.toList) = z := ⟨_, rfl⟩
        have hzs : z.size ≤ 1048576 := by rw [← hz, bA_size]; have := noLf_len rm.data.toList; rw [data_len] at this; omega
        have hol := oneLine_calls rm hr w3
        rw [hz] at hol
        have HOL := hid hol
        have HZ := hid hz
        clear hol hz
        go_wp2_with (go_at_call 23; refine HOL.out.mono ?_; rintro e w4 ⟨rfl, hc4⟩)
        go_meet
        have hzl : z.data.toList = noLf rm.data.toList := by rw [← HZ.out]; simp [bA]
        refine ⟨hid ⟨_, _, rfl, ?_, rfl, by simp, ?_, .inr ⟨Q3.out, 9, [32], z.data.toList, by simp, by decide, by simp; decide⟩⟩, hid hc4⟩
        · simp only [ByteArray.size_append]
          show 2 + 1 + z.size ≤ _
          omega
        · intro c hc
          have e : ((⟨#[9, 32]⟩ : ByteArray) ++ ⟨#[59]⟩ ++ z).data.toList = 9 :: 32 :: 59 :: z.data.toList := by simp
          rw [e, hzl] at hc
          simp only [List.mem_cons] at hc
          rcases hc with rfl | rfl | rfl | hc
          · decide
          · decide
          · decide
          · exact noLf_mem c hc
    case rest =>
      obtain ⟨hpr, hcx⟩ := hcut
      obtain ⟨pb, put, rfl, hpz, hpb, hpo⟩ := hpr.out
      subst hpb
      have HPO := hid (HREL.out pb.data.toList hpo)
      have HK4 := hid (HK3.out.trans' hcx.out)
      have HC4 := hid (HC3.out.trans' hcx.out)
      have HALL := hid fun u => all_calls s.size hs u
      clear hpo hpr hcx b0 HT
      go_wp2_with (go_at_call 25; refine (HALL.out _).mono ?_; rintro e w5 ⟨ao5, cap5, r5, rfl, hr5, hc5, hf5⟩; refine halt (fun XX hXX => ?_))
      have hl5 : (numsTo (s.size + 1)).length = s.size + 1 := numsTo_len _
      have hv5 : View w5 1 (.slice ao5 (numsTo (s.size + 1)).length cap5) (numsTo (s.size + 1)).length ((numsTo (s.size + 1)).map (Value.int .i64)) := by rw [hl5]; exact hr5.view
      have hpc := places_calls hs s.data.toList (hid rfl) w5 (ao := ao5) (cap := cap5) (numsTo (s.size + 1)) (by rw [hl5]; omega) hv5
      rw [hl5] at hpc
      have HPC := hid hpc
      have HC5 := hid (HC4.out.trans' hc5)
      have HK5 := hid (HK4.out.trans' hc5)
      clear hr5 hc5 hf5 hv5 hl5 hpc
      rw [hXX.out]; clear hXX XX
      go_wp2_with (go_at_call 24; refine HPC.out.mono ?_; rintro e w6 ⟨qs, ao6, cap6, r6, rfl, hr6, hf6, hc6, hq6⟩; refine halt (fun XX hXX => ?_))
      have hql : qs.length = s.size + 1 := by rw [hq6.out, List.length_map, numsTo_len]
      have HC6 := hid (HC5.out.trans' hc6)
      have HK6 := hid (HK5.out.trans' hc6)
      have hlq : Lst plC 2 w6 (.slice ao6 qs.length cap6) qs := hr6.view
      have HQ := hid (And.intro hq6.out hql)
      have HLQ := hid hlq
      rw [hql] at hXX HLQ
      clear hr6 hf6 hc6 hlq hql hq6 HPC HALL
      rw [hXX.out]; clear hXX XX
      go_upto_region 13 with fail
      go_loopg [12, 13] (s.size + 1) (fun gk v12 v13 wr => ∃ (i : Nat) (p : Int), Hid (gk + i = s.size + 1) ∧ v13 = .int .i64 i ∧ v12 = .int .i64 p ∧ Hid ((g < i ∧ p = g) ∨ (i ≤ g ∧ p = -1)) ∧ Hid (Chg [] w6 wr))
      case atStart => exact ⟨0, -1, hid (by omega), rfl, rfl, hid (.inr ⟨by omega, rfl⟩), hid (Chg.refl _ _)⟩
      case round =>
        obtain ⟨i, p, HG, rfl, rfl, HP, HR⟩ := hrel
        by_cases hlt : i < s.size + 1
        · have hiq : i < qs.length := by rw [HQ.out.2]; exact hlt
          obtain ⟨b2, o2, e2, c2⟩ := (HLQ.out.keep HR.out).at plC_len hiq (by omega)
          have hqi : qs[i] = plAt s.data.toList i := by
            have h1 : qs[i] = plOf s.data.toList ((numsTo (s.size + 1))[i]'(by rw [numsTo_len]; exact hlt)) := by simp only [HQ.out.1, List.getElem_map]
            rw [h1]
            simp only [numsTo, List.getElem_map, List.getElem_range]
            exact plOf_in s.data.toList (data_len s) (by omega)
          rw [hqi] at c2
          subst e2
          have hk3 := (HK6.out.trans' HR.out).cell HA.out.2.1 (by simp)
          have hk4 := (HK6.out.trans' HR.out).cell HA.out.2.2 (by simp)
          by_cases hig : i = g
          · subst hig
            have h1 := HPL.out
            rw [h1] at c2
            have y0 : wr.cell? ⟨b2, o2 + i * 2, none⟩ = some (.int .i64 (x.line : Int)) := c2 0 (by omega)
            have y1 : wr.cell? ⟨b2, o2 + i * 2 + 1, none⟩ = some (.int .i64 (x.col : Int)) := c2 1 (by omega)
            have hi1 : (i : Int) < ((s.size + 1 : Nat) : Int) := by omega
            clear c2 h1 hqi hiq
            have HZR := hid (And.intro HR.out HP.out)
            clear HP HR
            go_upto_region 15 with fail
            go_quiet (fail)
            go_wp2_with fail
            go_roundg (gk - 1)
            case measure => have := HG.out; omega
            case rel => exact ⟨i + 1, i, hid (by have := HG.out; omega), by go_num, rfl, hid (.inl ⟨by omega, rfl⟩), hid (HZR.out.1.drewN _)⟩
          · have hne : plAt s.data.toList i ≠ (x.line, x.col) := fun e => hig (plAt_inj (by rw [data_len]; omega) (by rw [data_len]; exact hg2) (e.trans HPL.out.symm))
            obtain ⟨⟨L0, C0⟩, hLC⟩ : ∃ q, plAt s.data.toList i = q := ⟨_, rfl⟩
            rw [hLC] at c2 hne
            have hzz : (L0 : Int) ≠ x.line ∨ ((L0 : Int) = x.line ∧ (C0 : Int) ≠ x.col) := by
              by_cases h1 : L0 = x.line
              · exact .inr ⟨by omega, fun h2 => hne (by rw [h1, show C0 = x.col from by omega])⟩
              · exact .inl (by omega)
            clear hLC
            have y0 : wr.cell? ⟨b2, o2 + i * 2, none⟩ = some (.int .i64 (L0 : Int)) := c2 0 (by omega)
            have y1 : wr.cell? ⟨b2, o2 + i * 2 + 1, none⟩ = some (.int .i64 (C0 : Int)) := c2 1 (by omega)
            have hi1 : (i : Int) < ((s.size + 1 : Nat) : Int) := by omega
            have HZR := hid (And.intro HR.out (And.intro HP.out hig))
            clear c2 hqi hiq HP HR hig hne
            rcases hzz with h1 | ⟨h1, h2⟩
            · have d1 : decide ((L0 : Int) = (x.line : Int)) = false := decide_eq_false h1
              have d2 : ((L0 : Int) == (x.line : Int)) = false := by simpa using h1
              clear h1
              go_upto_region 15 with fail
              go_quiet (fail)
              go_wp2_with fail
              go_roundg (gk - 1)
              case measure => have := HG.out; omega
              case rel => exact ⟨i + 1, p, hid (by have := HG.out; omega), by go_num, rfl, hid (by have := HZR.out.2; omega), hid (HZR.out.1.drewN _)⟩
            · rw [h1] at y0
              have d1 : decide ((C0 : Int) = (x.col : Int)) = false := decide_eq_false h2
              have d2 : ((C0 : Int) == (x.col : Int)) = false := by simpa using h2
              clear h1 h2
              go_upto_region 15 with fail
              go_quiet (fail)
              go_wp2_with fail
              go_roundg (gk - 1)
              case measure => have := HG.out; omega
              case rel => exact ⟨i + 1, p, hid (by have := HG.out; omega), by go_num, rfl, hid (by have := HZR.out.2; omega), hid (HZR.out.1.drewN _)⟩
        · obtain rfl : p = (g : Int) := by have := HP.out; have := HG.out; omega
          obtain ⟨w7, hw7⟩ : ∃ w7 : World, w7 = wr := ⟨_, rfl⟩
          rw [← hw7] at HR ⊢
          have HC7 := hid (HC6.out.trans' HR.out)
          clear hw7 HP HR HG
          have hz0 : decide ((g : Int) < 0) = false := decide_eq_false (by omega)
          by_cases hlong : 1048576 < s.size + pb.size
          · have d1 : decide ((1048576 : Int) < (s.size : Int) + (pb.size : Int)) = true := decide_eq_true (by omega)
            go_wp2
            go_ret
            exact ⟨rfl, HC7.out⟩
          · have d1 : decide ((1048576 : Int) < (s.size : Int) + (pb.size : Int)) = false := decide_eq_false (by omega)
            go_wp2_with (go_at_call 19; refine (unit_any s hs _ (HV.out.keep HC7.out)).mono ?_; rintro e w8 ⟨ao8, n8, c8, bo8, m8, d8, x8, y8, z8, rfl, hc8, hA⟩; refine halt (fun XX hXX => ?_))
            have HC8 := hid (HC7.out.trans' hc8)
            have HA8 := hid hA
            clear hc8 hA d1 hz0
            rw [hXX.out]; clear hXX XX
            go_upto_region 22 with fail
            have HU1 := hid (UF.mk' w8 (.slice ao8 n8 c8) (.slice bo8 m8 d8) x8 y8 z8)
            have HK9 := hid (uf_chg w8 (.slice ao8 n8 c8) (.slice bo8 m8 d8) x8 y8 z8)
            obtain ⟨w9, hw9⟩ : ∃ w9, (w8.alloc (.cells #[.slice ao8 n8 c8, .slice bo8 m8 d8] 32)).alloc (.cells #[.int .i64 x8, .int .i64 y8, .int .i64 z8] 40) = w9 := ⟨_, rfl⟩
            obtain ⟨P, hP⟩ : ∃ P, w8.heap.size = P := ⟨_, rfl⟩
            rw [hw9] at HK9
            rw [hP, hw9] at HU1
            try rw [hw9]
            try rw [hP]
            have HC9 := hid (HC8.out.trans' HK9.out)
            clear hw9 hP
            obtain ⟨s2, hs2⟩ : ∃ s2, s.extract 0 g ++ pb ++ s.extract g s.size = s2 := ⟨_, rfl⟩
            have hs2z : s2.size ≤ 1048576 := by
              rw [← hs2]
              simp only [ByteArray.size_append, ByteArray.size_extract]
              omega
            have HS2 := hid (gap_list s pb g)
            rw [hs2] at HS2
            have HSZ := hid hs2z
            have HUU := hid fun u (hc : Chg [] w9 u) => unit_any s2 hs2z u (HV.out.keep (HC9.out.trans' hc))
            rw [← hs2] at HUU
            have z1 : (0 : Int) ≤ (g : Int) := by omega
            have z2 : (g : Int) ≤ (s.size : Int) := by omega
            have hg3 : ¬ (9223372036854775807 < g + pb.size) := by omega
            have hg4 : ¬ (9223372036854775807 < g + pb.size + (s.size - g)) := by omega
            have HE2 := hid hs2
            clear hs2z hlong hs2
            go_cut [16, 17] (fun v16 v17 wx => ∃ P2 F2, v16 = .pointer (some ⟨P2, 0, none⟩) ∧ v17 = .pointer (some ⟨F2, 0, none⟩) ∧ Hid (OutU s2 w9 wx P2 F2))
            case first =>
              (refine wp_region_held_drew (S := (fun _ => True)) (by kernel_rfl) (by exact trivial) (fun hHeld => ?_); (refine wpAnyH_take (i := 0) (v := ?_) rfl (by kernel_rfl) (by kernel_rfl) (by kernel_rfl) (fun _ _ _ h => h) (Or.inl ⟨by rfl, ?_⟩) (by assumption) ?_; rotate_left 1; (focus (intro w hSw; (try dsimp only at hSw); go_simp; (try with_reducible rfl))); (try simp only [List.getElem_toArray, List.getElem_cons_zero, List.getElem_cons_succ, Act.put, List.setIfInBounds_toArray, List.set_cons_zero, List.set_cons_succ])); (refine wpAnyH_take (i := 1) (v := ?_) rfl (by kernel_rfl) (by kernel_rfl) (by kernel_rfl) (fun _ _ _ h => h) (Or.inl ⟨by rfl, ?_⟩) (by assumption) ?_; rotate_left 1; (focus (intro w hSw; (try dsimp only at hSw); go_simp; (try with_reducible rfl))); (try simp only [List.getElem_toArray, List.getElem_cons_zero, List.getElem_cons_succ, Act.put, List.setIfInBounds_toArray, List.set_cons_zero, List.set_cons_succ])); (refine wpAnyH_take (i := 2) (v := ?_) rfl (by kernel_rfl) (by kernel_rfl) (by kernel_rfl) (fun _ _ _ h => h) (Or.inl ⟨by rfl, ?_⟩) (by assumption) ?_; rotate_left 1; (focus (intro w hSw; (try dsimp only at hSw); go_simp; (try with_reducible rfl))); (try simp only [List.getElem_toArray, List.getElem_cons_zero, List.getElem_cons_succ, Act.put, List.setIfInBounds_toArray, List.set_cons_zero, List.set_cons_succ])); (refine wpAnyH_take (i := 3) (v := ?_) rfl (by kernel_rfl) (by kernel_rfl) (by kernel_rfl) (fun _ _ _ h => h) (Or.inl ⟨by rfl, ?_⟩) (by assumption) ?_; rotate_left 1; (focus (intro w hSw; (try dsimp only at hSw); go_simp; (try with_reducible rfl))); (try simp only [List.getElem_toArray, List.getElem_cons_zero, List.getElem_cons_succ, Act.put, List.setIfInBounds_toArray, List.set_cons_zero, List.set_cons_succ])); (refine wpAnyH_take (i := 4) (v := ?_) rfl (by kernel_rfl) (by kernel_rfl) (by kernel_rfl) (fun _ _ _ h => h) (Or.inl ⟨by rfl, ?_⟩) (by assumption) ?_; rotate_left 1; (focus (intro w hSw; (try dsimp only at hSw); go_simp; (try with_reducible rfl))); (try simp only [List.getElem_toArray, List.getElem_cons_zero, List.getElem_cons_succ, Act.put, List.setIfInBounds_toArray, List.set_cons_zero, List.set_cons_succ])); (refine wpAnyH_take (i := 5) (v := ?_) rfl (by kernel_rfl) (by kernel_rfl) (by kernel_rfl) (fun _ _ _ h => h) (Or.inl ⟨by rfl, ?_⟩) (by assumption) ?_; rotate_left 1; (focus (intro w hSw; (try dsimp only at hSw); go_simp; (try with_reducible rfl))); (try simp only [List.getElem_toArray, List.getElem_cons_zero, List.getElem_cons_succ, Act.put, List.setIfInBounds_toArray, List.set_cons_zero, List.set_cons_succ])); (refine wpAnyH_take (i := 6) (v := ?_) rfl (by kernel_rfl) (by kernel_rfl) (by kernel_rfl) (fun _ _ _ h => h) (Or.inl ⟨by rfl, ?_⟩) (by assumption) ?_; rotate_left 1; (focus (intro w hSw; (try dsimp only at hSw); go_simp; (try with_reducible rfl))); (try simp only [List.getElem_toArray, List.getElem_cons_zero, List.getElem_cons_succ, Act.put, List.setIfInBounds_toArray, List.set_cons_zero, List.set_cons_succ])); (refine wpAnyH_take (i := 7) (v := ?_) rfl (by kernel_rfl) (by kernel_rfl) (by kernel_rfl) (fun _ _ _ h => h) (Or.inl ⟨by rfl, ?_⟩) (by assumption) ?_; rotate_left 1; (focus (intro w hSw; (try dsimp only at hSw); go_simp; (try with_reducible rfl))); (try simp only [List.getElem_toArray, List.getElem_cons_zero, List.getElem_cons_succ, Act.put, List.setIfInBounds_toArray, List.set_cons_zero, List.set_cons_succ])); (refine wpAnyH_take (i := 8) (v := ?_) rfl (by kernel_rfl) (by kernel_rfl) (by kernel_rfl) (fun _ _ _ h => h) (Or.inl ⟨by rfl, ?_⟩) (by assumption) ?_; rotate_left 1; (focus (intro w hSw; (try dsimp only at hSw); go_simp; (try with_reducible rfl))); (try simp only [List.getElem_toArray, List.getElem_cons_zero, List.getElem_cons_succ, Act.put, List.setIfInBounds_toArray, List.set_cons_zero, List.set_cons_succ])); (refine wpAnyH_ready (rs := [9, 13, 14]) (by kernel_rfl) (by simp) ?_; refine AllReadyH.cons rfl (fun K hK => ?_) (AllReadyH.cons rfl (fun K hK => ?_) (AllReadyH.cons rfl (fun K hK => ?_) (AllReadyH.nil))); (focus (go_simp; go_at_call 19; (with_reducible refine (HUU.out _ (by repeat (first | with_reducible exact Chg.refl _ _ | with_reducible exact Chg.refl _ _ | with_reducible refine Chg.setCell ?_ (by first | exact .inr (Nat.le_refl _) | (refine .inr ?_; first | omega | (simp; done) | (simp; omega)) | (refine .inl ?_; simp; done)) _ | with_reducible refine Chg.drewN ?_ _ | with_reducible refine Chg.drew ?_ | with_reducible refine Chg.alloc ?_ _))).mono ?_); intro e w10 hU; unfold UnitQ at hU; obtain ⟨ao3, n3, c3, bo3, m3, d3, x3, y3, z3, rfl, hc10, hB⟩ := hU; have hsz10 : w9.heap.size ≤ w10.heap.size := Nat.le_trans (by first | exact Nat.le_refl _ | (simp; done) | (simp; omega)) hc10.size; (try have kU : w10.heap[w9.heap.size]? = some (.cells #[.slice none 0 0, .slice none 0 0] 32) := hc10.heap (heap_alloc_new w9.drew _) (by simp)); (try have kF : w10.heap[w9.heap.size]? = some (.cells #[.int .i64 0, .int .i64 0, .int .i64 0] 40) := hc10.heap (heap_alloc_new w9.drew _) (by simp)); (try have kU : w10.heap[w9.heap.size]? = some (.cells #[.slice none 0 0, .slice none 0 0] 32) := hc10.heap (blk_alloc_old (heap_alloc_new w9.drew _) _) (by simp)); (try have kF : w10.heap[w9.heap.size]? = some (.cells #[.int .i64 0, .int .i64 0, .int .i64 0] 40) := hc10.heap (blk_alloc_old (heap_alloc_new w9.drew _) _) (by simp)); (try have kF : w10.heap[w9.heap.size + 1]? = some (.cells #[.int .i64 0, .int .i64 0, .int .i64 0] 40) := hc10.heap (by have h := heap_alloc_new (w9.drew.alloc (.cells #[.slice none 0 0, .slice none 0 0] 32)) (.cells #[.int .i64 0, .int .i64 0, .int .i64 0] 40); rw [World.size_alloc] at h; exact h) (by simp)); (try have kU : w10.heap[w9.heap.size + 1]? = some (.cells #[.slice none 0 0, .slice none 0 0] 32) := hc10.heap (by have h := heap_alloc_new (w9.drew.alloc (.cells #[.int .i64 0, .int .i64 0, .int .i64 0] 40)) (.cells #[.slice none 0 0, .slice none 0 0] 32); rw [World.size_alloc] at h; exact h) (by simp)); (try have kU0a : w10.cell? ⟨w9.heap.size, 0, none⟩ = some (.slice none 0 0) := blk_cell kU 0); (try have kU0ao : ∀ o, (w10.alloc o).cell? ⟨w9.heap.size, 0, none⟩ = some (.slice none 0 0) := fun o => blk_cell (blk_alloc_old kU o) 0); (try have kU1a : w10.cell? ⟨w9.heap.size, 1, none⟩ = some (.slice none 0 0) := blk_cell kU 1); (try have kU1ao : ∀ o, (w10.alloc o).cell? ⟨w9.heap.size, 1, none⟩ = some (.slice none 0 0) := fun o => blk_cell (blk_alloc_old kU o) 1); (try have kUfa : ∀ j, w10.frozen? ⟨w9.heap.size, j, none⟩ = false := blk_free kU); (try have kUfao : ∀ o j, (w10.alloc o).frozen? ⟨w9.heap.size, j, none⟩ = false := fun o => blk_free (blk_alloc_old kU o)); (try have kU0b : w10.cell? ⟨w9.heap.size + 1, 0, none⟩ = some (.slice none 0 0) := blk_cell kU 0); (try have kU0bo : ∀ o, (w10.alloc o).cell? ⟨w9.heap.size + 1, 0, none⟩ = some (.slice none 0 0) := fun o => blk_cell (blk_alloc_old kU o) 0); (try have kU1b : w10.cell? ⟨w9.heap.size + 1, 1, none⟩ = some (.slice none 0 0) := blk_cell kU 1); (try have kU1bo : ∀ o, (w10.alloc o).cell? ⟨w9.heap.size + 1, 1, none⟩ = some (.slice none 0 0) := fun o => blk_cell (blk_alloc_old kU o) 1); (try have kUfb : ∀ j, w10.frozen? ⟨w9.heap.size + 1, j, none⟩ = false := blk_free kU); (try have kUfbo : ∀ o j, (w10.alloc o).frozen? ⟨w9.heap.size + 1, j, none⟩ = false := fun o => blk_free (blk_alloc_old kU o)); (try have kF0a : w10.cell? ⟨w9.heap.size, 0, none⟩ = some (.int .i64 0) := blk_cell kF 0); (try have kF0ao : ∀ o, (w10.alloc o).cell? ⟨w9.heap.size, 0, none⟩ = some (.int .i64 0) := fun o => blk_cell (blk_alloc_old kF o) 0); (try have kF1a : w10.cell? ⟨w9.heap.size, 1, none⟩ = some (.int .i64 0) := blk_cell kF 1); (try have kF1ao : ∀ o, (w10.alloc o).cell? ⟨w9.heap.size, 1, none⟩ = some (.int .i64 0) := fun o => blk_cell (blk_alloc_old kF o) 1); (try have kF2a : w10.cell? ⟨w9.heap.size, 2, none⟩ = some (.int .i64 0) := blk_cell kF 2); (try have kF2ao : ∀ o, (w10.alloc o).cell? ⟨w9.heap.size, 2, none⟩ = some (.int .i64 0) := fun o => blk_cell (blk_alloc_old kF o) 2); (try have kFfa : ∀ j, w10.frozen? ⟨w9.heap.size, j, none⟩ = false := blk_free kF); (try have kFfao : ∀ o j, (w10.alloc o).frozen? ⟨w9.heap.size, j, none⟩ = false := fun o => blk_free (blk_alloc_old kF o)); (try have kF0b : w10.cell? ⟨w9.heap.size + 1, 0, none⟩ = some (.int .i64 0) := blk_cell kF 0); (try have kF0bo : ∀ o, (w10.alloc o).cell? ⟨w9.heap.size + 1, 0, none⟩ = some (.int .i64 0) := fun o => blk_cell (blk_alloc_old kF o) 0); (try have kF1b : w10.cell? ⟨w9.heap.size + 1, 1, none⟩ = some (.int .i64 0) := blk_cell kF 1); (try have kF1bo : ∀ o, (w10.alloc o).cell? ⟨w9.heap.size + 1, 1, none⟩ = some (.int .i64 0) := fun o => blk_cell (blk_alloc_old kF o) 1); (try have kF2b : w10.cell? ⟨w9.heap.size + 1, 2, none⟩ = some (.int .i64 0) := blk_cell kF 2); (try have kF2bo : ∀ o, (w10.alloc o).cell? ⟨w9.heap.size + 1, 2, none⟩ = some (.int .i64 0) := fun o => blk_cell (blk_alloc_old kF o) 2); (try have kFfb : ∀ j, w10.frozen? ⟨w9.heap.size + 1, j, none⟩ = false := blk_free kF); (try have kFfbo : ∀ o j, (w10.alloc o).frozen? ⟨w9.heap.size + 1, j, none⟩ = false := fun o => blk_free (blk_alloc_old kF o)); (try have hnU := Nat.ne_of_lt (blk_lt kU)); (try have hnU2 := (Nat.ne_of_lt (blk_lt kU)).symm); (try have hnF := Nat.ne_of_lt (blk_lt kF)); (try have hnF2 := (Nat.ne_of_lt (blk_lt kF)).symm); (refine hK.out _ _ (by exact trivial) (fun hHeld => ?_); clear hK K; (try simp only [List.getElem_toArray, List.getElem_cons_zero, List.getElem_cons_succ, Act.put, List.setIfInBounds_toArray, List.set_cons_zero, List.set_cons_succ])); (refine wpAnyH_take (i := 10) (v := ?_) rfl (by kernel_rfl) (by kernel_rfl) (by kernel_rfl) (fun _ _ _ h => h) (Or.inl ⟨by rfl, ?_⟩) (by assumption) ?_; rotate_left 1; (focus (intro w hSw; (try dsimp only at hSw); go_simp; (try with_reducible rfl))); (try simp only [List.getElem_toArray, List.getElem_cons_zero, List.getElem_cons_succ, Act.put, List.setIfInBounds_toArray, List.set_cons_zero, List.set_cons_succ])); (refine wpAnyH_take (i := 11) (v := ?_) rfl (by kernel_rfl) (by kernel_rfl) (by kernel_rfl) (fun _ _ _ h => h) (Or.inl ⟨by rfl, ?_⟩) (by assumption) ?_; rotate_left 1; (focus (intro w hSw; (try dsimp only at hSw); go_simp; (try with_reducible rfl))); (try simp only [List.getElem_toArray, List.getElem_cons_zero, List.getElem_cons_succ, Act.put, List.setIfInBounds_toArray, List.set_cons_zero, List.set_cons_succ])); (refine wpAnyH_take (i := 12) (v := ?_) rfl (by kernel_rfl) (by kernel_rfl) (by kernel_rfl) (fun _ _ _ h => h) (Or.inl ⟨by rfl, ?_⟩) (by assumption) ?_; rotate_left 1; (focus (intro w hSw; (try dsimp only at hSw); go_simp; (try with_reducible rfl))); (try simp only [List.getElem_toArray, List.getElem_cons_zero, List.getElem_cons_succ, Act.put, List.setIfInBounds_toArray, List.set_cons_zero, List.set_cons_succ])); (refine wpAnyH_ready (rs := [13, 14]) (by kernel_rfl) (by simp) ?_; refine AllReadyH.cons rfl (fun K hK => ?_) (AllReadyH.cons rfl (fun K hK => ?_) (AllReadyH.nil)); (focus (go_simp; (refine hK.out _ _ (by exact trivial) (fun hHeld => ?_); clear hK K; (try simp only [List.getElem_toArray, List.getElem_cons_zero, List.getElem_cons_succ, Act.put, List.setIfInBounds_toArray, List.set_cons_zero, List.set_cons_succ])); (refine wpAnyH_ready (rs := [14]) (by kernel_rfl) (by simp) ?_; refine AllReadyH.cons rfl (fun K hK => ?_) AllReadyH.nil; go_simp; (refine hK.out _ _ (by exact trivial) (fun hHeld => ?_); clear hK K; (try simp only [List.getElem_toArray, List.getElem_cons_zero, List.getElem_cons_succ, Act.put, List.setIfInBounds_toArray, List.set_cons_zero, List.set_cons_succ]))))); rotate_left 1; (focus (go_simp; (refine hK.out _ _ (by exact trivial) (fun hHeld => ?_); clear hK K; (try simp only [List.getElem_toArray, List.getElem_cons_zero, List.getElem_cons_succ, Act.put, List.setIfInBounds_toArray, List.set_cons_zero, List.set_cons_succ])); (refine wpAnyH_ready (rs := [13]) (by kernel_rfl) (by simp) ?_; refine AllReadyH.cons rfl (fun K hK => ?_) AllReadyH.nil; go_simp; (refine hK.out _ _ (by exact trivial) (fun hHeld => ?_); clear hK K; (try simp only [List.getElem_toArray, List.getElem_cons_zero, List.getElem_cons_succ, Act.put, List.setIfInBounds_toArray, List.set_cons_zero, List.set_cons_succ]))))); rotate_left 1))); rotate_left 2; (focus (go_simp; (refine hK.out _ _ (by exact trivial) (fun hHeld => ?_); clear hK K; (try simp only [List.getElem_toArray, List.getElem_cons_zero, List.getElem_cons_succ, Act.put, List.setIfInBounds_toArray, List.set_cons_zero, List.set_cons_succ])); (refine wpAnyH_ready (rs := [9, 14]) (by kernel_rfl) (by simp) ?_; refine AllReadyH.cons rfl (fun K hK => ?_) (AllReadyH.cons rfl (fun K hK => ?_) (AllReadyH.nil)); (focus (go_simp; go_at_call 19; (with_reducible refine (HUU.out _ (by repeat (first | with_reducible exact Chg.refl _ _ | with_reducible exact Chg.refl _ _ | with_reducible refine Chg.setCell ?_ (by first | exact .inr (Nat.le_refl _) | (refine .inr ?_; first | omega | (simp; done) | (simp; omega)) | (refine .inl ?_; simp; done)) _ | with_reducible refine Chg.drewN ?_ _ | with_reducible refine Chg.drew ?_ | with_reducible refine Chg.alloc ?_ _))).mono ?_); intro e w10 hU; unfold UnitQ at hU; obtain ⟨ao3, n3, c3, bo3, m3, d3, x3, y3, z3, rfl, hc10, hB⟩ := hU; have hsz10 : w9.heap.size ≤ w10.heap.size := Nat.le_trans (by first | exact Nat.le_refl _ | (simp; done) | (simp; omega)) hc10.size; (try have kU : w10.heap[w9.heap.size]? = some (.cells #[.slice none 0 0, .slice none 0 0] 32) := hc10.heap (heap_alloc_new w9.drew _) (by simp)); (try have kF : w10.heap[w9.heap.size]? = some (.cells #[.int .i64 0, .int .i64 0, .int .i64 0] 40) := hc10.heap (heap_alloc_new w9.drew _) (by simp)); (try have kU : w10.heap[w9.heap.size]? = some (.cells #[.slice none 0 0, .slice none 0 0] 32) := hc10.heap (blk_alloc_old (heap_alloc_new w9.drew _) _) (by simp)); (try have kF : w10.heap[w9.heap.size]? = some (.cells #[.int .i64 0, .int .i64 0, .int .i64 0] 40) := hc10.heap (blk_alloc_old (heap_alloc_new w9.drew _) _) (by simp)); (try have kF : w10.heap[w9.heap.size + 1]? = some (.cells #[.int .i64 0, .int .i64 0, .int .i64 0] 40) := hc10.heap (by have h := heap_alloc_new (w9.drew.alloc (.cells #[.slice none 0 0, .slice none 0 0] 32)) (.cells #[.int .i64 0, .int .i64 0, .int .i64 0] 40); rw [World.size_alloc] at h; exact h) (by simp)); (try have kU : w10.heap[w9.heap.size + 1]? = some (.cells #[.slice none 0 0, .slice none 0 0] 32) := hc10.heap (by have h := heap_alloc_new (w9.drew.alloc (.cells #[.int .i64 0, .int .i64 0, .int .i64 0] 40)) (.cells #[.slice none 0 0, .slice none 0 0] 32); rw [World.size_alloc] at h; exact h) (by simp)); (try have kU0a : w10.cell? ⟨w9.heap.size, 0, none⟩ = some (.slice none 0 0) := blk_cell kU 0); (try have kU0ao : ∀ o, (w10.alloc o).cell? ⟨w9.heap.size, 0, none⟩ = some (.slice none 0 0) := fun o => blk_cell (blk_alloc_old kU o) 0); (try have kU1a : w10.cell? ⟨w9.heap.size, 1, none⟩ = some (.slice none 0 0) := blk_cell kU 1); (try have kU1ao : ∀ o, (w10.alloc o).cell? ⟨w9.heap.size, 1, none⟩ = some (.slice none 0 0) := fun o => blk_cell (blk_alloc_old kU o) 1); (try have kUfa : ∀ j, w10.frozen? ⟨w9.heap.size, j, none⟩ = false := blk_free kU); (try have kUfao : ∀ o j, (w10.alloc o).frozen? ⟨w9.heap.size, j, none⟩ = false := fun o => blk_free (blk_alloc_old kU o)); (try have kU0b : w10.cell? ⟨w9.heap.size + 1, 0, none⟩ = some (.slice none 0 0) := blk_cell kU 0); (try have kU0bo : ∀ o, (w10.alloc o).cell? ⟨w9.heap.size + 1, 0, none⟩ = some (.slice none 0 0) := fun o => blk_cell (blk_alloc_old kU o) 0); (try have kU1b : w10.cell? ⟨w9.heap.size + 1, 1, none⟩ = some (.slice none 0 0) := blk_cell kU 1); (try have kU1bo : ∀ o, (w10.alloc o).cell? ⟨w9.heap.size + 1, 1, none⟩ = some (.slice none 0 0) := fun o => blk_cell (blk_alloc_old kU o) 1); (try have kUfb : ∀ j, w10.frozen? ⟨w9.heap.size + 1, j, none⟩ = false := blk_free kU); (try have kUfbo : ∀ o j, (w10.alloc o).frozen? ⟨w9.heap.size + 1, j, none⟩ = false := fun o => blk_free (blk_alloc_old kU o)); (try have kF0a : w10.cell? ⟨w9.heap.size, 0, none⟩ = some (.int .i64 0) := blk_cell kF 0); (try have kF0ao : ∀ o, (w10.alloc o).cell? ⟨w9.heap.size, 0, none⟩ = some (.int .i64 0) := fun o => blk_cell (blk_alloc_old kF o) 0); (try have kF1a : w10.cell? ⟨w9.heap.size, 1, none⟩ = some (.int .i64 0) := blk_cell kF 1); (try have kF1ao : ∀ o, (w10.alloc o).cell? ⟨w9.heap.size, 1, none⟩ = some (.int .i64 0) := fun o => blk_cell (blk_alloc_old kF o) 1); (try have kF2a : w10.cell? ⟨w9.heap.size, 2, none⟩ = some (.int .i64 0) := blk_cell kF 2); (try have kF2ao : ∀ o, (w10.alloc o).cell? ⟨w9.heap.size, 2, none⟩ = some (.int .i64 0) := fun o => blk_cell (blk_alloc_old kF o) 2); (try have kFfa : ∀ j, w10.frozen? ⟨w9.heap.size, j, none⟩ = false := blk_free kF); (try have kFfao : ∀ o j, (w10.alloc o).frozen? ⟨w9.heap.size, j, none⟩ = false := fun o => blk_free (blk_alloc_old kF o)); (try have kF0b : w10.cell? ⟨w9.heap.size + 1, 0, none⟩ = some (.int .i64 0) := blk_cell kF 0); (try have kF0bo : ∀ o, (w10.alloc o).cell? ⟨w9.heap.size + 1, 0, none⟩ = some (.int .i64 0) := fun o => blk_cell (blk_alloc_old kF o) 0); (try have kF1b : w10.cell? ⟨w9.heap.size + 1, 1, none⟩ = some (.int .i64 0) := blk_cell kF 1); (try have kF1bo : ∀ o, (w10.alloc o).cell? ⟨w9.heap.size + 1, 1, none⟩ = some (.int .i64 0) := fun o => blk_cell (blk_alloc_old kF o) 1); (try have kF2b : w10.cell? ⟨w9.heap.size + 1, 2, none⟩ = some (.int .i64 0) := blk_cell kF 2); (try have kF2bo : ∀ o, (w10.alloc o).cell? ⟨w9.heap.size + 1, 2, none⟩ = some (.int .i64 0) := fun o => blk_cell (blk_alloc_old kF o) 2); (try have kFfb : ∀ j, w10.frozen? ⟨w9.heap.size + 1, j, none⟩ = false := blk_free kF); (try have kFfbo : ∀ o j, (w10.alloc o).frozen? ⟨w9.heap.size + 1, j, none⟩ = false := fun o => blk_free (blk_alloc_old kF o)); (try have hnU := Nat.ne_of_lt (blk_lt kU)); (try have hnU2 := (Nat.ne_of_lt (blk_lt kU)).symm); (try have hnF := Nat.ne_of_lt (blk_lt kF)); (try have hnF2 := (Nat.ne_of_lt (blk_lt kF)).symm); (refine hK.out _ _ (by exact trivial) (fun hHeld => ?_); clear hK K; (try simp only [List.getElem_toArray, List.getElem_cons_zero, List.getElem_cons_succ, Act.put, List.setIfInBounds_toArray, List.set_cons_zero, List.set_cons_succ])); (refine wpAnyH_take (i := 10) (v := ?_) rfl (by kernel_rfl) (by kernel_rfl) (by kernel_rfl) (fun _ _ _ h => h) (Or.inl ⟨by rfl, ?_⟩) (by assumption) ?_; rotate_left 1; (focus (intro w hSw; (try dsimp only at hSw); go_simp; (try with_reducible rfl))); (try simp only [List.getElem_toArray, List.getElem_cons_zero, List.getElem_cons_succ, Act.put, List.setIfInBounds_toArray, List.set_cons_zero, List.set_cons_succ])); (refine wpAnyH_take (i := 11) (v := ?_) rfl (by kernel_rfl) (by kernel_rfl) (by kernel_rfl) (fun _ _ _ h => h) (Or.inl ⟨by rfl, ?_⟩) (by assumption) ?_; rotate_left 1; (focus (intro w hSw; (try dsimp only at hSw); go_simp; (try with_reducible rfl))); (try simp only [List.getElem_toArray, List.getElem_cons_zero, List.getElem_cons_succ, Act.put, List.setIfInBounds_toArray, List.set_cons_zero, List.set_cons_succ])); (refine wpAnyH_take (i := 12) (v := ?_) rfl (by kernel_rfl) (by kernel_rfl) (by kernel_rfl) (fun _ _ _ h => h) (Or.inl ⟨by rfl, ?_⟩) (by assumption) ?_; rotate_left 1; (focus (intro w hSw; (try dsimp only at hSw); go_simp; (try with_reducible rfl))); (try simp only [List.getElem_toArray, List.getElem_cons_zero, List.getElem_cons_succ, Act.put, List.setIfInBounds_toArray, List.set_cons_zero, List.set_cons_succ])); (refine wpAnyH_ready (rs := [14]) (by kernel_rfl) (by simp) ?_; refine AllReadyH.cons rfl (fun K hK => ?_) AllReadyH.nil; go_simp; (refine hK.out _ _ (by exact trivial) (fun hHeld => ?_); clear hK K; (try simp only [List.getElem_toArray, List.getElem_cons_zero, List.getElem_cons_succ, Act.put, List.setIfInBounds_toArray, List.set_cons_zero, List.set_cons_succ]))))); rotate_left 1; (focus (go_simp; (refine hK.out _ _ (by exact trivial) (fun hHeld => ?_); clear hK K; (try simp only [List.getElem_toArray, List.getElem_cons_zero, List.getElem_cons_succ, Act.put, List.setIfInBounds_toArray, List.set_cons_zero, List.set_cons_succ])); (refine wpAnyH_ready (rs := [9]) (by kernel_rfl) (by simp) ?_; refine AllReadyH.cons rfl (fun K hK => ?_) AllReadyH.nil; go_simp; go_at_call 19; (with_reducible refine (HUU.out _ (by repeat (first | with_reducible exact Chg.refl _ _ | with_reducible exact Chg.refl _ _ | with_reducible refine Chg.setCell ?_ (by first | exact .inr (Nat.le_refl _) | (refine .inr ?_; first | omega | (simp; done) | (simp; omega)) | (refine .inl ?_; simp; done)) _ | with_reducible refine Chg.drewN ?_ _ | with_reducible refine Chg.drew ?_ | with_reducible refine Chg.alloc ?_ _))).mono ?_); intro e w10 hU; unfold UnitQ at hU; obtain ⟨ao3, n3, c3, bo3, m3, d3, x3, y3, z3, rfl, hc10, hB⟩ := hU; have hsz10 : w9.heap.size ≤ w10.heap.size := Nat.le_trans (by first | exact Nat.le_refl _ | (simp; done) | (simp; omega)) hc10.size; (try have kU : w10.heap[w9.heap.size]? = some (.cells #[.slice none 0 0, .slice none 0 0] 32) := hc10.heap (heap_alloc_new w9.drew _) (by simp)); (try have kF : w10.heap[w9.heap.size]? = some (.cells #[.int .i64 0, .int .i64 0, .int .i64 0] 40) := hc10.heap (heap_alloc_new w9.drew _) (by simp)); (try have kU : w10.heap[w9.heap.size]? = some (.cells #[.slice none 0 0, .slice none 0 0] 32) := hc10.heap (blk_alloc_old (heap_alloc_new w9.drew _) _) (by simp)); (try have kF : w10.heap[w9.heap.size]? = some (.cells #[.int .i64 0, .int .i64 0, .int .i64 0] 40) := hc10.heap (blk_alloc_old (heap_alloc_new w9.drew _) _) (by simp)); (try have kF : w10.heap[w9.heap.size + 1]? = some (.cells #[.int .i64 0, .int .i64 0, .int .i64 0] 40) := hc10.heap (by have h := heap_alloc_new (w9.drew.alloc (.cells #[.slice none 0 0, .slice none 0 0] 32)) (.cells #[.int .i64 0, .int .i64 0, .int .i64 0] 40); rw [World.size_alloc] at h; exact h) (by simp)); (try have kU : w10.heap[w9.heap.size + 1]? = some (.cells #[.slice none 0 0, .slice none 0 0] 32) := hc10.heap (by have h := heap_alloc_new (w9.drew.alloc (.cells #[.int .i64 0, .int .i64 0, .int .i64 0] 40)) (.cells #[.slice none 0 0, .slice none 0 0] 32); rw [World.size_alloc] at h; exact h) (by simp)); (try have kU0a : w10.cell? ⟨w9.heap.size, 0, none⟩ = some (.slice none 0 0) := blk_cell kU 0); (try have kU0ao : ∀ o, (w10.alloc o).cell? ⟨w9.heap.size, 0, none⟩ = some (.slice none 0 0) := fun o => blk_cell (blk_alloc_old kU o) 0); (try have kU1a : w10.cell? ⟨w9.heap.size, 1, none⟩ = some (.slice none 0 0) := blk_cell kU 1); (try have kU1ao : ∀ o, (w10.alloc o).cell? ⟨w9.heap.size, 1, none⟩ = some (.slice none 0 0) := fun o => blk_cell (blk_alloc_old kU o) 1); (try have kUfa : ∀ j, w10.frozen? ⟨w9.heap.size, j, none⟩ = false := blk_free kU); (try have kUfao : ∀ o j, (w10.alloc o).frozen? ⟨w9.heap.size, j, none⟩ = false := fun o => blk_free (blk_alloc_old kU o)); (try have kU0b : w10.cell? ⟨w9.heap.size + 1, 0, none⟩ = some (.slice none 0 0) := blk_cell kU 0); (try have kU0bo : ∀ o, (w10.alloc o).cell? ⟨w9.heap.size + 1, 0, none⟩ = some (.slice none 0 0) := fun o => blk_cell (blk_alloc_old kU o) 0); (try have kU1b : w10.cell? ⟨w9.heap.size + 1, 1, none⟩ = some (.slice none 0 0) := blk_cell kU 1); (try have kU1bo : ∀ o, (w10.alloc o).cell? ⟨w9.heap.size + 1, 1, none⟩ = some (.slice none 0 0) := fun o => blk_cell (blk_alloc_old kU o) 1); (try have kUfb : ∀ j, w10.frozen? ⟨w9.heap.size + 1, j, none⟩ = false := blk_free kU); (try have kUfbo : ∀ o j, (w10.alloc o).frozen? ⟨w9.heap.size + 1, j, none⟩ = false := fun o => blk_free (blk_alloc_old kU o)); (try have kF0a : w10.cell? ⟨w9.heap.size, 0, none⟩ = some (.int .i64 0) := blk_cell kF 0); (try have kF0ao : ∀ o, (w10.alloc o).cell? ⟨w9.heap.size, 0, none⟩ = some (.int .i64 0) := fun o => blk_cell (blk_alloc_old kF o) 0); (try have kF1a : w10.cell? ⟨w9.heap.size, 1, none⟩ = some (.int .i64 0) := blk_cell kF 1); (try have kF1ao : ∀ o, (w10.alloc o).cell? ⟨w9.heap.size, 1, none⟩ = some (.int .i64 0) := fun o => blk_cell (blk_alloc_old kF o) 1); (try have kF2a : w10.cell? ⟨w9.heap.size, 2, none⟩ = some (.int .i64 0) := blk_cell kF 2); (try have kF2ao : ∀ o, (w10.alloc o).cell? ⟨w9.heap.size, 2, none⟩ = some (.int .i64 0) := fun o => blk_cell (blk_alloc_old kF o) 2); (try have kFfa : ∀ j, w10.frozen? ⟨w9.heap.size, j, none⟩ = false := blk_free kF); (try have kFfao : ∀ o j, (w10.alloc o).frozen? ⟨w9.heap.size, j, none⟩ = false := fun o => blk_free (blk_alloc_old kF o)); (try have kF0b : w10.cell? ⟨w9.heap.size + 1, 0, none⟩ = some (.int .i64 0) := blk_cell kF 0); (try have kF0bo : ∀ o, (w10.alloc o).cell? ⟨w9.heap.size + 1, 0, none⟩ = some (.int .i64 0) := fun o => blk_cell (blk_alloc_old kF o) 0); (try have kF1b : w10.cell? ⟨w9.heap.size + 1, 1, none⟩ = some (.int .i64 0) := blk_cell kF 1); (try have kF1bo : ∀ o, (w10.alloc o).cell? ⟨w9.heap.size + 1, 1, none⟩ = some (.int .i64 0) := fun o => blk_cell (blk_alloc_old kF o) 1); (try have kF2b : w10.cell? ⟨w9.heap.size + 1, 2, none⟩ = some (.int .i64 0) := blk_cell kF 2); (try have kF2bo : ∀ o, (w10.alloc o).cell? ⟨w9.heap.size + 1, 2, none⟩ = some (.int .i64 0) := fun o => blk_cell (blk_alloc_old kF o) 2); (try have kFfb : ∀ j, w10.frozen? ⟨w9.heap.size + 1, j, none⟩ = false := blk_free kF); (try have kFfbo : ∀ o j, (w10.alloc o).frozen? ⟨w9.heap.size + 1, j, none⟩ = false := fun o => blk_free (blk_alloc_old kF o)); (try have hnU := Nat.ne_of_lt (blk_lt kU)); (try have hnU2 := (Nat.ne_of_lt (blk_lt kU)).symm); (try have hnF := Nat.ne_of_lt (blk_lt kF)); (try have hnF2 := (Nat.ne_of_lt (blk_lt kF)).symm); (refine hK.out _ _ (by exact trivial) (fun hHeld => ?_); clear hK K; (try simp only [List.getElem_toArray, List.getElem_cons_zero, List.getElem_cons_succ, Act.put, List.setIfInBounds_toArray, List.set_cons_zero, List.set_cons_succ]))); (refine wpAnyH_take (i := 10) (v := ?_) rfl (by kernel_rfl) (by kernel_rfl) (by kernel_rfl) (fun _ _ _ h => h) (Or.inl ⟨by rfl, ?_⟩) (by assumption) ?_; rotate_left 1; (focus (intro w hSw; (try dsimp only at hSw); go_simp; (try with_reducible rfl))); (try simp only [List.getElem_toArray, List.getElem_cons_zero, List.getElem_cons_succ, Act.put, List.setIfInBounds_toArray, List.set_cons_zero, List.set_cons_succ])); (refine wpAnyH_take (i := 11) (v := ?_) rfl (by kernel_rfl) (by kernel_rfl) (by kernel_rfl) (fun _ _ _ h => h) (Or.inl ⟨by rfl, ?_⟩) (by assumption) ?_; rotate_left 1; (focus (intro w hSw; (try dsimp only at hSw); go_simp; (try with_reducible rfl))); (try simp only [List.getElem_toArray, List.getElem_cons_zero, List.getElem_cons_succ, Act.put, List.setIfInBounds_toArray, List.set_cons_zero, List.set_cons_succ])); (refine wpAnyH_take (i := 12) (v := ?_) rfl (by kernel_rfl) (by kernel_rfl) (by kernel_rfl) (fun _ _ _ h => h) (Or.inl ⟨by rfl, ?_⟩) (by assumption) ?_; rotate_left 1; (focus (intro w hSw; (try dsimp only at hSw); go_simp; (try with_reducible rfl))); (try simp only [List.getElem_toArray, List.getElem_cons_zero, List.getElem_cons_succ, Act.put, List.setIfInBounds_toArray, List.set_cons_zero, List.set_cons_succ])))); rotate_left 1))); rotate_left 2; (focus (go_simp; (refine hK.out _ _ (by exact trivial) (fun hHeld => ?_); clear hK K; (try simp only [List.getElem_toArray, List.getElem_cons_zero, List.getElem_cons_succ, Act.put, List.setIfInBounds_toArray, List.set_cons_zero, List.set_cons_succ])); (refine wpAnyH_ready (rs := [9, 13]) (by kernel_rfl) (by simp) ?_; refine AllReadyH.cons rfl (fun K hK => ?_) (AllReadyH.cons rfl (fun K hK => ?_) (AllReadyH.nil)); (focus (go_simp; go_at_call 19; (with_reducible refine (HUU.out _ (by repeat (first | with_reducible exact Chg.refl _ _ | with_reducible exact Chg.refl _ _ | with_reducible refine Chg.setCell ?_ (by first | exact .inr (Nat.le_refl _) | (refine .inr ?_; first | omega | (simp; done) | (simp; omega)) | (refine .inl ?_; simp; done)) _ | with_reducible refine Chg.drewN ?_ _ | with_reducible refine Chg.drew ?_ | with_reducible refine Chg.alloc ?_ _))).mono ?_); intro e w10 hU; unfold UnitQ at hU; obtain ⟨ao3, n3, c3, bo3, m3, d3, x3, y3, z3, rfl, hc10, hB⟩ := hU; have hsz10 : w9.heap.size ≤ w10.heap.size := Nat.le_trans (by first | exact Nat.le_refl _ | (simp; done) | (simp; omega)) hc10.size; (try have kU : w10.heap[w9.heap.size]? = some (.cells #[.slice none 0 0, .slice none 0 0] 32) := hc10.heap (heap_alloc_new w9.drew _) (by simp)); (try have kF : w10.heap[w9.heap.size]? = some (.cells #[.int .i64 0, .int .i64 0, .int .i64 0] 40) := hc10.heap (heap_alloc_new w9.drew _) (by simp)); (try have kU : w10.heap[w9.heap.size]? = some (.cells #[.slice none 0 0, .slice none 0 0] 32) := hc10.heap (blk_alloc_old (heap_alloc_new w9.drew _) _) (by simp)); (try have kF : w10.heap[w9.heap.size]? = some (.cells #[.int .i64 0, .int .i64 0, .int .i64 0] 40) := hc10.heap (blk_alloc_old (heap_alloc_new w9.drew _) _) (by simp)); (try have kF : w10.heap[w9.heap.size + 1]? = some (.cells #[.int .i64 0, .int .i64 0, .int .i64 0] 40) := hc10.heap (by have h := heap_alloc_new (w9.drew.alloc (.cells #[.slice none 0 0, .slice none 0 0] 32)) (.cells #[.int .i64 0, .int .i64 0, .int .i64 0] 40); rw [World.size_alloc] at h; exact h) (by simp)); (try have kU : w10.heap[w9.heap.size + 1]? = some (.cells #[.slice none 0 0, .slice none 0 0] 32) := hc10.heap (by have h := heap_alloc_new (w9.drew.alloc (.cells #[.int .i64 0, .int .i64 0, .int .i64 0] 40)) (.cells #[.slice none 0 0, .slice none 0 0] 32); rw [World.size_alloc] at h; exact h) (by simp)); (try have kU0a : w10.cell? ⟨w9.heap.size, 0, none⟩ = some (.slice none 0 0) := blk_cell kU 0); (try have kU0ao : ∀ o, (w10.alloc o).cell? ⟨w9.heap.size, 0, none⟩ = some (.slice none 0 0) := fun o => blk_cell (blk_alloc_old kU o) 0); (try have kU1a : w10.cell? ⟨w9.heap.size, 1, none⟩ = some (.slice none 0 0) := blk_cell kU 1); (try have kU1ao : ∀ o, (w10.alloc o).cell? ⟨w9.heap.size, 1, none⟩ = some (.slice none 0 0) := fun o => blk_cell (blk_alloc_old kU o) 1); (try have kUfa : ∀ j, w10.frozen? ⟨w9.heap.size, j, none⟩ = false := blk_free kU); (try have kUfao : ∀ o j, (w10.alloc o).frozen? ⟨w9.heap.size, j, none⟩ = false := fun o => blk_free (blk_alloc_old kU o)); (try have kU0b : w10.cell? ⟨w9.heap.size + 1, 0, none⟩ = some (.slice none 0 0) := blk_cell kU 0); (try have kU0bo : ∀ o, (w10.alloc o).cell? ⟨w9.heap.size + 1, 0, none⟩ = some (.slice none 0 0) := fun o => blk_cell (blk_alloc_old kU o) 0); (try have kU1b : w10.cell? ⟨w9.heap.size + 1, 1, none⟩ = some (.slice none 0 0) := blk_cell kU 1); (try have kU1bo : ∀ o, (w10.alloc o).cell? ⟨w9.heap.size + 1, 1, none⟩ = some (.slice none 0 0) := fun o => blk_cell (blk_alloc_old kU o) 1); (try have kUfb : ∀ j, w10.frozen? ⟨w9.heap.size + 1, j, none⟩ = false := blk_free kU); (try have kUfbo : ∀ o j, (w10.alloc o).frozen? ⟨w9.heap.size + 1, j, none⟩ = false := fun o => blk_free (blk_alloc_old kU o)); (try have kF0a : w10.cell? ⟨w9.heap.size, 0, none⟩ = some (.int .i64 0) := blk_cell kF 0); (try have kF0ao : ∀ o, (w10.alloc o).cell? ⟨w9.heap.size, 0, none⟩ = some (.int .i64 0) := fun o => blk_cell (blk_alloc_old kF o) 0); (try have kF1a : w10.cell? ⟨w9.heap.size, 1, none⟩ = some (.int .i64 0) := blk_cell kF 1); (try have kF1ao : ∀ o, (w10.alloc o).cell? ⟨w9.heap.size, 1, none⟩ = some (.int .i64 0) := fun o => blk_cell (blk_alloc_old kF o) 1); (try have kF2a : w10.cell? ⟨w9.heap.size, 2, none⟩ = some (.int .i64 0) := blk_cell kF 2); (try have kF2ao : ∀ o, (w10.alloc o).cell? ⟨w9.heap.size, 2, none⟩ = some (.int .i64 0) := fun o => blk_cell (blk_alloc_old kF o) 2); (try have kFfa : ∀ j, w10.frozen? ⟨w9.heap.size, j, none⟩ = false := blk_free kF); (try have kFfao : ∀ o j, (w10.alloc o).frozen? ⟨w9.heap.size, j, none⟩ = false := fun o => blk_free (blk_alloc_old kF o)); (try have kF0b : w10.cell? ⟨w9.heap.size + 1, 0, none⟩ = some (.int .i64 0) := blk_cell kF 0); (try have kF0bo : ∀ o, (w10.alloc o).cell? ⟨w9.heap.size + 1, 0, none⟩ = some (.int .i64 0) := fun o => blk_cell (blk_alloc_old kF o) 0); (try have kF1b : w10.cell? ⟨w9.heap.size + 1, 1, none⟩ = some (.int .i64 0) := blk_cell kF 1); (try have kF1bo : ∀ o, (w10.alloc o).cell? ⟨w9.heap.size + 1, 1, none⟩ = some (.int .i64 0) := fun o => blk_cell (blk_alloc_old kF o) 1); (try have kF2b : w10.cell? ⟨w9.heap.size + 1, 2, none⟩ = some (.int .i64 0) := blk_cell kF 2); (try have kF2bo : ∀ o, (w10.alloc o).cell? ⟨w9.heap.size + 1, 2, none⟩ = some (.int .i64 0) := fun o => blk_cell (blk_alloc_old kF o) 2); (try have kFfb : ∀ j, w10.frozen? ⟨w9.heap.size + 1, j, none⟩ = false := blk_free kF); (try have kFfbo : ∀ o j, (w10.alloc o).frozen? ⟨w9.heap.size + 1, j, none⟩ = false := fun o => blk_free (blk_alloc_old kF o)); (try have hnU := Nat.ne_of_lt (blk_lt kU)); (try have hnU2 := (Nat.ne_of_lt (blk_lt kU)).symm); (try have hnF := Nat.ne_of_lt (blk_lt kF)); (try have hnF2 := (Nat.ne_of_lt (blk_lt kF)).symm); (refine hK.out _ _ (by exact trivial) (fun hHeld => ?_); clear hK K; (try simp only [List.getElem_toArray, List.getElem_cons_zero, List.getElem_cons_succ, Act.put, List.setIfInBounds_toArray, List.set_cons_zero, List.set_cons_succ])); (refine wpAnyH_take (i := 10) (v := ?_) rfl (by kernel_rfl) (by kernel_rfl) (by kernel_rfl) (fun _ _ _ h => h) (Or.inl ⟨by rfl, ?_⟩) (by assumption) ?_; rotate_left 1; (focus (intro w hSw; (try dsimp only at hSw); go_simp; (try with_reducible rfl))); (try simp only [List.getElem_toArray, List.getElem_cons_zero, List.getElem_cons_succ, Act.put, List.setIfInBounds_toArray, List.set_cons_zero, List.set_cons_succ])); (refine wpAnyH_take (i := 11) (v := ?_) rfl (by kernel_rfl) (by kernel_rfl) (by kernel_rfl) (fun _ _ _ h => h) (Or.inl ⟨by rfl, ?_⟩) (by assumption) ?_; rotate_left 1; (focus (intro w hSw; (try dsimp only at hSw); go_simp; (try with_reducible rfl))); (try simp only [List.getElem_toArray, List.getElem_cons_zero, List.getElem_cons_succ, Act.put, List.setIfInBounds_toArray, List.set_cons_zero, List.set_cons_succ])); (refine wpAnyH_take (i := 12) (v := ?_) rfl (by kernel_rfl) (by kernel_rfl) (by kernel_rfl) (fun _ _ _ h => h) (Or.inl ⟨by rfl, ?_⟩) (by assumption) ?_; rotate_left 1; (focus (intro w hSw; (try dsimp only at hSw); go_simp; (try with_reducible rfl))); (try simp only [List.getElem_toArray, List.getElem_cons_zero, List.getElem_cons_succ, Act.put, List.setIfInBounds_toArray, List.set_cons_zero, List.set_cons_succ])); (refine wpAnyH_ready (rs := [13]) (by kernel_rfl) (by simp) ?_; refine AllReadyH.cons rfl (fun K hK => ?_) AllReadyH.nil; go_simp; (refine hK.out _ _ (by exact trivial) (fun hHeld => ?_); clear hK K; (try simp only [List.getElem_toArray, List.getElem_cons_zero, List.getElem_cons_succ, Act.put, List.setIfInBounds_toArray, List.set_cons_zero, List.set_cons_succ]))))); rotate_left 1; (focus (go_simp; (refine hK.out _ _ (by exact trivial) (fun hHeld => ?_); clear hK K; (try simp only [List.getElem_toArray, List.getElem_cons_zero, List.getElem_cons_succ, Act.put, List.setIfInBounds_toArray, List.set_cons_zero, List.set_cons_succ])); (refine wpAnyH_ready (rs := [9]) (by kernel_rfl) (by simp) ?_; refine AllReadyH.cons rfl (fun K hK => ?_) AllReadyH.nil; go_simp; go_at_call 19; (with_reducible refine (HUU.out _ (by repeat (first | with_reducible exact Chg.refl _ _ | with_reducible exact Chg.refl _ _ | with_reducible refine Chg.setCell ?_ (by first | exact .inr (Nat.le_refl _) | (refine .inr ?_; first | omega | (simp; done) | (simp; omega)) | (refine .inl ?_; simp; done)) _ | with_reducible refine Chg.drewN ?_ _ | with_reducible refine Chg.drew ?_ | with_reducible refine Chg.alloc ?_ _))).mono ?_); intro e w10 hU; unfold UnitQ at hU; obtain ⟨ao3, n3, c3, bo3, m3, d3, x3, y3, z3, rfl, hc10, hB⟩ := hU; have hsz10 : w9.heap.size ≤ w10.heap.size := Nat.le_trans (by first | exact Nat.le_refl _ | (simp; done) | (simp; omega)) hc10.size; (try have kU : w10.heap[w9.heap.size]? = some (.cells #[.slice none 0 0, .slice none 0 0] 32) := hc10.heap (heap_alloc_new w9.drew _) (by simp)); (try have kF : w10.heap[w9.heap.size]? = some (.cells #[.int .i64 0, .int .i64 0, .int .i64 0] 40) := hc10.heap (heap_alloc_new w9.drew _) (by simp)); (try have kU : w10.heap[w9.heap.size]? = some (.cells #[.slice none 0 0, .slice none 0 0] 32) := hc10.heap (blk_alloc_old (heap_alloc_new w9.drew _) _) (by simp)); (try have kF : w10.heap[w9.heap.size]? = some (.cells #[.int .i64 0, .int .i64 0, .int .i64 0] 40) := hc10.heap (blk_alloc_old (heap_alloc_new w9.drew _) _) (by simp)); (try have kF : w10.heap[w9.heap.size + 1]? = some (.cells #[.int .i64 0, .int .i64 0, .int .i64 0] 40) := hc10.heap (by have h := heap_alloc_new (w9.drew.alloc (.cells #[.slice none 0 0, .slice none 0 0] 32)) (.cells #[.int .i64 0, .int .i64 0, .int .i64 0] 40); rw [World.size_alloc] at h; exact h) (by simp)); (try have kU : w10.heap[w9.heap.size + 1]? = some (.cells #[.slice none 0 0, .slice none 0 0] 32) := hc10.heap (by have h := heap_alloc_new (w9.drew.alloc (.cells #[.int .i64 0, .int .i64 0, .int .i64 0] 40)) (.cells #[.slice none 0 0, .slice none 0 0] 32); rw [World.size_alloc] at h; exact h) (by simp)); (try have kU0a : w10.cell? ⟨w9.heap.size, 0, none⟩ = some (.slice none 0 0) := blk_cell kU 0); (try have kU0ao : ∀ o, (w10.alloc o).cell? ⟨w9.heap.size, 0, none⟩ = some (.slice none 0 0) := fun o => blk_cell (blk_alloc_old kU o) 0); (try have kU1a : w10.cell? ⟨w9.heap.size, 1, none⟩ = some (.slice none 0 0) := blk_cell kU 1); (try have kU1ao : ∀ o, (w10.alloc o).cell? ⟨w9.heap.size, 1, none⟩ = some (.slice none 0 0) := fun o => blk_cell (blk_alloc_old kU o) 1); (try have kUfa : ∀ j, w10.frozen? ⟨w9.heap.size, j, none⟩ = false := blk_free kU); (try have kUfao : ∀ o j, (w10.alloc o).frozen? ⟨w9.heap.size, j, none⟩ = false := fun o => blk_free (blk_alloc_old kU o)); (try have kU0b : w10.cell? ⟨w9.heap.size + 1, 0, none⟩ = some (.slice none 0 0) := blk_cell kU 0); (try have kU0bo : ∀ o, (w10.alloc o).cell? ⟨w9.heap.size + 1, 0, none⟩ = some (.slice none 0 0) := fun o => blk_cell (blk_alloc_old kU o) 0); (try have kU1b : w10.cell? ⟨w9.heap.size + 1, 1, none⟩ = some (.slice none 0 0) := blk_cell kU 1); (try have kU1bo : ∀ o, (w10.alloc o).cell? ⟨w9.heap.size + 1, 1, none⟩ = some (.slice none 0 0) := fun o => blk_cell (blk_alloc_old kU o) 1); (try have kUfb : ∀ j, w10.frozen? ⟨w9.heap.size + 1, j, none⟩ = false := blk_free kU); (try have kUfbo : ∀ o j, (w10.alloc o).frozen? ⟨w9.heap.size + 1, j, none⟩ = false := fun o => blk_free (blk_alloc_old kU o)); (try have kF0a : w10.cell? ⟨w9.heap.size, 0, none⟩ = some (.int .i64 0) := blk_cell kF 0); (try have kF0ao : ∀ o, (w10.alloc o).cell? ⟨w9.heap.size, 0, none⟩ = some (.int .i64 0) := fun o => blk_cell (blk_alloc_old kF o) 0); (try have kF1a : w10.cell? ⟨w9.heap.size, 1, none⟩ = some (.int .i64 0) := blk_cell kF 1); (try have kF1ao : ∀ o, (w10.alloc o).cell? ⟨w9.heap.size, 1, none⟩ = some (.int .i64 0) := fun o => blk_cell (blk_alloc_old kF o) 1); (try have kF2a : w10.cell? ⟨w9.heap.size, 2, none⟩ = some (.int .i64 0) := blk_cell kF 2); (try have kF2ao : ∀ o, (w10.alloc o).cell? ⟨w9.heap.size, 2, none⟩ = some (.int .i64 0) := fun o => blk_cell (blk_alloc_old kF o) 2); (try have kFfa : ∀ j, w10.frozen? ⟨w9.heap.size, j, none⟩ = false := blk_free kF); (try have kFfao : ∀ o j, (w10.alloc o).frozen? ⟨w9.heap.size, j, none⟩ = false := fun o => blk_free (blk_alloc_old kF o)); (try have kF0b : w10.cell? ⟨w9.heap.size + 1, 0, none⟩ = some (.int .i64 0) := blk_cell kF 0); (try have kF0bo : ∀ o, (w10.alloc o).cell? ⟨w9.heap.size + 1, 0, none⟩ = some (.int .i64 0) := fun o => blk_cell (blk_alloc_old kF o) 0); (try have kF1b : w10.cell? ⟨w9.heap.size + 1, 1, none⟩ = some (.int .i64 0) := blk_cell kF 1); (try have kF1bo : ∀ o, (w10.alloc o).cell? ⟨w9.heap.size + 1, 1, none⟩ = some (.int .i64 0) := fun o => blk_cell (blk_alloc_old kF o) 1); (try have kF2b : w10.cell? ⟨w9.heap.size + 1, 2, none⟩ = some (.int .i64 0) := blk_cell kF 2); (try have kF2bo : ∀ o, (w10.alloc o).cell? ⟨w9.heap.size + 1, 2, none⟩ = some (.int .i64 0) := fun o => blk_cell (blk_alloc_old kF o) 2); (try have kFfb : ∀ j, w10.frozen? ⟨w9.heap.size + 1, j, none⟩ = false := blk_free kF); (try have kFfbo : ∀ o j, (w10.alloc o).frozen? ⟨w9.heap.size + 1, j, none⟩ = false := fun o => blk_free (blk_alloc_old kF o)); (try have hnU := Nat.ne_of_lt (blk_lt kU)); (try have hnU2 := (Nat.ne_of_lt (blk_lt kU)).symm); (try have hnF := Nat.ne_of_lt (blk_lt kF)); (try have hnF2 := (Nat.ne_of_lt (blk_lt kF)).symm); (refine hK.out _ _ (by exact trivial) (fun hHeld => ?_); clear hK K; (try simp only [List.getElem_toArray, List.getElem_cons_zero, List.getElem_cons_succ, Act.put, List.setIfInBounds_toArray, List.set_cons_zero, List.set_cons_succ]))); (refine wpAnyH_take (i := 10) (v := ?_) rfl (by kernel_rfl) (by kernel_rfl) (by kernel_rfl) (fun _ _ _ h => h) (Or.inl ⟨by rfl, ?_⟩) (by assumption) ?_; rotate_left 1; (focus (intro w hSw; (try dsimp only at hSw); go_simp; (try with_reducible rfl))); (try simp only [List.getElem_toArray, List.getElem_cons_zero, List.getElem_cons_succ, Act.put, List.setIfInBounds_toArray, List.set_cons_zero, List.set_cons_succ])); (refine wpAnyH_take (i := 11) (v := ?_) rfl (by kernel_rfl) (by kernel_rfl) (by kernel_rfl) (fun _ _ _ h => h) (Or.inl ⟨by rfl, ?_⟩) (by assumption) ?_; rotate_left 1; (focus (intro w hSw; (try dsimp only at hSw); go_simp; (try with_reducible rfl))); (try simp only [List.getElem_toArray, List.getElem_cons_zero, List.getElem_cons_succ, Act.put, List.setIfInBounds_toArray, List.set_cons_zero, List.set_cons_succ])); (refine wpAnyH_take (i := 12) (v := ?_) rfl (by kernel_rfl) (by kernel_rfl) (by kernel_rfl) (fun _ _ _ h => h) (Or.inl ⟨by rfl, ?_⟩) (by assumption) ?_; rotate_left 1; (focus (intro w hSw; (try dsimp only at hSw); go_simp; (try with_reducible rfl))); (try simp only [List.getElem_toArray, List.getElem_cons_zero, List.getElem_cons_succ, Act.put, List.setIfInBounds_toArray, List.set_cons_zero, List.set_cons_succ])))); rotate_left 1))); rotate_left 2); (all_goals ((refine wpAnyH_ready (rs := [15]) (by kernel_rfl) (by simp) ?_; refine AllReadyH.cons rfl (fun K hK => ?_) AllReadyH.nil; go_simp; (refine hK.out _ _ (by exact trivial) (fun hHeld => ?_); clear hK K; (try simp only [List.getElem_toArray, List.getElem_cons_zero, List.getElem_cons_succ, Act.put, List.setIfInBounds_toArray, List.set_cons_zero, List.set_cons_succ]))); (refine wpAnyH_ready (rs := [16]) (by kernel_rfl) (by simp) ?_; refine AllReadyH.cons rfl (fun K hK => ?_) AllReadyH.nil; go_simp; (refine hK.out _ _ (by exact trivial) (fun hHeld => ?_); clear hK K; (try simp only [List.getElem_toArray, List.getElem_cons_zero, List.getElem_cons_succ, Act.put, List.setIfInBounds_toArray, List.set_cons_zero, List.set_cons_succ]))); refine wpAnyH_done (by kernel_rfl) ?_ _)))
              all_goals go_wp2_with fail
              all_goals go_meet
              all_goals rw [HE2.out] at hB
              · refine ⟨_, _, rfl, rfl, hid (out_mk hB ⟨blk_alloc_old (heap_alloc_new w10 _) _, ?_⟩ ((Chg.refl [] w9).drew) hc10 (S := []) (((Chg.refl [] w10).alloc _).alloc _) (by simp))⟩
                have h := heap_alloc_new (w10.alloc (.cells #[.slice ao3 n3 c3, .slice bo3 m3 d3] 32)) (.cells #[.int .i64 x3, .int .i64 y3, .int .i64 z3] 40)
                rw [World.size_alloc] at h
                exact h
              · refine ⟨_, _, rfl, rfl, hid (out_mk hB ⟨?_, blk_alloc_old (heap_alloc_new w10 _) _⟩ ((Chg.refl [] w9).drew) hc10 (S := []) (((Chg.refl [] w10).alloc _).alloc _) (by simp))⟩
                have h := heap_alloc_new (w10.alloc (.cells #[.int .i64 x3, .int .i64 y3, .int .i64 z3] 40)) (.cells #[.slice ao3 n3 c3, .slice bo3 m3 d3] 32)
                rw [World.size_alloc] at h
                exact h
              · exact ⟨_, _, rfl, rfl, hid (out_mk hB (two_set hnU (blk_alloc_old kU _) (heap_alloc_new w10 _) _ _ _ _ _) (((Chg.refl [] w9).drew).alloc _) hc10 (S := [w9.heap.size]) ((((((((Chg.refl [_] w10).alloc _).setCell (.inl (by simp)) _).setCell (.inl (by simp)) _).setCell (.inr (Nat.le_refl _)) _).setCell (.inr (Nat.le_refl _)) _).setCell (.inr (Nat.le_refl _)) _)) (by simp))⟩
              · exact ⟨_, _, rfl, rfl, hid (out_mk hB (two_set (by simp) kU kF _ _ _ _ _) ((((Chg.refl [] w9).drew).alloc _).alloc _) hc10 (S := [w9.heap.size, w9.heap.size + 1]) (((((((Chg.refl [_, _] w10).setCell (.inl (by simp)) _).setCell (.inl (by simp)) _).setCell (.inl (by simp)) _).setCell (.inl (by simp)) _).setCell (.inl (by simp)) _)) (by intro x hx; simp only [List.mem_cons, List.not_mem_nil, or_false] at hx; refine ⟨by omega, ?_⟩; show x < ((w9.alloc _).alloc _).heap.size; rw [World.size_alloc, World.size_alloc]; omega))⟩
              · refine ⟨_, _, rfl, rfl, hid (out_mk hB ⟨?_, blk_set (blk_set (blk_set (blk_alloc_old kF _) 0 _) 1 _) 2 _⟩ (((Chg.refl [] w9).drew).alloc _) hc10 (S := [w9.heap.size]) ((((((Chg.refl [_] w10).alloc _).setCell (.inl (by simp)) _).setCell (.inl (by simp)) _).setCell (.inl (by simp)) _)) (by simp))⟩
                rw [blk_set_other hnF2, blk_set_other hnF2, blk_set_other hnF2]
                exact heap_alloc_new w10 _
              · exact ⟨_, _, rfl, rfl, hid (out_mk hB (two_set (by simp) kU kF _ _ _ _ _) ((((Chg.refl [] w9).drew).alloc _).alloc _) hc10 (S := [w9.heap.size, w9.heap.size + 1]) (((((((Chg.refl [_, _] w10).setCell (.inl (by simp)) _).setCell (.inl (by simp)) _).setCell (.inl (by simp)) _).setCell (.inl (by simp)) _).setCell (.inl (by simp)) _)) (by intro x hx; simp only [List.mem_cons, List.not_mem_nil, or_false] at hx; refine ⟨by omega, ?_⟩; show x < ((w9.alloc _).alloc _).heap.size; rw [World.size_alloc, World.size_alloc]; omega))⟩
            case rest =>
              obtain ⟨P2, F2, rfl, rfl, HO⟩ := hcut
              obtain ⟨ao3, n3, c3, bo3, m3, d3, x3, y3, z3, hu3, hf3, hcw, hB⟩ := HO.out
              rw [← HS2.out] at HPO
              have hx0 := HU1.out.keep hcw
              have HCW := hid (HC9.out.trans' hcw)
              have HKW := hid (HK9.out.trans' hcw)
              obtain ⟨wf, hwf⟩ : ∃ wf : World, wf = wc := ⟨_, rfl⟩
              rw [← hwf] at hx0 hu3 hf3 HCW HKW hB ⊢
              have a0 : wf.cell? ⟨P, 0, none⟩ = some (.slice ao8 n8 c8) := blk_cell hx0.u 0
              have a1 : wf.cell? ⟨P, 1, none⟩ = some (.slice bo8 m8 d8) := blk_cell hx0.u 1
              have b0 : wf.cell? ⟨P + 1, 0, none⟩ = some (.int .i64 x8) := blk_cell hx0.f 0
              have b1 : wf.cell? ⟨P + 1, 1, none⟩ = some (.int .i64 y8) := blk_cell hx0.f 1
              have e0 : wf.cell? ⟨P2, 0, none⟩ = some (.slice ao3 n3 c3) := blk_cell hu3 0
              have e1 : wf.cell? ⟨P2, 1, none⟩ = some (.slice bo3 m3 d3) := blk_cell hu3 1
              have f0 : wf.cell? ⟨F2, 0, none⟩ = some (.int .i64 x3) := blk_cell hf3 0
              have f1 : wf.cell? ⟨F2, 1, none⟩ = some (.int .i64 y3) := blk_cell hf3 1
              have hp := HPO.out
              have HZ : Hid (x3 = x8 ∧ y3 = y8 ∧ ∃ u v, UnV wf (.agg #[.slice ao8 n8 c8, .slice bo8 m8 d8]) u ∧ UnV wf (.agg #[.slice ao3 n3 c3, .slice bo3 m3 d3]) v ∧ SmallN u ∧ UnS false u v) := by
                rcases HA8.out with ⟨f, h1, rfl, rfl, rfl, _, rfl, rfl, rfl, rfl, rfl, rfl⟩ | ⟨u, h1, rfl, rfl, rfl, h2, h3, _, _⟩
                · rw [h1] at hp
                  rcases hB with ⟨f', k1, rfl, rfl, rfl, _, rfl, rfl, rfl, rfl, rfl, rfl⟩ | ⟨v, k1, _⟩
                  · rw [k1] at hp
                    have hn : UnV wf (.agg #[.slice none 0 0, .slice none 0 0]) ⟨[], []⟩ := ⟨_, _, [], rfl, (Row.nil wf 0 5).view, (Row.nil wf 0 4).view, rfl, by simp⟩
                    refine ⟨hp.1.symm, ?_, ⟨[], []⟩, ⟨[], []⟩, hn, hn, ⟨by simp, by simp, by simp, by simp, by simp, by simp⟩, unS_refl _ _⟩
                    rcases hp.2 with h | ⟨h, _, h', _⟩
                    · exact h.symm
                    · rw [h, h']
                  · rw [k1] at hp
                    exact hp.elim
                · rw [h1] at hp
                  rcases hB with ⟨f', k1, _⟩ | ⟨v, k1, rfl, rfl, rfl, k2, k3⟩
                  · rw [k1] at hp
                    exact hp.elim
                  · rw [k1] at hp
                    exact ⟨rfl, rfl, u, v, h2.unV.keep HKW.out, k2, h3, UnR.same hp⟩
              obtain ⟨hz1, hz2, u, v, hu, hv, hsu, hss⟩ := HZ.out
              have HSM := hid fun W (hc : Chg [] wf W) => same_calls false hss hsu W (hu.keep hc) (hv.keep hc)
              rw [hz1] at f0
              rw [hz2] at f1
              clear hz1 hz2 hu hv hsu hss HZ hp hB hx0 hu3 hf3 hcw hwf
              go_wp2_with (go_at_call 20; refine (HSM.out _ (Chg.refl _ _)).mono ?_; rintro e w18 ⟨rfl, hc18⟩)
              go_ret
              exact ⟨rfl, HCW.out.trans' hc18⟩
theorem gaps_walk (s : ByteArray) (at_ : Int) (rm : ByteArray) (hs : s.size ≤ 1048576) (hr : rm.size ≤ 1048576) (w : World) (hv : VarsP w) : Calls Tryd.prog 7 #[.string s, .int .i64 at_, .string rm] w fun e w' => e = .returned (.bool true) ∧ Chg [] w w' := by
  by_cases hz : (scanD s.data.toList 1 1).2.1 = 0
  · have hlx := lexed_of_scan (s.data.toList.length + 1) s.data.toList (1, 1) (by omega) hz
    have hll := scanD_len s.data.toList 1 1
    rw [data_len] at hll
    have h7 := (lexed_facts hlx).1.ne
    have hlen : (scanD s.data.toList 1 1).1.length ≤ 1048577 := by omega
    exact gaps_main s at_ rm hs hr w hv hlx (List.length_pos_iff.2 h7) hlen
  · exact gaps_bad s at_ rm hs w hv hz
end Go.Proofs.YtmahcabidggmeaaDoor
