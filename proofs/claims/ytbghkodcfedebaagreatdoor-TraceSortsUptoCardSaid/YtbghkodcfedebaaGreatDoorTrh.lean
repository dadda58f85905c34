/- Walks of the trace layer: a text read. -/
import Derived.Test.YtbghkodcfedebaaGreatDoorTrg
set_option linter.unusedVariables false
set_option linter.unusedSectionVars false
set_option linter.unusedSimpArgs false
namespace Go.AB
open Go.RowKit
theorem bA_nil : bA [] = ⟨#[]⟩ := rfl
theorem isEmpty_bA (L : List UInt8) : (bA L).toList.isEmpty = L.isEmpty := by rw [bA_toList]
theorem evs_snoc (l : List Ev) (x : Ev) : l.flatMap evC ++ [.int .i64 x.k, .int .i64 x.t, .int .i64 x.o] = (l ++ [x]).flatMap evC := by rw [List.flatMap_append]; simp [evC]
end Go.AB
namespace Go.Proofs.YtbghkodcfedebaaGreatDoor
open Go.RowKit Go.AB
set_option linter.unusedSimpArgs false
set_option linter.unusedVariables false
set_option linter.unusedSectionVars false

/-- A list of events in new memory. -/
def NewE (w : World) (l : List Ev) (v : Value) (w' : World) : Prop := ∃ ao cap r, v = .slice ao l.length cap ∧ Row w' 28 3 (.slice ao l.length cap) r l.length (l.flatMap evC) ∧ Fresh w none r ∧ Chg [] w w'
/-- What Parse answers. -/
def ParP (w : World) (p : Except Nat (List Ev)) (e : Ending) (w' : World) : Prop := match p with
  | .error n => e = .returned (.tuple #[.slice none 0 0, .int .i64 n, .int .i64 180]) ∧ Chg [] w w'
  | .ok l => ∃ v, e = .returned (.tuple #[v, .int .i64 0, .int .i64 0]) ∧ NewE w l v w'
set_option maxHeartbeats 8000000 in
set_option maxRecDepth 100000 in
theorem parse_calls (s : List UInt8) (hs : s.length ≤ 16777216) (w : World) (hv : VarsT w) : Calls Tryz.prog 20 #[.string (bA s)] w (ParP w (parseD s)) := by
  obtain ⟨n, hn⟩ : ∃ n, s.length = n := ⟨_, rfl⟩
  obtain ⟨D, hD⟩ : ∃ D, parseD s = D := ⟨_, rfl⟩
  rw [hD]
  have HD : Hid (parseE (n + 1) s [] = D) := hid (by rw [← hn, ← hD]; rfl)
  have HV := hid hv
  have hsz : (bA s).size ≤ 16777216 := by rw [bA_size]; exact hs
  have HN := hid hn
  have hns : n ≤ 16777216 := by omega
  clear hD hv hn
  go_enter Tryz.func20, Tryz.ntmps20
  go_upto_region 4 with fail
  go_loopg [0, 5] n (fun gk v0 v5 wr => ∃ (L : List UInt8) (acc : List Ev) (ao : Option Addr) (cap : Nat) (r : Option Nat), v0 = .string (bA L) ∧ v5 = .slice ao acc.length cap ∧ Hid (L.length ≤ gk ∧ gk ≤ n ∧ acc.length + gk ≤ n) ∧ Hid (parseE (gk + 1) L acc = D) ∧ Hid (Row wr 28 3 (.slice ao acc.length cap) r acc.length (acc.flatMap evC) ∧ Fresh w none r ∧ Chg [] w wr))
  case atStart => exact ⟨s, [], none, 0, none, rfl, rfl, hid (by have := HN.out; simp; omega), HD, hid ⟨Row.nil _ _ _, Fresh.refl _ _, Chg.refl _ _⟩⟩
  case round =>
    obtain ⟨L, acc, ao, cap, r, rfl, rfl, HG, HP, HS⟩ := hrel
    by_cases hL : L = []
    · subst hL
      have HO := hid (show D = .ok acc by rw [← HP.out]; exact parseE_nil _ _)
      rw [bA_nil]
      go_wp2
      go_ret3
      rw [HO.out]
      exact ⟨_, rfl, ao, cap, r, rfl, HS.out⟩
    · have hem : (bA L).toList.isEmpty = false := by rw [isEmpty_bA]; cases L with | nil => exact absurd rfl hL | cons a l => rfl
      have hLn : L.length ≤ 16777216 := by have := HG.out; omega
      have HC := hid (cutT L (by omega) wr (HV.out.keep HS.out.2.2))
      have HL := hid hL
      clear hL
      cases hc : cutE L with
      | none =>
        have HO : Hid (D = .error (acc.length + 1)) := hid (by rw [← HP.out]; exact parseE_bad HL.out (.inl hc))
        unfold CutP at HC
        rw [hc] at HC
        have HE := hid fun W (h : Chg [] w W) => event_calls L hLn W (HV.out.keep h)
        have hal : wrap64 ((acc.length : Int) + 1) = (acc.length : Int) + 1 := IntWalk.wrap64_in _ (by have := HG.out; omega)
        clear hc
        go_wp2_with (first
          | (go_at_call 50; refine HC.out.mono ?_; rintro e w1 ⟨rfl, hc1⟩; have HC1 := hid (HS.out.2.2.trans' hc1); clear hc1)
          | (go_at_call 51; refine (HE.out _ HC1.out).mono ?_; rintro e w2 ⟨⟨x, ok, rfl, hx⟩, hc2⟩; unfold evV))
        go_ret3
        rw [HO.out]
        refine ⟨?_, (HC1.out.trans' hc2).alloc _⟩
        show Ending.returned (.tuple #[.slice none 0 0, .int .i64 (wrap64 ((acc.length : Int) + 1)), .int .i64 180]) = _
        rw [hal]
        rfl
      | some p =>
        obtain ⟨a, rest⟩ := p
        unfold CutP at HC
        rw [hc] at HC
        obtain ⟨_, hLa⟩ := cutE_some hc
        have hll : L.length = a.length + 1 + rest.length := by rw [hLa]; simp; omega
        have HE := hid fun W (h : Chg [] w W) => event_calls a (by omega) W (HV.out.keep h)
        have hal : wrap64 ((acc.length : Int) + 1) = (acc.length : Int) + 1 := IntWalk.wrap64_in _ (by have := HG.out; omega)
        have HCU := hid hc
        have HLL := hid hll
        clear hc hll hLa
        go_upto_region 7 with (first
          | (go_at_call 50; refine HC.out.mono ?_; rintro e w1 ⟨rfl, hc1⟩; have HC1 := hid (HS.out.2.2.trans' hc1); have HR1 := hid (HS.out.1.keep hc1 (by simp)); clear hc1)
          | (go_at_call 51; refine (HE.out _ HC1.out).mono ?_; rintro e w2 ⟨⟨x, ok, rfl, hx⟩, hc2⟩; unfold evV; have HC2 := hid (HC1.out.trans' hc2); have HR2 := hid (HR1.out.keep hc2 (by simp)); have HX := hid hx.out; clear hc2 hx))
        rcases HX.out with ⟨rfl, hrd⟩ | ⟨rfl, hrd⟩
        · have hx2 := heap_alloc_new w2 (.cells #[.int .i64 x.k, .int .i64 x.t, .int .i64 x.o] 28)
          have hc3 := (Chg.refl [] w2).alloc (.cells #[.int .i64 x.k, .int .i64 x.t, .int .i64 x.o] 28)
          have HR3 := hid (HR2.out.keep hc3 (by simp))
          have HC3 := hid (HC2.out.trans' hc3)
          have HPN := hid (parseE_fed (n := gk) (acc := acc) HCU.out hrd)
          have x0 := (blk_cell hx2 0).trans rfl
          have x1 := (blk_cell hx2 1).trans rfl
          have x2 := (blk_cell hx2 2).trans rfl
          generalize hw3 : w2.alloc (.cells #[.int .i64 x.k, .int .i64 x.t, .int .i64 x.o] 28) = w3 at HR3 HC3 x0 x1 x2 ⊢
          have hlt : w2.heap.size < w3.heap.size := by rw [← hw3]; simp
          generalize w2.heap.size = E at x0 x1 x2 hlt ⊢
          clear hrd hx2 hc3 hw3
          have hbd : acc.length ≤ 16777216 := by have := HG.out; omega
          go_wp2_with (at_builtin; refine wpList_grew rfl _ _ 22 rfl elem_ev rfl (HR3.out.keep ((Chg.refl [] w3).alloc _) (by simp)) rfl (View.struct _ [.int .i64 x.k, .int .i64 x.t, .int .i64 x.o] 28 rfl) (by simp [Value.oneCell']) (by unfold maxLen; omega) (by omega) (fun ao' cap' r' w4 hr4 hg4 => halt (fun X hX => ?_)))
          have hcA := (Chg.refl [] w3).alloc (.cells [Value.int .i64 x.k, .int .i64 x.t, .int .i64 x.o].toArray 28)
          rw [evs_snoc] at hr4
          have hfr : Fresh w none r' := HS.out.2.1.trans (HC3.out.trans' hcA).size hg4.fresh
          have hch : Chg [] w w4 := (HC3.out.trans' hcA).trans hg4.chg (fun g hg => .inr (by
            have := HS.out.2.1 g (by simpa using hg)
            simpa using this))
          have HF := hid (And.intro hr4 (And.intro hfr hch))
          clear hr4 hg4 hfr hch hcA x0 x1 x2 hlt
          rw [hX.out]; clear hX
          go_wp2_with fail
          have hg1 : 1 ≤ gk := by have := HG.out.1; have := HLL.out; omega
          go_roundg (gk - 1)
          case measure => omega
          case rel =>
            refine ⟨rest, acc ++ [x], ao', cap', r', rfl, by simp, hid (by have := HG.out; have := HLL.out; simp; omega), hid ?_, hid ?_⟩
            · rw [show gk - 1 + 1 = gk from by omega, ← HPN.out]; exact HP.out
            · rw [List.length_append]; exact HF.out
        · have HO : Hid (D = .error (acc.length + 1)) := hid (by rw [← HP.out]; exact parseE_bad HL.out (.inr ⟨a, rest, HCU.out, hrd⟩))
          clear hrd
          go_wp2
          go_ret3
          rw [HO.out]
          refine ⟨?_, HC2.out.alloc _⟩
          first | rfl | (push_cast; rfl)
end Go.Proofs.YtbghkodcfedebaaGreatDoor
