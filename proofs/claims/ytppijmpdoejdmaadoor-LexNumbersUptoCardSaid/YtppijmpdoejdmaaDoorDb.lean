/- Walks of the library: a number in hexadecimal digits. -/
import Derived.Test.YtppijmpdoejdmaaDoorDa
import Derived.Test.YtppijmpdoejdmaaDoorLaw
import Derived.Test.YtppijmpdoejdmaaDoorShelf
import Derived.Laws.Slices
import Derived.Lib.ItoaWalk
import Derived.Lib.ItoaMem
namespace Go.Proofs.YtppijmpdoejdmaaDoor
open Go.RowKit Go.AB
set_option linter.unusedSimpArgs false
set_option linter.unusedVariables false

/-- The table of 64 bits' places, as far as it is read. -/
def Tz16 (w : World) : Prop := w.cell? ⟨2, 15, none⟩ = some (.int .u8 4)
theorem Tz16.keep {w w' : World} (h : Tz16 w) (hc : Chg [] w w') : Tz16 w' := hc.cell h (by simp)
theorem tz_at : IntKind.u64.wrap (bits .and .u64 16 (IntKind.u64.wrap (-16)) * 285870213051353865) / 288230376151711744 = 15 := by decide +kernel
set_option maxRecDepth 100000 in
theorem tz64_16 (w : World) (h : Tz16 w) : Calls Tryd.prog 33 #[.int .u64 16] w fun e w' => e = .returned (.int .i64 4) ∧ w = w' := by
  have h0 := tz_at
  have h1 : w.cell? ⟨2, 15, none⟩ = some (.int .u8 4) := h
  go_enter Tryd.func33, Tryd.ntmps33
  go_wp2
  go_ret
  exact ⟨rfl, rfl⟩
set_option maxRecDepth 100000 in
theorem tz_16 (w : World) (h : Tz16 w) : Calls Tryd.prog 29 #[.int .u64 16] w fun e w' => e = .returned (.int .i64 4) ∧ w = w' := by
  go_enter Tryd.func29, Tryd.ntmps29
  go_wp2_with (go_at_call 33; refine (tz64_16 _ h).mono ?_; rintro e w' ⟨rfl, rfl⟩)
  go_ret
  exact ⟨rfl, rfl⟩
set_option maxRecDepth 100000 in
theorem pow2_16 (w : World) : Calls Tryd.prog 28 #[.int .i64 16] w fun e w' => e = .returned (.bool true) ∧ w = w' := by
  have h : bits .and .i64 16 15 = 0 := by decide +kernel
  go_enter Tryd.func28, Tryd.ntmps28
  go_wp2
  go_ret
  exact ⟨rfl, rfl⟩
theorem and15 {E : Int} (h0 : 0 ≤ E) (h1 : E < 18446744073709551616) : bits .and .u64 E 15 = E % 16 := by
  obtain ⟨n, rfl⟩ : ∃ n : Nat, E = n := ⟨E.toNat, by omega⟩
  rw [show (15 : Int) = ((15 : Nat) : Int) from rfl, u64_and_nat _ _ (by omega) (by omega), show (15 : Nat) = 2 ^ 4 - 1 from rfl, Nat.and_two_pow_sub_one_eq_mod]
  omega
theorem zv65 (w : World) : (zeroValue 59).run Tryd.prog w = .ok (.agg (Array.replicate 65 (.int .u8 0))) w := by kernel_rfl
theorem dig_at : ∀ i : Fin 16, (Lib.digits36.data.toList[i.val]?) = some (hx i.val) := by decide +kernel
theorem dig_run (x : Int) (h0 : 0 ≤ x) (h1 : x < 16) (w : World) : (Instr.index 9 (.string Lib.digits36) (.int .u64 x)).run Tryd.prog w = .ok (.int .u8 ((hx x.toNat).toNat : Int)) w := by
  rw [run_index_string w 9 Lib.digits36 .u64 x Tryd.underlying9]
  have hs := Lib.digits36_size
  rw [dif_pos ⟨h0, by omega⟩]
  obtain ⟨h2, e⟩ := List.getElem?_eq_some_iff.1 (dig_at ⟨x.toNat, by omega⟩)
  rw [← e]
  rfl
theorem drop_put {cs : Array Value} {j : Nat} {ds : List UInt8} (hj : j < cs.size) (h : cs.toList.drop (j + 1) = ds.map B) (x : UInt8) : (cs.setIfInBounds j (B x)).toList.drop j = (x :: ds).map B := by
  have hl : j < cs.toList.length := by simpa using hj
  rw [Array.toList_setIfInBounds, List.drop_eq_getElem_cons (by simpa using hj), List.getElem_set_self, List.drop_set_of_lt (Nat.lt_succ_self j), h]
  rfl
set_option maxHeartbeats 4000000 in
set_option maxRecDepth 100000 in
theorem bits_16 (U : Nat) (hU : U < 18446744073709551616) (w : World) (h : Tz16 w) : Calls Tryd.prog 20 #[.slice none 0 0, .int .u64 U, .int .i64 16, .bool false, .bool false] w fun e w' => e = .returned (.tuple #[.slice none 0 0, .string ⟨(hexD U).toArray⟩]) ∧ Chg [] w w' := by
  have HT := hid h
  obtain ⟨V, hV⟩ : ∃ V : Int, (U : Int) = V := ⟨_, rfl⟩
  rw [hV]
  have HV := hid hV
  have hzv := zv65
  have hal : Tryd.prog.arrayLen 59 = 65 := by kernel_rfl
  obtain ⟨Z, hZ⟩ : ∃ Z : Array Value, Array.replicate 65 (Value.int .u8 0) = Z := ⟨_, rfl⟩
  have hZs : Z.size = 65 := by rw [← hZ]; simp
  rw [hZ] at hzv
  clear h hV hZ
  go_enter Tryd.func20, Tryd.ntmps20
  go_name_bytes_deep 30 PM hPM
  clear hPM
  go_name_bytes_deep 30 DG hDG
  have eDG : DG = Lib.digits36 := by rw [← hDG]; decide +kernel
  subst eDG
  clear hDG
  go_wp2_with (first
    | (go_at_call 28; refine (pow2_16 _).mono ?_; rintro e w' ⟨rfl, rfl⟩)
    | (go_at_call 29; refine (tz_16 _ (HT.out.keep ((Chg.refl [] w).alloc _))).mono ?_; rintro e w' ⟨rfl, rfl⟩))
  have hb0 : (w.alloc (.cells Z 59)).heap[w.heap.size]? = some (.cells Z 59 (0, 0)) := heap_alloc_new w _
  go_loopw [1, 13] (fun vu vi wr => ∃ (j : Nat) (u : Int) (cs : Array Value), vu = .int .u64 u ∧ vi = .int .i64 ((j : Int) + 1) ∧ 49 ≤ j ∧ j ≤ 64 ∧ 0 ≤ u ∧ u < 18446744073709551616 ∧ Chg [] w wr ∧ wr.heap[w.heap.size]? = some (.cells cs 59 (0, 0)) ∧ cs.size = 65 ∧
      Hid (∃ ds : List UInt8, hexD U = hexD u.toNat ++ ds ∧ ds.length + j = 64 ∧ cs.toList.drop (j + 1) = ds.map B)) (fun _ vi _ => (intOf vi).toNat)
  case atStart => exact ⟨64, V, Z, rfl, rfl, by omega, by omega, by have := HV.out; omega, by have := HV.out; omega, (Chg.refl [] w).alloc _, hb0, hZs, [], by rw [← HV.out]; simp, by simp, by rw [List.drop_eq_nil_of_le (by rw [Array.length_toList]; omega)]; rfl⟩
  case round =>
    obtain ⟨j, u, cs, rfl, rfl, hj0, hj1, hu0, hu1, hch, hbk, hcs, hh⟩ := hrel
    by_cases hge : 16 ≤ u
    · obtain ⟨ds, q1, q2, q3⟩ := hh.out
      have hbig := hexD_big (u := u.toNat) (by omega)
      have hl := hexD_len 15 U (by omega)
      have hl2 : 1 ≤ (hexD (u.toNat / 16)).length := List.length_pos_iff.2 (hexD_ne _)
      rw [q1, hbig] at hl
      simp only [List.length_append, List.length_cons, List.length_nil] at hl
      obtain ⟨j, rfl⟩ : ∃ k, j = k + 1 := ⟨j - 1, by omega⟩
      have e16 := and15 hu0 hu1
      have hdg := dig_run (u % 16) (by omega) (by omega)
      have c0 : wr.cell? ⟨w.heap.size, j + 1, none⟩ = some (cs[j + 1]'(by omega)) := by rw [blk_cell hbk, Array.getElem?_eq_getElem (by omega)]
      have f0 := blk_free hbk (j + 1)
      have hset := blk_set hbk (j + 1) (.int .u8 ((hx (u % 16).toNat).toNat : Int))
      have hchs := hch.setCell (p := ⟨w.heap.size, j + 1, none⟩) (.inr (Nat.le_refl _)) (.int .u8 ((hx (u % 16).toNat).toNat : Int))
      have hnew : hexD U = hexD (u / 16).toNat ++ (hx (u % 16).toNat :: ds) := by
        rw [q1, hbig, show (u / 16).toNat = u.toNat / 16 from by omega, show (u % 16).toNat = u.toNat % 16 from by omega]
        simp
      have hdrop := drop_put (cs := cs) (j := j + 1) (by omega) q3 (hx (u % 16).toNat)
      obtain ⟨X, hX⟩ : ∃ X, u % 16 = X := ⟨_, rfl⟩
      rw [hX] at e16 hdg hset hchs hnew hdrop
      obtain ⟨D, hD⟩ : ∃ D : Int, ((hx X.toNat).toNat : Int) = D := ⟨_, rfl⟩
      have HN := hid (show ∃ ds : List UInt8, hexD U = hexD (u / 16).toNat ++ ds ∧ ds.length + j = 64 ∧ (cs.setIfInBounds (j + 1) (.int .u8 D)).toList.drop (j + 1) = ds.map B from ⟨_, hnew, by simp only [List.length_cons]; omega, by rw [← hD]; exact hdrop⟩)
      rw [hD] at hdg hset hchs
      have HW := hid (And.intro hset hchs)
      have hj5 : 49 ≤ j := by omega
      clear hh q1 q2 q3 hbig hl hl2 hnew hdrop hX hD hset hchs
      go_wp2
      go_roundw
      case rel => exact ⟨j, u / 16, cs.setIfInBounds (j + 1) (.int .u8 D), by go_num, by go_num, hj5, by omega, by omega, by omega, HW.out.2, HW.out.1, by simp [hcs], HN.out⟩
      case measure => simp [intOf]; omega
    · obtain ⟨ds, q1, q2, q3⟩ := hh.out
      have hsm := hexD_small (u := u.toNat) (by omega)
      have hdg := dig_run u (by omega) (by omega)
      obtain ⟨x0, hx0⟩ : ∃ x, cs[j]? = some x := ⟨_, Array.getElem?_eq_getElem (by omega)⟩
      have c0 : wr.cell? ⟨w.heap.size, j, none⟩ = some x0 := by rw [blk_cell hbk, hx0]
      have f0 := blk_free hbk j
      have hset := blk_set hbk j (.int .u8 ((hx u.toNat).toNat : Int))
      have hchs := hch.setCell (p := ⟨w.heap.size, j, none⟩) (.inr (Nat.le_refl _)) (.int .u8 ((hx u.toNat).toNat : Int))
      have hnew : hexD U = hx u.toNat :: ds := by rw [q1, hsm]; rfl
      have hdrop := drop_put (cs := cs) (j := j) (by omega) q3 (hx u.toNat)
      rw [← hnew] at hdrop
      have hlen : (hexD U).length = 65 - j := by rw [hnew]; simp only [List.length_cons]; omega
      obtain ⟨D, hD⟩ : ∃ D : Int, ((hx u.toNat).toNat : Int) = D := ⟨_, rfl⟩
      rw [hD] at hdg hset hchs
      have hval : (B (hx u.toNat)) = Value.int .u8 D := by rw [← hD]; rfl
      rw [hval] at hdrop
      have hview : View (wr.setCell ⟨w.heap.size, j, none⟩ (.int .u8 D)) 1 (.slice (some ⟨w.heap.size, j, none⟩) (65 - j) (65 - j)) (65 - j) ((hexD U).map B) := by
        refine ⟨by rw [List.length_map, hlen]; omega, by unfold maxLen; omega, _, _, rfl, Nat.le_refl _, by unfold maxLen; omega, (fun h => by cases h), fun _ => ⟨_, _, rfl, fun i hi => ?_⟩⟩
        rw [blk_cell hset, ← hdrop]
        simp only [List.getD, List.getElem?_drop, Array.getElem?_toList]
        rw [Array.getElem?_eq_getElem (by simp; omega)]
        rfl
      have hcv := fun v (hv : v = Value.slice (some ⟨w.heap.size, j, none⟩) (65 - j) (65 - j)) => run_conv_view (P := Tryd.prog) (src := 52) (dst := 9) (e := 5) Tryd.underlying52 Tryd.underlying5 Tryd.underlying9 hview _ rfl
      have hcv := hcv _ rfl
      have hsl : ∀ W, (Instr.sliceAt 59 (.pointer (some ⟨w.heap.size, 0, none⟩)) (some (.int .i64 (j : Int))) none none).run Tryd.prog W = .ok (.slice (some ⟨w.heap.size, j, none⟩) (65 - j) (65 - j)) W := fun W => by
        rw [run_sliceAt_array_l W 59 ⟨w.heap.size, 0, none⟩ (by kernel_rfl) .i64 (j : Int) (by omega) (by rw [hal]; omega)]
        rw [hal]
        go_simp
        omega
      have HW := hid hchs
      clear hh q1 q2 q3 hsm hnew hdrop hD hset hchs hview hval hx0
      go_wp2
      go_ret2
      exact ⟨rfl, HW.out⟩
set_option maxRecDepth 100000 in
theorem fmt_16 (U : Nat) (hU : U < 18446744073709551616) (w : World) (h : Tz16 w) : Calls Tryd.prog 6 #[.int .u64 U, .int .i64 16] w fun e w' => e = .returned (.string ⟨(hexD U).toArray⟩) ∧ Chg [] w w' := by
  have hb := bits_16 U hU
  obtain ⟨V, hV⟩ : ∃ V : Int, (U : Int) = V := ⟨_, rfl⟩
  obtain ⟨S, hS⟩ : ∃ S : ByteArray, ⟨(hexD U).toArray⟩ = S := ⟨_, rfl⟩
  rw [hV, hS] at hb ⊢
  have HB := hid hb
  clear hb hV hU hS
  have hi : ∀ u, Tz16 u → Calls Tryd.prog 11 #[.int .u64 V, .int .i64 16] u fun e w' => e = .returned (.string S) ∧ Chg [] u w' := fun u hu => by
    go_enter Tryd.func11, Tryd.ntmps11
    go_wp2_with (go_at_call 20; refine (HB.out _ hu).mono ?_; rintro e w' ⟨rfl, hc⟩)
    go_ret
    exact ⟨rfl, hc⟩
  have HI := hid hi
  clear hi
  go_enter Tryd.func6, Tryd.ntmps6
  go_wp2_with (go_at_call 11; refine (HI.out _ h).mono ?_; rintro e w' ⟨rfl, hc⟩)
  go_ret
  exact ⟨rfl, hc⟩
end Go.Proofs.YtppijmpdoejdmaaDoor
