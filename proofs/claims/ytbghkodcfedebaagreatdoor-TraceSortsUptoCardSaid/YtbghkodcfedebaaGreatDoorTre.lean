/- Walks of the trace layer: whether all events are plain; a list's text. -/
import Derived.Test.YtbghkodcfedebaaGreatDoorTrd
set_option linter.unusedVariables false
set_option linter.unusedSectionVars false
set_option linter.unusedSimpArgs false
namespace Go.AB
open Go.RowKit
theorem flat_put {α : Type} {f : α → List Value} {k : Nat} (hf : ∀ x, (f x).length = k) : ∀ (l : List α) (i : Nat) (hi : i < l.length) (y : α) (j : Nat) (hj : j < k) (u : Value) (hy : f y = (f l[i]).set j u), (l.flatMap f).set (i * k + j) u = (l.set i y).flatMap f
  | [], i, hi, _, _, _, _, _ => by simp at hi
  | x :: l, 0, hi, y, j, hj, u, hy => by
    simp only [List.getElem_cons_zero] at hy
    rw [List.flatMap_cons, List.set_cons_zero, List.flatMap_cons, List.set_append_left _ _ (by rw [hf]; omega), hy]
    congr 2
    omega
  | x :: l, i + 1, hi, y, j, hj, u, hy => by
    have h := flat_put hf l i (by simpa using hi) y j hj u (by simpa using hy)
    rw [List.flatMap_cons, List.set_cons_succ, List.flatMap_cons, List.set_append_right _ _ (by rw [hf, Nat.add_mul]; omega), hf, show (i + 1) * k + j - k = i * k + j from by rw [Nat.add_mul]; omega, h]
theorem Row.atf {α : Type} {f : α → List Value} {k : Nat} (hf : ∀ x, (f x).length = k) {w : World} {e g n : Nat} {v : Value} {xs : List α} (h : Row w e k v (some g) n (xs.flatMap f)) (hn : xs.length = n) {i : Nat} (hi : i < xs.length) {j : Nat} (hj : j < k) :
    w.cell? ⟨g, i * k + j, none⟩ = some ((f xs[i]).getD j undef) := by
  have h1 := (Row.cellk h).1 (i * k + j) (by
    subst hn
    have h2 : (i + 1) * k ≤ xs.length * k := Nat.mul_le_mul_right k (by omega)
    rw [Nat.add_mul] at h2
    omega)
  rw [h1, flat_get hf xs i j hi hj]
theorem View.struct (w : World) (cs : List Value) (t : TypeId) {k : Nat} (hk : cs.length = k) : View (w.alloc (.cells cs.toArray t)) k (.slice (some ⟨w.heap.size, 0, none⟩) 1 1) 1 cs := by
  refine ⟨by omega, by simp [maxLen], _, _, rfl, Nat.le_refl _, by simp [maxLen], (fun h => by cases h), fun h0 => ⟨_, _, rfl, fun j hj => ?_⟩⟩
  have hj' : j < cs.length := by omega
  rw [blk_cell (blk_alloc_new w _)]
  simp [List.getD, hj']
theorem View.structAt (w : World) (cs : List Value) (t : TypeId) {k b : Nat} (hb : w.heap.size = b) (hk : cs.length = k) : View (w.alloc (.cells cs.toArray t)) k (.slice (some ⟨b, 0, none⟩) 1 1) 1 cs := by
  subst hb
  exact View.struct w cs t hk
/-- An element of a list of structs is written. -/
theorem Hp.putf {α : Type} {f : α → List Value} {k : Nat} (hf : ∀ x, (f x).length = k) {S0 : List Nat} {w0 w : World} {I : List It} (h : Hp S0 w0 w I) (m : Nat) {e n g : Nat} {v : Value} {xs : List α} (hi : I[m]? = some (.row e k v (some g) n (xs.flatMap f))) {i : Nat} (hx : i < xs.length) (y : α) {j : Nat} (hj : j < k) {u : Value} (hy : f y = (f xs[i]).set j u) {I' : List It} (hI : I.set m (.row e k v (some g) n ((xs.set i y).flatMap f)) = I') : Hp S0 w0 (w.setCell ⟨g, i * k + j, none⟩ u) I' := by
  refine h.puti m hi (i * k + j) u ?_
  rw [← hI, flat_put hf xs i hx y j hj u hy]
/-- An event of a list, in its cells. -/
theorem ev_at {w : World} {ao : Option Addr} {n cap : Nat} {l : List Ev} (h : Lst evC 3 w (.slice ao n cap) l) {i : Nat} (hi : i < l.length) :
    ∃ b off, ao = some ⟨b, off, none⟩ ∧ w.cell? ⟨b, off + i * 3, none⟩ = some (.int .i64 l[i].k) ∧ w.cell? ⟨b, off + i * 3 + 1, none⟩ = some (.int .i64 l[i].t) ∧ w.cell? ⟨b, off + i * 3 + 2, none⟩ = some (.int .i64 l[i].o) := by
  obtain ⟨b, off, e, hc⟩ := h.at evC_len hi (by omega)
  exact ⟨b, off, e, hc 0 (by omega), hc 1 (by omega), hc 2 (by omega)⟩
theorem take_all {α : Type} {p : α → Bool} {l : List α} {i : Nat} (hi : i < l.length) (h : (l.take i).all p = true) (h2 : p l[i] = true) : (l.take (i + 1)).all p = true := by
  rw [List.take_succ_eq_append_getElem hi, List.all_append, h, Bool.true_and]
  simpa using h2
theorem all_bad {α : Type} {p : α → Bool} {l : List α} {i : Nat} (hi : i < l.length) (h : p l[i] = false) : l.all p = false := by
  rw [List.all_eq_false]
  exact ⟨l[i], List.getElem_mem hi, by rw [h]; decide⟩
theorem lines_take {l : List Ev} {i : Nat} (hi : i < l.length) : linesE (l.take (i + 1)) = linesE (l.take i) ++ lineE l[i] := by
  unfold linesE
  rw [List.take_succ_eq_append_getElem hi, List.flatMap_append]
  simp
theorem lines_mono (l : List Ev) (i : Nat) : (linesE (l.take i)).length ≤ (linesE l).length := by
  conv => rhs; rw [← List.take_append_drop i l]
  unfold linesE
  rw [List.flatMap_append, List.length_append]
  omega
end Go.AB
namespace Go.Proofs.YtbghkodcfedebaaGreatDoor
open Go.RowKit Go.AB
set_option linter.unusedSimpArgs false
set_option linter.unusedVariables false
set_option linter.unusedSectionVars false

theorem odd1_calls (x : Ev) (w : World) : Calls Tryz.prog 66 #[evV x] w fun e w' => e = .returned (.bool (!plainE x)) ∧ Chg [] w w' := by
  have HP := hid fun W => plain_calls x W
  have HC := hid ((Chg.refl [] w).alloc (.cells #[.int .i64 x.k, .int .i64 x.t, .int .i64 x.o] 28))
  unfold evV at HP ⊢
  obtain ⟨P, hP⟩ : ∃ P, plainE x = P := ⟨_, rfl⟩
  rw [hP] at HP ⊢
  clear hP
  go_enter Tryz.func66, Tryz.ntmps66
  go_wp2_with (go_at_call 11; refine (HP.out _).mono ?_; rintro e w1 ⟨rfl, hc⟩)
  go_ret
  exact ⟨rfl, HC.out.trans' hc⟩
set_option maxHeartbeats 4000000 in
set_option maxRecDepth 100000 in
theorem ixfunc_calls {v : Value} (l : List Ev) (w : World) (hl : Lst evC 3 w v l) (hn : l.length ≤ 16777216) :
    Calls Tryz.prog 101 #[v, .func (.func 66) #[] #[]] w fun e w' => (∃ r : Int, e = .returned (.int .i64 r) ∧ Hid (decide (0 ≤ r) = !l.all plainE)) ∧ Chg [] w w' := by
  obtain ⟨ao, cap, rfl, _⟩ := hl.len
  obtain ⟨n, hln⟩ : ∃ n, l.length = n := ⟨_, rfl⟩
  rw [hln] at hl hn ⊢
  have HL := hid hl
  have HN := hid hln
  clear hl hln
  go_enter Tryz.func101, Tryz.ntmps101
  go_upto_region 2 with fail
  go_loopg [8] n (fun gk v8 wr => ∃ i : Nat, v8 = .int .i64 i ∧ Hid (gk + i = n) ∧ Hid (Chg [] w wr ∧ (l.take i).all plainE = true))
  case atStart => exact ⟨0, rfl, hid (by omega), hid ⟨Chg.refl _ _, by simp⟩⟩
  case round =>
    obtain ⟨i, rfl, HG, HR⟩ := hrel
    by_cases hlt : i < n
    · have hil : i < l.length := by rw [HN.out]; exact hlt
      obtain ⟨b, off, rfl, x0, x1, x2⟩ := ev_at (HL.out.keep HR.out.1) hil
      have HO := hid (odd1_calls l[i] wr)
      have HG2 := hid fun h : plainE l[i] = true => take_all hil HR.out.2 h
      have HB2 := hid fun h : plainE l[i] = false => all_bad hil h
      obtain ⟨x, hx⟩ : ∃ x, l[i] = x := ⟨_, rfl⟩
      rw [hx] at x0 x1 x2 HO HG2 HB2
      unfold evV at HO
      clear hx
      cases hp : plainE x with
      | false =>
        rw [hp] at HO
        have HB3 := hid (HB2.out hp)
        clear hp
        go_wp2_with (go_at_call 66; refine HO.out.mono ?_; rintro e w1 ⟨rfl, hc⟩)
        go_ret
        exact ⟨⟨_, rfl, hid (by rw [HB3.out]; simp)⟩, HR.out.1.trans' hc⟩
      | true =>
        rw [hp] at HO
        have HG3 := hid (HG2.out hp)
        clear hp
        go_wp2_with (go_at_call 66; refine HO.out.mono ?_; rintro e w1 ⟨rfl, hc⟩)
        go_roundg (gk - 1)
        case measure => have := HG.out; omega
        case rel => exact ⟨i + 1, by go_num, hid (by have := HG.out; omega), hid ⟨HR.out.1.trans' hc, HG3.out⟩⟩
    · have hin : l.length ≤ i := by rw [HN.out]; omega
      have HA : Hid (l.all plainE = true) := hid (by have := HR.out.2; rwa [List.take_of_length_le hin] at this)
      clear hin
      go_wp2
      go_ret
      exact ⟨⟨_, rfl, hid (by rw [HA.out]; rfl)⟩, HR.out.1⟩
theorem odd_calls {v : Value} (l : List Ev) (w : World) (hl : Lst evC 3 w v l) (hn : l.length ≤ 16777216) :
    Calls Tryz.prog 38 #[v] w fun e w' => e = .returned (.bool (!l.all plainE)) ∧ Chg [] w w' := by
  obtain ⟨ao, cap, rfl, _⟩ := hl.len
  have HI := hid (ixfunc_calls l w hl hn)
  have HC : Hid (Calls Tryz.prog 65 #[.slice ao l.length cap, .func (.func 66) #[] #[]] w fun e w' => e = .returned (.bool (!l.all plainE)) ∧ Chg [] w w') := by
    apply hid
    obtain ⟨P, hP⟩ : ∃ P, l.all plainE = P := ⟨_, rfl⟩
    rw [hP] at HI ⊢
    clear hP
    go_enter Tryz.func65, Tryz.ntmps65
    go_wp2_with (go_at_call 101; refine HI.out.mono ?_; rintro e w1 ⟨⟨r, rfl, hr⟩, hc⟩)
    go_ret
    exact ⟨by first | rfl | (rw [hr.out]; rfl), hc⟩
  obtain ⟨P, hP⟩ : ∃ P, l.all plainE = P := ⟨_, rfl⟩
  rw [hP] at HC ⊢
  clear hP HI
  go_enter Tryz.func38, Tryz.ntmps38
  go_wp2_with (go_at_call 65; refine HC.out.mono ?_; rintro e w1 ⟨rfl, hc⟩)
  go_ret
  exact ⟨rfl, hc⟩
/-- What Text answers. -/
def TxtP (w : World) (d : List UInt8 × Nat) (e : Ending) (w' : World) : Prop := e = .returned (.tuple #[.string (bA d.1), .int .i64 d.2]) ∧ Chg [] w w'
set_option maxHeartbeats 8000000 in
set_option maxRecDepth 100000 in
theorem text_calls {v : Value} (l : List Ev) (w : World) (hl : Lst evC 3 w v l) (hn : l.length ≤ 1048576) (hv : VarsT w) :
    Calls Tryz.prog 13 #[v] w (TxtP w (textD l)) := by
  have HO := hid (odd_calls l w hl (by omega))
  obtain ⟨ao, cap, rfl, _⟩ := hl.len
  obtain ⟨D, hD⟩ : ∃ D, textD l = D := ⟨_, rfl⟩
  rw [hD]
  have HV := hid hv
  have HL := hid hl
  cases hp : l.all plainE with
  | false =>
    rw [hp] at HO
    have HD : Hid (D = ([], 6)) := hid (by rw [← hD]; unfold textD; rw [hp]; rfl)
    clear hp hD hl
    go_enter Tryz.func13, Tryz.ntmps13
    go_wp2_with (go_at_call 38; refine HO.out.mono ?_; rintro e w1 ⟨rfl, hc⟩)
    go_ret2
    exact ⟨by rw [HD.out]; rfl, hc⟩
  | true =>
    rw [hp] at HO
    obtain ⟨n, hln⟩ : ∃ n, l.length = n := ⟨_, rfl⟩
    rw [hln] at hn HO HL ⊢
    have HN := hid hln
    have HP := hid hp
    have HD : Hid (D = if 16777216 < (linesE l).length then ([], 3) else (linesE l, 0)) := hid (by rw [← hD]; unfold textD; rw [hp]; rfl)
    clear hp hD hl hln
    go_enter Tryz.func13, Tryz.ntmps13
    go_upto_region 4 with (go_at_call 38; refine HO.out.mono ?_; rintro e w1 ⟨rfl, hc⟩; refine halt (fun XX hXX => ?_); have HC1 := hid hc; clear hc; rw [hXX.out]; clear hXX XX)
    have HB0 : Hid (BT w1 (w1.alloc (.cells #[.pointer none, .slice none 0 0] 78)) w1.heap.size [] none) := hid ⟨⟨_, _, Bld.start w1⟩, (Chg.refl [] w1).alloc _, Nat.le_refl _, by simp⟩
    obtain ⟨B, hB⟩ : ∃ B, w1.heap.size = B := ⟨_, rfl⟩
    obtain ⟨w2, hw2⟩ : ∃ w2, w1.alloc (.cells #[.pointer none, .slice none 0 0] 78) = w2 := ⟨_, rfl⟩
    rw [hB] at HB0 ⊢
    rw [hw2] at HB0 ⊢
    have HBW := hid hB
    clear hB hw2 HO
    go_upto_region 5 with fail
    go_loopg [11] n (fun gk v11 wr => ∃ (i : Nat) (r : Option Nat), v11 = .int .i64 i ∧ Hid (gk + i = n) ∧ Hid (BT w1 wr B (linesE (l.take i)) r ∧ (linesE (l.take i)).length ≤ 16777216))
    case atStart => exact ⟨0, none, rfl, hid (by omega), hid ⟨HB0.out, by simp [linesE]⟩⟩
    case round =>
      obtain ⟨i, r, rfl, HG, HR⟩ := hrel
      by_cases hlt : i < n
      · have hil : i < l.length := by rw [HN.out]; exact hlt
        obtain ⟨b, off, rfl, x0, x1, x2⟩ := ev_at (HL.out.keep (HC1.out.trans' HR.out.1.chg)) hil
        have hpx : plainE l[i] = true := List.all_eq_true.1 HP.out _ (List.getElem_mem hil)
        have HTK := hid (lines_take hil)
        have hmx := lines_mono l (i + 1)
        obtain ⟨acc, hacc⟩ : ∃ acc, linesE (l.take i) = acc := ⟨_, rfl⟩
        rw [hacc] at HR HTK
        have HS := hid (line_short hpx).1
        obtain ⟨x, hx⟩ : ∃ x, l[i] = x := ⟨_, rfl⟩
        rw [hx] at x0 x1 x2 hpx HTK HS
        have HPX := hid fun W (hc : Chg [] wr W) => put_calls x hpx (HR.out.1.same hc) (HV.out.keep HC1.out) HR.out.2
        unfold evV at HPX
        have HMX := hid hmx
        have HIL := hid hil
        clear hx hacc hpx hmx hil
        go_wp2_with (go_at_call 39; refine (HPX.out _ ((Chg.refl [] wr).alloc _)).mono ?_; rintro e w3 ⟨rfl, r3, hb3, hc3, hf3⟩; refine halt (fun XX hXX => ?_))
        have HB3 := hid hb3
        have HLN := hid (blen_calls hb3)
        have HX3 : Hid ((linesE (l.take (i + 1))) = acc ++ lineE x) := HTK
        obtain ⟨m, hm⟩ : ∃ m, (acc ++ lineE x).length = m := ⟨_, rfl⟩
        rw [hm] at HLN
        have HM := hid hm
        clear hb3 hc3 hf3 hm x0 x1 x2
        rw [hXX.out]; clear hXX XX
        by_cases hbig : 16777216 < m
        · have hlong : Hid (16777216 < (linesE l).length) := hid (by have := HMX.out; rw [HX3.out, HM.out] at this; omega)
          go_wp2_with (go_at_call 40; refine HLN.out.mono ?_; rintro e w4 ⟨rfl, rfl⟩)
          go_ret2
          exact ⟨by rw [HD.out, if_pos hlong.out]; rfl, HC1.out.trans' HB3.out.chg⟩
        · have HBG : Hid (m ≤ 16777216) := hid (by omega)
          go_wp2_with (go_at_call 40; refine HLN.out.mono ?_; rintro e w4 ⟨rfl, rfl⟩)
          go_roundg (gk - 1)
          case measure => have := HG.out; omega
          case rel => exact ⟨i + 1, r3, by go_num, hid (by have := HG.out; omega), hid ⟨by rw [HX3.out]; exact HB3.out, by rw [HX3.out, HM.out]; exact HBG.out⟩⟩
      · have hin : l.length ≤ i := by rw [HN.out]; omega
        rw [List.take_of_length_le hin] at HR
        obtain ⟨ao2, cap2, hbld⟩ := HR.out.1.bld
        have HST := hid (bstring_calls (B0 := w1.heap.size) hbld HR.out.1.ge HR.out.1.rge HR.out.1.chg.size)
        have HD2 : Hid (D = (linesE l, 0)) := hid (by rw [HD.out, if_neg (by have := HR.out.2; omega)])
        clear hin hbld
        go_wp2_with (go_at_call 41; refine HST.out.mono ?_; rintro e w3 ⟨rfl, hbl⟩)
        go_ret2
        exact ⟨by rw [HD2.out]; rfl, HC1.out.trans' (Chg.of_below (HR.out.1.chg.to_below.trans hbl) _)⟩
end Go.Proofs.YtbghkodcfedebaaGreatDoor
