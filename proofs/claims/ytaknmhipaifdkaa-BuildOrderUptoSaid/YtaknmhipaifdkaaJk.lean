/- Walks of the builder's laws: led, fit; lists turned element by element. -/
import Derived.Test.YtaknmhipaifdkaaJf
import Derived.Test.YtaknmhipaifdkaaJg
set_option linter.unusedSimpArgs false
set_option linter.unusedSectionVars false
namespace Go.AB
open Go.RowKit
set_option linter.unusedVariables false
/-- A list of which the first i elements are turned. -/
def mapTo {α : Type} (r : α → α) (xs : List α) (i : Nat) : List α := (xs.take i).map r ++ xs.drop i
section
variable {α : Type} (r : α → α) (xs : List α)
theorem mapTo_len (i : Nat) : (mapTo r xs i).length = xs.length := by simp only [mapTo, List.length_append, List.length_map, List.length_take, List.length_drop]; omega
theorem mapTo_zero : mapTo r xs 0 = xs := by simp [mapTo]
theorem mapTo_all {i : Nat} (h : xs.length ≤ i) : mapTo r xs i = xs.map r := by unfold mapTo; rw [List.take_of_length_le h, List.drop_of_length_le h, List.append_nil]
theorem mapTo_get {i : Nat} (hi : i < xs.length) : (mapTo r xs i)[i]'(by rw [mapTo_len]; exact hi) = xs[i] := by
  unfold mapTo
  have h1 : ((xs.take i).map r).length = i := by simp; omega
  rw [List.getElem_append_right (by omega)]
  simp only [h1, Nat.sub_self, List.getElem_drop, Nat.add_zero]
theorem mapTo_set {i : Nat} (hi : i < xs.length) : (mapTo r xs i).set i (r xs[i]) = mapTo r xs (i + 1) := by
  unfold mapTo
  have h1 : ((xs.take i).map r).length = i := by simp; omega
  rw [List.set_append_right _ _ (by omega), h1, Nat.sub_self, List.drop_eq_getElem_cons hi, List.set_cons_zero, List.take_succ_eq_append_getElem hi, List.map_append, List.append_assoc]
  rfl
theorem mapTo_succ {i : Nat} (hi : i < xs.length) (y : α) : (mapTo r xs i).set i y = (mapTo r xs (i + 1)).set i y := by
  rw [← mapTo_set r xs hi, List.set_set]
end
theorem Row.atf {α : Type} {f : α → List Value} {k : Nat} (hf : ∀ x, (f x).length = k) {w : World} {e g n : Nat} {v : Value} {xs : List α} (h : Row w e k v (Option.some g) n (xs.flatMap f)) (hn : xs.length = n) {i : Nat} (hi : i < xs.length) {j : Nat} (hj : j < k) :
    w.cell? ⟨g, i * k + j, none⟩ = Option.some ((f xs[i]).getD j undef) := by
  have h1 := (Row.cellk h).1 (i * k + j) (by
    subst hn
    have h2 : (i + 1) * k ≤ xs.length * k := Nat.mul_le_mul_right k (by omega)
    rw [Nat.add_mul] at h2
    omega)
  rw [h1, flat_get hf xs i j hi hj]
/-- An element of a list of structs is written. -/
theorem Hp.putf {α : Type} {f : α → List Value} {k : Nat} (hf : ∀ x, (f x).length = k) {S0 : List Nat} {w0 w : World} {I : List It} (h : Hp S0 w0 w I) (m : Nat) {e n g : Nat} {v : Value} {xs : List α} (hi : I[m]? = some (.row e k v (some g) n (xs.flatMap f))) {i : Nat} (hx : i < xs.length) (y : α) {j : Nat} (hj : j < k) {u : Value} (hy : f y = (f xs[i]).set j u) {I' : List It} (hI : I.set m (.row e k v (some g) n ((xs.set i y).flatMap f)) = I') : Hp S0 w0 (w.setCell ⟨g, i * k + j, none⟩ u) I' := by
  refine h.puti m hi (i * k + j) u ?_
  rw [← hI, flat_put hf xs i hx y j hj u hy]
end Go.AB
namespace Go.Proofs.Ytaknmhipaifdkaa
open Go.RowKit Go.AB
set_option linter.unusedSimpArgs false
set_option linter.unusedVariables false
set_option linter.unusedSectionVars false

def ledB (op : Int) : Bool := decide (op = 0) || decide (op = 8) || decide (op = 9)
set_option maxHeartbeats 1000000 in
theorem led_calls (op : Int) (w : World) : Calls Try.prog 23 #[.int .i64 op] w fun e w' => e = .returned (.bool (ledB op)) ∧ w' = w := by
  by_cases h0 : op = 0
  · have e0 : (op == 0) = true := by simp [h0]
    have hL : ledB op = true := by simp [ledB, h0]
    rw [hL]
    go_enter Try.func23, Try.ntmps23
    go_wp2
    go_ret
    exact ⟨rfl, rfl⟩
  · have e0 : (op == 0) = false := by simp [h0]
    by_cases h8 : op = 8
    · have e8 : (op == 8) = true := by simp [h8]
      have hL : ledB op = true := by simp [ledB, h8]
      rw [hL]
      go_enter Try.func23, Try.ntmps23
      go_wp2
      go_ret
      exact ⟨rfl, rfl⟩
    · have e8 : (op == 8) = false := by simp [h8]
      by_cases h9 : op = 9
      · have e9 : (op == 9) = true := by simp [h9]
        have hL : ledB op = true := by simp [ledB, h9]
        rw [hL]
        go_enter Try.func23, Try.ntmps23
        go_wp2
        go_ret
        exact ⟨rfl, rfl⟩
      · have e9 : (op == 9) = false := by simp [h9]
        have hL : ledB op = false := by simp [ledB, h0, h8, h9]
        rw [hL]
        go_enter Try.func23, Try.ntmps23
        go_wp2
        go_ret
        exact ⟨rfl, rfl⟩

/-- Are the names short enough? -/
structure FitU (u : UnD) : Prop where
  decls : ∀ d ∈ u.decls, d.name.size ≤ 23
  blocks : ∀ k ∈ u.blocks, k.name.size ≤ 23
  items : ∀ k ∈ u.blocks, ∀ x ∈ k.items, x.name.size ≤ 23
/-- A unit's box, and its lists. -/
structure UB (w : World) (p : Nat) (ad : Option Addr) (D cd : Nat) (ab : Option Addr) (L cb : Nat) (u : UnD) (bs : List BkV) : Prop where
  u0 : w.cell? ⟨p, 0, none⟩ = some (.slice ad D cd)
  u1 : w.cell? ⟨p, 1, none⟩ = some (.slice ab L cb)
  dl : u.decls.length = D
  bl : bs.length = L
  ds : Lst dcC 5 w (.slice ad D cd) u.decls
  bks : Lst bkC 4 w (.slice ab L cb) bs
  nm : bs.map BkV.b = u.blocks
  it : ∀ x ∈ bs, Lst itC 10 w x.items x.b.items
theorem UB.keep {w w' : World} {p : Nat} {ad : Option Addr} {D cd : Nat} {ab : Option Addr} {L cb : Nat} {u : UnD} {bs : List BkV} (h : UB w p ad D cd ab L cb u bs) (hc : Chg [] w w') : UB w' p ad D cd ab L cb u bs :=
  ⟨hc.cell h.u0 (by simp), hc.cell h.u1 (by simp), h.dl, h.bl, h.ds.keep hc, h.bks.keep hc, h.nm, fun x hx => (h.it x hx).keep hc⟩
theorem unv_boxed {w : World} {v : Value} {u : UnD} (h : UnV w v u) : ∃ ad D cd ab L cb bs, v = .agg #[.slice ad D cd, .slice ab L cb] ∧ UB (w.alloc (.cells #[.slice ad D cd, .slice ab L cb] 25)) w.heap.size ad D cd ab L cb u bs ∧ D = u.decls.length ∧ L = u.blocks.length ∧ D ≤ cd ∧ L ≤ cb := by
  obtain ⟨va, vb, bs, rfl, hda, hbb, hbs, hit⟩ := h
  obtain ⟨ad, cd, rfl, hdc, _, _⟩ := hda.len
  obtain ⟨ab, cb, rfl, hbc, _, _⟩ := hbb.len
  have hc := (Chg.refl [] w).alloc (.cells #[.slice ad u.decls.length cd, .slice ab bs.length cb] 25)
  have hb := heap_alloc_new w (.cells #[.slice ad u.decls.length cd, .slice ab bs.length cb] 25)
  refine ⟨ad, _, cd, ab, _, cb, bs, rfl, ⟨blk_cell hb 0, blk_cell hb 1, rfl, rfl, hda.keep hc, hbb.keep hc, hbs, fun x hx => (hit x hx).keep hc⟩, rfl, ?_, hdc, hbc⟩
  rw [← hbs, List.length_map]

set_option maxHeartbeats 4000000 in
set_option maxRecDepth 100000 in
theorem fit_calls {v : Value} {u : UnD} (w : World) (hv : UnV w v u) (hu : SmallU u) : Calls Try.prog 10 #[v] w fun e w' => e = .returned (.bool (eqB (FitU u))) ∧ Chg [] w w' := by
  obtain ⟨ad, D, cd, ab, L, cb, bs, rfl, hub, hD, hL, hdc, hbc⟩ := unv_boxed hv
  have hlD : D ≤ 1048576 := by have := hu.decls; omega
  have hlL : L ≤ 1048576 := by have := hu.blocks; omega
  have u0 := hub.u0
  have u1 := hub.u1
  have HUB := hid hub
  have HU := hid hu
  obtain ⟨t, ht⟩ : ∃ t, eqB (FitU u) = t := ⟨_, rfl⟩
  have HT := hid ht
  rw [ht]
  have HC0 := hid ((Chg.refl [] w).alloc (.cells #[.slice ad D cd, .slice ab L cb] 25))
  clear hub hu hv ht hD hL
  go_enter Try.func10, Try.ntmps10
  go_upto_region 1 with fail
  obtain ⟨wA, hwA⟩ : ∃ wA, w.alloc (.cells #[.slice ad D cd, .slice ab L cb] 25) = wA := ⟨_, rfl⟩
  rw [hwA] at u0 u1 HUB HC0 ⊢
  clear hwA
  go_upto_region 2 with fail
  go_loopg [3] D (fun gk vi wr => ∃ i : Nat, gk + i = D ∧ vi = .int .i64 i ∧ Hid (∀ j, j < i → ∀ d, u.decls[j]? = some d → d.name.size ≤ 23) ∧ Hid (Chg [] wA wr))
  case atStart => exact ⟨0, rfl, rfl, hid (fun j hj => absurd hj (Nat.not_lt_zero _)), hid (Chg.refl _ _)⟩
  case round =>
    obtain ⟨i, hgi, rfl, HNO, HC⟩ := hrel
    have hk := HUB.out.keep HC.out
    have u0 := hk.u0
    have u1 := hk.u1
    have HK := hid hk
    clear hk
    by_cases hlt : i < D
    · obtain ⟨d, hd⟩ : ∃ d, u.decls[i]'(by rw [HUB.out.dl]; exact hlt) = d := ⟨_, rfl⟩
      obtain ⟨bi, oi, hai, _, x1, _, _, _⟩ := decls_at HK.out.ds (by rw [HUB.out.dl]; exact hlt) hd
      have HX := hid hd
      subst hai
      clear hd
      by_cases hf : 23 < d.name.size
      · have z1 : decide ((23 : Int) < (d.name.size : Int)) = true := decide_eq_true (by omega)
        have ht2 : t = false := HT.out.symm.trans (eqB_false (fun e => by
          have := e.decls d (by rw [← HX.out]; exact List.getElem_mem _)
          omega))
        subst ht2
        clear hf
        go_wp2
        go_ret
        exact ⟨rfl, HC0.out.trans' HC.out⟩
      · have z1 : decide ((23 : Int) < (d.name.size : Int)) = false := decide_eq_false (by omega)
        have HF := hid hf
        clear hf
        go_wp2_with fail
        go_roundg (gk - 1)
        case measure => omega
        case rel =>
          refine ⟨i + 1, by omega, by go_num, hid (fun l hl q hq => ?_), HC⟩
          rcases Nat.lt_succ_iff_lt_or_eq.1 hl with hl | rfl
          · exact HNO.out l hl q hq
          · rw [List.getElem?_eq_getElem (by rw [HUB.out.dl]; exact hlt), HX.out] at hq
            simp only [Option.some.injEq] at hq
            subst hq
            have := HF.out
            omega
    · obtain rfl : i = D := by omega
      have hno : ∀ d ∈ u.decls, d.name.size ≤ 23 := by
        intro d hd
        obtain ⟨m, hm, rfl⟩ := List.mem_iff_getElem.1 hd
        exact HNO.out m (by rw [← HUB.out.dl]; exact hm) _ (List.getElem?_eq_getElem hm)
      have HD := hid hno
      clear hno HNO
      go_upto_region 7 with fail
      go_loopg [4] L (fun gk vi wr => ∃ n : Nat, gk + n = L ∧ vi = .int .i64 n ∧ Hid (∀ j, j < n → ∀ b, bs[j]? = some b → b.b.name.size ≤ 23 ∧ ∀ x ∈ b.b.items, x.name.size ≤ 23) ∧ Hid (Chg [] wA wr))
      case atStart => exact ⟨0, by omega, rfl, hid (fun j hj => absurd hj (Nat.not_lt_zero _)), HC⟩
      case round =>
        obtain ⟨n, hgn, rfl, HNB, HC2⟩ := hrel
        have hk := HUB.out.keep HC2.out
        have u0 := hk.u0
        have u1 := hk.u1
        have HK := hid hk
        clear hk
        by_cases hlt : n < L
        · obtain ⟨x, hx⟩ : ∃ x, bs[n]'(by rw [HUB.out.bl]; exact hlt) = x := ⟨_, rfl⟩
          obtain ⟨bi, oi, hai, x0, x1, x2, x3⟩ := blocks_at HUB.out.bks (by rw [HUB.out.bl]; exact hlt) hx
          have hmx : x ∈ bs := by rw [← hx]; exact List.getElem_mem _
          have hmb : x.b ∈ u.blocks := by rw [← HUB.out.nm]; exact List.mem_map.2 ⟨x, hmx, rfl⟩
          have hit := HUB.out.it x hmx
          obtain ⟨ai2, ci2, hxi, _, _, _⟩ := hit.len
          obtain ⟨m, hm⟩ : ∃ m, x.b.items.length = m := ⟨_, rfl⟩
          rw [hxi] at x1 hit
          rw [hm] at x1 hit
          have hmbd : m ≤ 1048576 := by
            have := (HU.out.bn x.b hmb).2.1
            omega
          have HX := hid (And.intro hx (And.intro hm hmb))
          have HIT := hid hit
          have HX1 := hid (And.intro x0 x1)
          subst hai
          have x0 := HC2.out.cell HX1.out.1 (by simp)
          have x1 := HC2.out.cell HX1.out.2 (by simp)
          clear hx hmx hit hxi hm x2 x3 hmb
          by_cases hf : 23 < x.b.name.size
          · have z1 : decide ((23 : Int) < (x.b.name.size : Int)) = true := decide_eq_true (by omega)
            have ht2 : t = false := HT.out.symm.trans (eqB_false (fun e => by
              have := e.blocks x.b HX.out.2.2
              omega))
            subst ht2
            clear hf
            go_wp2
            go_ret
            exact ⟨rfl, HC0.out.trans' HC2.out⟩
          · have z1 : decide ((23 : Int) < (x.b.name.size : Int)) = false := decide_eq_false (by omega)
            have HF := hid hf
            clear hf
            obtain ⟨go, hgo⟩ : ∃ go, go = gk := ⟨_, rfl⟩
            rw [← hgo] at hgn
            go_upto_region 12 with fail
            go_loopg [5] m (fun gj vj wr => ∃ j : Nat, gj + j = m ∧ vj = .int .i64 j ∧ Hid (∀ l, l < j → ∀ z, x.b.items[l]? = some z → z.name.size ≤ 23) ∧ Hid (Chg [] wA wr))
            case atStart => exact ⟨0, rfl, rfl, hid (fun j hj => absurd hj (Nat.not_lt_zero _)), HC2⟩
            case round =>
              subst hgo
              obtain ⟨j, hgj, rfl, HNJ, HC3⟩ := hrel
              have u1 := (HUB.out.keep HC3.out).u1
              have x1 := HC3.out.cell HX1.out.2 (by simp)
              by_cases hjn : j < m
              · obtain ⟨z, hz⟩ : ∃ z, x.b.items[j]'(by rw [HX.out.2.1]; exact hjn) = z := ⟨_, rfl⟩
                obtain ⟨bz, oz, haz, _, _, _, _, _, z5, _, _, _, _⟩ := items_at (HIT.out.keep HC3.out) (by rw [HX.out.2.1]; exact hjn) hz
                subst haz
                have HZ := hid hz
                clear hz
                by_cases hzn : 23 < z.name.size
                · have z2 : decide ((23 : Int) < (z.name.size : Int)) = true := decide_eq_true (by omega)
                  have ht2 : t = false := HT.out.symm.trans (eqB_false (fun e => by
                    have := e.items x.b HX.out.2.2 z (by rw [← HZ.out]; exact List.getElem_mem _)
                    omega))
                  subst ht2
                  clear hzn
                  go_wp2
                  go_ret
                  exact ⟨rfl, HC0.out.trans' HC3.out⟩
                · have z2 : decide ((23 : Int) < (z.name.size : Int)) = false := decide_eq_false (by omega)
                  have HZN := hid hzn
                  clear hzn
                  go_wp2_with fail
                  go_roundg (gk - 1)
                  case measure => omega
                  case rel =>
                    refine ⟨j + 1, by omega, by go_num, hid (fun l hl q hq => ?_), HC3⟩
                    rcases Nat.lt_succ_iff_lt_or_eq.1 hl with hl | rfl
                    · exact HNJ.out l hl q hq
                    · rw [List.getElem?_eq_getElem (by rw [HX.out.2.1]; exact hjn), HZ.out] at hq
                      simp only [Option.some.injEq] at hq
                      subst hq
                      have := HZN.out
                      omega
              · obtain rfl : j = m := by omega
                go_wp2_with fail
                go_roundg (go - 1)
                case measure => omega
                case rel =>
                  refine ⟨n + 1, by omega, by go_num, hid (fun l hl q hq => ?_), HC3⟩
                  rcases Nat.lt_succ_iff_lt_or_eq.1 hl with hl | rfl
                  · exact HNB.out l hl q hq
                  · rw [List.getElem?_eq_getElem (by rw [HUB.out.bl]; exact hlt), HX.out.1] at hq
                    simp only [Option.some.injEq] at hq
                    subst hq
                    refine ⟨by have := HF.out; omega, fun z hz => ?_⟩
                    obtain ⟨i2, hi2, rfl⟩ := List.mem_iff_getElem.1 hz
                    exact HNJ.out i2 (by rw [← HX.out.2.1]; exact hi2) _ (List.getElem?_eq_getElem hi2)
        · obtain rfl : n = L := by omega
          have ht2 : t = true := HT.out.symm.trans (eqB_true (by
            have hb : ∀ k ∈ u.blocks, k.name.size ≤ 23 ∧ ∀ x ∈ k.items, x.name.size ≤ 23 := by
              intro k hk
              rw [← HUB.out.nm] at hk
              obtain ⟨b, hb, rfl⟩ := List.mem_map.1 hk
              obtain ⟨m, hm, rfl⟩ := List.mem_iff_getElem.1 hb
              exact HNB.out m (by rw [← HUB.out.bl]; exact hm) _ (List.getElem?_eq_getElem hm)
            exact ⟨HD.out, fun k hk => (hb k hk).1, fun k hk => (hb k hk).2⟩))
          subst ht2
          go_wp2
          go_ret
          exact ⟨rfl, HC0.out.trans' HC2.out⟩
end Go.Proofs.Ytaknmhipaifdkaa
