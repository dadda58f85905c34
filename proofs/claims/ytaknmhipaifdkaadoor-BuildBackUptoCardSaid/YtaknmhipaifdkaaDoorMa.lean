/- Walks of the builder: name, the name of what an instruction touches. (Printed by gen_bname.py.) -/
import Derived.Test.YtaknmhipaifdkaaDoorKz
import Derived.Test.YtaknmhipaifdkaaDoorJm
set_option linter.unusedSimpArgs false
set_option linter.unusedVariables false
set_option linter.unusedSectionVars false
namespace Go.Proofs.YtaknmhipaifdkaaDoor
open Go.RowKit Go.AB

def nameV (o : Option ByteArray) : Value := match o with
  | some s => .tuple #[.string s, .bool true]
  | none => .tuple #[.string ⟨#[]⟩, .bool false]
theorem nameV_some (s : ByteArray) : nameV (some s) = .tuple #[.string s, .bool true] := rfl
theorem nameV_none : nameV none = .tuple #[.string ⟨#[]⟩, .bool false] := rfl
/-- A program's box, and its lists. -/
structure PB (w : World) (b : Nat) (x0 : Option Addr) (n0 c0 : Nat) (x1 : Option Addr) (n1 c1 : Nat) (x2 : Option Addr) (n2 c2 : Nat) (x3 : Option Addr) (n3 c3 : Nat) (x4 : Option Addr) (n4 c4 : Nat) (p : PrgD) (ts : List ThrV) : Prop where
  u0 : w.cell? ⟨b, 0, none⟩ = some (.slice x0 n0 c0)
  u1 : w.cell? ⟨b, 1, none⟩ = some (.slice x1 n1 c1)
  u2 : w.cell? ⟨b, 2, none⟩ = some (.slice x2 n2 c2)
  u3 : w.cell? ⟨b, 3, none⟩ = some (.slice x3 n3 c3)
  u4 : w.cell? ⟨b, 4, none⟩ = some (.slice x4 n4 c4)
  e0 : p.vars.length = n0
  e1 : p.vols.length = n1
  e2 : p.locks.length = n2
  e3 : p.bars.length = n3
  e4 : ts.length = n4
  l0 : Lst varC 2 w (.slice x0 n0 c0) p.vars
  l1 : Lst varC 2 w (.slice x1 n1 c1) p.vols
  l2 : Lst strC 1 w (.slice x2 n2 c2) p.locks
  l3 : Lst varC 2 w (.slice x3 n3 c3) p.bars
  l4 : Lst thrC 3 w (.slice x4 n4 c4) ts
  th : ts.map ThrV.t = p.thrs
  in' : ∀ x ∈ ts, Lst insC 5 w x.code x.t.code ∧ Lst plcC 2 w x.places x.t.places
section
variable {w w' : World} {b : Nat} {x0 : Option Addr} {n0 c0 : Nat} {x1 : Option Addr} {n1 c1 : Nat} {x2 : Option Addr} {n2 c2 : Nat} {x3 : Option Addr} {n3 c3 : Nat} {x4 : Option Addr} {n4 c4 : Nat} {p : PrgD} {ts : List ThrV}
theorem PB.keep (h : PB w b x0 n0 c0 x1 n1 c1 x2 n2 c2 x3 n3 c3 x4 n4 c4 p ts) (hc : Chg [] w w') : PB w' b x0 n0 c0 x1 n1 c1 x2 n2 c2 x3 n3 c3 x4 n4 c4 p ts :=
  ⟨hc.cell h.u0 (by simp), hc.cell h.u1 (by simp), hc.cell h.u2 (by simp), hc.cell h.u3 (by simp), hc.cell h.u4 (by simp), h.e0, h.e1, h.e2, h.e3, h.e4, h.l0.keep hc, h.l1.keep hc, h.l2.keep hc, h.l3.keep hc, h.l4.keep hc, h.th, fun x hx => ⟨(h.in' x hx).1.keep hc, (h.in' x hx).2.keep hc⟩⟩
theorem PB.prgV (h : PB w b x0 n0 c0 x1 n1 c1 x2 n2 c2 x3 n3 c3 x4 n4 c4 p ts) : PrgV w (.agg #[.slice x0 n0 c0, .slice x1 n1 c1, .slice x2 n2 c2, .slice x3 n3 c3, .slice x4 n4 c4]) p :=
  ⟨_, _, _, _, _, ts, rfl, h.l0, h.l1, h.l2, h.l3, h.l4, h.th, h.in'⟩
end
theorem prgv_boxed {w : World} {v : Value} {p : PrgD} (h : PrgV w v p) : ∃ x0 n0 c0 x1 n1 c1 x2 n2 c2 x3 n3 c3 x4 n4 c4 ts, v = .agg #[.slice x0 n0 c0, .slice x1 n1 c1, .slice x2 n2 c2, .slice x3 n3 c3, .slice x4 n4 c4] ∧
    PB (w.alloc (.cells #[.slice x0 n0 c0, .slice x1 n1 c1, .slice x2 n2 c2, .slice x3 n3 c3, .slice x4 n4 c4] 32)) w.heap.size x0 n0 c0 x1 n1 c1 x2 n2 c2 x3 n3 c3 x4 n4 c4 p ts := by
  obtain ⟨va0, va1, va2, va3, va4, ts, rfl, l0, l1, l2, l3, l4, hts, hth⟩ := h
  obtain ⟨x0, c0, rfl, -⟩ := l0.len
  obtain ⟨x1, c1, rfl, -⟩ := l1.len
  obtain ⟨x2, c2, rfl, -⟩ := l2.len
  obtain ⟨x3, c3, rfl, -⟩ := l3.len
  obtain ⟨x4, c4, rfl, -⟩ := l4.len
  have hc := (Chg.refl [] w).alloc (.cells #[.slice x0 p.vars.length c0, .slice x1 p.vols.length c1, .slice x2 p.locks.length c2, .slice x3 p.bars.length c3, .slice x4 ts.length c4] 32)
  have hb := heap_alloc_new w (.cells #[.slice x0 p.vars.length c0, .slice x1 p.vols.length c1, .slice x2 p.locks.length c2, .slice x3 p.bars.length c3, .slice x4 ts.length c4] 32)
  exact ⟨x0, _, c0, x1, _, c1, x2, _, c2, x3, _, c3, x4, _, c4, ts, rfl, blk_cell hb 0, blk_cell hb 1, blk_cell hb 2, blk_cell hb 3, blk_cell hb 4, rfl, rfl, rfl, rfl, rfl, l0.keep hc, l1.keep hc, l2.keep hc, l3.keep hc, l4.keep hc, hts, fun x hx => ⟨(hth x hx).1.keep hc, (hth x hx).2.keep hc⟩⟩

set_option maxHeartbeats 4000000 in
set_option maxRecDepth 100000 in
theorem name_calls {v : Value} {p : PrgD} (w : World) (hv : PrgV w v p) (hp : SmallP p) (s n : Int) : Calls Tryd.prog 33 #[v, .int .i64 s, .int .i64 n] w fun e w' => e = .returned (nameV (nameD p s n)) ∧ Chg [] w w' := by
  obtain ⟨x0, n0, c0, x1, n1, c1, x2, n2, c2, x3, n3, c3, x4, n4, c4, ts, rfl, hb⟩ := prgv_boxed hv
  have hc0 := (Chg.refl [] w).alloc (.cells #[.slice x0 n0 c0, .slice x1 n1 c1, .slice x2 n2 c2, .slice x3 n3 c3, .slice x4 n4 c4] 32)
  have hs0 := hp.vars
  have hs1 := hp.vols
  have hs2 := hp.locks
  have hs3 := hp.bars
  have hs4 := hp.thrs
  rw [hb.e0] at hs0
  rw [hb.e1] at hs1
  rw [hb.e2] at hs2
  rw [hb.e3] at hs3
  rw [← hb.th, List.length_map, hb.e4] at hs4
  have u0 := hb.u0
  have u1 := hb.u1
  have u2 := hb.u2
  have u3 := hb.u3
  have u4 := hb.u4
  obtain ⟨E, hE⟩ : ∃ E, nameD p s n = E := ⟨_, rfl⟩
  rw [hE]
  unfold nameD at hE
  have HB := hid hb
  have HC := hid hc0
  clear hb hc0 hv hp
  by_cases hn : n < 0
  · rw [if_pos hn] at hE
    subst hE
    rw [nameV_none]
    have z1 : decide (n < 0) = true := decide_eq_true hn
    go_enter Tryd.func33, Tryd.ntmps33
    go_wp2
    exact bodyPost_ret (v := .tuple #[.string ⟨#[]⟩, .bool false]) (by simp [results, Tryd.results33, go_sem]) rfl ⟨rfl, HC.out⟩
  · rw [if_neg hn] at hE
    have z1 : decide (n < 0) = false := decide_eq_false hn
    obtain ⟨k, rfl⟩ : ∃ k : Nat, n = (k : Int) := ⟨n.toNat, by omega⟩
    simp only [Int.toNat_natCast] at hE
    have hk0 : (0 : Int) ≤ (k : Int) := by omega
    clear hn
    by_cases h1 : s = 1
    · subst h1
      simp only [if_true] at hE
      by_cases hk : k < n0
      · have zk : decide ((k : Int) < (n0 : Int)) = true := decide_eq_true (by omega)
        have zk2 : decide (k < n0) = true := decide_eq_true hk
        have zk' : (k : Int) < (n0 : Int) := by omega
        have hki : k < p.vars.length := by rw [HB.out.e0]; exact hk
        obtain ⟨x, hx⟩ : ∃ x, p.vars[k]'hki = x := ⟨_, rfl⟩
        rw [List.getElem?_eq_getElem hki, hx] at hE
        have hE' : some x.name = E := hE
        subst hE'
        rw [nameV_some]
        obtain ⟨b1, o1, e1, q1⟩ := HB.out.l0.at varC_len hki (by omega)
        have q0 := q1 0 (by omega)
        rw [hx] at q0
        have y0 : (w.alloc (.cells #[.slice x0 n0 c0, .slice x1 n1 c1, .slice x2 n2 c2, .slice x3 n3 c3, .slice x4 n4 c4] 32)).cell? ⟨b1, o1 + k * 2, none⟩ = some (.string x.name) := q0
        subst e1
        clear q1 q0 hx hE hk
        go_enter Tryd.func33, Tryd.ntmps33
        go_wp2
        exact bodyPost_ret (v := (.tuple #[.string x.name, .bool true])) (by simp [results, Tryd.results33, go_sem]) rfl ⟨rfl, HC.out⟩
      · have zk : decide ((k : Int) < (n0 : Int)) = false := decide_eq_false (by omega)
        have zk2 : decide (k < n0) = false := decide_eq_false hk
        rw [List.getElem?_eq_none (by rw [HB.out.e0]; omega)] at hE
        have hE' : none = E := hE
        subst hE'
        rw [nameV_none]
        clear hE hk
        go_enter Tryd.func33, Tryd.ntmps33
        go_wp2
        exact bodyPost_ret (v := (.tuple #[.string ⟨#[]⟩, .bool false])) (by simp [results, Tryd.results33, go_sem]) rfl ⟨rfl, HC.out⟩
    · have z2 : (s == 1) = false := by simp [h1]
      have y2 : decide (s = 1) = false := decide_eq_false h1
      by_cases h2 : s = 2
      · subst h2
        simp only [show ¬ ((2 : Int) = 1) from by omega, if_false, if_true] at hE
        by_cases hk : k < n1
        · have zk : decide ((k : Int) < (n1 : Int)) = true := decide_eq_true (by omega)
          have zk2 : decide (k < n1) = true := decide_eq_true hk
          have zk' : (k : Int) < (n1 : Int) := by omega
          have hki : k < p.vols.length := by rw [HB.out.e1]; exact hk
          obtain ⟨x, hx⟩ : ∃ x, p.vols[k]'hki = x := ⟨_, rfl⟩
          rw [List.getElem?_eq_getElem hki, hx] at hE
          have hE' : some x.name = E := hE
          subst hE'
          rw [nameV_some]
          obtain ⟨b1, o1, e1, q1⟩ := HB.out.l1.at varC_len hki (by omega)
          have q0 := q1 0 (by omega)
          rw [hx] at q0
          have y0 : (w.alloc (.cells #[.slice x0 n0 c0, .slice x1 n1 c1, .slice x2 n2 c2, .slice x3 n3 c3, .slice x4 n4 c4] 32)).cell? ⟨b1, o1 + k * 2, none⟩ = some (.string x.name) := q0
          subst e1
          clear q1 q0 hx hE hk
          go_enter Tryd.func33, Tryd.ntmps33
          go_wp2
          exact bodyPost_ret (v := (.tuple #[.string x.name, .bool true])) (by simp [results, Tryd.results33, go_sem]) rfl ⟨rfl, HC.out⟩
        · have zk : decide ((k : Int) < (n1 : Int)) = false := decide_eq_false (by omega)
          have zk2 : decide (k < n1) = false := decide_eq_false hk
          rw [List.getElem?_eq_none (by rw [HB.out.e1]; omega)] at hE
          have hE' : none = E := hE
          subst hE'
          rw [nameV_none]
          clear hE hk
          go_enter Tryd.func33, Tryd.ntmps33
          go_wp2
          exact bodyPost_ret (v := (.tuple #[.string ⟨#[]⟩, .bool false])) (by simp [results, Tryd.results33, go_sem]) rfl ⟨rfl, HC.out⟩
      · have z3 : (s == 2) = false := by simp [h2]
        have y3 : decide (s = 2) = false := decide_eq_false h2
        by_cases h3 : s = 3
        · subst h3
          simp only [show ¬ ((3 : Int) = 1) from by omega, show ¬ ((3 : Int) = 2) from by omega, if_false, if_true] at hE
          by_cases hk : k < n2
          · have zk : decide ((k : Int) < (n2 : Int)) = true := decide_eq_true (by omega)
            have zk2 : decide (k < n2) = true := decide_eq_true hk
            have zk' : (k : Int) < (n2 : Int) := by omega
            have hki : k < p.locks.length := by rw [HB.out.e2]; exact hk
            obtain ⟨x, hx⟩ : ∃ x, p.locks[k]'hki = x := ⟨_, rfl⟩
            rw [List.getElem?_eq_getElem hki, hx] at hE
            have hE' : some x = E := hE
            subst hE'
            rw [nameV_some]
            obtain ⟨b1, o1, e1, q1⟩ := HB.out.l2.at strC_len hki (by omega)
            have q0 := q1 0 (by omega)
            rw [hx] at q0
            rw [Nat.mul_one] at q0
            have y0 : (w.alloc (.cells #[.slice x0 n0 c0, .slice x1 n1 c1, .slice x2 n2 c2, .slice x3 n3 c3, .slice x4 n4 c4] 32)).cell? ⟨b1, o1 + k, none⟩ = some (.string x) := q0
            subst e1
            clear q1 q0 hx hE hk
            go_enter Tryd.func33, Tryd.ntmps33
            go_wp2
            exact bodyPost_ret (v := (.tuple #[.string x, .bool true])) (by simp [results, Tryd.results33, go_sem]) rfl ⟨rfl, HC.out⟩
          · have zk : decide ((k : Int) < (n2 : Int)) = false := decide_eq_false (by omega)
            have zk2 : decide (k < n2) = false := decide_eq_false hk
            rw [List.getElem?_eq_none (by rw [HB.out.e2]; omega)] at hE
            have hE' : none = E := hE
            subst hE'
            rw [nameV_none]
            clear hE hk
            go_enter Tryd.func33, Tryd.ntmps33
            go_wp2
            exact bodyPost_ret (v := (.tuple #[.string ⟨#[]⟩, .bool false])) (by simp [results, Tryd.results33, go_sem]) rfl ⟨rfl, HC.out⟩
        · have z4 : (s == 3) = false := by simp [h3]
          have y4 : decide (s = 3) = false := decide_eq_false h3
          by_cases h4 : s = 4
          · subst h4
            simp only [show ¬ ((4 : Int) = 1) from by omega, show ¬ ((4 : Int) = 2) from by omega, show ¬ ((4 : Int) = 3) from by omega, if_false, if_true] at hE
            by_cases hk : k < n3
            · have zk : decide ((k : Int) < (n3 : Int)) = true := decide_eq_true (by omega)
              have zk2 : decide (k < n3) = true := decide_eq_true hk
              have zk' : (k : Int) < (n3 : Int) := by omega
              have hki : k < p.bars.length := by rw [HB.out.e3]; exact hk
              obtain ⟨x, hx⟩ : ∃ x, p.bars[k]'hki = x := ⟨_, rfl⟩
              rw [List.getElem?_eq_getElem hki, hx] at hE
              have hE' : some x.name = E := hE
              subst hE'
              rw [nameV_some]
              obtain ⟨b1, o1, e1, q1⟩ := HB.out.l3.at varC_len hki (by omega)
              have q0 := q1 0 (by omega)
              rw [hx] at q0
              have y0 : (w.alloc (.cells #[.slice x0 n0 c0, .slice x1 n1 c1, .slice x2 n2 c2, .slice x3 n3 c3, .slice x4 n4 c4] 32)).cell? ⟨b1, o1 + k * 2, none⟩ = some (.string x.name) := q0
              subst e1
              clear q1 q0 hx hE hk
              go_enter Tryd.func33, Tryd.ntmps33
              go_wp2
              exact bodyPost_ret (v := (.tuple #[.string x.name, .bool true])) (by simp [results, Tryd.results33, go_sem]) rfl ⟨rfl, HC.out⟩
            · have zk : decide ((k : Int) < (n3 : Int)) = false := decide_eq_false (by omega)
              have zk2 : decide (k < n3) = false := decide_eq_false hk
              rw [List.getElem?_eq_none (by rw [HB.out.e3]; omega)] at hE
              have hE' : none = E := hE
              subst hE'
              rw [nameV_none]
              clear hE hk
              go_enter Tryd.func33, Tryd.ntmps33
              go_wp2
              exact bodyPost_ret (v := (.tuple #[.string ⟨#[]⟩, .bool false])) (by simp [results, Tryd.results33, go_sem]) rfl ⟨rfl, HC.out⟩
          · have z5 : (s == 4) = false := by simp [h4]
            have y5 : decide (s = 4) = false := decide_eq_false h4
            by_cases h5 : s = 5
            · subst h5
              simp only [show ¬ ((5 : Int) = 1) from by omega, show ¬ ((5 : Int) = 2) from by omega, show ¬ ((5 : Int) = 3) from by omega, show ¬ ((5 : Int) = 4) from by omega, if_false, if_true] at hE
              by_cases hk : k < n4
              · have zk : decide ((k : Int) < (n4 : Int)) = true := decide_eq_true (by omega)
                have zk2 : decide (k < n4) = true := decide_eq_true hk
                have zk' : (k : Int) < (n4 : Int) := by omega
                have hki : k < ts.length := by rw [HB.out.e4]; exact hk
                obtain ⟨x, hx⟩ : ∃ x, ts[k]'hki = x := ⟨_, rfl⟩
                rw [← HB.out.th, List.getElem?_map, List.getElem?_eq_getElem hki, hx] at hE
                have hE' : some x.t.name = E := hE
                subst hE'
                rw [nameV_some]
                obtain ⟨b1, o1, e1, q1⟩ := HB.out.l4.at thrC_len hki (by omega)
                have q0 := q1 0 (by omega)
                rw [hx] at q0
                have y0 : (w.alloc (.cells #[.slice x0 n0 c0, .slice x1 n1 c1, .slice x2 n2 c2, .slice x3 n3 c3, .slice x4 n4 c4] 32)).cell? ⟨b1, o1 + k * 3, none⟩ = some (.string x.t.name) := q0
                subst e1
                clear q1 q0 hx hE hk
                go_enter Tryd.func33, Tryd.ntmps33
                go_wp2
                exact bodyPost_ret (v := (.tuple #[.string x.t.name, .bool true])) (by simp [results, Tryd.results33, go_sem]) rfl ⟨rfl, HC.out⟩
              · have zk : decide ((k : Int) < (n4 : Int)) = false := decide_eq_false (by omega)
                have zk2 : decide (k < n4) = false := decide_eq_false hk
                rw [← HB.out.th, List.getElem?_map, List.getElem?_eq_none (by rw [HB.out.e4]; omega)] at hE
                have hE' : none = E := hE
                subst hE'
                rw [nameV_none]
                clear hE hk
                go_enter Tryd.func33, Tryd.ntmps33
                go_wp2
                exact bodyPost_ret (v := (.tuple #[.string ⟨#[]⟩, .bool false])) (by simp [results, Tryd.results33, go_sem]) rfl ⟨rfl, HC.out⟩
            · have z6 : (s == 5) = false := by simp [h5]
              have y6 : decide (s = 5) = false := decide_eq_false h5
              simp only [h1, h2, h3, h4, h5, if_false] at hE
              subst hE
              rw [nameV_none]
              go_enter Tryd.func33, Tryd.ntmps33
              go_wp2
              exact bodyPost_ret (v := (.tuple #[.string ⟨#[]⟩, .bool false])) (by simp [results, Tryd.results33, go_sem]) rfl ⟨rfl, HC.out⟩
end Go.Proofs.YtaknmhipaifdkaaDoor
