/- Families of owned lists: marked, grown, with what was there before still to be read. No program in sight. -/

import Derived.Test.YtmahcabidggmeaaGreatDoorVqz
set_option linter.unusedVariables false
set_option linter.unusedSectionVars false
set_option linter.unusedSimpArgs false
namespace Go.AB
open Go.RowKit
/-- An owned list. -/
structure OL where
  ao : Option Addr
  n : Nat
  cap : Nat
  r : Option Nat
  xs : List Value
def OL.v (o : OL) : Value := .slice o.ao o.n o.cap
def OL.it (e k : Nat) (o : OL) : It := .row e k o.v o.r o.n o.xs
def rep (M : List Value) (n : Nat) : List Value := (List.replicate n ()).flatMap (fun _ => M)
theorem rep_zero (M : List Value) : rep M 0 = [] := rfl
theorem rep_succ (M : List Value) (n : Nat) : rep M (n + 1) = rep M n ++ M := by
  unfold rep
  rw [List.replicate_succ', List.flatMap_append]
  simp
theorem rep_len {M : List Value} {k : Nat} (h : M.length = k) (n : Nat) : (rep M n).length = n * k := by
  unfold rep
  rw [flat_len (f := fun _ => M) (fun _ => h), List.length_replicate]
theorem rep_add (M : List Value) (n m : Nat) : rep M (n + m) = rep M n ++ rep M m := by
  unfold rep
  rw [← List.replicate_append_replicate, List.flatMap_append]
theorem rep_at {M : List Value} {k : Nat} (h : M.length = k) {n q j : Nat} (hq : q < n) (hj : j < k) : (rep M n).getD (q * k + j) undef = M.getD j undef := by
  unfold rep
  rw [flat_get (f := fun _ => M) (fun _ => h) _ q j (by rw [List.length_replicate]; exact hq) hj]
/-- An owned list's value is nil, or a block of its own. -/
def OL.ok (o : OL) : Prop := (o.r = none ∧ o.ao = none ∧ o.n = 0 ∧ o.cap = 0) ∨ ∃ g, o.r = some g ∧ o.ao = some ⟨g, 0, none⟩ ∧ o.n ≤ o.cap ∧ o.cap ≤ maxLen
theorem OL.ok_of {w : World} {e k : Nat} {o : OL} (h : (o.it e k).ok w) : o.ok := by
  have h : Row w e k o.v o.r o.n o.xs := h
  rcases h.form with ⟨h1, h2, _, h4⟩ | ⟨g, cap, cur, h1, h2, h3, h4, _⟩
  · simp only [OL.v, Value.slice.injEq] at h1
    exact .inl ⟨h4, h1.1, h2, h1.2.2⟩
  · simp only [OL.v, Value.slice.injEq, true_and] at h1
    exact .inr ⟨g, h2, h1.1, by rw [h1.2]; exact h3, by rw [h1.2]; exact h4⟩
/-- A list, marked. -/
def OL.mk' (M : List Value) (o : OL) : OL := ⟨o.ao, o.n, o.cap, o.r, rep M o.n⟩
theorem OL.mk_ok {M : List Value} {o : OL} (h : o.ok) : (o.mk' M).ok := h
/-- Partly marked. -/
def OL.part (M : List Value) (k q : Nat) (o : OL) : OL := ⟨o.ao, o.n, o.cap, o.r, rep M q ++ o.xs.drop (q * k)⟩
theorem OL.part_zero (M : List Value) (k : Nat) (o : OL) : o.part M k 0 = o := by
  unfold OL.part
  rw [rep_zero, Nat.zero_mul, List.drop_zero]
  rfl
theorem OL.part_all (M : List Value) {k : Nat} {o : OL} (h : o.xs.length = o.n * k) : o.part M k o.n = o.mk' M := by
  unfold OL.part OL.mk'
  rw [List.drop_of_length_le (by omega), List.append_nil]
theorem View.nil (w : World) (k : Nat) : View w k (.slice none 0 0) 0 [] := (Row.nil w 0 k).view
/-- A list that is grown: its long form; the old one is its beginning, or stands apart. -/
structure GO where
  o : OL
  ao : Option Addr
  cap : Nat
  r : Option Nat
  t : Nat
  ex : Option (Value × Nat)
def GO.lv (x : GO) : Value := .slice x.ao (x.o.n + x.t) x.cap
def GO.long (e k : Nat) (M : List Value) (x : GO) : It := .row e k x.lv x.r (x.o.n + x.t) (rep M (x.o.n + x.t))
def GO.exI (e k : Nat) (M : List Value) (x : GO) : List It := match x.ex with
  | none => []
  | some (v, n') => [.row e k v x.o.r n' (rep M n')]
def GO.its (e k : Nat) (M : List Value) (x : GO) : List It := x.long e k M :: x.exI e k M
structure GO.ok (M : List Value) (x : GO) : Prop where
  sh : x.o.ok
  xs : x.o.xs = rep M x.o.n
  no : x.ex = none → x.r = x.o.r
  so : ∀ v n', x.ex = some (v, n') → x.o.n ≤ n'
def GO.start (o : OL) : GO := ⟨o, o.ao, o.cap, o.r, 0, none⟩
theorem GO.start_ok {M : List Value} {o : OL} (h : o.ok) (hx : o.xs = rep M o.n) : (GO.start o).ok M := ⟨h, hx, (fun _ => rfl), (fun v n' e => by cases e)⟩
theorem GO.start_its {e k : Nat} {M : List Value} {o : OL} (hx : o.xs = rep M o.n) : (GO.start o).its e k M = [o.it e k] := by
  unfold GO.its GO.long GO.exI GO.start OL.it GO.lv OL.v
  simp only [Nat.add_zero, hx]
theorem old_view {w : World} {e k : Nat} {M : List Value} (hM : M.length = k) {o : OL} {v : Value} {n' : Nat} (hr : Row w e k v o.r n' (rep M n')) (hn : o.n ≤ n') (hs : o.ok) : View w k o.v o.n (rep M o.n) := by
  rcases hs with ⟨h1, h2, h3, h4⟩ | ⟨g, h1, h2, h3, h4⟩
  · unfold OL.v
    rw [h2, h3, h4, rep_zero]
    exact View.nil w k
  · rw [h1] at hr
    have h5 := hr.viewPre hn h3 h4
    have h6 : (rep M n').take (o.n * k) = rep M o.n := by
      obtain ⟨d, rfl⟩ : ∃ d, n' = o.n + d := ⟨n' - o.n, by omega⟩
      rw [rep_add, List.take_append_of_le_length (by rw [rep_len hM]; omega), List.take_of_length_le (by rw [rep_len hM]; omega)]
    rw [h6] at h5
    unfold OL.v
    rw [h2]
    exact h5
theorem GO.old {w : World} {e k : Nat} {M : List Value} (hM : M.length = k) {x : GO} (h : x.ok M) (hy : ∀ y ∈ x.its e k M, y.ok w) : View w k x.o.v x.o.n (rep M x.o.n) := by
  have h1 : Row w e k x.lv x.r (x.o.n + x.t) (rep M (x.o.n + x.t)) := hy (x.long e k M) (List.mem_cons_self ..)
  cases hex : x.ex with
  | none =>
    rw [h.no hex] at h1
    exact old_view hM h1 (by omega) h.sh
  | some p =>
    obtain ⟨v, n'⟩ := p
    have h2 := hy (.row e k v x.o.r n' (rep M n')) (by unfold GO.its GO.exI; rw [hex]; simp)
    exact old_view hM h2 (h.so v n' hex) h.sh
/-- One more. -/
theorem Hp.growG {w0 w w1 w2 : World} {e k : Nat} {M : List Value} {x : GO} {R : List It} (h : Hp [] w0 w (x.its e k M ++ R)) (hx : x.ok M) (hc1 : Chg [] w w1) {ao' : Option Addr} {cap' : Nat} {r' : Option Nat}
    (hr : Row w2 e k (.slice ao' (x.o.n + x.t + 1) cap') r' (x.o.n + x.t + 1) (rep M (x.o.n + x.t) ++ M)) (hg : Grew w1 w2 x.r r') :
    ∃ y : GO, y.o = x.o ∧ y.t = x.t + 1 ∧ y.ao = ao' ∧ y.cap = cap' ∧ y.r = r' ∧ y.ok M ∧ Hp [] w0 w2 (y.its e k M ++ R) := by
  rw [← rep_succ] at hr
  have h1 := hg.chg
  have h2 := hg.fresh
  rcases hg with ⟨rfl, hc⟩ | ⟨hc, hnew⟩
  · refine ⟨⟨x.o, ao', cap', x.r, x.t + 1, x.ex⟩, rfl, rfl, rfl, rfl, rfl, ⟨hx.sh, hx.xs, hx.no, hx.so⟩, ?_⟩
    exact h.grow 0 rfl hc1 hr h1 h2 rfl
  · cases hex : x.ex with
    | none =>
      refine ⟨⟨x.o, ao', cap', r', x.t + 1, some (x.lv, x.o.n + x.t)⟩, rfl, rfl, rfl, rfl, rfl, ⟨hx.sh, hx.xs, (fun e => by cases e), (fun v n' e => by cases e; show x.o.n ≤ x.o.n + x.t; omega)⟩, ?_⟩
      have h3 := (h.same hc1).fresh hc hr (fun g hg => .inr (hnew g hg))
      have h4 : x.its e k M ++ R = .row e k x.lv x.o.r (x.o.n + x.t) (rep M (x.o.n + x.t)) :: R := by
        unfold GO.its GO.long GO.exI
        rw [hex, hx.no hex]
        rfl
      rw [h4] at h3
      exact h3
    | some p =>
      refine ⟨⟨x.o, ao', cap', r', x.t + 1, x.ex⟩, rfl, rfl, rfl, rfl, rfl, ⟨hx.sh, hx.xs, (fun e => by rw [hex] at e; cases e), hx.so⟩, ?_⟩
      exact h.grow 0 rfl hc1 hr h1 h2 rfl
open Classical in
/-- The same things in another order. -/
theorem Hp.re {S0 : List Nat} {w0 w : World} {I I' : List It} (h : Hp S0 w0 w I) (hc : ∀ a, I.count a = I'.count a) : Hp S0 w0 w I' := h.perm (List.perm_iff_count.2 hc)
theorem take_next {α : Type} {l : List α} {i : Nat} {x : α} (h : l[i]? = some x) : l.take (i + 1) = l.take i ++ [x] := by
  rw [List.take_add_one, h]
  rfl
theorem sets4 {A B : List Value} {x0 x1 x2 x3 m0 m1 m2 m3 : Value} {p : Nat} (hA : A.length = p) : ((((A ++ x0 :: x1 :: x2 :: x3 :: B).set p m0).set (p + 1) m1).set (p + 2) m2).set (p + 3) m3 = A ++ [m0, m1, m2, m3] ++ B := by
  subst hA
  rw [List.set_append_right _ _ (Nat.le_refl _), List.set_append_right _ _ (by omega), List.set_append_right _ _ (by omega), List.set_append_right _ _ (by omega)]
  simp
theorem sets5 {A B : List Value} {x0 x1 x2 x3 x4 m0 m1 m2 m3 m4 : Value} {p : Nat} (hA : A.length = p) : (((((A ++ x0 :: x1 :: x2 :: x3 :: x4 :: B).set p m0).set (p + 1) m1).set (p + 2) m2).set (p + 3) m3).set (p + 4) m4 = A ++ [m0, m1, m2, m3, m4] ++ B := by
  subst hA
  rw [List.set_append_right _ _ (Nat.le_refl _), List.set_append_right _ _ (by omega), List.set_append_right _ _ (by omega), List.set_append_right _ _ (by omega), List.set_append_right _ _ (by omega)]
  simp
theorem sets10 {A B : List Value} {x0 x1 x2 x3 x4 x5 x6 x7 x8 x9 m0 m1 m2 m3 m4 m5 m6 m7 m8 m9 : Value} {p : Nat} (hA : A.length = p) : ((((((((((A ++ x0 :: x1 :: x2 :: x3 :: x4 :: x5 :: x6 :: x7 :: x8 :: x9 :: B).set p m0).set (p + 1) m1).set (p + 2) m2).set (p + 3) m3).set (p + 4) m4).set (p + 5) m5).set (p + 6) m6).set (p + 7) m7).set (p + 8) m8).set (p + 9) m9 = A ++ [m0, m1, m2, m3, m4, m5, m6, m7, m8, m9] ++ B := by
  subst hA
  rw [List.set_append_right _ _ (Nat.le_refl _), List.set_append_right _ _ (by omega), List.set_append_right _ _ (by omega), List.set_append_right _ _ (by omega), List.set_append_right _ _ (by omega), List.set_append_right _ _ (by omega), List.set_append_right _ _ (by omega), List.set_append_right _ _ (by omega), List.set_append_right _ _ (by omega), List.set_append_right _ _ (by omega)]
  simp
theorem drop_some {α : Type} {l : List α} {p : Nat} (h : p < l.length) : ∃ x, l.drop p = x :: l.drop (p + 1) := ⟨l[p], List.drop_eq_getElem_cons h⟩
theorem drop4 {l : List Value} {n q : Nat} (h : l.length = n * 4) (hq : q < n) : ∃ x0 x1 x2 x3, l.drop (q * 4) = x0 :: x1 :: x2 :: x3 :: l.drop ((q + 1) * 4) := by
  obtain ⟨x0, h0⟩ := drop_some (l := l) (p := q * 4) (by omega)
  obtain ⟨x1, h1⟩ := drop_some (l := l) (p := q * 4 + 1) (by omega)
  obtain ⟨x2, h2⟩ := drop_some (l := l) (p := q * 4 + 1 + 1) (by omega)
  obtain ⟨x3, h3⟩ := drop_some (l := l) (p := q * 4 + 1 + 1 + 1) (by omega)
  exact ⟨x0, x1, x2, x3, by rw [h0, h1, h2, h3, show q * 4 + 1 + 1 + 1 + 1 = (q + 1) * 4 from by omega]⟩
theorem drop5 {l : List Value} {n q : Nat} (h : l.length = n * 5) (hq : q < n) : ∃ x0 x1 x2 x3 x4, l.drop (q * 5) = x0 :: x1 :: x2 :: x3 :: x4 :: l.drop ((q + 1) * 5) := by
  obtain ⟨x0, h0⟩ := drop_some (l := l) (p := q * 5) (by omega)
  obtain ⟨x1, h1⟩ := drop_some (l := l) (p := q * 5 + 1) (by omega)
  obtain ⟨x2, h2⟩ := drop_some (l := l) (p := q * 5 + 1 + 1) (by omega)
  obtain ⟨x3, h3⟩ := drop_some (l := l) (p := q * 5 + 1 + 1 + 1) (by omega)
  obtain ⟨x4, h4⟩ := drop_some (l := l) (p := q * 5 + 1 + 1 + 1 + 1) (by omega)
  exact ⟨x0, x1, x2, x3, x4, by rw [h0, h1, h2, h3, h4, show q * 5 + 1 + 1 + 1 + 1 + 1 = (q + 1) * 5 from by omega]⟩
theorem drop10 {l : List Value} {n q : Nat} (h : l.length = n * 10) (hq : q < n) : ∃ x0 x1 x2 x3 x4 x5 x6 x7 x8 x9, l.drop (q * 10) = x0 :: x1 :: x2 :: x3 :: x4 :: x5 :: x6 :: x7 :: x8 :: x9 :: l.drop ((q + 1) * 10) := by
  obtain ⟨x0, h0⟩ := drop_some (l := l) (p := q * 10) (by omega)
  obtain ⟨x1, h1⟩ := drop_some (l := l) (p := q * 10 + 1) (by omega)
  obtain ⟨x2, h2⟩ := drop_some (l := l) (p := q * 10 + 2) (by omega)
  obtain ⟨x3, h3⟩ := drop_some (l := l) (p := q * 10 + 3) (by omega)
  obtain ⟨x4, h4⟩ := drop_some (l := l) (p := q * 10 + 4) (by omega)
  obtain ⟨x5, h5⟩ := drop_some (l := l) (p := q * 10 + 5) (by omega)
  obtain ⟨x6, h6⟩ := drop_some (l := l) (p := q * 10 + 6) (by omega)
  obtain ⟨x7, h7⟩ := drop_some (l := l) (p := q * 10 + 7) (by omega)
  obtain ⟨x8, h8⟩ := drop_some (l := l) (p := q * 10 + 8) (by omega)
  obtain ⟨x9, h9⟩ := drop_some (l := l) (p := q * 10 + 9) (by omega)
  exact ⟨x0, x1, x2, x3, x4, x5, x6, x7, x8, x9, by rw [h0, h1, h2, h3, h4, h5, h6, h7, h8, h9, show q * 10 + 9 + 1 = (q + 1) * 10 from by omega]⟩
/-- An element of a partly marked list is marked. -/
theorem Hp.mark5 {w0 w : World} {e : Nat} {m0 m1 m2 m3 m4 : Value} {o : OL} {R : List It} {q g : Nat} (hg : o.r = some g) (hx : o.xs.length = o.n * 5) (hq : q < o.n)
    (h : Hp [] w0 w ((o.part [m0, m1, m2, m3, m4] 5 q).it e 5 :: R)) : Hp [] w0 (((((w.setCell ⟨g, q * 5, none⟩ m0).setCell ⟨g, q * 5 + 1, none⟩ m1).setCell ⟨g, q * 5 + 2, none⟩ m2).setCell ⟨g, q * 5 + 3, none⟩ m3).setCell ⟨g, q * 5 + 4, none⟩ m4) ((o.part [m0, m1, m2, m3, m4] 5 (q + 1)).it e 5 :: R) := by
  obtain ⟨x0, x1, x2, x3, x4, hd⟩ := drop5 hx hq
  have hi : (((o.part [m0, m1, m2, m3, m4] 5 q).it e 5 :: R))[0]? = some (.row e 5 o.v (some g) o.n (rep [m0, m1, m2, m3, m4] q ++ x0 :: x1 :: x2 :: x3 :: x4 :: o.xs.drop ((q + 1) * 5))) := by
    rw [← hd, ← hg]; rfl
  have h1 := ((((h.puti 0 hi (q * 5) m0 rfl).puti 0 rfl (q * 5 + 1) m1 rfl).puti 0 rfl (q * 5 + 2) m2 rfl).puti 0 rfl (q * 5 + 3) m3 rfl).puti 0 rfl (q * 5 + 4) m4 rfl
  simp only [List.set_cons_zero] at h1
  rw [sets5 (show (rep [m0, m1, m2, m3, m4] q).length = q * 5 from rep_len rfl q)] at h1
  have e1 : rep [m0, m1, m2, m3, m4] q ++ [m0, m1, m2, m3, m4] ++ o.xs.drop ((q + 1) * 5) = (o.part [m0, m1, m2, m3, m4] 5 (q + 1)).xs := by
    rw [← rep_succ]; rfl
  rw [e1, ← hg] at h1
  exact h1
theorem Hp.mark4 {w0 w : World} {e : Nat} {m0 m1 m2 m3 : Value} {o : OL} {R : List It} {q g : Nat} (hg : o.r = some g) (hx : o.xs.length = o.n * 4) (hq : q < o.n)
    (h : Hp [] w0 w ((o.part [m0, m1, m2, m3] 4 q).it e 4 :: R)) : Hp [] w0 ((((w.setCell ⟨g, q * 4, none⟩ m0).setCell ⟨g, q * 4 + 1, none⟩ m1).setCell ⟨g, q * 4 + 2, none⟩ m2).setCell ⟨g, q * 4 + 3, none⟩ m3) ((o.part [m0, m1, m2, m3] 4 (q + 1)).it e 4 :: R) := by
  obtain ⟨x0, x1, x2, x3, hd⟩ := drop4 hx hq
  have hi : (((o.part [m0, m1, m2, m3] 4 q).it e 4 :: R))[0]? = some (.row e 4 o.v (some g) o.n (rep [m0, m1, m2, m3] q ++ x0 :: x1 :: x2 :: x3 :: o.xs.drop ((q + 1) * 4))) := by
    rw [← hd, ← hg]; rfl
  have h1 := (((h.puti 0 hi (q * 4) m0 rfl).puti 0 rfl (q * 4 + 1) m1 rfl).puti 0 rfl (q * 4 + 2) m2 rfl).puti 0 rfl (q * 4 + 3) m3 rfl
  simp only [List.set_cons_zero] at h1
  rw [sets4 (show (rep [m0, m1, m2, m3] q).length = q * 4 from rep_len rfl q)] at h1
  have e1 : rep [m0, m1, m2, m3] q ++ [m0, m1, m2, m3] ++ o.xs.drop ((q + 1) * 4) = (o.part [m0, m1, m2, m3] 4 (q + 1)).xs := by
    rw [← rep_succ]; rfl
  rw [e1, ← hg] at h1
  exact h1
theorem Hp.mark10 {w0 w : World} {e : Nat} {m0 m1 m2 m3 m4 m5 m6 m7 m8 m9 : Value} {o : OL} {R : List It} {q g : Nat} (hg : o.r = some g) (hx : o.xs.length = o.n * 10) (hq : q < o.n)
    (h : Hp [] w0 w ((o.part [m0, m1, m2, m3, m4, m5, m6, m7, m8, m9] 10 q).it e 10 :: R)) : Hp [] w0 ((((((((((w.setCell ⟨g, q * 10, none⟩ m0).setCell ⟨g, q * 10 + 1, none⟩ m1).setCell ⟨g, q * 10 + 2, none⟩ m2).setCell ⟨g, q * 10 + 3, none⟩ m3).setCell ⟨g, q * 10 + 4, none⟩ m4).setCell ⟨g, q * 10 + 5, none⟩ m5).setCell ⟨g, q * 10 + 6, none⟩ m6).setCell ⟨g, q * 10 + 7, none⟩ m7).setCell ⟨g, q * 10 + 8, none⟩ m8).setCell ⟨g, q * 10 + 9, none⟩ m9) ((o.part [m0, m1, m2, m3, m4, m5, m6, m7, m8, m9] 10 (q + 1)).it e 10 :: R) := by
  obtain ⟨x0, x1, x2, x3, x4, x5, x6, x7, x8, x9, hd⟩ := drop10 hx hq
  have hi : (((o.part [m0, m1, m2, m3, m4, m5, m6, m7, m8, m9] 10 q).it e 10 :: R))[0]? = some (.row e 10 o.v (some g) o.n (rep [m0, m1, m2, m3, m4, m5, m6, m7, m8, m9] q ++ x0 :: x1 :: x2 :: x3 :: x4 :: x5 :: x6 :: x7 :: x8 :: x9 :: o.xs.drop ((q + 1) * 10))) := by
    rw [← hd, ← hg]; rfl
  have h1 := (((((((((h.puti 0 hi (q * 10) m0 rfl).puti 0 rfl (q * 10 + 1) m1 rfl).puti 0 rfl (q * 10 + 2) m2 rfl).puti 0 rfl (q * 10 + 3) m3 rfl).puti 0 rfl (q * 10 + 4) m4 rfl).puti 0 rfl (q * 10 + 5) m5 rfl).puti 0 rfl (q * 10 + 6) m6 rfl).puti 0 rfl (q * 10 + 7) m7 rfl).puti 0 rfl (q * 10 + 8) m8 rfl).puti 0 rfl (q * 10 + 9) m9 rfl
  simp only [List.set_cons_zero] at h1
  rw [sets10 (show (rep [m0, m1, m2, m3, m4, m5, m6, m7, m8, m9] q).length = q * 10 from rep_len rfl q)] at h1
  have e1 : rep [m0, m1, m2, m3, m4, m5, m6, m7, m8, m9] q ++ [m0, m1, m2, m3, m4, m5, m6, m7, m8, m9] ++ o.xs.drop ((q + 1) * 10) = (o.part [m0, m1, m2, m3, m4, m5, m6, m7, m8, m9] 10 (q + 1)).xs := by
    rw [← rep_succ]; rfl
  rw [e1, ← hg] at h1
  exact h1
end Go.AB
