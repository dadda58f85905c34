/- Families of owned lists of events: marked, grown, with what was there before still to be read. No program in sight. -/
import Derived.Test.YtbghkodcfedebaaGreatDoorTxb
set_option linter.unusedVariables false
set_option linter.unusedSectionVars false
set_option linter.unusedSimpArgs false
namespace Go.AB
open Go.RowKit
theorem Row.slice {w : World} {e k n : Nat} {a : Option Addr} {c : Nat} {r : Option Nat} {xs : List Value} (h : Row w e k (.slice a n c) r n xs) (hn : 0 < n) : ∃ g, r = Option.some g ∧ a = Option.some ⟨g, 0, none⟩ ∧ n ≤ c := by
  cases r with
  | none =>
    rcases h.form with ⟨h1, h2, _⟩ | ⟨g', cap', cur, _, h2, _⟩
    · omega
    · cases h2
  | some g =>
    obtain ⟨_, _, c', h2, h3, _⟩ := Row.cellk h
    simp only [Value.slice.injEq, true_and] at h2
    obtain ⟨rfl, rfl⟩ := h2
    exact ⟨g, rfl, rfl, h3⟩
theorem drop_cons {α : Type} {all : List α} {k : Nat} {t : α} (h : all[k]? = some t) : all.drop k = t :: all.drop (k + 1) := by
  obtain ⟨hlt, hx⟩ := List.getElem?_eq_some_iff.1 h
  rw [List.drop_eq_getElem_cons hlt, hx]
/-- An owned list. -/
structure OL where
  ao : Option Addr
  n : Nat
  cap : Nat
  r : Option Nat
  xs : List Value
def OL.v (o : OL) : Value := .slice o.ao o.n o.cap
def OL.it (e k : Nat) (o : OL) : It := .row e k o.v o.r o.n o.xs
def repM (M : List Value) (n : Nat) : List Value := (List.replicate n ()).flatMap (fun _ => M)
theorem repM_zero (M : List Value) : repM M 0 = [] := rfl
theorem repM_succ (M : List Value) (n : Nat) : repM M (n + 1) = repM M n ++ M := by
  unfold repM
  rw [List.replicate_succ', List.flatMap_append]
  simp
theorem repM_len {M : List Value} {k : Nat} (h : M.length = k) (n : Nat) : (repM M n).length = n * k := by
  unfold repM
  rw [flat_len (f := fun _ => M) (fun _ => h), List.length_replicate]
theorem repM_add (M : List Value) (n m : Nat) : repM M (n + m) = repM M n ++ repM M m := by
  unfold repM
  rw [← List.replicate_append_replicate, List.flatMap_append]
theorem repM_at {M : List Value} {k : Nat} (h : M.length = k) {n q j : Nat} (hq : q < n) (hj : j < k) : (repM M n).getD (q * k + j) undef = M.getD j undef := by
  unfold repM
  rw [flat_get (f := fun _ => M) (fun _ => h) _ q j (by rw [List.length_replicate]; exact hq) hj]
/-- An owned list's value is nil, or a block of its own. -/
def OL.ok (o : OL) : Prop := (o.r = none ∧ o.ao = none ∧ o.n = 0 ∧ o.cap = 0) ∨ ∃ g, o.r = some g ∧ o.ao = some ⟨g, 0, none⟩ ∧ o.n ≤ o.cap ∧ o.cap ≤ maxLen
theorem OL.ok_of {w : World} {e k : Nat} {o : OL} (h : (o.it e k).ok w) : o.ok := by
  have h : Row w e k o.v o.r o.n o.xs := h
  rcases h.form with ⟨h1, h2, _, h4⟩ | ⟨g, cap, cur, h1, h2, h3, h4, _⟩
  · simp only [OL.v, Value.slice.injEq] at h1
    exact .inl ⟨h4, h1.1, h2, h1.2.2⟩
  · simp only [OL.v, Value.slice.injEq, true_and] at h1
    exact .inr ⟨g, h2, h1.1, by rw [h1.2]; exact h3, by rw [h1.2]; exact h4⟩
/-- A list, marked. -/
def OL.mk' (M : List Value) (o : OL) : OL := ⟨o.ao, o.n, o.cap, o.r, repM M o.n⟩
theorem OL.mk_ok {M : List Value} {o : OL} (h : o.ok) : (o.mk' M).ok := h
/-- Partly marked. -/
def OL.part (M : List Value) (k q : Nat) (o : OL) : OL := ⟨o.ao, o.n, o.cap, o.r, repM M q ++ o.xs.drop (q * k)⟩
theorem OL.part_zero (M : List Value) (k : Nat) (o : OL) : o.part M k 0 = o := by
  unfold OL.part
  rw [repM_zero, Nat.zero_mul, List.drop_zero]
  rfl
theorem OL.part_all (M : List Value) {k : Nat} {o : OL} (h : o.xs.length = o.n * k) : o.part M k o.n = o.mk' M := by
  unfold OL.part OL.mk'
  rw [List.drop_of_length_le (by omega), List.append_nil]
theorem View.nil (w : World) (k : Nat) : View w k (.slice none 0 0) 0 [] := (Row.nil w 0 k).view
/-- A list that is grown: its long form; the old one is its beginning, or stands apart. -/
structure GO where
  o : OL
  ao : Option Addr
  cap : Nat
  r : Option Nat
  t : Nat
  ex : Option (Value × Nat)
def GO.lv (x : GO) : Value := .slice x.ao (x.o.n + x.t) x.cap
def GO.long (e k : Nat) (M : List Value) (x : GO) : It := .row e k x.lv x.r (x.o.n + x.t) (repM M (x.o.n + x.t))
def GO.exI (e k : Nat) (M : List Value) (x : GO) : List It := match x.ex with
  | none => []
  | some (v, n') => [.row e k v x.o.r n' (repM M n')]
def GO.its (e k : Nat) (M : List Value) (x : GO) : List It := x.long e k M :: x.exI e k M
structure GO.ok (M : List Value) (x : GO) : Prop where
  sh : x.o.ok
  xs : x.o.xs = repM M x.o.n
  no : x.ex = none → x.r = x.o.r
  so : ∀ v n', x.ex = some (v, n') → x.o.n ≤ n'
def GO.start (o : OL) : GO := ⟨o, o.ao, o.cap, o.r, 0, none⟩
theorem GO.start_ok {M : List Value} {o : OL} (h : o.ok) (hx : o.xs = repM M o.n) : (GO.start o).ok M := ⟨h, hx, (fun _ => rfl), (fun v n' e => by cases e)⟩
theorem GO.start_its {e k : Nat} {M : List Value} {o : OL} (hx : o.xs = repM M o.n) : (GO.start o).its e k M = [o.it e k] := by
  unfold GO.its GO.long GO.exI GO.start OL.it GO.lv OL.v
  simp only [Nat.add_zero, hx]
theorem old_view {w : World} {e k : Nat} {M : List Value} (hM : M.length = k) {o : OL} {v : Value} {n' : Nat} (hr : Row w e k v o.r n' (repM M n')) (hn : o.n ≤ n') (hs : o.ok) : View w k o.v o.n (repM M o.n) := by
  rcases hs with ⟨h1, h2, h3, h4⟩ | ⟨g, h1, h2, h3, h4⟩
  · unfold OL.v
    rw [h2, h3, h4, repM_zero]
    exact View.nil w k
  · rw [h1] at hr
    have h5 := hr.viewPre hn h3 h4
    have h6 : (repM M n').take (o.n * k) = repM M o.n := by
      obtain ⟨d, rfl⟩ : ∃ d, n' = o.n + d := ⟨n' - o.n, by omega⟩
      rw [repM_add, List.take_append_of_le_length (by rw [repM_len hM]; omega), List.take_of_length_le (by rw [repM_len hM]; omega)]
    rw [h6] at h5
    unfold OL.v
    rw [h2]
    exact h5
theorem GO.old {w : World} {e k : Nat} {M : List Value} (hM : M.length = k) {x : GO} (h : x.ok M) (hy : ∀ y ∈ x.its e k M, y.ok w) : View w k x.o.v x.o.n (repM M x.o.n) := by
  have h1 : Row w e k x.lv x.r (x.o.n + x.t) (repM M (x.o.n + x.t)) := hy (x.long e k M) (List.mem_cons_self ..)
  cases hex : x.ex with
  | none =>
    rw [h.no hex] at h1
    exact old_view hM h1 (by omega) h.sh
  | some p =>
    obtain ⟨v, n'⟩ := p
    have h2 := hy (.row e k v x.o.r n' (repM M n')) (by unfold GO.its GO.exI; rw [hex]; simp)
    exact old_view hM h2 (h.so v n' hex) h.sh
/-- One more. -/
theorem Hp.growG {w0 w w1 w2 : World} {e k : Nat} {M : List Value} {x : GO} {R : List It} (h : Hp [] w0 w (x.its e k M ++ R)) (hx : x.ok M) (hc1 : Chg [] w w1) {ao' : Option Addr} {cap' : Nat} {r' : Option Nat}
    (hr : Row w2 e k (.slice ao' (x.o.n + x.t + 1) cap') r' (x.o.n + x.t + 1) (repM M (x.o.n + x.t) ++ M)) (hg : Grew w1 w2 x.r r') :
    ∃ y : GO, y.o = x.o ∧ y.t = x.t + 1 ∧ y.ao = ao' ∧ y.cap = cap' ∧ y.r = r' ∧ y.ok M ∧ Hp [] w0 w2 (y.its e k M ++ R) := by
  rw [← repM_succ] at hr
  have h1 := hg.chg
  have h2 := hg.fresh
  rcases hg with ⟨rfl, hc⟩ | ⟨hc, hnew⟩
  · refine ⟨⟨x.o, ao', cap', x.r, x.t + 1, x.ex⟩, rfl, rfl, rfl, rfl, rfl, ⟨hx.sh, hx.xs, hx.no, hx.so⟩, ?_⟩
    exact h.grow 0 rfl hc1 hr h1 h2 rfl
  · cases hex : x.ex with
    | none =>
      refine ⟨⟨x.o, ao', cap', r', x.t + 1, some (x.lv, x.o.n + x.t)⟩, rfl, rfl, rfl, rfl, rfl, ⟨hx.sh, hx.xs, (fun e => by cases e), (fun v n' e => by cases e; show x.o.n ≤ x.o.n + x.t; omega)⟩, ?_⟩
      have h3 := (h.same hc1).fresh hc hr (fun g hg => .inr (hnew g hg))
      have h4 : x.its e k M ++ R = .row e k x.lv x.o.r (x.o.n + x.t) (repM M (x.o.n + x.t)) :: R := by
        unfold GO.its GO.long GO.exI
        rw [hex, hx.no hex]
        rfl
      rw [h4] at h3
      exact h3
    | some p =>
      refine ⟨⟨x.o, ao', cap', r', x.t + 1, x.ex⟩, rfl, rfl, rfl, rfl, rfl, ⟨hx.sh, hx.xs, (fun e => by rw [hex] at e; cases e), hx.so⟩, ?_⟩
      exact h.grow 0 rfl hc1 hr h1 h2 rfl
open Classical in
/-- The same things in another order. -/
theorem Hp.re {S0 : List Nat} {w0 w : World} {I I' : List It} (h : Hp S0 w0 w I) (hc : ∀ a, I.count a = I'.count a) : Hp S0 w0 w I' := h.perm (List.perm_iff_count.2 hc)
theorem take_next {α : Type} {l : List α} {i : Nat} {x : α} (h : l[i]? = some x) : l.take (i + 1) = l.take i ++ [x] := by
  rw [List.take_add_one, h]
  rfl
theorem Hp.swap2 {S0 : List Nat} {w0 w : World} {a b : It} {M : List It} (h : Hp S0 w0 w (a :: b :: M)) : Hp S0 w0 w (b :: a :: M) := h.perm (List.Perm.swap b a M)
def mkF (M : Nat → List Value) (os : List OL) : List OL := os.mapIdx fun i o => o.mk' (M i)
theorem mkF_len (M : Nat → List Value) (os : List OL) : (mkF M os).length = os.length := by simp [mkF]
theorem mkF_get {M : Nat → List Value} {os : List OL} {i : Nat} {o : OL} (h : os[i]? = some o) : (mkF M os)[i]? = some (o.mk' (M i)) := by
  unfold mkF
  rw [List.getElem?_mapIdx, h]
  rfl
theorem mkF_v (M : Nat → List Value) (os : List OL) : (mkF M os).map OL.v = os.map OL.v := by
  apply List.ext_getElem?
  intro i
  unfold mkF
  simp only [List.getElem?_map, List.getElem?_mapIdx, Option.map_map]
  rfl
def gAll (e k : Nat) (M : Nat → List Value) (gs : List GO) : List It := (gs.mapIdx fun j x => x.its e k (M j)).flatten
theorem gAll_nil {e k : Nat} {M : Nat → List Value} : gAll e k M [] = [] := rfl
theorem gAll_snoc {e k : Nat} {M : Nat → List Value} {gs : List GO} {x : GO} : gAll e k M (gs ++ [x]) = gAll e k M gs ++ x.its e k (M gs.length) := by
  unfold gAll
  rw [List.mapIdx_append]
  simp
theorem gAll_mem {e k : Nat} {M : Nat → List Value} {gs : List GO} {j : Nat} {x : GO} (h : gs[j]? = some x) {y : It} (hy : y ∈ x.its e k (M j)) : y ∈ gAll e k M gs := by
  unfold gAll
  refine List.mem_flatten.2 ⟨x.its e k (M j), ?_, hy⟩
  refine List.mem_of_getElem? (i := j) ?_
  rw [List.getElem?_mapIdx, h]
  rfl
/-- The grown lists of a family. -/
structure GA (M : Nat → List Value) (Ms : List OL) (gs : List GO) (i : Nat) : Prop where
  len : gs.length = i
  at_ : ∀ (j : Nat) (x : GO), gs[j]? = some x → x.ok (M j) ∧ x.t = 70 ∧ Ms[j]? = some x.o
theorem GA.start (M : Nat → List Value) (Ms : List OL) : GA M Ms [] 0 := ⟨rfl, fun j x h => by simp at h⟩
theorem GA.next {M : Nat → List Value} {Ms : List OL} {gs : List GO} {i : Nat} (h : GA M Ms gs i) {x : GO} (h1 : x.ok (M i)) (h2 : x.t = 70) (h3 : Ms[i]? = some x.o) : GA M Ms (gs ++ [x]) (i + 1) := by
  refine ⟨by rw [List.length_append, h.len]; rfl, fun j y hy => ?_⟩
  by_cases hj : j < gs.length
  · rw [List.getElem?_append_left hj] at hy
    exact h.at_ j y hy
  · rw [List.getElem?_append_right (by omega)] at hy
    have hj0 : j - gs.length = 0 := by
      rcases Nat.eq_zero_or_pos (j - gs.length) with h0 | h0
      · exact h0
      · rw [List.getElem?_eq_none (by simp; omega)] at hy; cases hy
    rw [hj0] at hy
    simp only [List.getElem?_cons_zero, Option.some.injEq] at hy
    subst hy
    have : j = i := by have := h.len; omega
    subst this
    exact ⟨h1, h2, h3⟩
theorem sets3 {A B : List Value} {x0 x1 x2 m0 m1 m2 : Value} {p : Nat} (hA : A.length = p) : (((A ++ x0 :: x1 :: x2 :: B).set p m0).set (p + 1) m1).set (p + 2) m2 = A ++ [m0, m1, m2] ++ B := by
  subst hA
  rw [List.set_append_right _ _ (Nat.le_refl _), List.set_append_right _ _ (by omega), List.set_append_right _ _ (by omega)]
  simp
theorem drop_some {α : Type} {l : List α} {p : Nat} (h : p < l.length) : ∃ x, l.drop p = x :: l.drop (p + 1) := ⟨l[p], List.drop_eq_getElem_cons h⟩
theorem drop3 {l : List Value} {n q : Nat} (h : l.length = n * 3) (hq : q < n) : ∃ x0 x1 x2, l.drop (q * 3) = x0 :: x1 :: x2 :: l.drop ((q + 1) * 3) := by
  obtain ⟨x0, h0⟩ := drop_some (l := l) (p := q * 3) (by omega)
  obtain ⟨x1, h1⟩ := drop_some (l := l) (p := q * 3 + 1) (by omega)
  obtain ⟨x2, h2⟩ := drop_some (l := l) (p := q * 3 + 1 + 1) (by omega)
  exact ⟨x0, x1, x2, by rw [h0, h1, h2, show q * 3 + 1 + 1 + 1 = (q + 1) * 3 from by omega]⟩
/-- An element of a partly marked list is marked. -/
theorem Hp.mark3 {w0 w : World} {e : Nat} {m0 m1 m2 : Value} {o : OL} {R : List It} {q g : Nat} (hg : o.r = some g) (hx : o.xs.length = o.n * 3) (hq : q < o.n)
    (h : Hp [] w0 w ((o.part [m0, m1, m2] 3 q).it e 3 :: R)) : Hp [] w0 (((w.setCell ⟨g, q * 3, none⟩ m0).setCell ⟨g, q * 3 + 1, none⟩ m1).setCell ⟨g, q * 3 + 2, none⟩ m2) ((o.part [m0, m1, m2] 3 (q + 1)).it e 3 :: R) := by
  obtain ⟨x0, x1, x2, hd⟩ := drop3 hx hq
  have hi : (((o.part [m0, m1, m2] 3 q).it e 3 :: R))[0]? = some (.row e 3 o.v (some g) o.n (repM [m0, m1, m2] q ++ x0 :: x1 :: x2 :: o.xs.drop ((q + 1) * 3))) := by
    rw [← hd, ← hg]; rfl
  have h1 := ((h.puti 0 hi (q * 3) m0 rfl).puti 0 rfl (q * 3 + 1) m1 rfl).puti 0 rfl (q * 3 + 2) m2 rfl
  simp only [List.set_cons_zero] at h1
  rw [sets3 (show (repM [m0, m1, m2] q).length = q * 3 from repM_len rfl q)] at h1
  have e1 : repM [m0, m1, m2] q ++ [m0, m1, m2] ++ o.xs.drop ((q + 1) * 3) = (o.part [m0, m1, m2] 3 (q + 1)).xs := by
    rw [← repM_succ]; rfl
  rw [e1, ← hg] at h1
  exact h1
end Go.AB
