/- The numbers of the first events of the runs, plain. No program in sight. -/
import Derived.Test.YtbghkodcfedebaaGreatDoorTxc
set_option linter.unusedVariables false
set_option linter.unusedSectionVars false
set_option linter.unusedSimpArgs false
namespace Go.AB
open Go.RowKit
/-- The numbers, from i on, of the events whose thread is not the one's ahead. -/
def stE : Nat → Option Int → List Ev → List Nat
  | _, _, [] => []
  | i, p, e :: l => if p = some e.t then stE (i + 1) (some e.t) l else i :: stE (i + 1) (some e.t) l
theorem stE_runs : ∀ (l : List Ev) (i : Nat), stE i none l = (runsI i (runsE l)).map Prod.fst
  | [], i => rfl
  | [e], i => by simp [stE, runsE, runsI]
  | e :: x :: m, i => by
    have ih := stE_runs (x :: m) (i + 1)
    obtain ⟨r, rs, hr, hx⟩ := (runs_cons x m (x.t + 1) (by omega)).2.2
    cases r with
    | nil => simp at hx
    | cons y r' =>
      simp only [List.head?_cons, Option.some.injEq] at hx
      subst hx
      have h1 : stE (i + 1) none (y :: m) = (i + 1) :: stE (i + 2) (some y.t) m := by simp [stE]
      rw [h1, hr] at ih
      simp only [runsI, List.map_cons, List.cons.injEq, true_and, List.length_cons] at ih
      have h2 : stE i none (e :: y :: m) = i :: (if e.t = y.t then stE (i + 2) (some y.t) m else (i + 1) :: stE (i + 2) (some y.t) m) := by
        simp [stE]
      have h3 : runsE (e :: y :: m) = if y.t = e.t then (e :: y :: r') :: rs else [e] :: (y :: r') :: rs := by
        conv => lhs; unfold runsE
        rw [hr]
      rw [h2, h3, ih]
      by_cases h : y.t = e.t
      · rw [if_pos h, if_pos h.symm]
        simp only [runsI, List.map_cons, List.length_cons]
        rw [show i + (r'.length + 1 + 1) = i + 1 + (r'.length + 1) from by omega]
      · rw [if_neg h, if_neg (fun e => h e.symm)]
        simp only [runsI, List.map_cons, List.length_cons, List.length_nil]
        try rw [show i + (0 + 1) = i + 1 from by omega]
theorem stE_len (l : List Ev) : (stE 0 none l).length = (runsE l).length := by
  rw [stE_runs, List.length_map]
  conv => rhs; rw [← runsI_snd 0 (runsE l)]
  rw [List.length_map]
theorem stE_step {i : Nat} {p : Option Int} {l : List Ev} (h : i < l.length) (pre : List Nat) (k : Nat) : pre ++ stE k p (l.drop i) = (if p = some l[i].t then pre else pre ++ [k]) ++ stE (k + 1) (some l[i].t) (l.drop (i + 1)) := by
  rw [List.drop_eq_getElem_cons h]
  conv => lhs; unfold stE
  split <;> simp
theorem stE_first {m : List Ev} {k : Nat} (i : Nat) (hk : 1 ≤ k) (hkm : k ≤ m.length) (hs : ∀ j (h : j < m.length), j < k → m[j].t = (m[0]'(by omega)).t) (he : ∀ h : k < m.length, m[k].t ≠ (m[0]'(by omega)).t) :
    stE i none m = i :: stE (i + k) none (m.drop k) := by
  rw [stE_runs, run_first hk hkm hs he, stE_runs]
  simp only [runsI, List.map_cons, List.length_take]
  rw [Nat.min_eq_left hkm]
end Go.AB
