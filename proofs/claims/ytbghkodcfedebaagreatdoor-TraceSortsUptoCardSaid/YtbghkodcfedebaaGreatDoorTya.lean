/- Events apart and woven, plain: threads, parts, turns. No program in sight. -/
import Derived.Test.YtbghkodcfedebaaGreatDoorTj6
set_option linter.unusedVariables false
set_option linter.unusedSectionVars false
set_option linter.unusedSimpArgs false
namespace Go.AB
open Go.RowKit
/-- Strictly rising numbers. -/
def RisT (l : List Int) : Prop := l.Pairwise (· < ·)
/-- The threads of a list, rising, each once. -/
structure ThrOf (l : List Ev) (T : List Int) : Prop where
  ris : RisT T
  mem : ∀ t, t ∈ T ↔ ∃ e ∈ l, e.t = t
theorem nodup_inj {T : List Int} (h : T.Nodup) {i j : Nat} (hi : i < T.length) (hj : j < T.length) (he : T[i] = T[j]) : i = j := by
  have h1 := List.pairwise_iff_getElem.1 h
  rcases Nat.lt_trichotomy i j with h2 | h2 | h2
  · exact absurd he (h1 i j hi hj h2)
  · exact h2
  · exact absurd he.symm (h1 j i hj hi h2)
theorem RisT.nodup {T : List Int} (h : RisT T) : T.Nodup := h.imp (fun hab => by omega)
theorem ris_same : ∀ {A B : List Int}, RisT A → RisT B → (∀ t, t ∈ A ↔ t ∈ B) → A = B
  | [], [], _, _, _ => rfl
  | [], b :: B, _, _, h => absurd ((h b).2 (by simp)) (by simp)
  | a :: A, [], _, _, h => absurd ((h a).1 (by simp)) (by simp)
  | a :: A, b :: B, ha, hb, h => by
    have ha' := List.pairwise_cons.1 ha
    have hb' := List.pairwise_cons.1 hb
    have hab : a = b := by
      rcases List.mem_cons.1 ((h a).1 (by simp)) with h1 | h1
      · exact h1
      · rcases List.mem_cons.1 ((h b).2 (by simp)) with h2 | h2
        · exact h2.symm
        · have h3 := ha'.1 b h2; have h4 := hb'.1 a h1; omega
    subst hab
    congr 1
    refine ris_same ha'.2 hb'.2 (fun t => ⟨fun ht => ?_, fun ht => ?_⟩)
    · have h1 := ha'.1 t ht
      rcases List.mem_cons.1 ((h t).1 (List.mem_cons_of_mem _ ht)) with h2 | h2
      · omega
      · exact h2
    · have h1 := hb'.1 t ht
      rcases List.mem_cons.1 ((h t).2 (List.mem_cons_of_mem _ ht)) with h2 | h2
      · omega
      · exact h2
theorem ThrOf.same {l m : List Ev} {A B : List Int} (ha : ThrOf l A) (hb : ThrOf m B) (h : ∀ t, (∃ e ∈ l, e.t = t) ↔ ∃ e ∈ m, e.t = t) : A = B :=
  ris_same ha.ris hb.ris (fun t => (ha.mem t).trans ((h t).trans (hb.mem t).symm))
/-- The events of a thread. -/
def ofT (t : Int) (l : List Ev) : List Ev := l.filter (fun e => decide (e.t = t))
def partsT (T : List Int) (l : List Ev) : List (List Ev) := T.map (fun t => ofT t l)
theorem ofT_nil (t : Int) : ofT t [] = [] := rfl
theorem ofT_snoc (t : Int) (l : List Ev) (e : Ev) : ofT t (l ++ [e]) = if e.t = t then ofT t l ++ [e] else ofT t l := by
  unfold ofT
  rw [List.filter_append]
  by_cases h : e.t = t
  · simp [h]
  · simp [h]
theorem ofT_cons (t : Int) (e : Ev) (l : List Ev) : ofT t (e :: l) = if e.t = t then e :: ofT t l else ofT t l := by
  unfold ofT
  by_cases h : e.t = t
  · simp [h]
  · simp [h]
theorem ofT_mem {t : Int} {l : List Ev} {e : Ev} (h : e ∈ ofT t l) : e ∈ l ∧ e.t = t := by
  unfold ofT at h
  have h := List.mem_filter.1 h
  exact ⟨h.1, of_decide_eq_true h.2⟩
theorem ofT_len (t : Int) (l : List Ev) : (ofT t l).length ≤ l.length := List.length_filter_le _ _
/-- Parts put together by turns: what is left of them is handed on. -/
def weaveT : List (List Ev) → List Nat → Option (List Ev × List (List Ev))
  | ps, [] => some ([], ps)
  | ps, t :: ts => match ps[t]? with
    | some (e :: r) => (weaveT (ps.set t r) ts).map (fun q => (e :: q.1, q.2))
    | _ => none
theorem weaveT_snoc : ∀ (ps : List (List Ev)) (ts : List Nat) (t : Nat) {l : List Ev} {qs : List (List Ev)}, weaveT ps ts = some (l, qs) → weaveT ps (ts ++ [t]) = match qs[t]? with
    | some (e :: r) => some (l ++ [e], qs.set t r)
    | _ => none
  | ps, [], t, l, qs, h => by
    simp only [weaveT, Option.some.injEq, Prod.mk.injEq] at h
    obtain ⟨rfl, rfl⟩ := h
    simp only [List.nil_append, weaveT]
    split
    · rename_i h
      simp [h]
    · rfl
  | ps, u :: ts, t, l, qs, h => by
    rw [List.cons_append]
    unfold weaveT at h ⊢
    split at h
    · rename_i e r hu
      cases hw : weaveT (ps.set u r) ts with
      | none => rw [hw] at h; cases h
      | some q =>
        obtain ⟨a, b⟩ := q
        rw [hw] at h
        simp only [Option.map_some, Option.some.injEq, Prod.mk.injEq] at h
        obtain ⟨rfl, rfl⟩ := h
        rw [weaveT_snoc _ ts t hw]
        split
        · rename_i h2; simp [h2]
        · rfl
    · cases h
/-- What is left of the parts: so many fewer. -/
theorem weave_left : ∀ (ts : List Nat) (ps : List (List Ev)) {l : List Ev} {qs : List (List Ev)}, weaveT ps ts = some (l, qs) → l.length = ts.length ∧ qs.length = ps.length ∧ ∀ j, ts.count j ≤ (ps.getD j []).length ∧ qs.getD j [] = (ps.getD j []).drop (ts.count j)
  | [], ps, l, qs, h => by
    simp only [weaveT, Option.some.injEq, Prod.mk.injEq] at h
    obtain ⟨rfl, rfl⟩ := h
    exact ⟨rfl, rfl, fun j => by simp⟩
  | t :: ts, ps, l, qs, h => by
    unfold weaveT at h
    split at h
    · rename_i e r hu
      cases hw : weaveT (ps.set t r) ts with
      | none => rw [hw] at h; cases h
      | some q =>
        obtain ⟨a, b⟩ := q
        rw [hw] at h
        simp only [Option.map_some, Option.some.injEq, Prod.mk.injEq] at h
        obtain ⟨rfl, rfl⟩ := h
        obtain ⟨h1, h2, h3⟩ := weave_left ts _ hw
        refine ⟨by simp [h1], by rw [h2, List.length_set], fun j => ?_⟩
        obtain ⟨h4, h5⟩ := h3 j
        have htl : t < ps.length := (List.getElem?_eq_some_iff.1 hu).1
        by_cases hj : j = t
        · subst hj
          have e1 : (ps.set j r).getD j [] = r := by simp [List.getD_eq_getElem?_getD, htl]
          have e2 : ps.getD j [] = e :: r := by simp [List.getD_eq_getElem?_getD, hu]
          rw [e1] at h4 h5
          rw [e2, List.count_cons_self]
          exact ⟨by simp only [List.length_cons]; omega, by rw [h5, List.drop_succ_cons]⟩
        · have e1 : (ps.set t r).getD j [] = ps.getD j [] := by
            rw [List.getD_eq_getElem?_getD, List.getElem?_set_ne (fun e => hj e.symm), ← List.getD_eq_getElem?_getD]
          rw [e1] at h4 h5
          rw [List.count_cons_of_ne (fun e => hj e.symm)]
          exact ⟨h4, h5⟩
    · cases h
/-- Turns that no part refuses. -/
theorem weave_some : ∀ (ts : List Nat) (ps : List (List Ev)), (∀ j, ts.count j ≤ (ps.getD j []).length) → ∃ l qs, weaveT ps ts = some (l, qs)
  | [], ps, _ => ⟨[], ps, rfl⟩
  | t :: ts, ps, h => by
    have h1 := h t
    rw [List.count_cons_self] at h1
    cases hu : ps[t]? with
    | none => rw [List.getD_eq_getElem?_getD, hu] at h1; simp at h1
    | some p =>
      cases p with
      | nil => rw [List.getD_eq_getElem?_getD, hu] at h1; simp at h1
      | cons e r =>
        have htl : t < ps.length := (List.getElem?_eq_some_iff.1 hu).1
        obtain ⟨l, qs, hw⟩ := weave_some ts (ps.set t r) (fun j => by
          have h2 := h j
          by_cases hj : j = t
          · subst hj
            rw [List.count_cons_self] at h2
            rw [List.getD_eq_getElem?_getD, hu] at h2
            have e1 : (ps.set j r).getD j [] = r := by simp [List.getD_eq_getElem?_getD, htl]
            rw [e1]
            simp only [Option.getD_some, List.length_cons] at h2
            omega
          · rw [List.count_cons_of_ne (fun e => hj e.symm)] at h2
            rw [List.getD_eq_getElem?_getD, List.getElem?_set_ne (fun e => hj e.symm), ← List.getD_eq_getElem?_getD]
            exact h2)
        exact ⟨e :: l, qs, by unfold weaveT; simp only [hu, hw, Option.map_some]⟩
/-- What is woven, of one thread: what was taken of its part. -/
theorem weave_of : ∀ (ts : List Nat) (ps : List (List Ev)) (T : List Int), T.Nodup → T.length = ps.length → (∀ j, ∀ e ∈ ps.getD j [], e.t = T.getD j 0) → ∀ {l : List Ev} {qs : List (List Ev)}, weaveT ps ts = some (l, qs) → ∀ j, j < T.length → ofT (T.getD j 0) l = (ps.getD j []).take (ts.count j)
  | [], ps, T, _, _, _, l, qs, h, j, _ => by
    simp only [weaveT, Option.some.injEq, Prod.mk.injEq] at h
    obtain ⟨rfl, rfl⟩ := h
    simp [ofT_nil]
  | t :: ts, ps, T, hnd, hl, hp, l, qs, h, j, hj => by
    unfold weaveT at h
    split at h
    · rename_i e r hu
      cases hw : weaveT (ps.set t r) ts with
      | none => rw [hw] at h; cases h
      | some q =>
        obtain ⟨a, b⟩ := q
        rw [hw] at h
        simp only [Option.map_some, Option.some.injEq, Prod.mk.injEq] at h
        obtain ⟨rfl, rfl⟩ := h
        have htl : t < ps.length := (List.getElem?_eq_some_iff.1 hu).1
        have e2 : ps.getD t [] = e :: r := by simp [List.getD_eq_getElem?_getD, hu]
        have et : e.t = T.getD t 0 := hp t e (by rw [e2]; simp)
        have hset : ∀ i, (ps.set t r).getD i [] = if i = t then r else ps.getD i [] := fun i => by
          by_cases hi : i = t
          · subst hi
            rw [if_pos rfl]
            simp [List.getD_eq_getElem?_getD, htl]
          · rw [if_neg hi, List.getD_eq_getElem?_getD, List.getElem?_set_ne (fun e => hi e.symm), ← List.getD_eq_getElem?_getD]
        have ih := weave_of ts (ps.set t r) T hnd (by rw [List.length_set]; exact hl) (fun i x hx => by
          rw [hset i] at hx
          split at hx
          · rename_i hi
            subst hi
            exact hp i x (by rw [e2]; exact List.mem_cons_of_mem _ hx)
          · exact hp i x hx) hw j hj
        rw [hset j] at ih
        rw [ofT_cons]
        by_cases hjt : j = t
        · subst hjt
          rw [if_pos rfl] at ih
          rw [if_pos et, ih, e2, List.count_cons_self, List.take_succ_cons]
        · rw [if_neg hjt] at ih
          rw [List.count_cons_of_ne (fun e => hjt e.symm), ← ih, if_neg]
          rw [et]
          intro he
          have h1 : T[t]'(by omega) = T[j]'hj := by
            rw [List.getD_eq_getElem?_getD, List.getElem?_eq_getElem (by omega)] at he
            rw [List.getD_eq_getElem?_getD, List.getElem?_eq_getElem hj] at he
            simpa using he
          exact hjt (nodup_inj hnd (by omega) hj h1).symm
    · cases h
/-- Whose are the woven events. -/
theorem weave_mem : ∀ (ts : List Nat) (ps : List (List Ev)) {l : List Ev} {qs : List (List Ev)}, weaveT ps ts = some (l, qs) → ∀ e ∈ l, ∃ j, j < ps.length ∧ e ∈ ps.getD j []
  | [], ps, l, qs, h, e, he => by
    simp only [weaveT, Option.some.injEq, Prod.mk.injEq] at h
    obtain ⟨rfl, rfl⟩ := h
    cases he
  | t :: ts, ps, l, qs, h, x, hx => by
    unfold weaveT at h
    split at h
    · rename_i e r hu
      cases hw : weaveT (ps.set t r) ts with
      | none => rw [hw] at h; cases h
      | some q =>
        obtain ⟨a, b⟩ := q
        rw [hw] at h
        simp only [Option.map_some, Option.some.injEq, Prod.mk.injEq] at h
        obtain ⟨rfl, rfl⟩ := h
        have htl : t < ps.length := (List.getElem?_eq_some_iff.1 hu).1
        have e2 : ps.getD t [] = e :: r := by simp [List.getD_eq_getElem?_getD, hu]
        rcases List.mem_cons.1 hx with rfl | hx
        · exact ⟨t, htl, by rw [e2]; simp⟩
        · obtain ⟨j, hj, hm⟩ := weave_mem ts _ hw x hx
          rw [List.length_set] at hj
          refine ⟨j, hj, ?_⟩
          by_cases hjt : j = t
          · subst hjt
            have e1 : (ps.set j r).getD j [] = r := by simp [List.getD_eq_getElem?_getD, htl]
            rw [e1] at hm
            rw [e2]
            exact List.mem_cons_of_mem _ hm
          · rwa [List.getD_eq_getElem?_getD, List.getElem?_set_ne (fun e => hjt e.symm), ← List.getD_eq_getElem?_getD] at hm
    · cases h
/-- A list's own turns. -/
def plcT (T : List Int) (t : Int) : Nat := T.findIdx (fun x => decide (x = t))
theorem parts_get {T : List Int} {l : List Ev} {j : Nat} (hj : j < T.length) : (partsT T l).getD j [] = ofT (T.getD j 0) l := by
  unfold partsT
  rw [List.getD_eq_getElem?_getD, List.getElem?_map, List.getD_eq_getElem?_getD, List.getElem?_eq_getElem hj]
  rfl
theorem plc_at {T : List Int} {t : Int} (h : t ∈ T) : ∃ hp : plcT T t < T.length, T[plcT T t] = t := by
  have h1 : plcT T t < T.length := List.findIdx_lt_length_of_exists ⟨t, h, by simp⟩
  have h2 := List.findIdx_getElem (w := h1)
  exact ⟨h1, of_decide_eq_true h2⟩
theorem weave_own : ∀ (l : List Ev) (T : List Int), T.Nodup → (∀ e ∈ l, e.t ∈ T) → ∃ qs, weaveT (partsT T l) (l.map (fun e => plcT T e.t)) = some (l, qs)
  | [], T, _, _ => ⟨_, rfl⟩
  | e :: l, T, hnd, hm => by
    obtain ⟨hp, hpe⟩ := plc_at (hm e (by simp))
    obtain ⟨qs, ih⟩ := weave_own l T hnd (fun x hx => hm x (List.mem_cons_of_mem _ hx))
    have h1 : (partsT T (e :: l))[plcT T e.t]? = some (e :: ofT e.t l) := by
      unfold partsT
      rw [List.getElem?_map, List.getElem?_eq_getElem hp, hpe, Option.map_some, ofT_cons, if_pos rfl]
    have h2 : (partsT T (e :: l)).set (plcT T e.t) (ofT e.t l) = partsT T l := by
      apply List.ext_getElem?
      intro i
      by_cases hi : i = plcT T e.t
      · subst hi
        rw [List.getElem?_set_self (by unfold partsT; rw [List.length_map]; exact hp)]
        unfold partsT
        rw [List.getElem?_map, List.getElem?_eq_getElem hp, hpe, Option.map_some]
      · rw [List.getElem?_set_ne (fun e => hi e.symm)]
        unfold partsT
        rw [List.getElem?_map, List.getElem?_map]
        cases hT : T[i]? with
        | none => rfl
        | some t =>
          simp only [Option.map_some, Option.some.injEq]
          rw [ofT_cons, if_neg]
          intro he
          obtain ⟨hi2, hi3⟩ := List.getElem?_eq_some_iff.1 hT
          have h3 : T[i] = T[plcT T e.t] := by rw [hi3, hpe, he]
          exact hi (nodup_inj hnd hi2 hp h3)
    refine ⟨qs, ?_⟩
    rw [List.map_cons]
    unfold weaveT
    simp only [h1, h2, ih, Option.map_some]
/-- All parts together are as long as the list. -/
theorem parts_sum : ∀ (l : List Ev) (T : List Int), T.Nodup → (∀ e ∈ l, e.t ∈ T) → ((partsT T l).map List.length).sum = l.length
  | [], T, _, _ => by
    unfold partsT
    simp only [ofT_nil, List.map_map, List.length_nil]
    induction T with
    | nil => rfl
    | cons t T ih => simp_all
  | e :: l, T, hnd, hm => by
    have ih := parts_sum l T hnd (fun x hx => hm x (List.mem_cons_of_mem _ hx))
    have go : ∀ (S : List Int), S.Nodup → ((partsT S (e :: l)).map List.length).sum = ((partsT S l).map List.length).sum + if e.t ∈ S then 1 else 0 := by
      intro S
      induction S with
      | nil => intro _; simp [partsT]
      | cons t S ihS =>
        intro hS
        have hS' := List.nodup_cons.1 hS
        have h1 := ihS hS'.2
        unfold partsT at h1 ⊢
        simp only [List.map_cons, List.sum_cons]
        rw [h1, ofT_cons]
        by_cases ht : e.t = t
        · have hn : e.t ∉ S := by rw [ht]; exact hS'.1
          rw [if_pos ht, if_neg hn, if_pos (by rw [ht]; simp)]
          simp only [List.length_cons]
          omega
        · rw [if_neg ht]
          by_cases hs : e.t ∈ S
          · rw [if_pos hs, if_pos (List.mem_cons_of_mem _ hs)]
            omega
          · rw [if_neg hs, if_neg (by simp only [List.mem_cons, not_or]; exact ⟨ht, hs⟩)]
            omega
    rw [go T hnd, ih, if_pos (hm e (by simp))]
    rfl
end Go.AB
