/- Maps of the call's own, as what each key leads to. No program in sight. -/
import Derived.Test.YtbghkodcfedebaaGreatDoorTj1
import Derived.Carry
import Derived.OwnWalk
set_option linter.unusedVariables false
set_option linter.unusedSectionVars false
set_option linter.unusedSimpArgs false
set_option linter.unusedSimpArgs false
set_option linter.unusedSectionVars false
namespace Go.AB
open Go.RowKit
set_option linter.unusedVariables false
set_option linter.unusedSimpArgs false

theorem ba_beq (a b : ByteArray) : (a == b) = decide (a = b) := by
  cases a with | mk x => cases b with | mk y =>
  show (x == y) = _
  by_cases h : x = y
  · subst h; simp
  · have h2 : ¬ (ByteArray.mk x = ByteArray.mk y) := fun e => h (by injection e)
    simp [h, h2]
/-- Keys of a plain type: texts, whole numbers. -/
structure KeyOk (P : Program) (k : TypeId) (κ : Type) [DecidableEq κ] (mk : κ → Value) : Prop where
  und : ∃ U, P.underlying k = some U ∧ ∀ a b, Instr.sameNow U (mk a) (mk b) = some (decide (a = b))
  chk : ∀ em (a : κ) (w : World), (Instr.checkKey em 10000 k (mk a)).run P w = .ok () w
  bit : ∀ a, Instr.sameBits 10000 (mk a) (mk a) = true
theorem key_string {P : Program} {k : TypeId} (h : P.underlying k = some .string) : KeyOk P k ByteArray Value.string := by
  refine ⟨⟨_, h, fun a b => ?_⟩, fun em a w => ?_, fun a => ?_⟩
  · simp only [Instr.sameNow]
    rw [ba_beq]
  · have h2 : ∀ d, (Instr.checkKey em (d + 1) k (.string a)).run P w = .ok () w := fun d => by simp [Instr.checkKey, run_underlying h]
    exact h2 9999
  · have h2 : ∀ d, Instr.sameBits (d + 1) (.string a) (.string a) = true := fun d => by simp [Instr.sameBits, ba_beq]
    exact h2 9999
theorem key_int {P : Program} {k : TypeId} (h : P.underlying k = some (.int .i64)) : KeyOk P k Int (Value.int .i64) := by
  refine ⟨⟨_, h, fun a b => ?_⟩, fun em a w => ?_, fun a => ?_⟩
  · simp only [Instr.sameNow, if_true]
    by_cases hab : a = b
    · subst hab; simp
    · simp [hab]
  · have h2 : ∀ d, (Instr.checkKey em (d + 1) k (.int .i64 a)).run P w = .ok () w := fun d => by simp [Instr.checkKey, run_underlying h]
    exact h2 9999
  · have h2 : ∀ d, Instr.sameBits (d + 1) (.int .i64 a) (.int .i64 a) = true := fun d => by simp [Instr.sameBits]
    exact h2 9999

section
variable {κ : Type} [DecidableEq κ]
/-- The first value that stands at a key. -/
def lookK (l : List (κ × Value)) (a : κ) : Option Value := (l.find? (fun p => decide (p.1 = a))).map Prod.snd
/-- Where it stands. -/
def idxK (l : List (κ × Value)) (a : κ) : Option Nat := l.findIdx? (fun p => decide (p.1 = a))
/-- Block b is a map; each key leads to what f tells. -/
def MapF (w : World) (b : Nat) (mk : κ → Value) (f : κ → Option Value) : Prop :=
  ∃ es clock, w.heap[b]? = some (.map es clock) ∧ ∃ l : List (κ × Value), es.toList.map (fun e => (e.key, e.val)) = l.map (fun p => (mk p.1, p.2)) ∧ ∀ a, lookK l a = f a
variable {w w' : World} {b : Nat} {mk : κ → Value} {f : κ → Option Value} {P : Program} {k : TypeId}
theorem MapF.keep (h : MapF w b mk f) {S : List Nat} (hc : Chg S w w') (hb : b ∉ S) : MapF w' b mk f := by
  obtain ⟨es, c, h1, h2⟩ := h
  exact ⟨es, c, hc.heap h1 hb, h2⟩
theorem MapF.lt (h : MapF w b mk f) : b < w.heap.size := by
  obtain ⟨es, c, h1, _⟩ := h
  exact (Array.getElem?_eq_some_iff.1 h1).1
theorem MapF.congr (h : MapF w b mk f) {g : κ → Option Value} (hg : ∀ a, f a = g a) : MapF w b mk g := by
  obtain ⟨es, c, h1, l, h2, h3⟩ := h
  exact ⟨es, c, h1, l, h2, fun a => (h3 a).trans (hg a)⟩
theorem MapF.made (w : World) (mk : κ → Value) : MapF (w.alloc (.map #[] 0)) w.heap.size mk (fun _ => none) :=
  ⟨#[], 0, heap_alloc_new w _, [], rfl, fun _ => rfl⟩

theorem findNow_at {U : TypeDesc} (hU : ∀ a b, Instr.sameNow U (mk a) (mk b) = some (decide (a = b))) (a : κ) : ∀ (es : List MapEntry) (l : List (κ × Value)) (i : Nat), es.map (fun e => (e.key, e.val)) = l.map (fun p => (mk p.1, p.2)) →
    Instr.findNow U (mk a) es i = some (match idxK l a, lookK l a with | some j, some v => some (i + j, v) | _, _ => none)
  | [], [], i, _ => rfl
  | [], _ :: _, i, h => by simp at h
  | _ :: _, [], i, h => by simp at h
  | e :: es, p :: l, i, h => by
    simp only [List.map_cons, List.cons.injEq, Prod.mk.injEq] at h
    obtain ⟨⟨h1, h2⟩, h3⟩ := h
    unfold Instr.findNow
    rw [h1, hU a p.1]
    by_cases hap : p.1 = a
    · simp [hap, idxK, lookK, List.find?_cons, List.findIdx?_cons, h2]
    · have hpa : ¬ a = p.1 := fun e => hap e.symm
      have ih := findNow_at hU a es l (i + 1) h3
      simp only [hpa, decide_false]
      rw [ih]
      simp only [idxK, lookK, List.find?_cons, List.findIdx?_cons, hap, decide_false]
      cases h4 : l.findIdx? (fun p => decide (p.1 = a)) with
      | none => simp
      | some j =>
        simp only [Option.map_some]
        cases h5 : (l.find? (fun p => decide (p.1 = a))).map Prod.snd with
        | none => simp
        | some v => simp; omega
theorem run_findKey_at (K : KeyOk P k κ mk) (a : κ) {es : List MapEntry} {l : List (κ × Value)} (h : es.map (fun e => (e.key, e.val)) = l.map (fun p => (mk p.1, p.2))) (w : World) :
    (Instr.findKey k (mk a) es).run P w = .ok (match idxK l a, lookK l a with | some j, some v => some (j, v) | _, _ => none) w := by
  obtain ⟨U, hU, hs⟩ := K.und
  have h1 := findNow_at hs a es l 0 h
  simp only [Nat.zero_add] at h1
  simp [Instr.findKey, run_underlying hU, h1]
theorem idx_look (l : List (κ × Value)) (a : κ) : (idxK l a = none ∧ lookK l a = none) ∨ ∃ j v, idxK l a = some j ∧ lookK l a = some v := by
  induction l with
  | nil => exact .inl ⟨rfl, rfl⟩
  | cons p l ih =>
    by_cases hap : p.1 = a
    · exact .inr ⟨0, p.2, by simp [idxK, List.findIdx?_cons, hap], by simp [lookK, List.find?_cons, hap]⟩
    · rcases ih with ⟨h1, h2⟩ | ⟨j, v, h1, h2⟩
      · left
        unfold idxK at h1
        unfold lookK at h2
        simp [idxK, lookK, List.findIdx?_cons, List.find?_cons, hap, h1]
        simpa using h2
      · right
        unfold idxK at h1
        unfold lookK at h2
        exact ⟨j + 1, v, by simp [idxK, List.findIdx?_cons, hap, h1], by simp only [lookK, List.find?_cons, hap, decide_false]; exact h2⟩
/-- A look-up. -/
theorem MapF.lookup (h : MapF w b mk f) (K : KeyOk P k κ mk) {t e : TypeId} (ht : P.underlying t = some (.map k e)) {z : Value} (hz : (zeroValue e).run P w = .ok z w) (a : κ) (ok : Bool) :
    (Instr.lookup t (.map (some b)) (mk a) ok).run P w = .ok (if ok then .tuple #[(f a).getD z, .bool (f a).isSome] else (f a).getD z) w := by
  obtain ⟨es, c, h1, l, h2, h3⟩ := h
  have hf := run_findKey_at K a h2 w
  have hc := K.chk es.isEmpty a w
  rw [← h3 a]
  rcases idx_look l a with ⟨h4, h5⟩ | ⟨j, v, h4, h5⟩
  · rw [h4, h5] at hf
    cases ok <;> simp [Instr.lookup, run_underlying ht, MapKept.run_getObj_map h1, hc, hf, h5, hz]
  · rw [h4, h5] at hf
    cases ok <;> simp [Instr.lookup, run_underlying ht, MapKept.run_getObj_map h1, hc, hf, h5]
theorem lookK_snoc (l : List (κ × Value)) (a : κ) (v : Value) (h : lookK l a = none) (x : κ) : lookK (l ++ [(a, v)]) x = if x = a then some v else lookK l x := by
  by_cases hx : x = a
  · subst hx
    rw [if_pos rfl]
    unfold lookK at h ⊢
    rw [List.find?_append]
    have h2 : l.find? (fun p => decide (p.1 = x)) = none := by simpa using h
    rw [h2]
    simp
  · have hax : ¬ a = x := fun e => hx e.symm
    rw [if_neg hx]
    unfold lookK
    rw [List.find?_append]
    simp [hax]
theorem idx_lt : ∀ (l : List (κ × Value)) (a : κ) (j : Nat), idxK l a = some j → ∃ h : j < l.length, l[j].1 = a
  | [], a, j, h => by simp [idxK] at h
  | p :: l, a, j, h => by
    by_cases hap : p.1 = a
    · simp [idxK, List.findIdx?_cons, hap] at h
      subst h
      exact ⟨by simp, hap⟩
    · unfold idxK at h
      simp only [List.findIdx?_cons, hap, decide_false] at h
      cases h2 : l.findIdx? (fun p => decide (p.1 = a)) with
      | none => simp [h2] at h
      | some i =>
        simp [h2] at h
        subst h
        obtain ⟨h3, h4⟩ := idx_lt l a i h2
        exact ⟨by simpa using h3, h4⟩
theorem lookK_set : ∀ (l : List (κ × Value)) (a : κ) (v : Value) (j : Nat), idxK l a = some j → ∀ x, lookK (l.set j (a, v)) x = if x = a then some v else lookK l x
  | [], a, v, j, h, x => by simp [idxK] at h
  | p :: l, a, v, j, h, x => by
    by_cases hap : p.1 = a
    · simp [idxK, List.findIdx?_cons, hap] at h
      subst h
      simp only [List.set_cons_zero, lookK, List.find?_cons]
      by_cases hx : x = a
      · subst hx; simp
      · have hax : ¬ a = x := fun e => hx e.symm
        have hpx : ¬ p.1 = x := fun e => hax (hap.symm.trans e)
        simp [hx, hax, hpx]
    · unfold idxK at h
      simp only [List.findIdx?_cons, hap, decide_false] at h
      cases h2 : l.findIdx? (fun p => decide (p.1 = a)) with
      | none => simp [h2] at h
      | some i =>
        simp [h2] at h
        subst h
        have ih := lookK_set l a v i h2 x
        simp only [List.set_cons_succ, lookK, List.find?_cons]
        by_cases hpx : p.1 = x
        · have hx : ¬ x = a := fun e => hap (hpx.trans e)
          simp [hpx, hx]
        · simp only [hpx, decide_false]
          exact ih
/-- A store. -/
theorem MapF.update (h : MapF w b mk f) (K : KeyOk P k κ mk) {t e : TypeId} (ht : P.underlying t = some (.map k e)) (a : κ) (v : Value) :
    ∃ w', (Instr.mapUpdate t (.map (some b)) (mk a) v).run P w = .ok () w' ∧ MapF w' b mk (fun x => if x = a then some v else f x) ∧ Chg [b] w w' := by
  obtain ⟨es, c, h1, l, h2, h3⟩ := h
  have hf := run_findKey_at K a h2 w
  have hc := K.chk false a w
  have hgrow : ∀ o, Chg [b] w (ChangeMaps.setBlock w b o) := fun o => ⟨rfl, rfl, rfl, by simp [ChangeMaps.setBlock], fun i _ hi => ChangeMaps.heap_setBlock_other h1 _ (fun e => hi (by simp [e]))⟩
  have hlen : es.toList.length = l.length := by have := congrArg List.length h2; simpa using this
  rcases idx_look l a with ⟨h4, h5⟩ | ⟨j, u, h4, h5⟩
  · rw [h4, h5] at hf
    refine ⟨ChangeMaps.setBlock w b (.map (es.push { key := mk a, val := v, born := c }) (c + 1)), ?_, ⟨_, _, ChangeMaps.heap_setBlock_same h1 _, l ++ [(a, v)], ?_, fun x => ?_⟩, hgrow _⟩
    · simp [Instr.mapUpdate, run_underlying ht, MapKept.run_getObj_map h1, hc, hf, MapKept.run_setObj_map _ h1, ChangeMaps.setBlock]
    · simp [h2]
    · rw [lookK_snoc l a v h5 x, h3]
  · rw [h4, h5] at hf
    obtain ⟨hj, hja⟩ := idx_lt l a j h4
    have hje : j < es.size := by have : es.size = l.length := by simpa using hlen
                                 omega
    have hkey : es[j].key = mk a := by
      have := congrArg (fun L => L[j]?) h2
      simp [hj, hje, hja] at this
      exact this.1
    have hst : ∀ w0 : World, (Instr.keyThatStays (mk a) (mk a)).run P w0 = .ok (mk a) w0 := fun w0 => by simp [Instr.keyThatStays, K.bit a]
    refine ⟨ChangeMaps.setBlock w b (.map (es.modify j fun e => { e with key := mk a, val := v }) c), ?_, ⟨_, _, ChangeMaps.heap_setBlock_same h1 _, l.set j (a, v), ?_, fun x => ?_⟩, hgrow _⟩
    · simp [Instr.mapUpdate, run_underlying ht, MapKept.run_getObj_map h1, hc, hf, hje, hkey, hst, MapKept.run_setObj_map _ h1, ChangeMaps.setBlock]
    · apply List.ext_getElem
      · simpa using hlen
      · intro i g1 g2
        have := congrArg (fun L => L[i]?) h2
        have hi : i < l.length := by simpa using g2
        have hie : i < es.size := by have : es.size = l.length := by simpa using hlen
                                     omega
        simp [hi, hie] at this
        by_cases hij : j = i
        · subst hij
          simp [Array.getElem_modify]
        · simp [Array.getElem_modify, hij, List.getElem_set_ne, this]
    · rw [lookK_set l a v j h4 x, h3]
end

section
variable {κ : Type} [DecidableEq κ] {P : Program} {k : TypeId} {mk : κ → Value}
/-- A store into a map, at the operation. -/
theorem wpList_mapF {w : World} {ops : Array Oper} {rest : List Oper} {o : Oper} {a : Act} {Q : Exit → Act → World → Prop} (hgd : o.guard = none) (m x v : Operand) (t : TypeId) (hop : o.op = Op.mapUpdate t m x v)
    (K : KeyOk P k κ mk) {e : TypeId} (ht : P.underlying t = some (.map k e)) {b : Nat} {f : κ → Option Value} (hm : a.eval m = .map (some b)) (h : MapF w b mk f) (c : κ) {val : Value} (hx : a.eval x = mk c) (hv : a.eval v = val)
    (hK : ∀ w', MapF w' b mk (fun x => if x = c then some val else f x) → Chg [b] w w' → wpList P ops Q rest (a.put o.dst undef) w') : wpList P ops Q (o :: rest) a w := by
  obtain ⟨w', hrun, h1, h2⟩ := h.update K ht c val
  refine wpList_plain hgd fun K' hK' => ?_
  unfold Oper.wp
  simp [execOp, hop, hm, hx, hv, hrun, Result.andThen]
  exact hK' _ _ (hK w' h1 h2)
/-- .. as a step of a region that draws its order. -/
theorem step_mapF {w : World} {ops : Array Oper} {o : Oper} {a : Act} {K0 : Act → World → Prop} {Q : Exit → Act → World → Prop} {E0 : Prop} (hgd : o.guard = none) (m x v : Operand) (t : TypeId) (hop : o.op = Op.mapUpdate t m x v)
    (K : KeyOk P k κ mk) {e : TypeId} (ht : P.underlying t = some (.map k e)) {b : Nat} {f : κ → Option Value} (hm : a.eval m = .map (some b)) (h : MapF w b mk f) (c : κ) {val : Value} (hx : a.eval x = mk c) (hv : a.eval v = val)
    (hK : ∀ w', MapF w' b mk (fun x => if x = c then some val else f x) → Chg [b] w w' → K0 (a.put o.dst undef) w') :
    if Region.wanted o (yielded ops a.tmps) = true then Oper.wp P o a w K0 Q else E0 := by
  have hw : Region.wanted o (yielded ops a.tmps) = true := by simp [Region.wanted, hgd]
  obtain ⟨w', hrun, h1, h2⟩ := h.update K ht c val
  rw [if_pos hw]
  unfold Oper.wp
  simp [execOp, hop, hm, hx, hv, hrun, Result.andThen]
  exact hK w' h1 h2
end
end Go.AB
