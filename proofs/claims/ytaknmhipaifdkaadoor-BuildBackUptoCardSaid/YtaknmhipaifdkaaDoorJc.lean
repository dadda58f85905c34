/- Units and programs, plain: of a unit that has a program, with one thing wrong: for that reason, at that place. No program in sight. -/
import Derived.Test.YtaknmhipaifdkaaDoorOp
set_option linter.unusedSimpArgs false
set_option linter.unusedSectionVars false
namespace Go.AB
open Go.RowKit
set_option linter.unusedVariables false
set_option linter.unusedSimpArgs false

theorem assoc_nil {α : Type} (s : ByteArray) : assoc ([] : List (ByteArray × α)) s = none := rfl
theorem assoc_app {α : Type} (l m : List (ByteArray × α)) (s : ByteArray) : assoc (l ++ m) s = (assoc l s).or (assoc m s) := by
  unfold assoc
  rw [List.find?_append]
  cases l.find? (fun p => decide (p.1 = s)) <;> rfl
theorem assoc_one {α : Type} (k s : ByteArray) (a : α) : assoc [(k, a)] s = if k = s then some a else none := by
  unfold assoc
  by_cases h : k = s <;> simp [List.find?, h]
theorem assoc_none {α : Type} {l : List (ByteArray × α)} {s : ByteArray} : assoc l s = none ↔ ∀ k ∈ l.map Prod.fst, k ≠ s := by
  unfold assoc
  simp only [Option.map_eq_none_iff, List.find?_eq_none, List.mem_map, decide_eq_true_eq, forall_exists_index, and_imp]
  exact ⟨fun h k x hx e => e ▸ h x hx, fun h x hx => h x.1 x hx rfl⟩
theorem declD_ok {st st' : Nms} {name : ByteArray} {s most l c : Int} (h : declD st name s most l c = .ok st') : nameB name = true ∧ assoc st name = none ∧ (cntS st s : Int) < most ∧ st' = st ++ [(name, (s, cntS st s))] := by
  unfold declD at h
  split at h
  · cases h
  · rename_i h1
    split at h
    · cases h
    · rename_i h2
      split at h
      · cases h
      · rename_i h3
        cases h
        exact ⟨by simpa using h1, by simpa using h2, by omega, rfl⟩
theorem declD_mk {st : Nms} {name : ByteArray} {s most : Int} (h1 : nameB name = true) (h2 : assoc st name = none) (h3 : (cntS st s : Int) < most) (l c : Int) : declD st name s most l c = .ok (st ++ [(name, (s, cntS st s))]) := by
  unfold declD
  rw [if_neg (by simp [h1]), if_neg (by simp [h2]), if_neg (by omega)]
theorem declD_twice {st : Nms} {name : ByteArray} {s most : Int} (h1 : nameB name = true) (h2 : (assoc st name).isSome = true) (l c : Int) : declD st name s most l c = .error ⟨90, l, c⟩ := by
  unfold declD
  rw [if_neg (by simp [h1]), if_pos h2]

/-! Labels. -/
theorem ways_keys : ∀ (l : List ItD) (n : Nat) (b : List (ByteArray × Nat)) (o : Option (Int × Int)) {r : List (ByteArray × Nat)}, waysGo l n b o = .ok r → ∀ k ∈ r.map Prod.fst, k ∈ b.map Prod.fst ∨ ∃ x ∈ l, x.op = 0 ∧ x.name = k
  | [], n, b, none, r, h, k, hk => by
    simp only [waysGo, Except.ok.injEq] at h
    subst h
    exact .inl hk
  | [], n, b, some q, r, h, k, hk => by simp [waysGo] at h
  | x :: l, n, b, o, r, h, k, hk => by
    unfold waysGo at h
    split at h
    · cases h
    · split at h
      · exact (ways_keys l _ _ _ h k hk).imp id fun ⟨y, hy, h1⟩ => ⟨y, List.mem_cons_of_mem _ hy, h1⟩
      · rename_i hop
        split at h
        · cases h
        · rcases ways_keys l _ _ _ h k hk with h1 | ⟨y, hy, h1⟩
          · rw [List.map_append, List.mem_append] at h1
            rcases h1 with h1 | h1
            · exact .inl h1
            · simp only [List.map_cons, List.map_nil, List.mem_singleton] at h1
              exact .inr ⟨x, List.mem_cons_self .., by simpa using hop, h1.symm⟩
          · exact .inr ⟨y, List.mem_cons_of_mem _ hy, h1⟩
theorem assoc_keys {α β : Type} {b : List (ByteArray × α)} {b' : List (ByteArray × β)} (h : b.map Prod.fst = b'.map Prod.fst) (s : ByteArray) : (assoc b s).isSome = (assoc b' s).isSome := by
  have h1 : assoc b s = none ↔ assoc b' s = none := by rw [assoc_none, assoc_none, h]
  cases hb : assoc b s <;> cases hb' : assoc b' s <;> simp_all
theorem ways_shift : ∀ (l : List ItD) (n n' : Nat) (b b' : List (ByteArray × Nat)) (o : Option (Int × Int)) {r : List (ByteArray × Nat)}, b.map Prod.fst = b'.map Prod.fst → waysGo l n b o = .ok r → ∃ r', waysGo l n' b' o = .ok r' ∧ r'.map Prod.fst = r.map Prod.fst
  | [], n, n', b, b', none, r, hb, h => by
    simp only [waysGo, Except.ok.injEq] at h
    subst h
    exact ⟨b', rfl, hb.symm⟩
  | [], n, n', b, b', some q, r, hb, h => by simp [waysGo] at h
  | x :: l, n, n', b, b', o, r, hb, h => by
    unfold waysGo at h ⊢
    split at h
    · cases h
    · rename_i h1
      rw [if_neg h1]
      split at h
      · rename_i h2
        rw [if_pos h2]
        exact ways_shift l _ _ _ _ _ hb h
      · rename_i h2
        rw [if_neg h2]
        split at h
        · cases h
        · rename_i h3
          rw [if_neg (by rw [← assoc_keys hb]; exact h3)]
          exact ways_shift l _ _ _ _ _ (by simp [hb]) h
theorem ways_app : ∀ (l m : List ItD) (n : Nat) (b : List (ByteArray × Nat)) (o : Option (Int × Int)) {r : List (ByteArray × Nat)}, waysGo l n b o = .ok r → ∃ n', waysGo (l ++ m) n b o = waysGo m n' r none
  | [], m, n, b, none, r, h => by
    simp only [waysGo, Except.ok.injEq] at h
    subst h
    exact ⟨n, rfl⟩
  | [], m, n, b, some q, r, h => by simp [waysGo] at h
  | x :: l, m, n, b, o, r, h => by
    rw [List.cons_append]
    unfold waysGo at h
    split at h
    · cases h
    · rename_i h1
      split at h
      · rename_i h2
        obtain ⟨n', h3⟩ := ways_app l m _ _ _ h
        refine ⟨n', ?_⟩
        conv => lhs; unfold waysGo
        rw [if_neg h1, if_pos h2, h3]
      · rename_i h2
        split at h
        · cases h
        · rename_i h3
          obtain ⟨n', h4⟩ := ways_app l m _ _ _ h
          refine ⟨n', ?_⟩
          conv => lhs; unfold waysGo
          rw [if_neg h1, if_neg h2, if_neg h3, h4]

/-! Threads. -/
theorem code_le {st : Nms} {b : List (ByteArray × Nat)} : ∀ (l : List ItD) (all : Nat) (c : List InsD) (p : List PlcD) {r : Nat × List InsD × List PlcD}, codeGo st b l all c p = .ok r → r.1 ≤ all + l.length
  | [], all, c, p, r, h => by
    simp only [codeGo, Except.ok.injEq] at h
    subst h
    exact Nat.le_refl _
  | x :: l, all, c, p, r, h => by
    unfold codeGo at h
    split at h
    · have := code_le l _ _ _ h
      simp only [List.length_cons]
      omega
    · split at h
      · cases h
      · split at h
        · cases h
        · have := code_le l _ _ _ h
          simp only [List.length_cons]
          omega
theorem thr_ok {st : Nms} {all : Nat} {k : BkD} {q : Nat × ThrD} (h : thrD st all k = .ok q) : (∃ b, waysD k.items = .ok b) ∧ q.1 ≤ all + k.items.length := by
  unfold thrD at h
  split at h
  · cases h
  · rename_i b hb
    split at h
    · cases h
    · rename_i r hr
      cases h
      exact ⟨⟨b, hb⟩, code_le _ _ _ _ hr⟩
def lens (ks : List BkD) : Nat := (ks.map fun k => k.items.length).sum
theorem thrs_at {st : Nms} : ∀ (ks : List BkD) (all : Nat) (ts : List ThrD) {r : List ThrD}, thrsD st ks all ts = .ok r → ∀ (n : Nat) (hn : n < ks.length), ∃ a q, thrD st a ks[n] = .ok q ∧ a + ks[n].items.length ≤ all + lens ks ∧ ∀ k' f, thrD st a k' = .error f → thrsD st (ks.set n k') all ts = .error f
  | [], all, ts, r, h, n, hn => by simp at hn
  | k :: ks, all, ts, r, h, n, hn => by
    unfold thrsD at h
    split at h
    · cases h
    · rename_i q hq
      cases n with
      | zero =>
        refine ⟨all, q, hq, by simp [lens], fun k' f hf => ?_⟩
        rw [List.set_cons_zero]
        unfold thrsD
        rw [hf]
      | succ n =>
        obtain ⟨a, q', h1, h2, h3⟩ := thrs_at ks _ _ h n (by simpa using hn)
        have h4 := (thr_ok hq).2
        refine ⟨a, q', by simpa using h1, by simp [lens] at h2 ⊢; omega, fun k' f hf => ?_⟩
        rw [List.set_cons_succ]
        unfold thrsD
        rw [hq]
        exact h3 k' f hf
theorem blocks_set : ∀ (ks : List BkD) (n : Nat) (hn : n < ks.length) (k' : BkD) (st : Nms), k'.name = ks[n].name → k'.l = ks[n].l → k'.c = ks[n].c → blocksD (ks.set n k') st = blocksD ks st
  | [], n, hn, k', st, _, _, _ => by simp at hn
  | k :: ks, 0, hn, k', st, h1, h2, h3 => by
    simp only [List.getElem_cons_zero] at h1 h2 h3
    rw [List.set_cons_zero]
    unfold blocksD
    rw [h1, h2, h3]
  | k :: ks, n + 1, hn, k', st, h1, h2, h3 => by
    simp only [List.getElem_cons_succ] at h1 h2 h3
    rw [List.set_cons_succ]
    unfold blocksD
    split
    · rfl
    · exact blocks_set ks n (by simpa using hn) k' _ h1 h2 h3
theorem blocks_grow : ∀ (ks : List BkD) {st st' : Nms}, blocksD ks st = .ok st' → ∃ m, st' = st ++ m ∧ (∀ e ∈ m, e.2.1 = 5)
  | [], st, st', h => by
    simp only [blocksD, Except.ok.injEq] at h
    exact ⟨[], by simp [h], by simp⟩
  | k :: ks, st, st', h => by
    unfold blocksD at h
    split at h
    · cases h
    · rename_i st1 h1
      obtain ⟨_, _, _, rfl⟩ := declD_ok h1
      obtain ⟨m, rfl, hm⟩ := blocks_grow ks h
      refine ⟨(k.name, (5, cntS st 5)) :: m, by simp, fun e he => ?_⟩
      rcases List.mem_cons.1 he with rfl | he
      · rfl
      · exact hm e he
theorem blocks_have : ∀ (ks : List BkD) {st st' : Nms}, blocksD ks st = .ok st' → ∀ k ∈ ks, nameB k.name = true ∧ assoc st k.name = none ∧ ∃ j, assoc st' k.name = some (5, j)
  | [], st, st', h, k, hk => by cases hk
  | x :: ks, st, st', h, k, hk => by
    unfold blocksD at h
    split at h
    · cases h
    · rename_i st1 h1
      obtain ⟨hn, ha, hc, rfl⟩ := declD_ok h1
      rcases List.mem_cons.1 hk with rfl | hk
      · obtain ⟨m, rfl, _⟩ := blocks_grow ks h
        refine ⟨hn, ha, cntS st 5, ?_⟩
        rw [assoc_app, assoc_app, ha, assoc_one, if_pos rfl]
        rfl
      · obtain ⟨h2, h3, h4⟩ := blocks_have ks h k hk
        rw [assoc_app, Option.or_eq_none_iff] at h3
        exact ⟨h2, h3.1, h4⟩

/-! What is put in. -/
def BkD.put (k : BkD) (l : List ItD) : BkD := ⟨k.name, l, k.l, k.c⟩
theorem blocks_put (ks : List BkD) (n : Nat) (hn : n < ks.length) (l : List ItD) (st : Nms) : blocksD (ks.set n (ks[n].put l)) st = blocksD ks st := blocks_set ks n hn _ st rfl rfl rfl
def nobody : ByteArray := ⟨#[110, 111, 98, 111, 100, 121, 95, 104, 97, 115, 95, 116, 104, 105, 115]⟩
def gateOf (nm : ByteArray) (a1 a2 : Int) : DcD := ⟨4, nm, 0, a1, a2⟩
def labOf (a1 a2 : Int) : ItD := ⟨0, 0, 0, 0, 0, nobody, a1, a2, 0, 0⟩
def lockOf (nm : ByteArray) (a1 a2 : Int) : ItD := ⟨15, 0, 0, 0, 0, nm, 0, 0, a1, a2⟩
def jumpOf (a1 a2 : Int) : ItD := ⟨8, 0, 0, 0, 0, nobody, 0, 0, a1, a2⟩
theorem nobody_name : nameB nobody = true := by decide +kernel
theorem look_lab (a1 a2 : Int) : lookB (labOf a1 a2) = true := by simp [lookB, labOf, fitB, fit1, nobody_name]
theorem look_lock (nm : ByteArray) (h : nameB nm = true) (a1 a2 : Int) : lookB (lockOf nm a1 a2) = true := by simp [lookB, lockOf, fitB, fit1, regsB, touchB, h]
theorem look_jump (a1 a2 : Int) : lookB (jumpOf a1 a2) = true := by simp [lookB, jumpOf, fitB, fit1, regsB, touchB, nobody_name]
theorem ways_front {l : List ItD} {b : List (ByteArray × Nat)} (h : waysD l = .ok b) {x : ItD} (hx : lookB x = true) (hop : x.op ≠ 0) : ∃ b', waysD (x :: l) = .ok b' ∧ b'.map Prod.fst = b.map Prod.fst := by
  obtain ⟨b', h1, h2⟩ := ways_shift l 0 1 [] [] none rfl h
  refine ⟨b', ?_, h2⟩
  unfold waysD waysGo
  rw [if_neg (by simp [hx]), if_pos hop]
  exact h1
theorem prog_parts {u : UnD} {p : PrgD} (h : progD u = .ok p) : ∃ q st ts, declsD u.decls [] ⟨[], [], [], [], []⟩ = .ok q ∧ blocksD u.blocks q.1 = .ok st ∧ thrsD st u.blocks 0 [] = .ok ts ∧ p = { q.2 with thrs := ts } := by
  unfold progD at h
  split at h
  · cases h
  · rename_i q hq
    split at h
    · cases h
    · rename_i st hst
      split at h
      · cases h
      · rename_i ts hts
        cases h
        exact ⟨q, st, ts, hq, hst, hts, rfl⟩
theorem prog_thr {u : UnD} {q : Nms × PrgD} {st : Nms} {ks : List BkD} {f : Flt} (h1 : declsD u.decls [] ⟨[], [], [], [], []⟩ = .ok q) (h2 : blocksD ks q.1 = .ok st) (h3 : thrsD st ks 0 [] = .error f) : progD ⟨u.decls, ks⟩ = .error f := by
  unfold progD
  simp only [h1, h2, h3]
theorem refuse_lab {u : UnD} {p : PrgD} (h : progD u = .ok p) {n : Nat} (hn : n < u.blocks.length) (a1 a2 : Int) (hno : ∀ x ∈ u.blocks[n].items, x.name ≠ nobody) :
    progD ⟨u.decls, u.blocks.set n (u.blocks[n].put (u.blocks[n].items ++ [labOf a1 a2]))⟩ = .error ⟨93, a1, a2⟩ := by
  obtain ⟨q, st, ts, h1, h2, h3, rfl⟩ := prog_parts h
  obtain ⟨a, r, h4, _, h5⟩ := thrs_at u.blocks 0 [] h3 n hn
  refine prog_thr h1 ((blocks_put u.blocks n hn _ _).trans h2) (h5 _ _ ?_)
  obtain ⟨⟨b, hb⟩, _⟩ := thr_ok h4
  obtain ⟨n', hw⟩ := ways_app _ [labOf a1 a2] 0 [] none hb
  have hk : assoc b nobody = none := assoc_none.2 fun k hk e => by
    rcases ways_keys _ 0 [] none hb k hk with h | ⟨x, hx, _, h⟩
    · cases h
    · exact hno x hx (h.trans e)
  have hE : waysD (u.blocks[n].items ++ [labOf a1 a2]) = .error ⟨93, a1, a2⟩ := by
    unfold waysD
    rw [hw]
    unfold waysGo
    rw [if_neg (by simp [look_lab]), if_neg (by simp [labOf]), if_neg (by rw [show (labOf a1 a2).name = nobody from rfl, hk]; simp)]
    rfl
  unfold thrD BkD.put
  simp only [hE]
theorem refuse_lock {u : UnD} {p : PrgD} (h : progD u = .ok p) {n : Nat} (hn : n < u.blocks.length) (a1 a2 : Int) (hl : lens u.blocks ≤ 260000) :
    progD ⟨u.decls, u.blocks.set n (u.blocks[n].put (lockOf u.blocks[n].name a1 a2 :: u.blocks[n].items))⟩ = .error ⟨92, a1, a2⟩ := by
  obtain ⟨q, st, ts, h1, h2, h3, rfl⟩ := prog_parts h
  obtain ⟨a, r, h4, h6, h5⟩ := thrs_at u.blocks 0 [] h3 n hn
  refine prog_thr h1 ((blocks_put u.blocks n hn _ _).trans h2) (h5 _ _ ?_)
  obtain ⟨⟨b, hb⟩, _⟩ := thr_ok h4
  obtain ⟨hnm, _, j, hj⟩ := blocks_have _ h2 _ (List.getElem_mem hn)
  obtain ⟨b', hb', _⟩ := ways_front hb (look_lock _ hnm a1 a2) (by simp [lockOf])
  unfold thrD BkD.put
  simp only [hb']
  unfold codeGo
  rw [if_neg (by simp [lockOf]), if_neg (by simp; omega)]
  have ht : targD st b' (lockOf u.blocks[n].name a1 a2) = .error ⟨92, a1, a2⟩ := by
    unfold targD
    simp [lockOf, touchB, hj]
  simp only [ht]
theorem refuse_jump {u : UnD} {p : PrgD} (h : progD u = .ok p) {n : Nat} (hn : n < u.blocks.length) (a1 a2 : Int) (hl : lens u.blocks ≤ 260000) (hno : ∀ x ∈ u.blocks[n].items, x.name ≠ nobody) :
    progD ⟨u.decls, u.blocks.set n (u.blocks[n].put (jumpOf a1 a2 :: u.blocks[n].items))⟩ = .error ⟨91, a1, a2⟩ := by
  obtain ⟨q, st, ts, h1, h2, h3, rfl⟩ := prog_parts h
  obtain ⟨a, r, h4, h6, h5⟩ := thrs_at u.blocks 0 [] h3 n hn
  refine prog_thr h1 ((blocks_put u.blocks n hn _ _).trans h2) (h5 _ _ ?_)
  obtain ⟨⟨b, hb⟩, _⟩ := thr_ok h4
  obtain ⟨b', hb', hk'⟩ := ways_front hb (look_jump a1 a2) (by simp [jumpOf])
  have hk : assoc b' nobody = none := assoc_none.2 fun k hk e => by
    rw [hk'] at hk
    rcases ways_keys _ 0 [] none hb k hk with h | ⟨x, hx, _, h⟩
    · cases h
    · exact hno x hx (h.trans e)
  unfold thrD BkD.put
  simp only [hb']
  unfold codeGo
  rw [if_neg (by simp [jumpOf]), if_neg (by simp; omega)]
  have ht : targD st b' (jumpOf a1 a2) = .error ⟨91, a1, a2⟩ := by
    unfold targD
    simp [jumpOf, touchB, hk]
  simp only [ht]
/-- Names, with one more of a gate's ahead. -/
theorem cnt_cons (e : ByteArray × (Int × Nat)) (st : Nms) (s : Int) : cntS (e :: st) s = cntS st s + if e.2.1 = s then 1 else 0 := by
  unfold cntS
  by_cases h : e.2.1 = s <;> simp [List.filter_cons, h]
theorem cnt_le (st : Nms) (s : Int) : cntS st s ≤ st.length := List.length_filter_le ..
theorem declnD_ok {st : Nms} {p : PrgD} {d : DcD} {q : Nms × PrgD} (h : declnD st p d = .ok q) : ¬ (d.kind = 3 ∧ d.val ≠ 0) ∧ (d.kind = 1 ∨ d.kind = 2 ∨ d.kind = 3 ∨ d.kind = 4) ∧ declD st d.name d.kind 4096 d.l d.c = .ok q.1 ∧ q.2 = dcPut p d := by
  unfold declnD at h
  split at h
  · cases h
  · rename_i h1
    split at h
    · rename_i h2
      split at h
      · cases h
      · rename_i st' h3
        cases h
        exact ⟨h1, h2, h3, rfl⟩
    · cases h
/-- The same names, but for one that stands ahead. -/
def Led (nm : ByteArray) (a b : Nms) : Prop := b.map (fun e => (e.1, e.2.1)) = (nm, (4 : Int)) :: a.map (fun e => (e.1, e.2.1))
theorem led_assoc {nm : ByteArray} {a b : Nms} (h : Led nm a b) {s : ByteArray} (hs : s ≠ nm) : (assoc b s).isSome = (assoc a s).isSome := by
  have h1 : b.map Prod.fst = nm :: a.map Prod.fst := by
    have := congrArg (List.map Prod.fst) h
    simpa [Led, List.map_map, Function.comp_def] using this
  have h2 : assoc b s = none ↔ assoc a s = none := by
    rw [assoc_none, assoc_none, h1]
    simp only [List.mem_cons, forall_eq_or_imp]
    exact ⟨fun h => h.2, fun h => ⟨fun e => hs e.symm, h⟩⟩
  cases hb : assoc b s <;> cases hb' : assoc a s <;> simp_all
theorem cnt_map (a : Nms) (s : Int) : cntS a s = ((a.map (fun e => (e.1, e.2.1))).filter fun e => decide (e.2 = s)).length := by
  unfold cntS
  rw [List.filter_map, List.length_map]
  rfl
theorem led_cnt {nm : ByteArray} {a b : Nms} (h : Led nm a b) (s : Int) : cntS b s = cntS a s + if s = 4 then 1 else 0 := by
  rw [cnt_map, cnt_map, h, List.filter_cons]
  by_cases hs : s = 4
  · subst hs; simp
  · have : ¬ (4 : Int) = s := fun e => hs e.symm
    simp [hs, this]
theorem led_some {nm : ByteArray} {a b : Nms} (h : Led nm a b) : (assoc b nm).isSome = true := by
  cases hb : assoc b nm with
  | some e => rfl
  | none =>
    have h1 : b.map Prod.fst = nm :: a.map Prod.fst := by
      have := congrArg (List.map Prod.fst) h
      simpa [Led, List.map_map, Function.comp_def] using this
    exact absurd rfl (assoc_none.1 hb nm (by rw [h1]; simp))
theorem led_decls {nm : ByteArray} : ∀ (ds : List DcD) {a b : Nms} {p p' : PrgD} {q : Nms × PrgD}, Led nm a b → a.length + ds.length < 4000 → declsD ds a p = .ok q → (assoc q.1 nm) = none → ∃ q', declsD ds b p' = .ok q' ∧ Led nm q.1 q'.1
  | [], a, b, p, p', q, hl, hlen, h, hq => by
    simp only [declsD, Except.ok.injEq] at h
    subst h
    exact ⟨_, rfl, hl⟩
  | d :: ds, a, b, p, p', q, hl, hlen, h, hq => by
    unfold declsD at h
    split at h
    · cases h
    · rename_i r hr
      obtain ⟨h1, h2, h3, h4⟩ := declnD_ok hr
      obtain ⟨g1, g2, g3, g4⟩ := declD_ok h3
      have hgrow : ∀ (ds : List DcD) (st : Nms) (p : PrgD) (q : Nms × PrgD), declsD ds st p = .ok q → ∃ m, q.1 = st ++ m := by
        intro ds
        induction ds with
        | nil => intro st p q h; simp only [declsD, Except.ok.injEq] at h; subst h; exact ⟨[], by simp⟩
        | cons d ds ih =>
          intro st p q h
          unfold declsD at h
          split at h
          · cases h
          · rename_i r hr
            obtain ⟨_, _, h3, _⟩ := declnD_ok hr
            obtain ⟨_, _, _, g4⟩ := declD_ok h3
            obtain ⟨m, hm⟩ := ih _ _ _ h
            exact ⟨_ :: m, by rw [hm, g4, List.append_assoc]; rfl⟩
      have hne : d.name ≠ nm := by
        intro e
        obtain ⟨m, hm⟩ := hgrow _ _ _ _ h
        rw [hm, g4, assoc_app, assoc_app, e, assoc_one, if_pos rfl] at hq
        simp at hq
      have hb : declD b d.name d.kind 4096 d.l d.c = .ok (b ++ [(d.name, (d.kind, cntS b d.kind))]) := by
        refine declD_mk g1 ?_ ?_ _ _
        · have := led_assoc hl hne
          rw [g2] at this
          simpa using this
        · rw [led_cnt hl]
          have := cnt_le a d.kind
          simp only [List.length_cons] at hlen
          split <;> omega
      have hl2 : Led nm r.1 (b ++ [(d.name, (d.kind, cntS b d.kind))]) := by
        rw [g4]
        unfold Led at hl ⊢
        simp [hl]
      obtain ⟨q', hq', hlq⟩ := led_decls ds (p' := dcPut p' d) hl2 (by rw [g4]; simp only [List.length_append, List.length_cons, List.length_nil] at hlen ⊢; omega) h hq
      refine ⟨q', ?_, hlq⟩
      unfold declsD declnD
      rw [if_neg h1, if_pos h2, hb]
      exact hq'
theorem led_blocks {nm : ByteArray} : ∀ (ks : List BkD) {a b : Nms} {st : Nms}, Led nm a b → blocksD ks a = .ok st → ∀ (n : Nat) (hn : n < ks.length), ks[n].name = nm → assoc a nm = none → blocksD ks b = .error ⟨90, ks[n].l, ks[n].c⟩
  | [], a, b, st, hl, h, n, hn, he, ha => by simp at hn
  | k :: ks, a, b, st, hl, h, n, hn, he, ha => by
    have h0 := h
    unfold blocksD at h
    split at h
    · cases h
    · rename_i st1 h1
      obtain ⟨g1, g2, g3, g4⟩ := declD_ok h1
      by_cases hk : k.name = nm
      · have hz : n = 0 := by
          cases n with
          | zero => rfl
          | succ n =>
            exfalso
            have hm : ks[n]'(by simpa using hn) ∈ ks := List.getElem_mem _
            have h5 := (blocks_have ks h _ hm).2.1
            simp only [List.getElem_cons_succ] at he
            rw [he, g4, assoc_app, assoc_one, if_pos hk, Option.or_eq_none_iff] at h5
            simp at h5
        subst hz
        unfold blocksD
        rw [declD_twice g1 (by rw [hk]; exact led_some hl)]
        rfl
      · cases n with
        | zero => simp only [List.getElem_cons_zero] at he; exact absurd he hk
        | succ n =>
          have hb : declD b k.name 5 65535 k.l k.c = .ok (b ++ [(k.name, (5, cntS b 5))]) := by
            refine declD_mk g1 ?_ ?_ _ _
            · have := led_assoc hl hk
              rw [g2] at this
              simpa using this
            · rw [led_cnt hl]
              simpa using g3
          have hl2 : Led nm st1 (b ++ [(k.name, (5, cntS b 5))]) := by
            rw [g4]
            unfold Led at hl ⊢
            simp [hl]
          have := led_blocks ks hl2 h n (by simpa using hn) (by simpa using he) (by rw [g4, assoc_app, ha, assoc_one, if_neg hk]; rfl)
          unfold blocksD
          rw [hb]
          simpa using this
theorem refuse_gate {u : UnD} {p : PrgD} (h : progD u = .ok p) {n : Nat} (hn : n < u.blocks.length) (a1 a2 : Int) (hd : u.decls.length < 4000) :
    progD ⟨gateOf u.blocks[n].name a1 a2 :: u.decls, u.blocks⟩ = .error ⟨90, u.blocks[n].l, u.blocks[n].c⟩ := by
  obtain ⟨q, st, ts, h1, h2, h3, rfl⟩ := prog_parts h
  obtain ⟨hnm, ha, _⟩ := blocks_have _ h2 _ (List.getElem_mem hn)
  have hl : Led u.blocks[n].name [] [(u.blocks[n].name, (4, 0))] := rfl
  obtain ⟨q', hq', hlq⟩ := led_decls u.decls (p' := dcPut ⟨[], [], [], [], []⟩ (gateOf u.blocks[n].name a1 a2)) hl (by simpa using hd) h1 ha
  have h4 := led_blocks u.blocks hlq h2 n hn rfl ha
  have h5 : declsD (gateOf u.blocks[n].name a1 a2 :: u.decls) [] ⟨[], [], [], [], []⟩ = .ok q' := by
    unfold declsD declnD
    rw [if_neg (by simp [gateOf]), if_pos (by simp [gateOf]), show (gateOf u.blocks[n].name a1 a2).name = u.blocks[n].name from rfl, declD_mk hnm rfl (by simp [cntS])]
    exact hq'
  unfold progD
  simp only [h5, h4]
end Go.AB
