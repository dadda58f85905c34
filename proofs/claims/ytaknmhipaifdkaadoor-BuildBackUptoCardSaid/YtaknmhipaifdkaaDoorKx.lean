/- Units and programs, plain: the unit that says a program. No program in sight. -/
import Derived.Test.YtaknmhipaifdkaaDoorJt
set_option linter.unusedVariables false
set_option linter.unusedSimpArgs false
set_option linter.unusedSectionVars false
namespace Go.Proofs.YtaknmhipaifdkaaDoor
open Go.RowKit Go.AB

/-- Is the instruction at i led to? -/
def isTgt (code : List InsD) (i : Nat) : Bool := code.any fun x => decide (touchB x.op = 6) && decide (x.n = (i : Int))
def lblN (code : List InsD) (i : Nat) : Nat := ((List.range i).filter fun j => isTgt code j).length
/-- The label at i. -/
def lblS (it : Nat → ByteArray) (code : List InsD) (i : Nat) : ByteArray := ⟨#[108]⟩ ++ it (lblN code i)
def nameD (p : PrgD) (s : Int) (n : Int) : Option ByteArray :=
  if n < 0 then none
  else if s = 1 then p.vars[n.toNat]?.map VarD.name
  else if s = 2 then p.vols[n.toNat]?.map VarD.name
  else if s = 3 then p.locks[n.toNat]?
  else if s = 4 then p.bars[n.toNat]?.map VarD.name
  else if s = 5 then p.thrs[n.toNat]?.map ThrD.name
  else none
def itemD (it : Nat → ByteArray) (p : PrgD) (code : List InsD) (x : InsD) : Option ItD :=
  if fitB (regsB x.op) x.a x.b x.c = false then none
  else if x.op = 1 then some ⟨x.op, x.a, x.b, x.c, x.n, ⟨#[]⟩, 0, 0, 0, 0⟩
  else if touchB x.op = 6 then some ⟨x.op, x.a, x.b, x.c, 0, lblS it code x.n.toNat, 0, 0, 0, 0⟩
  else if touchB x.op ≠ 0 then (nameD p (touchB x.op) x.n).map fun s => ⟨x.op, x.a, x.b, x.c, 0, s, 0, 0, 0, 0⟩
  else if x.n = 0 then some ⟨x.op, x.a, x.b, x.c, 0, ⟨#[]⟩, 0, 0, 0, 0⟩ else none
def labI (s : ByteArray) : ItD := ⟨0, 0, 0, 0, 0, s, 0, 0, 0, 0⟩
/-- The Items of the instructions from the i-th on. -/
def itemsGo (it : Nat → ByteArray) (p : PrgD) (code : List InsD) : Nat → List InsD → Option (List ItD)
  | _, [] => some []
  | i, x :: r => match itemD it p code x with
    | none => none
    | some y => match itemsGo it p code (i + 1) r with
      | none => none
      | some l => some ((if isTgt code i = true then [labI (lblS it code i), y] else [y]) ++ l)
def inRange (code : List InsD) : Prop := ∀ x ∈ code, touchB x.op = 6 → 0 ≤ x.n ∧ x.n < (code.length : Int)
noncomputable def blockD (it : Nat → ByteArray) (p : PrgD) (t : ThrD) : Option BkD :=
  if eqB (inRange t.code) = true then (itemsGo it p t.code 0 t.code).map fun l => ⟨t.name, l, 0, 0⟩ else none
def varDc (v : VarD) : DcD := ⟨1, v.name, v.first, 0, 0⟩
def volDc (v : VarD) : DcD := ⟨2, v.name, v.first, 0, 0⟩
def lockDc (s : ByteArray) : DcD := ⟨3, s, 0, 0, 0⟩
def barDc (v : VarD) : DcD := ⟨4, v.name, v.first, 0, 0⟩
def declsOf (p : PrgD) : List DcD := p.vars.map varDc ++ p.vols.map volDc ++ p.locks.map lockDc ++ p.bars.map barDc
noncomputable def blocksOf (it : Nat → ByteArray) (p : PrgD) : List ThrD → Option (List BkD)
  | [] => some []
  | t :: r => match blockD it p t with
    | none => none
    | some k => match blocksOf it p r with
      | none => none
      | some l => some (k :: l)
noncomputable def unitD (it : Nat → ByteArray) (p : PrgD) : Option UnD :=
  match blocksOf it p p.thrs with
  | none => none
  | some ks => match progD ⟨declsOf p, ks⟩ with
    | .error _ => none
    | .ok _ => some ⟨declsOf p, ks⟩
def bareT (t : ThrD) : ThrD := ⟨t.name, t.code, t.code.map fun _ => ⟨0, 0⟩⟩
/-- The same program, its places all nought. -/
def bareZ (p : PrgD) : PrgD := ⟨p.vars, p.vols, p.locks, p.bars, p.thrs.map bareT⟩

/-! What the unit says is the program. -/
theorem kind_map {α : Type} (f : α → DcD) (k : Int) (hf : ∀ x, (f x).kind = k) (l : List α) (s : Int) : kindF (l.map f) s = if k = s then l.map f else [] := by
  induction l with
  | nil => simp [kindF]
  | cons x l ih =>
    unfold kindF at ih ⊢
    rw [List.map_cons]
    by_cases h : k = s
    · rw [if_pos h] at ih ⊢
      rw [List.filter_cons_of_pos (by simp [hf, h]), ih]
    · rw [if_neg h] at ih ⊢
      rw [List.filter_cons_of_neg (by simp [hf, h]), ih]
theorem kind_decls (p : PrgD) (s : Int) : kindF (declsOf p) s = if s = 1 then p.vars.map varDc else if s = 2 then p.vols.map volDc else if s = 3 then p.locks.map lockDc else if s = 4 then p.bars.map barDc else [] := by
  unfold declsOf
  rw [kind_app, kind_app, kind_app, kind_map varDc 1 (fun _ => rfl), kind_map volDc 2 (fun _ => rfl), kind_map lockDc 3 (fun _ => rfl), kind_map barDc 4 (fun _ => rfl)]
  by_cases h1 : s = 1
  · subst h1; simp
  · by_cases h2 : s = 2
    · subst h2; simp
    · by_cases h3 : s = 3
      · subst h3; simp
      · by_cases h4 : s = 4
        · subst h4; simp
        · rw [if_neg (by omega), if_neg (by omega), if_neg (by omega), if_neg (by omega), if_neg h1, if_neg h2, if_neg h3, if_neg h4]
          rfl
theorem parts_decls (p : PrgD) : parts (declsOf p) = ⟨p.vars, p.vols, p.locks, p.bars, []⟩ := by
  have e1 : ∀ (l : List VarD) (f : VarD → DcD), (∀ v, toV (f v) = v) → (l.map f).map toV = l := fun l f h => by
    rw [List.map_map]
    conv => rhs; rw [← List.map_id l]
    exact List.map_congr_left fun v _ => h v
  have e2 : (p.locks.map lockDc).map DcD.name = p.locks := by
    rw [List.map_map]
    conv => rhs; rw [← List.map_id p.locks]
    exact List.map_congr_left fun v _ => rfl
  unfold parts
  simp only [kind_decls]
  rw [if_pos trivial, if_neg (by omega), if_pos trivial, if_neg (by omega), if_neg (by omega), if_pos trivial, if_neg (by omega), if_neg (by omega), if_neg (by omega), if_pos trivial, e1 _ _ (fun _ => rfl), e1 _ _ (fun _ => rfl), e1 _ _ (fun _ => rfl), e2]
/-- The state behind the threads' names. -/
theorem blocks_st : ∀ (ks : List BkD) {st st' : Nms}, blocksD ks st = .ok st' → (st.map Prod.fst).Nodup → ∃ m, st' = st ++ m ∧ m.length = ks.length ∧ (st'.map Prod.fst).Nodup ∧ ∀ i (hi : i < ks.length), m[i]? = some (ks[i].name, ((5 : Int), cntS st 5 + i))
  | [], st, st', h, hn => by
    simp only [blocksD, Except.ok.injEq] at h
    subst h
    exact ⟨[], by simp, rfl, hn, fun i hi => absurd hi (Nat.not_lt_zero _)⟩
  | k :: ks, st, st', h, hn => by
    unfold blocksD at h
    split at h
    · cases h
    · rename_i t ht
      obtain ⟨g1, g2, g3, rfl⟩ := declD_ok ht
      obtain ⟨m, rfl, hm, hnd, hat⟩ := blocks_st ks h (by
        rw [List.map_append, List.nodup_append]
        refine ⟨hn, by simp, fun a ha b hb e => ?_⟩
        simp only [List.map_cons, List.map_nil, List.mem_singleton] at hb
        subst hb
        rw [assoc_none] at g2
        exact g2 a ha e)
      refine ⟨(k.name, (5, cntS st 5)) :: m, by simp, by simp [hm], hnd, fun i hi => ?_⟩
      cases i with
      | zero => simp
      | succ i =>
        have h1 := hat i (by simpa using hi)
        have h2 : cntS (st ++ [(k.name, ((5 : Int), cntS st 5))]) 5 = cntS st 5 + 1 := by
          unfold cntS
          rw [List.filter_append, List.length_append]
          rfl
        rw [h2] at h1
        rw [List.getElem?_cons_succ, List.getElem_cons_succ, h1]
        simp only [Option.some.injEq, Prod.mk.injEq, true_and]
        omega
theorem op_ne {op a b c : Int} (h : ¬ fitB (regsB op) a b c = false) : op ≠ 0 := by
  rintro rfl
  apply h
  simp [fitB, regsB]
theorem item_op {it : Nat → ByteArray} {p : PrgD} {code : List InsD} {x : InsD} {y : ItD} (h : itemD it p code x = some y) : y.op = x.op ∧ x.op ≠ 0 ∧ y.a = x.a ∧ y.b = x.b ∧ y.c = x.c ∧ y.p1 = 0 ∧ y.p2 = 0 ∧ y.q1 = 0 ∧ y.q2 = 0 := by
  unfold itemD at h
  split at h
  · cases h
  · rename_i h0
    have h1 := op_ne h0
    split at h
    · cases h
      exact ⟨rfl, h1, rfl, rfl, rfl, rfl, rfl, rfl, rfl⟩
    · split at h
      · cases h
        exact ⟨rfl, h1, rfl, rfl, rfl, rfl, rfl, rfl, rfl⟩
      · split at h
        · obtain ⟨s, _, rfl⟩ := Option.map_eq_some_iff.1 h
          exact ⟨rfl, h1, rfl, rfl, rfl, rfl, rfl, rfl, rfl⟩
        · split at h
          · cases h
            exact ⟨rfl, h1, rfl, rfl, rfl, rfl, rfl, rfl, rfl⟩
          · cases h
/-- The names so far tell each thing's sort and number. -/
def Tells (p : PrgD) (st : Nms) : Prop := ∀ s n nm, nameD p s n = some nm → assoc st nm = some (s, n.toNat)
def Leads (it : Nat → ByteArray) (code : List InsD) (b : List (ByteArray × Nat)) : Prop := ∀ j, j < code.length → isTgt code j = true → assoc b (lblS it code j) = some j
theorem name_pos {p : PrgD} {s n : Int} {nm : ByteArray} (h : nameD p s n = some nm) : 0 ≤ n := by
  unfold nameD at h
  split at h
  · cases h
  · omega
theorem targ_item {it : Nat → ByteArray} {p : PrgD} {code : List InsD} {st : Nms} {b : List (ByteArray × Nat)} (ht : Tells p st) (hb : Leads it code b) (hr : inRange code) {x : InsD} (hx : x ∈ code) {y : ItD} (h : itemD it p code x = some y) : targD st b y = .ok x.n := by
  unfold itemD at h
  split at h
  · cases h
  · split at h
    · rename_i h1
      cases h
      unfold targD
      rw [if_pos (by simp [h1, touchB])]
    · split at h
      · rename_i h6
        cases h
        have h2 := hr x hx h6
        have h3 : isTgt code x.n.toNat = true := by
          unfold isTgt
          rw [List.any_eq_true]
          exact ⟨x, hx, by simp [h6]; omega⟩
        unfold targD
        simp only
        rw [if_neg (by omega), if_pos h6, hb _ (by omega) h3]
        simp only [Except.ok.injEq]
        omega
      · rename_i h6
        split at h
        · rename_i h0
          obtain ⟨s, hs, rfl⟩ := Option.map_eq_some_iff.1 h
          unfold targD
          simp only
          rw [if_neg h0, if_neg h6, ht _ _ _ hs]
          simp only
          have := name_pos hs
          rw [if_neg (by simp)]
          simp only [Except.ok.injEq]
          omega
        · rename_i h0
          split at h
          · rename_i hn
            cases h
            unfold targD
            simp only
            rw [if_pos (by omega), hn]
          · cases h
theorem code_items {it : Nat → ByteArray} {p : PrgD} {code : List InsD} {st : Nms} {b : List (ByteArray × Nat)} (ht : Tells p st) (hb : Leads it code b) (hr : inRange code) : ∀ (rs : List InsD) (i all : Nat) (l : List ItD) (c : List InsD) (ps : List PlcD) {r : Nat × List InsD × List PlcD}, (∀ x ∈ rs, x ∈ code) → itemsGo it p code i rs = some l → codeGo st b l all c ps = .ok r → r.2.1 = c ++ rs ∧ r.2.2 = ps ++ rs.map fun _ => ⟨0, 0⟩
  | [], i, all, l, c, ps, r, hm, hi, h => by
    simp only [itemsGo, Option.some.injEq] at hi
    subst hi
    simp only [codeGo, Except.ok.injEq] at h
    subst h
    simp
  | x :: rs, i, all, l, c, ps, r, hm, hi, h => by
    unfold itemsGo at hi
    split at hi
    · cases hi
    · rename_i y hy
      split at hi
      · cases hi
      · rename_i l' hl'
        cases hi
        obtain ⟨e0, e1, e2, e3, e4, e5, e6, _⟩ := item_op hy
        have htg := targ_item ht hb hr (hm x (List.mem_cons_self ..)) hy
        have step : ∀ {r}, codeGo st b (y :: l') all c ps = .ok r → r.2.1 = c ++ x :: rs ∧ r.2.2 = ps ++ (x :: rs).map fun _ => ⟨0, 0⟩ := fun {r} h => by
          unfold codeGo at h
          rw [if_neg (by rw [e0]; exact e1)] at h
          split at h
          · cases h
          · rw [htg] at h
            simp only at h
            have h9 := code_items ht hb hr rs (i + 1) _ l' _ _ (fun z hz => hm z (List.mem_cons_of_mem _ hz)) hl' h
            rw [e0, e2, e3, e4, e5, e6] at h9
            rw [h9.1, h9.2]
            simp
        split at h
        · have h' : codeGo st b (labI (lblS it code i) :: y :: l') all c ps = .ok r := h
          unfold codeGo at h'
          rw [if_pos (show (labI (lblS it code i)).op = 0 from rfl)] at h'
          exact step h'
        · exact step h
theorem ways_items {it : Nat → ByteArray} {p : PrgD} {code : List InsD} : ∀ (rs : List InsD) (i : Nat) (l : List ItD) (b : List (ByteArray × Nat)) (o : Option (Int × Int)) {r : List (ByteArray × Nat)}, itemsGo it p code i rs = some l → (b.map Prod.fst).Nodup → waysGo l i b o = .ok r →
    (r.map Prod.fst).Nodup ∧ (∀ e ∈ b, e ∈ r) ∧ ∀ j, i ≤ j → j < i + rs.length → isTgt code j = true → (lblS it code j, j) ∈ r
  | [], i, l, b, o, r, hi, hn, h => by
    simp only [itemsGo, Option.some.injEq] at hi
    subst hi
    cases o with
    | some q => simp [waysGo] at h
    | none =>
      simp only [waysGo, Except.ok.injEq] at h
      subst h
      exact ⟨hn, fun e he => he, fun j h1 h2 => by simp at h2; omega⟩
  | x :: rs, i, l, b, o, r, hi, hn, h => by
    unfold itemsGo at hi
    split at hi
    · cases hi
    · rename_i y hy
      split at hi
      · cases hi
      · rename_i l' hl'
        cases hi
        obtain ⟨e0, e1, _⟩ := item_op hy
        have step : ∀ {b o r}, (b.map Prod.fst).Nodup → waysGo (y :: l') i b o = .ok r → (r.map Prod.fst).Nodup ∧ (∀ e ∈ b, e ∈ r) ∧ ∀ j, i + 1 ≤ j → j < i + 1 + rs.length → isTgt code j = true → (lblS it code j, j) ∈ r := fun {b o r} hn h => by
          unfold waysGo at h
          split at h
          · cases h
          · rw [if_pos (by rw [e0]; exact e1)] at h
            exact ways_items rs (i + 1) l' _ _ hl' hn h
        by_cases ht : isTgt code i = true
        · rw [if_pos ht] at h
          have h' : waysGo (labI (lblS it code i) :: y :: l') i b o = .ok r := h
          unfold waysGo at h'
          split at h'
          · cases h'
          · rw [if_neg (by simp [labI])] at h'
            split at h'
            · cases h'
            · rename_i h3
              have h4 : assoc b (lblS it code i) = none := by simpa [labI] using h3
              obtain ⟨g1, g2, g3⟩ := step (by
                rw [List.map_append, List.nodup_append]
                refine ⟨hn, by simp, fun a ha c hc e => ?_⟩
                simp only [List.map_cons, List.map_nil, List.mem_singleton] at hc
                subst hc
                rw [assoc_none] at h4
                exact h4 a ha e) h'
              refine ⟨g1, fun e he => g2 e (List.mem_append_left _ he), fun j h1 h2 h3 => ?_⟩
              by_cases hj : j = i
              · subst hj
                exact g2 _ (List.mem_append_right _ (by simp [labI]))
              · exact g3 j (by omega) (by simp only [List.length_cons] at h2; omega) h3
        · rw [if_neg ht] at h
          obtain ⟨g1, g2, g3⟩ := step hn h
          refine ⟨g1, g2, fun j h1 h2 h3 => ?_⟩
          by_cases hj : j = i
          · subst hj
            exact absurd h3 ht
          · exact g3 j (by omega) (by simp only [List.length_cons] at h2; omega) h3
theorem eqB_prop {p : Prop} (h : eqB p = true) : p := by
  by_cases hp : p
  · exact hp
  · rw [eqB_false hp] at h
    cases h
theorem thr_block {it : Nat → ByteArray} {p : PrgD} {st : Nms} (ht : Tells p st) {t : ThrD} {k : BkD} (hk : blockD it p t = some k) {all : Nat} {q : Nat × ThrD} (h : thrD st all k = .ok q) : q.2 = bareT t := by
  unfold blockD at hk
  split at hk
  · rename_i hr
    have hr := eqB_prop hr
    obtain ⟨l, hl, rfl⟩ := Option.map_eq_some_iff.1 hk
    unfold thrD at h
    split at h
    · cases h
    · rename_i b hb
      have hw := ways_items t.code 0 l [] none hl (by simp) hb
      have hld : Leads it t.code b := fun j hj hj2 => (assoc_iff hw.1 _ _).2 (hw.2.2 j (Nat.zero_le _) (by omega) hj2)
      split at h
      · cases h
      · rename_i r hr2
        cases h
        have h9 := code_items ht hld hr t.code 0 all l [] [] (fun x hx => hx) hl hr2
        unfold bareT
        simp only
        rw [h9.1, h9.2]
        simp
  · cases hk
theorem thrs_blocks {it : Nat → ByteArray} {p : PrgD} {st : Nms} (ht : Tells p st) : ∀ (rs : List ThrD) (ks : List BkD) (all : Nat) (ts : List ThrD) {r : List ThrD}, blocksOf it p rs = some ks → thrsD st ks all ts = .ok r → r = ts ++ rs.map bareT
  | [], ks, all, ts, r, hk, h => by
    simp only [blocksOf, Option.some.injEq] at hk
    subst hk
    simp only [thrsD, Except.ok.injEq] at h
    subst h
    simp
  | t :: rs, ks, all, ts, r, hk, h => by
    unfold blocksOf at hk
    split at hk
    · cases hk
    · rename_i k hk1
      split at hk
      · cases hk
      · rename_i l hl
        cases hk
        unfold thrsD at h
        split at h
        · cases h
        · rename_i q hq
          have h9 := thrs_blocks ht rs l _ _ hl h
          rw [h9, thr_block ht hk1 hq]
          simp
theorem blocks_names {it : Nat → ByteArray} {p : PrgD} : ∀ (rs : List ThrD) (ks : List BkD), blocksOf it p rs = some ks → ks.map BkD.name = rs.map ThrD.name ∧ ks.length = rs.length
  | [], ks, hk => by
    simp only [blocksOf, Option.some.injEq] at hk
    subst hk
    exact ⟨rfl, rfl⟩
  | t :: rs, ks, hk => by
    unfold blocksOf at hk
    split at hk
    · cases hk
    · rename_i k hk1
      split at hk
      · cases hk
      · rename_i l hl
        cases hk
        have ih := blocks_names rs l hl
        unfold blockD at hk1
        split at hk1
        · obtain ⟨l2, _, rfl⟩ := Option.map_eq_some_iff.1 hk1
          exact ⟨by rw [List.map_cons, List.map_cons, ih.1], by simp [ih.2]⟩
        · cases hk1
theorem tells_of {it : Nat → ByteArray} {p : PrgD} {ks : List BkD} (hk : blocksOf it p p.thrs = some ks) (hv : Valid (declsOf p)) {st : Nms} (h : blocksD ks (ents (declsOf p)) = .ok st) : Tells p st := by
  obtain ⟨m, rfl, hm, hnd, hat⟩ := blocks_st ks h (by rw [ents, ents_keys]; exact hv.nd)
  have hnm := blocks_names _ _ hk
  intro s n nm hs
  rw [assoc_iff hnd]
  have hdec : ∀ (s : Int) (d : DcD) (i : Nat), (kindF (declsOf p) s)[i]? = some d → (d.name, (s, i)) ∈ ents (declsOf p) ++ m := fun s d i hd => by
    refine List.mem_append_left _ ?_
    rw [ents, ents_mem, List.nil_append]
    exact ⟨d, hd, rfl, Nat.zero_le _⟩
  unfold nameD at hs
  split at hs
  · cases hs
  · split at hs
    · rename_i h1
      subst h1
      obtain ⟨v, hv1, rfl⟩ := Option.map_eq_some_iff.1 hs
      exact hdec 1 (varDc v) n.toNat (by rw [kind_decls, if_pos rfl, List.getElem?_map, hv1]; rfl)
    · split at hs
      · rename_i h1 h2
        subst h2
        obtain ⟨v, hv1, rfl⟩ := Option.map_eq_some_iff.1 hs
        exact hdec 2 (volDc v) n.toNat (by rw [kind_decls, if_neg (by omega), if_pos rfl, List.getElem?_map, hv1]; rfl)
      · split at hs
        · rename_i h1 h2 h3
          subst h3
          exact hdec 3 (lockDc nm) n.toNat (by rw [kind_decls, if_neg (by omega), if_neg (by omega), if_pos rfl, List.getElem?_map, hs]; rfl)
        · split at hs
          · rename_i h1 h2 h3 h4
            subst h4
            obtain ⟨v, hv1, rfl⟩ := Option.map_eq_some_iff.1 hs
            exact hdec 4 (barDc v) n.toNat (by rw [kind_decls, if_neg (by omega), if_neg (by omega), if_neg (by omega), if_pos rfl, List.getElem?_map, hv1]; rfl)
          · split at hs
            · rename_i h1 h2 h3 h4 h5
              subst h5
              obtain ⟨t, ht1, rfl⟩ := Option.map_eq_some_iff.1 hs
              have hlt : n.toNat < p.thrs.length := (List.getElem?_eq_some_iff.1 ht1).1
              have hlk : n.toNat < ks.length := by rw [hnm.2]; exact hlt
              have h6 := hat n.toNat hlk
              have h7 : ks[n.toNat].name = t.name := by
                have h8 := congrArg (fun l : List ByteArray => l[n.toNat]?) hnm.1
                simp only [List.getElem?_map, List.getElem?_eq_getElem hlk, ht1, Option.map_some, Option.some.injEq] at h8
                exact h8
              have h8 : cntS (ents (declsOf p)) 5 = 0 := by
                rw [ents, ents_cnt, kind_decls]
                simp
              rw [h7, h8, Nat.zero_add] at h6
              exact List.mem_append_right _ (List.mem_of_getElem? h6)
            · cases hs
/-- The unit of a program has that program, its places nought. -/
theorem unit_prog {it : Nat → ByteArray} {p : PrgD} {u : UnD} (h : unitD it p = some u) : progD u = .ok (bareZ p) := by
  unfold unitD at h
  split at h
  · cases h
  · rename_i ks hk
    split at h
    · cases h
    · rename_i q hq
      cases h
      rw [hq]
      obtain ⟨qq, st, ts, h1, h2, h3, rfl⟩ := prog_parts hq
      obtain ⟨hv, rfl⟩ := decls_ents (declsOf p) [] ⟨by simp, by simp, fun s => by simp [kindF]⟩ h1
      rw [List.nil_append] at hv h2 ⊢
      simp only at h2 h3
      have ht := tells_of hk hv h2
      have h9 := thrs_blocks ht p.thrs ks 0 [] hk h3
      simp only [parts_decls, h9, List.nil_append]
      rfl
end Go.Proofs.YtaknmhipaifdkaaDoor
