/- Units and programs, plain: a program that was built has a unit. No program in sight. -/
import Derived.Test.YtaknmhipaifdkaaDoorKx
set_option linter.unusedVariables false
set_option linter.unusedSimpArgs false
set_option linter.unusedSectionVars false
namespace Go.Proofs.YtaknmhipaifdkaaDoor
open Go.RowKit Go.AB

/-- What a program that has a unit is like. -/
structure GoodP (p : PrgD) : Prop where
  dec : Valid (declsOf p)
  thr : ∀ ks : List BkD, ks.map BkD.name = p.thrs.map ThrD.name → ∃ st, blocksD ks (ents (declsOf p)) = .ok st
  ins : ∀ t ∈ p.thrs, inRange t.code ∧ ∀ (it : Nat → ByteArray), ∀ x ∈ t.code, ∃ y, itemD it p t.code x = some y
  len : ∀ t ∈ p.thrs, t.code.length ≤ 4096
  all : (p.thrs.map fun t => t.code.length).sum ≤ 262144
/-- Texts of numbers that serve as labels. -/
structure Lbl (it : Nat → ByteArray) : Prop where
  inj : ∀ a b, a < 4096 → b < 4096 → it a = it b → a = b
  name : ∀ a, a < 4096 → nameB (⟨#[108]⟩ ++ it a) = true
theorem l_inj {a b : ByteArray} (h : (⟨#[108]⟩ ++ a : ByteArray) = ⟨#[108]⟩ ++ b) : a = b := by
  have h1 : pre1 108 a = pre1 108 b := h
  exact pre1_inj.1 h1
theorem lblN_lt (code : List InsD) {i : Nat} : lblN code i ≤ i := by
  unfold lblN
  have := List.length_filter_le (fun j => isTgt code j) (List.range i)
  rwa [List.length_range] at this
theorem lblN_mono (code : List InsD) {i j : Nat} (hij : i < j) (hi : isTgt code i = true) : lblN code i < lblN code j := by
  have h1 : ∀ n, lblN code (n + 1) = lblN code n + if isTgt code n = true then 1 else 0 := fun n => by
    unfold lblN
    rw [List.range_succ, List.filter_append, List.length_append]
    congr 1
    by_cases h : isTgt code n = true <;> simp [h]
  induction j with
  | zero => omega
  | succ j ih =>
    rw [h1]
    by_cases hj : i = j
    · subst hj
      rw [if_pos hi]
      omega
    · have := ih (by omega)
      omega
theorem lblS_ne {it : Nat → ByteArray} (hit : Lbl it) (code : List InsD) (hc : code.length ≤ 4096) {i j : Nat} (hi : isTgt code i = true) (hj : isTgt code j = true) (hil : i < code.length) (hjl : j < code.length) (h : lblS it code i = lblS it code j) : i = j := by
  have h1 := hit.inj _ _ (by have := @lblN_lt code i; omega) (by have := @lblN_lt code j; omega) (l_inj h)
  rcases Nat.lt_trichotomy i j with h2 | h2 | h2
  · have := lblN_mono code h2 hi
    omega
  · exact h2
  · have := lblN_mono code h2 hj
    omega
theorem items_some {it : Nat → ByteArray} {p : PrgD} {code : List InsD} : ∀ (rs : List InsD) (i : Nat), (∀ x ∈ rs, ∃ y, itemD it p code x = some y) → ∃ l, itemsGo it p code i rs = some l
  | [], i, h => ⟨[], rfl⟩
  | x :: rs, i, h => by
    obtain ⟨y, hy⟩ := h x (List.mem_cons_self ..)
    obtain ⟨l, hl⟩ := items_some rs (i + 1) (fun z hz => h z (List.mem_cons_of_mem _ hz))
    unfold itemsGo
    simp only [hy, hl]
    exact ⟨_, rfl⟩
theorem blocks_some {it : Nat → ByteArray} {p : PrgD} : ∀ (rs : List ThrD), (∀ t ∈ rs, inRange t.code ∧ ∀ x ∈ t.code, ∃ y, itemD it p t.code x = some y) → ∃ ks, blocksOf it p rs = some ks
  | [], h => ⟨[], rfl⟩
  | t :: rs, h => by
    obtain ⟨h1, h2⟩ := h t (List.mem_cons_self ..)
    obtain ⟨l, hl⟩ := items_some t.code 0 h2
    obtain ⟨ks, hks⟩ := blocks_some rs (fun z hz => h z (List.mem_cons_of_mem _ hz))
    have hb : blockD it p t = some ⟨t.name, l, 0, 0⟩ := by unfold blockD; rw [if_pos (eqB_true h1), hl]; rfl
    unfold blocksOf
    simp only [hb, hks]
    exact ⟨_, rfl⟩
/-- The Items of a program's instructions may be. -/
theorem item_look {it : Nat → ByteArray} (hit : Lbl it) {p : PrgD} {code : List InsD} (hc : code.length ≤ 4096) (hr : inRange code) (hn : ∀ s n nm, nameD p s n = some nm → nameB nm = true) {x : InsD} (hx : x ∈ code) {y : ItD} (h : itemD it p code x = some y) : lookB y = true := by
  unfold itemD at h
  split at h
  · cases h
  · rename_i hf
    have hf : fitB (regsB x.op) x.a x.b x.c = true := by simpa using hf
    have h0 := op_ne (by simpa using hf : ¬ fitB (regsB x.op) x.a x.b x.c = false)
    split at h
    · rename_i h1
      cases h
      unfold lookB
      simp only
      rw [if_neg h0, hf, if_pos (by simp [h1, touchB])]
      simp [h1]
    · split at h
      · rename_i h6
        cases h
        have h2 := hr x hx h6
        unfold lookB
        simp only
        rw [if_neg h0, hf, if_neg (by omega)]
        have h3 : nameB (lblS it code x.n.toNat) = true := hit.name _ (by have := @lblN_lt code x.n.toNat; omega)
        rw [h3]
        simp
      · split at h
        · rename_i h2
          obtain ⟨s, hs, rfl⟩ := Option.map_eq_some_iff.1 h
          unfold lookB
          simp only
          rw [if_neg h0, hf, if_neg h2, hn _ _ _ hs]
          simp
        · rename_i h2
          split at h
          · cases h
            unfold lookB
            simp only
            rw [if_neg h0, hf, if_pos (by omega)]
            simp
          · cases h
theorem lab_look {s : ByteArray} (h : nameB s = true) : lookB (labI s) = true := by
  unfold lookB labI
  simp [fitB, fit1, h]
theorem ways_good {it : Nat → ByteArray} (hit : Lbl it) {p : PrgD} {code : List InsD} (hc : code.length ≤ 4096) (hr : inRange code) (hn : ∀ s n nm, nameD p s n = some nm → nameB nm = true) : ∀ (rs : List InsD) (i : Nat) (l : List ItD) (b : List (ByteArray × Nat)), (∀ x ∈ rs, x ∈ code) → i + rs.length ≤ code.length → itemsGo it p code i rs = some l →
    (∀ k ∈ b.map Prod.fst, ∃ j, j < i ∧ isTgt code j = true ∧ k = lblS it code j) → ∃ r, waysGo l i b none = .ok r
  | [], i, l, b, hm, hl, hi, hb => by
    simp only [itemsGo, Option.some.injEq] at hi
    subst hi
    exact ⟨b, rfl⟩
  | x :: rs, i, l, b, hm, hl, hi, hb => by
    simp only [List.length_cons] at hl
    unfold itemsGo at hi
    split at hi
    · cases hi
    · rename_i y hy
      split at hi
      · cases hi
      · rename_i l' hl'
        cases hi
        obtain ⟨e0, e1, _⟩ := item_op hy
        have hly := item_look hit hc hr hn (hm x (List.mem_cons_self ..)) hy
        have step : ∀ {b o}, (∀ k ∈ b.map Prod.fst, ∃ j, j < i + 1 ∧ isTgt code j = true ∧ k = lblS it code j) → ∃ r, waysGo (y :: l') i b o = .ok r := fun {b o} hb => by
          obtain ⟨r, h⟩ := ways_good hit hc hr hn rs (i + 1) l' b (fun z hz => hm z (List.mem_cons_of_mem _ hz)) (by omega) hl' hb
          refine ⟨r, ?_⟩
          unfold waysGo
          rw [if_neg (by rw [hly]; simp), if_pos (by rw [e0]; exact e1)]
          exact h
        by_cases ht : isTgt code i = true
        · rw [if_pos ht]
          show ∃ r, waysGo (labI (lblS it code i) :: y :: l') i b none = .ok r
          have hnm : nameB (lblS it code i) = true := hit.name _ (by have := @lblN_lt code i; omega)
          have hno : assoc b (lblS it code i) = none := assoc_none.2 fun k hk e => by
            obtain ⟨j, h1, h2, h3⟩ := hb k hk
            have := lblS_ne hit code hc h2 ht (by omega) (by omega) (h3.symm.trans e)
            omega
          obtain ⟨r, h⟩ := step (b := b ++ [(lblS it code i, i)]) (o := some ((none : Option (Int × Int)).getD (0, 0))) (fun k hk => by
            rw [List.map_append, List.mem_append] at hk
            rcases hk with hk | hk
            · obtain ⟨j, h1, h2⟩ := hb k hk
              exact ⟨j, by omega, h2⟩
            · simp only [List.map_cons, List.map_nil, List.mem_singleton] at hk
              exact ⟨i, by omega, ht, hk⟩)
          refine ⟨r, ?_⟩
          unfold waysGo
          rw [if_neg (by rw [lab_look hnm]; simp), if_neg (by simp [labI]), show (labI (lblS it code i)).name = lblS it code i from rfl, hno, if_neg (by simp)]
          exact h
        · rw [if_neg ht]
          exact step (fun k hk => by
            obtain ⟨j, h1, h2⟩ := hb k hk
            exact ⟨j, by omega, h2⟩)
theorem code_good {it : Nat → ByteArray} {p : PrgD} {code : List InsD} {st : Nms} {b : List (ByteArray × Nat)} (ht : Tells p st) (hb : Leads it code b) (hr : inRange code) : ∀ (rs : List InsD) (i all : Nat) (l : List ItD) (c : List InsD) (ps : List PlcD), (∀ x ∈ rs, x ∈ code) → itemsGo it p code i rs = some l → all + rs.length ≤ 262144 → c.length + rs.length ≤ 4096 → ∃ r, codeGo st b l all c ps = .ok r ∧ r.1 = all + rs.length
  | [], i, all, l, c, ps, hm, hi, h1, h2 => by
    simp only [itemsGo, Option.some.injEq] at hi
    subst hi
    exact ⟨_, rfl, rfl⟩
  | x :: rs, i, all, l, c, ps, hm, hi, h1, h2 => by
    simp only [List.length_cons] at h1 h2
    unfold itemsGo at hi
    split at hi
    · cases hi
    · rename_i y hy
      split at hi
      · cases hi
      · rename_i l' hl'
        cases hi
        obtain ⟨e0, e1, _⟩ := item_op hy
        have htg := targ_item ht hb hr (hm x (List.mem_cons_self ..)) hy
        have step : ∃ r, codeGo st b (y :: l') all c ps = .ok r ∧ r.1 = all + (rs.length + 1) := by
          obtain ⟨r, h3, h4⟩ := code_good ht hb hr rs (i + 1) (all + 1) l' (c ++ [⟨y.op, y.a, y.b, y.c, x.n⟩]) (ps ++ [⟨y.p1, y.p2⟩]) (fun z hz => hm z (List.mem_cons_of_mem _ hz)) hl' (by omega) (by simp only [List.length_append, List.length_cons, List.length_nil]; omega)
          refine ⟨r, ?_, by omega⟩
          unfold codeGo
          rw [if_neg (by rw [e0]; exact e1), if_neg (by omega), htg]
          exact h3
        split
        · show ∃ r, codeGo st b (labI (lblS it code i) :: y :: l') all c ps = .ok r ∧ _
          unfold codeGo
          rw [if_pos (show (labI (lblS it code i)).op = 0 from rfl)]
          exact step
        · exact step
theorem thrs_good {it : Nat → ByteArray} (hit : Lbl it) {p : PrgD} {st : Nms} (ht : Tells p st) (hn : ∀ s n nm, nameD p s n = some nm → nameB nm = true) : ∀ (rs : List ThrD) (ks : List BkD) (all : Nat) (ts : List ThrD), (∀ t ∈ rs, inRange t.code ∧ t.code.length ≤ 4096) → blocksOf it p rs = some ks → all + (rs.map fun t => t.code.length).sum ≤ 262144 → ∃ r, thrsD st ks all ts = .ok r
  | [], ks, all, ts, hr, hk, hs => by
    simp only [blocksOf, Option.some.injEq] at hk
    subst hk
    exact ⟨ts, rfl⟩
  | t :: rs, ks, all, ts, hr, hk, hs => by
    simp only [List.map_cons, List.sum_cons] at hs
    obtain ⟨h1, h2⟩ := hr t (List.mem_cons_self ..)
    unfold blocksOf at hk
    split at hk
    · cases hk
    · rename_i k hk1
      split at hk
      · cases hk
      · rename_i l hl
        cases hk
        unfold blockD at hk1
        rw [if_pos (eqB_true h1)] at hk1
        obtain ⟨il, hil, rfl⟩ := Option.map_eq_some_iff.1 hk1
        obtain ⟨b, hb⟩ := ways_good hit h2 h1 hn t.code 0 il [] (fun x hx => hx) (by omega) hil (by simp)
        have hw := ways_items t.code 0 il [] none hil (by simp) hb
        have hld : Leads it t.code b := fun j hj hj2 => (assoc_iff hw.1 _ _).2 (hw.2.2 j (Nat.zero_le _) (by omega) hj2)
        obtain ⟨r, hr1, hr2⟩ := code_good ht hld h1 t.code 0 all il [] [] (fun x hx => hx) hil (by omega) (by simpa using h2)
        have hth : thrD st all ⟨t.name, il, 0, 0⟩ = .ok (r.1, ⟨t.name, r.2.1, r.2.2⟩) := by
          unfold thrD
          rw [show waysD il = .ok b from hb]
          simp only [hr1]
        obtain ⟨r2, h3⟩ := thrs_good hit ht hn rs l r.1 (ts ++ [⟨t.name, r.2.1, r.2.2⟩]) (fun z hz => hr z (List.mem_cons_of_mem _ hz)) hl (by omega)
        refine ⟨r2, ?_⟩
        unfold thrsD
        rw [hth]
        exact h3
theorem good_names {p : PrgD} (h : GoodP p) : ∀ s n nm, nameD p s n = some nm → nameB nm = true := by
  intro s n nm hs
  have hd : ∀ (f : VarD → DcD) (v : VarD), (f v).name = v.name → f v ∈ declsOf p → nameB v.name = true := fun f v h1 h2 => by
    have := (h.dec.ok _ h2).1
    rwa [h1] at this
  unfold nameD at hs
  split at hs
  · cases hs
  · split at hs
    · obtain ⟨v, hv1, rfl⟩ := Option.map_eq_some_iff.1 hs
      exact hd varDc v rfl (by unfold declsOf; simp only [List.mem_append]; exact .inl (.inl (.inl (List.mem_map.2 ⟨v, List.mem_of_getElem? hv1, rfl⟩))))
    · split at hs
      · obtain ⟨v, hv1, rfl⟩ := Option.map_eq_some_iff.1 hs
        exact hd volDc v rfl (by unfold declsOf; simp only [List.mem_append]; exact .inl (.inl (.inr (List.mem_map.2 ⟨v, List.mem_of_getElem? hv1, rfl⟩))))
      · split at hs
        · have := (h.dec.ok (lockDc nm) (by unfold declsOf; simp only [List.mem_append]; exact .inl (.inr (List.mem_map.2 ⟨nm, List.mem_of_getElem? hs, rfl⟩)))).1
          exact this
        · split at hs
          · obtain ⟨v, hv1, rfl⟩ := Option.map_eq_some_iff.1 hs
            exact hd barDc v rfl (by unfold declsOf; simp only [List.mem_append]; exact .inr (List.mem_map.2 ⟨v, List.mem_of_getElem? hv1, rfl⟩))
          · split at hs
            · obtain ⟨t, ht1, rfl⟩ := Option.map_eq_some_iff.1 hs
              obtain ⟨st, hst⟩ := h.thr (p.thrs.map fun t => ⟨t.name, [], 0, 0⟩) (by rw [List.map_map]; rfl)
              exact (blocks_have _ hst ⟨t.name, [], 0, 0⟩ (List.mem_map.2 ⟨t, List.mem_of_getElem? ht1, rfl⟩)).1
            · cases hs
/-- A program of that kind has a unit. -/
theorem good_unit {it : Nat → ByteArray} (hit : Lbl it) {p : PrgD} (h : GoodP p) : ∃ v, unitD it p = some v := by
  obtain ⟨ks, hks⟩ := blocks_some (it := it) p.thrs (fun t ht => ⟨(h.ins t ht).1, (h.ins t ht).2 it⟩)
  obtain ⟨st, hst⟩ := h.thr ks (blocks_names _ _ hks).1
  have ht := tells_of hks h.dec hst
  obtain ⟨r, hr⟩ := thrs_good hit ht (good_names h) p.thrs ks 0 [] (fun t ht => ⟨(h.ins t ht).1, h.len t ht⟩) hks (by rw [Nat.zero_add]; exact h.all)
  refine ⟨⟨declsOf p, ks⟩, ?_⟩
  unfold unitD
  rw [hks]
  simp only
  have h1 : declsD (declsOf p) [] ⟨[], [], [], [], []⟩ = .ok (ents (declsOf p), parts (declsOf p)) := by
    have := ents_decls (declsOf p) [] (by rw [List.nil_append]; exact h.dec)
    rwa [List.nil_append] at this
  have h2 : ∃ q, progD ⟨declsOf p, ks⟩ = .ok q := by
    unfold progD
    simp only [h1, hst, hr]
    exact ⟨_, rfl⟩
  obtain ⟨q, hq⟩ := h2
  rw [hq]
end Go.Proofs.YtaknmhipaifdkaaDoor
