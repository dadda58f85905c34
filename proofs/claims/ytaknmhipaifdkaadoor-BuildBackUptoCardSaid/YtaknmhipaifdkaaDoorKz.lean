/- Units and programs, plain: what was built of a unit has a unit. No program in sight. -/
import Derived.Test.YtaknmhipaifdkaaDoorKy
set_option linter.unusedVariables false
set_option linter.unusedSimpArgs false
set_option linter.unusedSectionVars false
namespace Go.Proofs.YtaknmhipaifdkaaDoor
open Go.RowKit Go.AB

theorem asc_perm {ds : List DcD} (h : ∀ d ∈ ds, okD d) : (kindF ds 1 ++ kindF ds 2 ++ kindF ds 3 ++ kindF ds 4).Perm ds := by
  have e : sortD ds = kindF ds 4 ++ kindF ds 3 ++ kindF ds 2 ++ kindF ds 1 := by
    unfold sortD hiD hiD hiD hiD hiD
    rfl
  refine List.Perm.trans ?_ (sort_perm h)
  rw [e]
  have h1 : (kindF ds 1 ++ kindF ds 2).Perm (kindF ds 2 ++ kindF ds 1) := List.perm_append_comm
  have h2 : (kindF ds 1 ++ kindF ds 2 ++ kindF ds 3).Perm (kindF ds 3 ++ (kindF ds 2 ++ kindF ds 1)) := List.perm_append_comm.trans (h1.append_left _)
  have h3 := (List.perm_append_comm (l₁ := kindF ds 1 ++ kindF ds 2 ++ kindF ds 3) (l₂ := kindF ds 4)).trans (h2.append_left _)
  refine h3.trans ?_
  simp only [List.append_assoc]
  exact List.Perm.refl _
theorem kind_out {ds : List DcD} (h : ∀ d ∈ ds, okD d) {s : Int} (hs : ¬ (s = 1 ∨ s = 2 ∨ s = 3 ∨ s = 4)) : kindF ds s = [] := by
  rw [List.filter_eq_nil_iff]
  intro d hd
  simp only [decide_eq_true_eq]
  have := (h d hd).2.2
  omega
/-- The lists of a program that was built. -/
structure BuiltD (ds : List DcD) (p : PrgD) : Prop where
  val : Valid ds
  e0 : p.vars = (kindF ds 1).map toV
  e1 : p.vols = (kindF ds 2).map toV
  e2 : p.locks = (kindF ds 3).map DcD.name
  e3 : p.bars = (kindF ds 4).map toV
theorem BuiltD.at {ds : List DcD} {p : PrgD} (h : BuiltD ds p) (s : Int) (i : Nat) : ((kindF (declsOf p) s)[i]?).map DcD.name = ((kindF ds s)[i]?).map DcD.name := by
  rw [kind_decls, h.e0, h.e1, h.e2, h.e3]
  by_cases h1 : s = 1
  · subst h1
    rw [if_pos rfl]
    simp only [List.getElem?_map, Option.map_map]
    rfl
  · by_cases h2 : s = 2
    · subst h2
      rw [if_neg h1, if_pos rfl]
      simp only [List.getElem?_map, Option.map_map]
      rfl
    · by_cases h3 : s = 3
      · subst h3
        rw [if_neg h1, if_neg h2, if_pos rfl]
        simp only [List.getElem?_map, Option.map_map]
        rfl
      · by_cases h4 : s = 4
        · subst h4
          rw [if_neg h1, if_neg h2, if_neg h3, if_pos rfl]
          simp only [List.getElem?_map, Option.map_map]
          rfl
        · rw [if_neg h1, if_neg h2, if_neg h3, if_neg h4, kind_out h.val.ok (by omega)]
theorem BuiltD.len {ds : List DcD} {p : PrgD} (h : BuiltD ds p) (s : Int) : (kindF (declsOf p) s).length = (kindF ds s).length := by
  rw [kind_decls, h.e0, h.e1, h.e2, h.e3]
  by_cases h1 : s = 1
  · subst h1; simp
  · by_cases h2 : s = 2
    · subst h2; simp
    · by_cases h3 : s = 3
      · subst h3; simp
      · by_cases h4 : s = 4
        · subst h4; simp
        · rw [if_neg h1, if_neg h2, if_neg h3, if_neg h4, kind_out h.val.ok (by omega)]
theorem BuiltD.valid {ds : List DcD} {p : PrgD} (h : BuiltD ds p) : Valid (declsOf p) := by
  have hk : ∀ s, ∀ d ∈ kindF ds s, okD d := fun s d hd => h.val.ok d (List.mem_filter.1 hd).1
  refine ⟨fun d hd => ?_, ?_, fun s => by rw [h.len]; exact h.val.cnt s⟩
  · unfold declsOf at hd
    rw [h.e0, h.e1, h.e2, h.e3] at hd
    simp only [List.mem_append, List.mem_map] at hd
    rcases hd with ((⟨v, ⟨x, hx, rfl⟩, rfl⟩ | ⟨v, ⟨x, hx, rfl⟩, rfl⟩) | ⟨v, ⟨x, hx, rfl⟩, rfl⟩) | ⟨v, ⟨x, hx, rfl⟩, rfl⟩
    · exact ⟨(hk 1 x hx).1, by simp [varDc], .inl rfl⟩
    · exact ⟨(hk 2 x hx).1, by simp [volDc], .inr (.inl rfl)⟩
    · exact ⟨(hk 3 x hx).1, by simp [lockDc], .inr (.inr (.inl rfl))⟩
    · exact ⟨(hk 4 x hx).1, by simp [barDc], .inr (.inr (.inr rfl))⟩
  · have e : (declsOf p).map DcD.name = (kindF ds 1 ++ kindF ds 2 ++ kindF ds 3 ++ kindF ds 4).map DcD.name := by
      unfold declsOf
      rw [h.e0, h.e1, h.e2, h.e3]
      simp only [List.map_append, List.map_map]
      rfl
    rw [e]
    exact (List.Perm.nodup_iff ((asc_perm h.val.ok).map DcD.name)).2 h.val.nd
theorem BuiltD.same {ds : List DcD} {p : PrgD} (h : BuiltD ds p) : SameN (ents ds) (ents (declsOf p)) := by
  refine ⟨fun s => ?_, fun s => by rw [ents, ents, ents_cnt, ents_cnt, h.len]⟩
  apply Option.ext
  rintro ⟨k, i⟩
  rw [assoc_iff (by rw [ents, ents_keys]; exact h.val.nd), assoc_iff (by rw [ents, ents_keys]; exact h.valid.nd), ents, ents, ents_mem, ents_mem, List.nil_append, List.nil_append]
  have h1 := h.at k i
  have key : ∀ {a b : Option DcD}, a.map DcD.name = b.map DcD.name → (∃ d, a = some d ∧ d.name = s ∧ (kindF [] k).length ≤ i) → ∃ d, b = some d ∧ d.name = s ∧ (kindF [] k).length ≤ i := by
    rintro a b hab ⟨d, rfl, h2, h3⟩
    cases b with
    | none => cases hab
    | some d' =>
      simp only [Option.map_some, Option.some.injEq] at hab
      exact ⟨d', rfl, hab.symm.trans h2, h3⟩
  exact ⟨key h1.symm, key h1⟩
theorem same_blocks2 : ∀ (ks ks' : List BkD) {a b a' : Nms}, ks'.map BkD.name = ks.map BkD.name → SameN a b → blocksD ks a = .ok a' → ∃ b', blocksD ks' b = .ok b' ∧ SameN a' b'
  | [], ks', a, b, a', hn, h, hd => by
    obtain rfl : ks' = [] := by simpa using hn
    simp only [blocksD, Except.ok.injEq] at hd
    subst hd
    exact ⟨b, rfl, h⟩
  | k :: ks, ks', a, b, a', hn, h, hd => by
    cases ks' with
    | nil => cases hn
    | cons k' ks' =>
      simp only [List.map_cons, List.cons.injEq] at hn
      unfold blocksD at hd
      split at hd
      · cases hd
      · rename_i t ht
        obtain ⟨t', h1, h2⟩ := same_decl h ht
        obtain ⟨b', h3, h4⟩ := same_blocks2 ks ks' hn.2 h2 hd
        refine ⟨b', ?_, h4⟩
        obtain ⟨g1, g2, g3, rfl⟩ := declD_ok h1
        unfold blocksD
        rw [hn.1, declD_mk g1 g2 g3]
        exact h3
def cntI (l : List ItD) : Nat := (l.filter fun x => decide (x.op ≠ 0)).length
theorem cntI_cons (x : ItD) (l : List ItD) : cntI (x :: l) = (if x.op = 0 then 0 else 1) + cntI l := by
  unfold cntI
  by_cases h : x.op = 0
  · simp [h]
  · simp [h]
    omega
theorem ways_lt : ∀ (l : List ItD) (n : Nat) (b : List (ByteArray × Nat)) (o : Option (Int × Int)) {r : List (ByteArray × Nat)}, waysGo l n b o = .ok r → (o ≠ none → 0 < cntI l) ∧ ∀ e ∈ r, e ∈ b ∨ e.2 < n + cntI l
  | [], n, b, none, r, h => by
    simp only [waysGo, Except.ok.injEq] at h
    subst h
    exact ⟨fun h => absurd rfl h, fun e he => .inl he⟩
  | [], n, b, some q, r, h => by simp [waysGo] at h
  | x :: l, n, b, o, r, h => by
    unfold waysGo at h
    rw [cntI_cons]
    split at h
    · cases h
    · split at h
      · rename_i h2
        have ih := ways_lt l _ _ _ h
        rw [if_neg h2]
        exact ⟨fun _ => by omega, fun e he => (ih.2 e he).imp id fun h => by omega⟩
      · rename_i h2
        have h0 : x.op = 0 := by simpa using h2
        rw [if_pos h0]
        split at h
        · cases h
        · have ih := ways_lt l _ _ _ h
          have hp := ih.1 (by simp)
          refine ⟨fun _ => by omega, fun e he => ?_⟩
          rcases ih.2 e he with h3 | h3
          · rcases List.mem_append.1 h3 with h3 | h3
            · exact .inl h3
            · simp only [List.mem_singleton] at h3
              subst h3
              exact .inr (by simp only; omega)
          · exact .inr (by omega)
theorem code_cnt {st : Nms} {b : List (ByteArray × Nat)} : ∀ (l : List ItD) (all : Nat) (c : List InsD) (ps : List PlcD) {r : Nat × List InsD × List PlcD}, codeGo st b l all c ps = .ok r → r.1 = all + cntI l ∧ r.2.1.length = c.length + cntI l ∧ (all ≤ 262144 → r.1 ≤ 262144) ∧ (c.length ≤ 4096 → r.2.1.length ≤ 4096) ∧
    ∀ x ∈ r.2.1, x ∈ c ∨ ∃ y ∈ l, y.op ≠ 0 ∧ targD st b y = .ok x.n ∧ x.op = y.op ∧ x.a = y.a ∧ x.b = y.b ∧ x.c = y.c
  | [], all, c, ps, r, h => by
    simp only [codeGo, Except.ok.injEq] at h
    subst h
    exact ⟨rfl, rfl, id, id, fun x hx => .inl hx⟩
  | y :: l, all, c, ps, r, h => by
    unfold codeGo at h
    rw [cntI_cons]
    split at h
    · rename_i h0
      have ih := code_cnt l _ _ _ h
      rw [if_pos h0, Nat.zero_add]
      exact ⟨ih.1, ih.2.1, ih.2.2.1, ih.2.2.2.1, fun x hx => (ih.2.2.2.2 x hx).imp id fun ⟨z, hz, h⟩ => ⟨z, List.mem_cons_of_mem _ hz, h⟩⟩
    · rename_i h0
      rw [if_neg h0]
      split at h
      · cases h
      · rename_i h1
        split at h
        · cases h
        · rename_i n hn
          have ih := code_cnt l _ _ _ h
          simp only [List.length_append, List.length_cons, List.length_nil] at ih
          refine ⟨by omega, by omega, fun _ => ih.2.2.1 (by omega), fun _ => ih.2.2.2.1 (by omega), fun x hx => ?_⟩
          rcases ih.2.2.2.2 x hx with hx | ⟨z, hz, h⟩
          · rcases List.mem_append.1 hx with hx | hx
            · exact .inl hx
            · simp only [List.mem_singleton] at hx
              subst hx
              exact .inr ⟨y, List.mem_cons_self .., h0, hn, rfl, rfl, rfl, rfl⟩
          · exact .inr ⟨z, List.mem_cons_of_mem _ hz, h⟩
theorem thrs_facts {st : Nms} : ∀ (ks : List BkD) (all : Nat) (ts : List ThrD) {r : List ThrD}, thrsD st ks all ts = .ok r → all ≤ 262144 →
    r.map ThrD.name = ts.map ThrD.name ++ ks.map BkD.name ∧ all + (r.map fun t => t.code.length).sum ≤ 262144 + (ts.map fun t => t.code.length).sum ∧ ∀ t ∈ r, t ∈ ts ∨ ∃ k ∈ ks, ∃ a, ∃ q, thrD st a k = .ok q ∧ q.2 = t
  | [], all, ts, r, h, ha => by
    simp only [thrsD, Except.ok.injEq] at h
    subst h
    exact ⟨by simp, by omega, fun t ht => .inl ht⟩
  | k :: ks, all, ts, r, h, ha => by
    unfold thrsD at h
    split at h
    · cases h
    · rename_i q hq
      have hq2 : q.2.name = k.name ∧ q.1 = all + q.2.code.length ∧ q.1 ≤ 262144 := by
        unfold thrD at hq
        split at hq
        · cases hq
        · split at hq
          · cases hq
          · rename_i r2 hr2
            cases hq
            have h9 := code_cnt _ _ _ _ hr2
            simp only [List.length_nil] at h9
            exact ⟨rfl, by simp only; omega, h9.2.2.1 ha⟩
      have ih := thrs_facts ks _ _ h hq2.2.2
      simp only [List.map_append, List.map_cons, List.map_nil, List.sum_append, List.sum_cons, List.sum_nil] at ih
      refine ⟨by rw [ih.1, hq2.1]; simp, by omega, fun t ht => ?_⟩
      rcases ih.2.2 t ht with h3 | ⟨k', hk', h3⟩
      · rcases List.mem_append.1 h3 with h3 | h3
        · exact .inl h3
        · simp only [List.mem_singleton] at h3
          subst h3
          exact .inr ⟨k, List.mem_cons_self .., _, _, hq, rfl⟩
      · exact .inr ⟨k', List.mem_cons_of_mem _ hk', h3⟩
theorem assoc_mem {α : Type} {l : List (ByteArray × α)} {s : ByteArray} {v : α} (h : assoc l s = some v) : (s, v) ∈ l := by
  unfold assoc at h
  obtain ⟨e, he, rfl⟩ := Option.map_eq_some_iff.1 h
  have h1 := List.find?_some he
  have h2 := List.mem_of_find?_eq_some he
  simp only [decide_eq_true_eq] at h1
  rw [← h1]
  exact h2
/-- What was built is of the kind that has a unit. -/
theorem built_good {u : UnD} {p : PrgD} (h : progD u = .ok p) : GoodP p := by
  obtain ⟨q, st, ts, h1, h2, h3, rfl⟩ := prog_parts h
  obtain ⟨hv, rfl⟩ := decls_ents u.decls [] ⟨by simp, by simp, fun s => by simp [kindF]⟩ h1
  rw [List.nil_append] at hv h2
  simp only at h2 h3
  have hB : BuiltD u.decls { parts ([] ++ u.decls) with thrs := ts } := ⟨hv, rfl, rfl, rfl, rfl⟩
  obtain ⟨hnm, hsum, hfrom⟩ := thrs_facts u.blocks 0 [] h3 (by omega)
  obtain ⟨m, rfl, hm, hnd, hat⟩ := blocks_st u.blocks h2 (by rw [ents, ents_keys]; exact hv.nd)
  have hcnt5 : cntS (ents u.decls) 5 = 0 := by rw [ents, ents_cnt, kind_out hv.ok (by omega)]; rfl
  have hname : ∀ nm s i, assoc (ents u.decls ++ m) nm = some (s, i) → nameD { parts ([] ++ u.decls) with thrs := ts } s (i : Int) = some nm := by
    intro nm s i ha
    have hmem := assoc_mem ha
    have hneg : ¬ ((i : Int) < 0) := by omega
    rcases List.mem_append.1 hmem with hmem | hmem
    · rw [ents, ents_mem, List.nil_append] at hmem
      obtain ⟨d, hd, hdn, _⟩ := hmem
      simp only at hd hdn
      have hdm : d ∈ u.decls ∧ d.kind = s := by
        have := List.mem_filter.1 (List.mem_of_getElem? hd)
        exact ⟨this.1, by simpa using this.2⟩
      have hk := (hv.ok d hdm.1).2.2
      unfold nameD
      rw [if_neg hneg]
      simp only [Int.toNat_natCast, List.nil_append, parts]
      by_cases h1 : s = 1
      · subst h1
        rw [if_pos rfl, List.getElem?_map, hd]
        simp [toV, hdn]
      · by_cases h2 : s = 2
        · subst h2
          rw [if_neg h1, if_pos rfl, List.getElem?_map, hd]
          simp [toV, hdn]
        · by_cases h3 : s = 3
          · subst h3
            rw [if_neg h1, if_neg h2, if_pos rfl, List.getElem?_map, hd]
            simp [hdn]
          · have h4 : s = 4 := by omega
            subst h4
            rw [if_neg h1, if_neg h2, if_neg h3, if_pos rfl, List.getElem?_map, hd]
            simp [toV, hdn]
    · obtain ⟨j, hj, he⟩ := List.mem_iff_getElem.1 hmem
      have hju : j < u.blocks.length := by rw [← hm]; exact hj
      have h9 := hat j hju
      rw [List.getElem?_eq_getElem hj, he, hcnt5, Nat.zero_add] at h9
      simp only [Option.some.injEq, Prod.mk.injEq] at h9
      obtain ⟨rfl, rfl, rfl⟩ := h9
      have h8 := congrArg (fun l : List ByteArray => l[i]?) hnm
      simp only [List.map_nil, List.nil_append, List.getElem?_map, List.getElem?_eq_getElem hju, Option.map_some] at h8
      unfold nameD
      rw [if_neg hneg, if_neg (by omega), if_neg (by omega), if_neg (by omega), if_neg (by omega), if_pos rfl]
      simp only [Int.toNat_natCast]
      exact h8
  refine ⟨hB.valid, fun ks hks => ?_, fun t ht => ?_, fun t ht => ?_, by simpa using hsum⟩
  · obtain ⟨b', h4, _⟩ := same_blocks2 u.blocks ks (by rw [hks]; simpa using hnm) hB.same h2
    exact ⟨b', h4⟩
  · rcases hfrom t ht with h4 | ⟨k, hk, a, q, hq, rfl⟩
    · cases h4
    · unfold thrD at hq
      split at hq
      · cases hq
      · rename_i b hb
        split at hq
        · cases hq
        · rename_i r hr
          cases hq
          have hc := code_cnt _ _ _ _ hr
          simp only [List.length_nil, Nat.zero_add] at hc
          have hw := (ways_lt k.items 0 [] none hb).2
          have hlk := ways_look k.items 0 [] none hb
          have hxy : ∀ x ∈ r.2.1, ∃ y ∈ k.items, y.op ≠ 0 ∧ targD (ents u.decls ++ m) b y = .ok x.n ∧ x.op = y.op ∧ x.a = y.a ∧ x.b = y.b ∧ x.c = y.c := fun x hx => by
            rcases hc.2.2.2.2 x hx with h5 | h5
            · cases h5
            · exact h5
          refine ⟨fun x hx h6 => ?_, fun it x hx => ?_⟩
          · obtain ⟨y, hy, hy0, hty, ho, _⟩ := hxy x hx
            rw [ho] at h6
            unfold targD at hty
            rw [if_neg (by omega), if_pos h6] at hty
            split at hty
            · cases hty
            · rename_i n hn
              simp only [Except.ok.injEq] at hty
              have h7 := (hw _ (assoc_mem hn)).resolve_left (by simp)
              simp only at h7 ⊢
              omega
          · obtain ⟨y, hy, hy0, hty, ho, ha, hb2, hc2⟩ := hxy x hx
            have hly := hlk y hy
            unfold lookB at hly
            rw [if_neg hy0] at hly
            simp only [Bool.and_eq_true, Bool.or_eq_true, decide_eq_true_eq] at hly
            unfold itemD
            rw [ho, ha, hb2, hc2, if_neg (by rw [hly.1.1]; simp)]
            by_cases h1 : y.op = 1
            · rw [if_pos h1]
              exact ⟨_, rfl⟩
            · rw [if_neg h1]
              by_cases h6 : touchB y.op = 6
              · rw [if_pos h6]
                exact ⟨_, rfl⟩
              · rw [if_neg h6]
                unfold targD at hty
                by_cases h0 : touchB y.op = 0
                · rw [if_pos h0] at hty
                  rw [if_neg (by omega)]
                  simp only [Except.ok.injEq] at hty
                  have hn0 : y.n = 0 := hly.1.2.resolve_right h1
                  rw [if_pos (by omega)]
                  exact ⟨_, rfl⟩
                · rw [if_neg h0, if_neg h6] at hty
                  rw [if_pos h0]
                  split at hty
                  · cases hty
                  · rename_i e he
                    split at hty
                    · cases hty
                    · rename_i he2
                      have he3 : e.1 = touchB y.op := by simpa using he2
                      simp only [Except.ok.injEq] at hty
                      obtain ⟨es, ei⟩ := e
                      simp only at he3 hty
                      rw [← he3, ← hty, hname _ _ _ he]
                      exact ⟨_, rfl⟩
  · rcases hfrom t ht with h4 | ⟨k, hk, a, q, hq, rfl⟩
    · cases h4
    · unfold thrD at hq
      split at hq
      · cases hq
      · split at hq
        · cases hq
        · rename_i r hr
          cases hq
          exact (code_cnt _ _ _ _ hr).2.2.2.1 (by simp)
theorem name_bare (p : PrgD) (s n : Int) : nameD (bareZ p) s n = nameD p s n := by
  unfold nameD bareZ
  simp only [List.getElem?_map, Option.map_map]
  rfl
theorem item_bare (it : Nat → ByteArray) (p : PrgD) (code : List InsD) (x : InsD) : itemD it (bareZ p) code x = itemD it p code x := by
  unfold itemD
  simp only [name_bare]
theorem items_bare (it : Nat → ByteArray) (p : PrgD) (code : List InsD) : ∀ (rs : List InsD) (i : Nat), itemsGo it (bareZ p) code i rs = itemsGo it p code i rs
  | [], i => rfl
  | x :: rs, i => by
    unfold itemsGo
    rw [item_bare, items_bare it p code rs]
theorem blocks_bare (it : Nat → ByteArray) (p : PrgD) : ∀ rs : List ThrD, blocksOf it (bareZ p) (rs.map bareT) = blocksOf it p rs
  | [] => rfl
  | t :: rs => by
    rw [List.map_cons]
    unfold blocksOf
    have h1 : blockD it (bareZ p) (bareT t) = blockD it p t := by
      unfold blockD
      rw [show (bareT t).code = t.code from rfl, show (bareT t).name = t.name from rfl, items_bare]
    rw [h1, blocks_bare it p rs]
/-- Places say nothing in a program's unit. -/
theorem unit_bare (it : Nat → ByteArray) (p : PrgD) : unitD it (bareZ p) = unitD it p := by
  unfold unitD
  rw [show (bareZ p).thrs = p.thrs.map bareT from rfl, blocks_bare]
  rfl
end Go.Proofs.YtaknmhipaifdkaaDoor
