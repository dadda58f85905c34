/- Units and programs, plain: declarations in another order, labels doubled: the same program. No program in sight. -/
import Derived.Test.YtaknmhipaifdkaaDoorJo
import Derived.Test.YtaknmhipaifdkaaDoorJr
set_option linter.unusedSimpArgs false
set_option linter.unusedSectionVars false
namespace Go.Proofs.YtaknmhipaifdkaaDoor
open Go.RowKit Go.AB
set_option linter.unusedVariables false
set_option linter.unusedSimpArgs false

/-! Declarations. -/
abbrev kindF (ds : List DcD) (s : Int) : List DcD := ds.filter fun d => decide (d.kind = s)
def okD (d : DcD) : Prop := nameB d.name = true ∧ ¬ (d.kind = 3 ∧ d.val ≠ 0) ∧ (d.kind = 1 ∨ d.kind = 2 ∨ d.kind = 3 ∨ d.kind = 4)
structure Valid (ds : List DcD) : Prop where
  ok : ∀ d ∈ ds, okD d
  nd : (ds.map DcD.name).Nodup
  cnt : ∀ s, (kindF ds s).length ≤ 4096
def entsGo (done : List DcD) : List DcD → Nms
  | [] => []
  | d :: r => (d.name, (d.kind, (kindF done d.kind).length)) :: entsGo (done ++ [d]) r
def ents (ds : List DcD) : Nms := entsGo [] ds
def toV (d : DcD) : VarD := ⟨d.name, d.val⟩
def parts (ds : List DcD) : PrgD := ⟨(kindF ds 1).map toV, (kindF ds 2).map toV, (kindF ds 3).map DcD.name, (kindF ds 4).map toV, []⟩
theorem kind_app (a b : List DcD) (s : Int) : kindF (a ++ b) s = kindF a s ++ kindF b s := List.filter_append ..
theorem kind_one (d : DcD) (s : Int) : kindF [d] s = if d.kind = s then [d] else [] := by
  by_cases h : d.kind = s <;> simp [kindF, h]
theorem ents_app : ∀ (r done : List DcD) (d : DcD), entsGo done (r ++ [d]) = entsGo done r ++ [(d.name, (d.kind, (kindF (done ++ r) d.kind).length))]
  | [], done, d => by simp [entsGo]
  | x :: r, done, d => by
    rw [List.cons_append, entsGo, ents_app r, entsGo, List.append_assoc]
    rfl
theorem ents_keys : ∀ (r done : List DcD), (entsGo done r).map Prod.fst = r.map DcD.name
  | [], done => rfl
  | x :: r, done => by rw [entsGo, List.map_cons, ents_keys r, List.map_cons]
theorem ents_cnt : ∀ (r done : List DcD) (s : Int), cntS (entsGo done r) s = (kindF r s).length
  | [], done, s => rfl
  | x :: r, done, s => by
    rw [entsGo, cnt_cons, ents_cnt r]
    by_cases h : x.kind = s
    · simp [kindF, h]
    · simp [kindF, h]
theorem ents_mem : ∀ (r done : List DcD) (e : ByteArray × (Int × Nat)), e ∈ entsGo done r ↔ ∃ d, (kindF (done ++ r) e.2.1)[e.2.2]? = some d ∧ d.name = e.1 ∧ (kindF done e.2.1).length ≤ e.2.2
  | [], done, e => by
    simp only [entsGo, List.not_mem_nil, List.append_nil, false_iff, not_exists]
    intro d h
    have := List.getElem?_eq_none h.2.2
    rw [this] at h
    cases h.1
  | x :: r, done, e => by
    rw [entsGo, List.mem_cons, ents_mem r (done ++ [x]) e, List.append_assoc, List.singleton_append]
    obtain ⟨nm, s, i⟩ := e
    simp only
    rw [kind_app done [x], kind_one]
    by_cases h : x.kind = s
    · subst h
      rw [if_pos rfl, List.length_append]
      simp only [List.length_cons, List.length_nil, Nat.zero_add]
      have hat : (kindF (done ++ x :: r) x.kind)[(kindF done x.kind).length]? = some x := by
        rw [kind_app, List.getElem?_append_right (Nat.le_refl _), Nat.sub_self]
        simp [kindF]
      constructor
      · rintro (h | ⟨d, h1, h2, h3⟩)
        · simp only [Prod.mk.injEq] at h
          obtain ⟨rfl, _, rfl⟩ := h
          exact ⟨x, hat, rfl, Nat.le_refl _⟩
        · exact ⟨d, h1, h2, by omega⟩
      · rintro ⟨d, h1, h2, h3⟩
        by_cases hi : i = (kindF done x.kind).length
        · subst hi
          rw [hat] at h1
          cases h1
          exact .inl (by rw [h2])
        · exact .inr ⟨d, h1, h2, by omega⟩
    · rw [if_neg h, List.append_nil]
      constructor
      · rintro (h' | h')
        · simp only [Prod.mk.injEq] at h'
          exact absurd h'.2.1.symm h
        · exact h'
      · exact .inr
theorem put_parts (done : List DcD) (d : DcD) (h : okD d) : dcPut (parts done) d = parts (done ++ [d]) := by
  unfold dcPut parts
  simp only [kind_app, kind_one]
  rcases h.2.2 with h | h | h | h <;> simp [h, toV]
theorem decls_ents : ∀ (r done : List DcD) {q : Nms × PrgD}, Valid done → declsD r (ents done) (parts done) = .ok q → Valid (done ++ r) ∧ q = (ents (done ++ r), parts (done ++ r))
  | [], done, q, hv, h => by
    simp only [declsD, Except.ok.injEq] at h
    subst h
    rw [List.append_nil]
    exact ⟨hv, rfl⟩
  | d :: r, done, q, hv, h => by
    unfold declsD at h
    split at h
    · cases h
    · rename_i t ht
      obtain ⟨h1, h2, h3, h4⟩ := declnD_ok ht
      obtain ⟨g1, g2, g3, g4⟩ := declD_ok h3
      have hok : okD d := ⟨g1, h1, h2⟩
      have hv2 : Valid (done ++ [d]) := by
        refine ⟨fun x hx => ?_, ?_, fun s => ?_⟩
        · rcases List.mem_append.1 hx with hx | hx
          · exact hv.ok x hx
          · simp only [List.mem_singleton] at hx
            subst hx
            exact hok
        · rw [List.map_append, List.nodup_append]
          refine ⟨hv.nd, by simp, fun a ha b hb e => ?_⟩
          simp only [List.map_cons, List.map_nil, List.mem_singleton] at hb
          subst hb
          rw [assoc_none, ents, ents_keys] at g2
          exact g2 a ha e
        · rw [kind_app, kind_one]
          by_cases hs : d.kind = s
          · subst hs
            rw [ents, ents_cnt] at g3
            rw [if_pos rfl, List.length_append]
            simp only [List.length_cons, List.length_nil]
            omega
          · rw [if_neg hs, List.append_nil]
            exact hv.cnt s
      have e1 : t.1 = ents (done ++ [d]) := by
        rw [g4, ents, ents, ents_app, ents_cnt, List.nil_append]
      rw [e1, h4, put_parts done d hok] at h
      have := decls_ents r (done ++ [d]) hv2 h
      rwa [List.append_assoc] at this
theorem ents_decls : ∀ (r done : List DcD), Valid (done ++ r) → declsD r (ents done) (parts done) = .ok (ents (done ++ r), parts (done ++ r))
  | [], done, hv => by rw [List.append_nil]; rfl
  | d :: r, done, hv => by
    have hok := hv.ok d (by simp)
    have hnd := hv.nd
    rw [List.map_append, List.nodup_append] at hnd
    have h2 : assoc (ents done) d.name = none := by
      rw [assoc_none, ents, ents_keys]
      exact fun k hk e => hnd.2.2 k hk d.name (by simp) e
    have h3 : (cntS (ents done) d.kind : Int) < 4096 := by
      have := hv.cnt d.kind
      rw [kind_app, List.length_append] at this
      rw [ents, ents_cnt]
      have h9 : 0 < (kindF (d :: r) d.kind).length := by simp [kindF]
      omega
    unfold declsD declnD
    rw [if_neg hok.2.1, if_pos hok.2.2, declD_mk hok.1 h2 h3]
    simp only
    rw [put_parts done d hok, show ents done ++ [(d.name, (d.kind, cntS (ents done) d.kind))] = ents (done ++ [d]) from by rw [ents, ents, ents_app, ents_cnt, List.nil_append]]
    have := ents_decls r (done ++ [d]) (by rwa [List.append_assoc])
    rwa [List.append_assoc] at this
theorem kind_kind (ds : List DcD) (s t : Int) : kindF (kindF ds s) t = if s = t then kindF ds s else [] := by
  unfold kindF
  rw [List.filter_filter]
  by_cases h : s = t
  · subst h
    rw [if_pos rfl]
    congr 1
    funext d
    simp
  · rw [if_neg h, List.filter_eq_nil_iff]
    intro d _
    simp only [Bool.and_eq_true, decide_eq_true_eq]
    omega
theorem sort_kind {ds : List DcD} (h : ∀ d ∈ ds, okD d) (s : Int) : kindF (sortD ds) s = kindF ds s := by
  have e : sortD ds = kindF ds 4 ++ kindF ds 3 ++ kindF ds 2 ++ kindF ds 1 := by
    unfold sortD hiD hiD hiD hiD hiD
    rfl
  rw [e, kind_app, kind_app, kind_app, kind_kind, kind_kind, kind_kind, kind_kind]
  by_cases h1 : s = 1
  · subst h1; simp
  · by_cases h2 : s = 2
    · subst h2; simp
    · by_cases h3 : s = 3
      · subst h3; simp
      · by_cases h4 : s = 4
        · subst h4; simp
        · rw [if_neg (by omega), if_neg (by omega), if_neg (by omega), if_neg (by omega)]
          symm
          simp only [List.append_nil]
          rw [List.filter_eq_nil_iff]
          intro d hd
          simp only [decide_eq_true_eq]
          have := (h d hd).2.2
          omega
theorem sort_mem {ds : List DcD} (d : DcD) (h : d ∈ sortD ds) : d ∈ ds := by
  have e : sortD ds = kindF ds 4 ++ kindF ds 3 ++ kindF ds 2 ++ kindF ds 1 := by
    unfold sortD hiD hiD hiD hiD hiD
    rfl
  rw [e] at h
  simp only [List.mem_append, kindF, List.mem_filter] at h
  rcases h with ((h | h) | h) | h <;> exact h.1
theorem sort_perm {ds : List DcD} (h : ∀ d ∈ ds, okD d) : (sortD ds).Perm ds := by
  have e : sortD ds = kindF ds 4 ++ kindF ds 3 ++ kindF ds 2 ++ kindF ds 1 := by
    unfold sortD hiD hiD hiD hiD hiD
    rfl
  rw [e]
  clear e
  induction ds with
  | nil => exact List.Perm.refl _
  | cons d ds ih =>
    have ih := ih (fun x hx => h x (List.mem_cons_of_mem _ hx))
    have hk := (h d (List.mem_cons_self ..)).2.2
    have hc : ∀ s, kindF (d :: ds) s = if d.kind = s then d :: kindF ds s else kindF ds s := fun s => by
      by_cases hs : d.kind = s <;> simp [kindF, hs]
    simp only [hc]
    rcases hk with hk | hk | hk | hk
    · simp only [hk]
      simp only [show ¬ ((1 : Int) = 4) from by omega, show ¬ ((1 : Int) = 3) from by omega, show ¬ ((1 : Int) = 2) from by omega, if_false, if_true]
      exact List.perm_middle.trans (ih.cons d)
    · simp only [hk]
      simp only [show ¬ ((2 : Int) = 4) from by omega, show ¬ ((2 : Int) = 3) from by omega, show ¬ ((2 : Int) = 1) from by omega, if_false, if_true]
      exact (List.perm_middle.append_right _).trans (ih.cons d)
    · simp only [hk]
      simp only [show ¬ ((3 : Int) = 4) from by omega, show ¬ ((3 : Int) = 2) from by omega, show ¬ ((3 : Int) = 1) from by omega, if_false, if_true]
      exact ((List.perm_middle.append_right _).append_right _).trans (ih.cons d)
    · simp only [hk]
      simp only [show ¬ ((4 : Int) = 3) from by omega, show ¬ ((4 : Int) = 2) from by omega, show ¬ ((4 : Int) = 1) from by omega, if_false, if_true]
      exact ih.cons d
theorem sort_valid {ds : List DcD} (h : Valid ds) : Valid (sortD ds) := by
  refine ⟨fun d hd => h.ok d (sort_mem d hd), ?_, fun s => ?_⟩
  · exact (List.Perm.nodup_iff ((sort_perm h.ok).map DcD.name)).2 h.nd
  · rw [sort_kind h.ok]
    exact h.cnt s
/-- Two lists of names that answer alike. -/
structure SameN (a b : Nms) : Prop where
  assoc : ∀ s, assoc a s = assoc b s
  cnt : ∀ s, cntS a s = cntS b s
theorem assoc_iff {α : Type} : ∀ {l : List (ByteArray × α)}, (l.map Prod.fst).Nodup → ∀ (s : ByteArray) (v : α), assoc l s = some v ↔ (s, v) ∈ l
  | [], _, s, v => by simp [assoc]
  | e :: l, hn, s, v => by
    rw [List.map_cons, List.nodup_cons] at hn
    have ih := assoc_iff hn.2 s v
    by_cases h : e.1 = s
    · have h1 : assoc (e :: l) s = some e.2 := by unfold assoc; simp [h]
      rw [h1, List.mem_cons]
      constructor
      · rintro ⟨⟩
        exact .inl (by rw [← h])
      · rintro (h2 | h2)
        · rw [← h2]
        · exact absurd (List.mem_map.2 ⟨_, h2, rfl⟩) (by rw [h] at hn; exact hn.1)
    · have h1 : assoc (e :: l) s = assoc l s := by unfold assoc; simp [h]
      rw [h1, ih, List.mem_cons]
      exact ⟨.inr, fun h2 => h2.elim (fun h3 => absurd (by rw [← h3]) h) id⟩
theorem sort_same {ds : List DcD} (h : Valid ds) : SameN (ents ds) (ents (sortD ds)) := by
  refine ⟨fun s => ?_, fun s => by rw [ents, ents, ents_cnt, ents_cnt, sort_kind h.ok]⟩
  apply Option.ext
  intro v
  rw [assoc_iff (by rw [ents, ents_keys]; exact h.nd), assoc_iff (by rw [ents, ents_keys]; exact (sort_valid h).nd), ents, ents, ents_mem, ents_mem, List.nil_append, List.nil_append, sort_kind h.ok]
theorem sort_parts {ds : List DcD} (h : Valid ds) : parts (sortD ds) = parts ds := by
  unfold parts
  simp only [sort_kind h.ok]
theorem same_decl {a b a' : Nms} (h : SameN a b) {nm : ByteArray} {s most l c : Int} (hd : declD a nm s most l c = .ok a') : ∃ b', declD b nm s most l c = .ok b' ∧ SameN a' b' := by
  obtain ⟨h1, h2, h3, rfl⟩ := declD_ok hd
  refine ⟨_, declD_mk h1 (by rw [← h.assoc]; exact h2) (by rw [← h.cnt]; exact h3) l c, fun t => ?_, fun t => ?_⟩
  · rw [assoc_app, assoc_app, h.assoc, h.cnt]
  · have := h.cnt t
    rw [h.cnt s]
    unfold cntS at this ⊢
    rw [List.filter_append, List.filter_append, List.length_append, List.length_append, this]
theorem same_blocks : ∀ (ks : List BkD) {a b a' : Nms}, SameN a b → blocksD ks a = .ok a' → ∃ b', blocksD ks b = .ok b' ∧ SameN a' b'
  | [], a, b, a', h, hd => by
    simp only [blocksD, Except.ok.injEq] at hd
    subst hd
    exact ⟨b, rfl, h⟩
  | k :: ks, a, b, a', h, hd => by
    unfold blocksD at hd
    split at hd
    · cases hd
    · rename_i t ht
      obtain ⟨t', h1, h2⟩ := same_decl h ht
      obtain ⟨b', h3, h4⟩ := same_blocks ks h2 hd
      refine ⟨b', ?_, h4⟩
      unfold blocksD
      rw [h1]
      exact h3

/-! Labels. -/
def PlainN (s : ByteArray) : Prop := ¬ (1 < s.size ∧ s.extract 0 2 = yU)
theorem yU_data (s : ByteArray) : (yU ++ s).data.toList = 121 :: 95 :: s.data.toList := by
  have h : (yU ++ s).data = yU.data ++ s.data := ByteArray.data_append ..
  rw [h]
  simp [yU]
theorem yU_size (s : ByteArray) : (yU ++ s).size = s.size + 2 := by
  have h := congrArg List.length (yU_data s)
  simp only [Array.length_toList, List.length_cons] at h
  exact h
theorem yU_inj {a b : ByteArray} : yU ++ a = yU ++ b ↔ a = b := by
  refine ⟨fun h => ba_ext ?_, fun h => by rw [h]⟩
  have h1 := congrArg (fun s : ByteArray => s.data.toList) h
  simp only [yU_data, List.cons.injEq, true_and] at h1
  exact h1
theorem plain_ne {s t : ByteArray} (h : PlainN s) : s ≠ yU ++ t := by
  rintro rfl
  refine h ⟨by rw [yU_size]; omega, ?_⟩
  apply ba_ext
  rw [ByteArray.data_extract]
  have h2 : (yU ++ t).data = yU.data ++ t.data := ByteArray.data_append ..
  rw [h2]
  simp [yU]
theorem yU_name {s : ByteArray} (h : nameB s = true) (hs : s.size ≤ 22) : nameB (yU ++ s) = true := by
  unfold nameB at h ⊢
  rw [yU_data]
  have hl : s.data.toList.length ≤ 22 := by rw [Array.length_toList]; exact hs
  generalize s.data.toList = l at h hl
  cases l with
  | nil => simp [nameL] at h
  | cons x r =>
    simp only [nameL, Bool.and_eq_true, decide_eq_true_eq, List.all_cons, List.length_cons] at h hl ⊢
    refine ⟨⟨by omega, by decide⟩, by decide, ?_, h.2⟩
    unfold isNameC
    rw [h.1.2]
    simp
/-- Each label once more, with y_ ahead. -/
def dd (b : List (ByteArray × Nat)) : List (ByteArray × Nat) := b.flatMap fun e => [(e.1, e.2), (yU ++ e.1, e.2)]
theorem dd_app (a b : List (ByteArray × Nat)) : dd (a ++ b) = dd a ++ dd b := List.flatMap_append ..
theorem dd_plain : ∀ (b : List (ByteArray × Nat)) {s : ByteArray}, PlainN s → assoc (dd b) s = assoc b s
  | [], s, h => rfl
  | e :: b, s, h => by
    have ih := dd_plain b h
    rw [show dd (e :: b) = [(e.1, e.2)] ++ ([(yU ++ e.1, e.2)] ++ dd b) from rfl, show e :: b = [(e.1, e.2)] ++ b from rfl, assoc_app, assoc_app, assoc_app, ih, assoc_one (yU ++ e.1), if_neg (fun h2 => plain_ne h h2.symm)]
    rfl
theorem dd_y : ∀ (b : List (ByteArray × Nat)) {s : ByteArray}, (∀ k ∈ b.map Prod.fst, PlainN k) → assoc (dd b) (yU ++ s) = assoc b s
  | [], s, h => rfl
  | e :: b, s, h => by
    have ih := dd_y b (s := s) (fun k hk => h k (by simp at hk ⊢; exact .inr hk))
    rw [show dd (e :: b) = [(e.1, e.2)] ++ ([(yU ++ e.1, e.2)] ++ dd b) from rfl, show e :: b = [(e.1, e.2)] ++ b from rfl, assoc_app, assoc_app, assoc_app, ih, assoc_one e.1, if_neg (fun h2 => plain_ne (h e.1 (by simp)) h2), assoc_one (yU ++ e.1), assoc_one e.1]
    by_cases he : e.1 = s
    · rw [if_pos (by rw [he]), if_pos he]
      rfl
    · rw [if_neg (fun h2 => he (yU_inj.1 h2)), if_neg he]
      rfl
def dblGo : Nat → List ItD → List ItD
  | _, [] => []
  | i, x :: l => dblAt i x ++ dblGo (i + 1) l
theorem dblTo_go (l : List ItD) : ∀ i, i ≤ l.length → dblTo l i ++ dblGo i (l.drop i) = dblGo 0 l
  | 0, _ => rfl
  | i + 1, h => by
    have ih := dblTo_go l i (by omega)
    rw [List.drop_eq_getElem_cons (show i < l.length by omega), dblGo, ← List.append_assoc, ← dblTo_succ l (by omega)] at ih
    exact ih
theorem dblTo_all (l : List ItD) : dblTo l l.length = dblGo 0 l := by
  have h := dblTo_go l l.length (Nat.le_refl _)
  rwa [List.drop_length, dblGo, List.append_nil] at h
theorem look_y {x : ItD} (h : lookB x = true) (hs : x.name.size ≤ 22) (hl : ledB x.op = true) : lookB (yItem x) = true := by
  obtain ⟨n0, n1, n2⟩ := look_name h
  unfold lookB at h ⊢
  rw [show (yItem x).op = x.op from rfl, show (yItem x).a = x.a from rfl, show (yItem x).b = x.b from rfl, show (yItem x).c = x.c from rfl, show (yItem x).n = x.n from rfl, show (yItem x).name = yU ++ x.name from rfl]
  by_cases h0 : x.op = 0
  · rw [if_pos h0, Bool.and_eq_true] at h ⊢
    exact ⟨h.1, yU_name h.2 hs⟩
  · have h6 := (led_touch h0).1 hl
    rw [if_neg h0, Bool.and_eq_true] at h ⊢
    refine ⟨h.1, ?_⟩
    rw [if_neg (by omega)]
    exact yU_name (n2 h0 (by omega)) hs
theorem not_bad {x : ItD} (h : ¬ BadL x) (hl : ledB x.op = true) : x.name.size ≤ 22 ∧ PlainN x.name := by
  refine ⟨?_, fun hp => h ⟨hl, .inr hp⟩⟩
  by_cases h2 : 22 < x.name.size
  · exact absurd ⟨hl, .inl h2⟩ h
  · omega
theorem led0 {op : Int} (h : op = 0) : ledB op = true := by simp [ledB, h]
theorem dbl_ways : ∀ (l : List ItD) (i n : Nat) (b : List (ByteArray × Nat)) (o : Option (Int × Int)) {r : List (ByteArray × Nat)}, (∀ x ∈ l, ¬ BadL x) → (∀ k ∈ b.map Prod.fst, PlainN k) → waysGo l n b o = .ok r → waysGo (dblGo i l) n (dd b) o = .ok (dd r)
  | [], i, n, b, none, r, hb, hk, h => by
    simp only [waysGo, Except.ok.injEq] at h
    subst h
    rfl
  | [], i, n, b, some q, r, hb, hk, h => by simp [waysGo] at h
  | x :: l, i, n, b, o, r, hb, hk, h => by
    have hx := hb x (List.mem_cons_self ..)
    have hl := fun y hy => hb y (List.mem_cons_of_mem x hy)
    unfold waysGo at h
    split at h
    · cases h
    · rename_i h1
      have h1' : lookB x = true := by simpa using h1
      split at h
      · rename_i h2
        have h0 : ¬ x.op = 0 := h2
        have ih := dbl_ways l (i + 1) _ _ none hl hk h
        rw [dblGo]
        by_cases hc : ledB x.op = true ∧ i % 2 = 0
        · rw [show dblAt i x = [yItem x] from by unfold dblAt; rw [if_neg h0, if_pos hc], List.singleton_append]
          unfold waysGo
          rw [if_neg (by rw [look_y h1' (not_bad hx hc.1).1 hc.1]; simp), show (yItem x).op = x.op from rfl, if_pos h2]
          exact ih
        · rw [show dblAt i x = [x] from by unfold dblAt; rw [if_neg h0, if_neg hc], List.singleton_append]
          unfold waysGo
          rw [if_neg h1, if_pos h2]
          exact ih
      · rename_i h2
        have h0 : x.op = 0 := by simpa using h2
        have hp := not_bad hx (led0 h0)
        split at h
        · cases h
        · rename_i h3
          have h3' : assoc b x.name = none := by simpa using h3
          have hk2 : ∀ k ∈ (b ++ [(x.name, n)]).map Prod.fst, PlainN k := by
            intro k hkm
            rw [List.map_append, List.mem_append] at hkm
            rcases hkm with hkm | hkm
            · exact hk k hkm
            · simp only [List.map_cons, List.map_nil, List.mem_singleton] at hkm
              subst hkm
              exact hp.2
          have ih := dbl_ways l (i + 1) _ _ (some (o.getD (x.p1, x.p2))) hl hk2 h
          rw [dblGo, show dblAt i x = [x, yItem x] from by unfold dblAt; rw [if_pos h0]]
          show waysGo (x :: yItem x :: dblGo (i + 1) l) n (dd b) o = _
          unfold waysGo
          rw [if_neg h1, if_neg h2, dd_plain b hp.2, if_neg h3]
          unfold waysGo
          have e1 : dd b ++ [(x.name, n)] ++ [(yU ++ x.name, n)] = dd (b ++ [(x.name, n)]) := by
            rw [dd_app, List.append_assoc]
            rfl
          have e2 : assoc (dd b ++ [(x.name, n)]) (yU ++ x.name) = none := by
            rw [assoc_app, dd_y b hk, h3', assoc_one, if_neg (plain_ne hp.2)]
            rfl
          rw [if_neg (by rw [look_y h1' hp.1 (led0 h0)]; simp), show (yItem x).op = x.op from rfl, if_neg h2, show (yItem x).name = yU ++ x.name from rfl, e2, if_neg (by simp), e1]
          exact ih
theorem ways_plain {l : List ItD} {b : List (ByteArray × Nat)} (hb : ∀ x ∈ l, ¬ BadL x) (h : waysD l = .ok b) : ∀ k ∈ b.map Prod.fst, PlainN k := by
  intro k hk
  rcases ways_keys l 0 [] none h k hk with h1 | ⟨x, hx, h0, h2⟩
  · cases h1
  · rw [← h2]
    exact (not_bad (hb x hx) (led0 h0)).2
theorem dbl_targ {st st' : Nms} {b : List (ByteArray × Nat)} {x : ItD} {n : Int} (hst : SameN st st') (hk : ∀ k ∈ b.map Prod.fst, PlainN k) (h0 : ¬ x.op = 0) (hx : ¬ BadL x) (h : targD st b x = .ok n) : targD st' (dd b) x = .ok n ∧ (ledB x.op = true → targD st' (dd b) (yItem x) = .ok n) := by
  unfold targD at h ⊢
  rw [show (yItem x).op = x.op from rfl, show (yItem x).n = x.n from rfl, show (yItem x).q1 = x.q1 from rfl, show (yItem x).q2 = x.q2 from rfl, show (yItem x).name = yU ++ x.name from rfl]
  by_cases h1 : touchB x.op = 0
  · rw [if_pos h1] at h
    rw [if_pos h1, if_pos h1]
    exact ⟨h, fun _ => h⟩
  · rw [if_neg h1] at h
    rw [if_neg h1, if_neg h1]
    by_cases h6 : touchB x.op = 6
    · rw [if_pos h6] at h
      rw [if_pos h6, if_pos h6, dd_y b hk, dd_plain b (not_bad hx ((led_touch h0).2 h6)).2]
      exact ⟨h, fun _ => h⟩
    · rw [if_neg h6] at h
      rw [if_neg h6, if_neg h6, ← hst.assoc]
      exact ⟨h, fun hl => absurd ((led_touch h0).1 hl) h6⟩
theorem dbl_code {st st' : Nms} {b : List (ByteArray × Nat)} (hst : SameN st st') (hk : ∀ k ∈ b.map Prod.fst, PlainN k) : ∀ (l : List ItD) (i all : Nat) (c : List InsD) (p : List PlcD) {r : Nat × List InsD × List PlcD}, (∀ x ∈ l, ¬ BadL x) → codeGo st b l all c p = .ok r → codeGo st' (dd b) (dblGo i l) all c p = .ok r
  | [], i, all, c, p, r, hb, h => h
  | x :: l, i, all, c, p, r, hb, h => by
    have hx := hb x (List.mem_cons_self ..)
    have hl := fun y hy => hb y (List.mem_cons_of_mem x hy)
    unfold codeGo at h
    rw [dblGo]
    by_cases h0 : x.op = 0
    · rw [if_pos h0] at h
      have ih := dbl_code hst hk l (i + 1) all c p hl h
      rw [show dblAt i x = [x, yItem x] from by unfold dblAt; rw [if_pos h0]]
      show codeGo st' (dd b) (x :: yItem x :: dblGo (i + 1) l) all c p = _
      unfold codeGo
      rw [if_pos h0]
      unfold codeGo
      rw [if_pos (show (yItem x).op = 0 from h0)]
      exact ih
    · rw [if_neg h0] at h
      split at h
      · cases h
      · rename_i h2
        split at h
        · cases h
        · rename_i t ht
          obtain ⟨g1, g2⟩ := dbl_targ hst hk h0 hx ht
          have ih := dbl_code hst hk l (i + 1) _ _ _ hl h
          by_cases hc : ledB x.op = true ∧ i % 2 = 0
          · rw [show dblAt i x = [yItem x] from by unfold dblAt; rw [if_neg h0, if_pos hc], List.singleton_append]
            unfold codeGo
            rw [if_neg (show ¬ (yItem x).op = 0 from h0), if_neg h2, g2 hc.1]
            exact ih
          · rw [show dblAt i x = [x] from by unfold dblAt; rw [if_neg h0, if_neg hc], List.singleton_append]
            unfold codeGo
            rw [if_neg h0, if_neg h2, g1]
            exact ih
def dbB (k : BkD) : BkD := ⟨k.name, dblTo k.items k.items.length, k.l, k.c⟩
theorem dbl_thr {st st' : Nms} {all : Nat} {k : BkD} {q : Nat × ThrD} (hst : SameN st st') (hb : ClearL k.items) (h : thrD st all k = .ok q) : thrD st' all (dbB k) = .ok q := by
  unfold thrD at h ⊢
  rw [show (dbB k).items = dblGo 0 k.items from dblTo_all _, show (dbB k).name = k.name from rfl]
  split at h
  · cases h
  · rename_i b hw
    have h1 : waysD (dblGo 0 k.items) = .ok (dd b) := dbl_ways k.items 0 0 [] none hb (by simp) hw
    rw [h1]
    simp only
    split at h
    · cases h
    · rename_i r hr
      rw [dbl_code hst (ways_plain hb hw) k.items 0 all [] [] hb hr]
      exact h
theorem dbl_thrs {st st' : Nms} (hst : SameN st st') : ∀ (ks : List BkD) (all : Nat) (ts : List ThrD) {r : List ThrD}, (∀ k ∈ ks, ClearL k.items) → thrsD st ks all ts = .ok r → thrsD st' (ks.map dbB) all ts = .ok r
  | [], all, ts, r, hb, h => h
  | k :: ks, all, ts, r, hb, h => by
    unfold thrsD at h
    split at h
    · cases h
    · rename_i q hq
      have h1 := dbl_thr hst (hb k (List.mem_cons_self ..)) hq
      have h2 := dbl_thrs hst ks _ _ (fun y hy => hb y (List.mem_cons_of_mem _ hy)) h
      rw [List.map_cons]
      unfold thrsD
      rw [h1]
      exact h2
theorem blocks_db (ks : List BkD) : ∀ (st : Nms), blocksD (ks.map dbB) st = blocksD ks st := by
  induction ks with
  | nil => intro st; rfl
  | cons k ks ih =>
    intro st
    rw [List.map_cons]
    unfold blocksD
    rw [show (dbB k).name = k.name from rfl, show (dbB k).l = k.l from rfl, show (dbB k).c = k.c from rfl]
    split
    · rfl
    · exact ih _
/-- Declarations in another order, labels doubled: the same program. -/
theorem order_prog {u : UnD} {p : PrgD} (h : progD u = .ok p) (hc : ∀ k ∈ u.blocks, ClearL k.items) : progD ⟨sortD u.decls, u.blocks.map dbB⟩ = .ok p := by
  obtain ⟨q, st, ts, h1, h2, h3, rfl⟩ := prog_parts h
  obtain ⟨hv, rfl⟩ := decls_ents u.decls [] ⟨by simp, by simp, fun s => by simp [kindF]⟩ h1
  rw [List.nil_append] at hv h2
  have g1 := ents_decls (sortD u.decls) [] (by rw [List.nil_append]; exact sort_valid hv)
  rw [List.nil_append, sort_parts hv] at g1
  obtain ⟨st', g2, g3⟩ := same_blocks u.blocks (sort_same hv) h2
  have g4 := dbl_thrs g3 u.blocks 0 [] hc h3
  unfold progD
  simp only [show declsD (sortD u.decls) [] ⟨[], [], [], [], []⟩ = .ok (ents (sortD u.decls), parts u.decls) from g1, blocks_db, g2, g4]
  rfl
end Go.Proofs.YtaknmhipaifdkaaDoor
