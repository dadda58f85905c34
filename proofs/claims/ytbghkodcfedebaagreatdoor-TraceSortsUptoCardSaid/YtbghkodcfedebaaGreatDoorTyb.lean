/- Events apart: what the map holds between the rounds. -/
import Derived.Test.YtbghkodcfedebaaGreatDoorTya
import Derived.Test.YtbghkodcfedebaaGreatDoorMq
import Derived.Test.YtbghkodcfedebaaGreatDoorTxt
set_option linter.unusedVariables false
set_option linter.unusedSectionVars false
set_option linter.unusedSimpArgs false
namespace Go.AB
open Go.RowKit
/-- The parts so far, each with its list. -/
structure ApS (l : List Ev) (i : Nat) (ps : List (Int × OL)) : Prop where
  mem : ∀ t, t ∈ ps.map Prod.fst ↔ ∃ e ∈ l.take i, e.t = t
  part : ∀ p ∈ ps, p.2.n = (ofT p.1 (l.take i)).length ∧ p.2.xs = (ofT p.1 (l.take i)).flatMap evC
  nd : (ps.map Prod.fst).Nodup
def mapV (ps : List (Int × OL)) : List (Int × Value) := ps.map (fun p => (p.1, p.2.v))
theorem mapV_fst (ps : List (Int × OL)) : (mapV ps).map Prod.fst = ps.map Prod.fst := by simp [mapV]
theorem ApS.start (l : List Ev) : ApS l 0 [] := ⟨by simp, by simp, by simp⟩
theorem take_ev {l : List Ev} {i : Nat} (hi : i < l.length) : l.take (i + 1) = l.take i ++ [l[i]] := List.take_succ_eq_append_getElem hi
theorem ApS.new {l : List Ev} {i : Nat} (hi : i < l.length) {ps : List (Int × OL)} (h : ApS l i ps) (hn : l[i].t ∉ ps.map Prod.fst) {o : OL} (h1 : o.n = 1) (h2 : o.xs = evC l[i]) : ApS l (i + 1) (ps ++ [(l[i].t, o)]) := by
  have hnone : ofT l[i].t (l.take i) = [] := by
    rw [List.eq_nil_iff_forall_not_mem]
    intro e he
    obtain ⟨h3, h4⟩ := ofT_mem he
    exact hn ((h.mem _).2 ⟨e, h3, h4⟩)
  refine ⟨fun t => ?_, fun p hp => ?_, ?_⟩
  · rw [take_ev hi]
    simp only [List.map_append, List.map_cons, List.map_nil, List.mem_append, List.mem_singleton]
    rw [h.mem]
    constructor
    · rintro (⟨e, he, h3⟩ | rfl)
      · exact ⟨e, .inl he, h3⟩
      · exact ⟨_, .inr rfl, rfl⟩
    · rintro ⟨e, he | rfl, h3⟩
      · exact .inl ⟨e, he, h3⟩
      · exact .inr h3.symm
  · rw [take_ev hi, ofT_snoc]
    rcases List.mem_append.1 hp with hp | hp
    · have hne : l[i].t ≠ p.1 := fun e => hn (by rw [e]; exact List.mem_map.2 ⟨p, hp, rfl⟩)
      rw [if_neg hne]
      exact h.part p hp
    · simp only [List.mem_singleton] at hp
      subst hp
      simp only [if_true, hnone, List.nil_append]
      exact ⟨h1, by simp [h2]⟩
  · rw [List.map_append, List.nodup_append]
    refine ⟨h.nd, by simp, fun x hx y hy e => ?_⟩
    simp only [List.map_cons, List.map_nil, List.mem_singleton] at hy
    subst hy e
    exact hn hx
theorem ApS.old {l : List Ev} {i : Nat} (hi : i < l.length) {ps : List (Int × OL)} (h : ApS l i ps) {j : Nat} {o o' : OL} (hj : ps[j]? = some (l[i].t, o)) (h1 : o'.n = o.n + 1) (h2 : o'.xs = o.xs ++ evC l[i]) : ApS l (i + 1) (ps.set j (l[i].t, o')) := by
  obtain ⟨hjl, hje⟩ := List.getElem?_eq_some_iff.1 hj
  have hfst : (ps.set j (l[i].t, o')).map Prod.fst = ps.map Prod.fst := by
    rw [List.map_set, show (l[i].t, o').1 = (ps.map Prod.fst)[j]'(by simpa using hjl) from by simp [hje], List.set_getElem_self]
  refine ⟨fun t => ?_, fun p hp => ?_, ?_⟩
  · rw [hfst, h.mem, take_ev hi]
    constructor
    · rintro ⟨e, he, h3⟩; exact ⟨e, List.mem_append_left _ he, h3⟩
    · rintro ⟨e, he, h3⟩
      rcases List.mem_append.1 he with he | he
      · exact ⟨e, he, h3⟩
      · simp only [List.mem_singleton] at he
        subst he
        exact (h.mem t).1 (by rw [← h3]; exact List.mem_map.2 ⟨_, List.mem_of_getElem? hj, rfl⟩)
  · rw [take_ev hi, ofT_snoc]
    obtain ⟨q, hq, hqe⟩ := List.getElem_of_mem hp
    rw [List.length_set] at hq
    by_cases hqj : q = j
    · subst hqj
      simp only [List.getElem_set_self] at hqe
      subst hqe
      obtain ⟨h3, h4⟩ := h.part _ (List.mem_of_getElem? hj)
      simp only at h3 h4
      simp only [if_true, List.length_append, List.length_cons, List.length_nil, List.flatMap_append]
      exact ⟨by omega, by rw [h2, h4]; simp⟩
    · rw [List.getElem_set_ne (fun e => hqj e.symm)] at hqe
      have hpm : p ∈ ps := by rw [← hqe]; exact List.getElem_mem _
      have hne : l[i].t ≠ p.1 := fun e => by
        have h5 : (ps.map Prod.fst)[q]'(by simpa using hq) = (ps.map Prod.fst)[j]'(by simpa using hjl) := by simp [hqe, hje, e]
        exact hqj (nodup_inj h.nd (by simpa using hq) (by simpa using hjl) h5)
      rw [if_neg hne]
      exact h.part p hpm
  · rw [hfst]; exact h.nd
theorem nodup_len : ∀ {A B : List Int}, A.Nodup → (∀ x ∈ A, x ∈ B) → A.length ≤ B.length
  | [], B, _, _ => Nat.zero_le _
  | a :: A, B, hn, h => by
    have hn' := List.nodup_cons.1 hn
    have ha := h a (by simp)
    have h2 := nodup_len (B := B.erase a) hn'.2 (fun x hx => (List.mem_erase_of_ne (fun e : x = a => hn'.1 (by rw [← e]; exact hx))).2 (h x (by simp [hx])))
    have h3 := List.length_erase_of_mem ha
    have h4 := List.length_pos_of_mem ha
    simp only [List.length_cons]
    omega
theorem aps_count {l : List Ev} {i : Nat} {ps : List (Int × OL)} (h : ApS l i ps) : ps.length ≤ i := by
  have h1 := nodup_len (B := (l.take i).map Ev.t) h.nd (fun t ht => by
    obtain ⟨e, he, h2⟩ := (h.mem t).1 ht
    exact List.mem_map.2 ⟨e, he, h2⟩)
  rw [List.length_map, List.length_map, List.length_take] at h1
  omega
theorem idx_mapV {ps : List (Int × OL)} {a : Int} : idxK (mapV ps) a = ps.findIdx? (fun p => decide (p.1 = a)) := by
  unfold idxK mapV
  rw [List.findIdx?_map]
  rfl
end Go.AB
namespace Go.Proofs.YtbghkodcfedebaaGreatDoor
open Go.RowKit Go.AB
set_option linter.unusedSimpArgs false
set_option linter.unusedVariables false
set_option linter.unusedSectionVars false
abbrev itP (p : Int × OL) : It := itE p.2
def olOf (ps : List (Int × OL)) (t : Int) : OL := ((ps.find? (fun p => decide (p.1 = t))).map Prod.snd).getD ⟨none, 0, 0, none, []⟩
theorem olOf_mem : ∀ {ps : List (Int × OL)}, (ps.map Prod.fst).Nodup → ∀ {p : Int × OL}, p ∈ ps → olOf ps p.1 = p.2
  | [], _, p, hp => by cases hp
  | q :: ps, hn, p, hp => by
    rw [List.map_cons, List.nodup_cons] at hn
    unfold olOf
    rcases List.mem_cons.1 hp with rfl | hp
    · simp
    · have hne : q.1 ≠ p.1 := fun e => hn.1 (by rw [e]; exact List.mem_map.2 ⟨p, hp, rfl⟩)
      rw [List.find?_cons]
      simp only [hne, decide_false]
      exact olOf_mem hn.2 hp
def srt (C : List Int) : List Int := C.mergeSort fun x y => decide (x ≤ y)
theorem srt_perm (C : List Int) : (srt C).Perm C := List.mergeSort_perm C _
theorem srt_ris {C : List Int} (h : C.Nodup) : RisT (srt C) := by
  have h1 : (srt C).Pairwise (fun x y => decide (x ≤ y) = true) := by
    first
      | exact List.pairwise_mergeSort (fun a b c h1 h2 => by simp at *; omega) (fun a b => by simp; omega) C
      | exact List.sorted_mergeSort (fun a b c h1 h2 => by simp at *; omega) (fun a b => by simp; omega) C
  have h2 : (srt C).Nodup := (srt_perm C).nodup_iff.2 h
  unfold RisT
  have h3 := List.Pairwise.and h1 h2
  exact h3.imp (fun hab => by
    have h4 := of_decide_eq_true hab.1
    have h5 := hab.2
    omega)
theorem thr_final {l : List Ev} {n : Nat} (hn : l.length = n) {ps : List (Int × OL)} {C : List Int} (hA : ApS l n ps) (hC : C.Nodup) (hs : ∀ c ∈ C, c ∈ ps.map Prod.fst) (hd : ∀ p ∈ mapV ps, p.1 ∈ C) :
    ThrOf l (srt C) ∧ C.length = ps.length ∧ ((srt C).map (fun t => itE (olOf ps t))).Perm (ps.map itP) ∧ ∀ j (hj : j < (srt C).length), (srt C)[j] ∈ ps.map Prod.fst ∧ (olOf ps (srt C)[j]).n = (ofT (srt C)[j] l).length ∧ (olOf ps (srt C)[j]).xs = (ofT (srt C)[j] l).flatMap evC := by
  have hd2 : ∀ t, t ∈ ps.map Prod.fst → t ∈ C := fun t ht => by
    obtain ⟨p, hp, rfl⟩ := List.mem_map.1 ht
    exact hd (p.1, p.2.v) (List.mem_map.2 ⟨p, hp, rfl⟩)
  have htk : l.take n = l := by rw [← hn, List.take_length]
  have hmem : ∀ t, t ∈ srt C ↔ t ∈ ps.map Prod.fst := fun t => by
    rw [(srt_perm C).mem_iff]
    exact ⟨hs t, hd2 t⟩
  have hnd : (srt C).Nodup := (srt_perm C).nodup_iff.2 hC
  refine ⟨⟨srt_ris hC, fun t => ?_⟩, ?_, ?_, fun j hj => ?_⟩
  · rw [hmem, hA.mem, htk]
  · have h1 := nodup_len hC hs
    have h2 := nodup_len hA.nd hd2
    rw [List.length_map] at h1 h2
    omega
  · have hp : (srt C).Perm (ps.map Prod.fst) := (List.perm_ext_iff_of_nodup hnd hA.nd).2 hmem
    have h1 := hp.map (fun t => itE (olOf ps t))
    have h2 : (ps.map Prod.fst).map (fun t => itE (olOf ps t)) = ps.map itP := by
      rw [List.map_map]
      refine List.map_congr_left fun p hp => ?_
      show itE (olOf ps p.1) = itE p.2
      rw [olOf_mem hA.nd hp]
    rw [h2] at h1
    exact h1
  · have hm := (hmem _).1 (List.getElem_mem hj)
    obtain ⟨p, hp, he⟩ := List.mem_map.1 hm
    have h1 := hA.part p hp
    rw [htk] at h1
    refine ⟨hm, ?_⟩
    rw [← he, olOf_mem hA.nd hp]
    exact h1
theorem aps_step {w0 w : World} {l : List Ev} {i : Nat} (hi : i < l.length) {ps : List (Int × OL)} {M clock : Nat} {es : Array MapEntry} (hA : ApS l i ps) (hE : MapE es clock (mapV ps)) (h : Hp [] w0 w (.box M (.map es clock) :: ps.map itP)) :
    ∃ oo : OL, (lookK (mapV ps) l[i].t).getD (.slice none 0 0) = oo.v ∧ Row w 28 3 oo.v oo.r oo.n oo.xs ∧ oo.n ≤ i ∧ oo.r ≠ some M ∧ ∀ w1 w2 ao' cap' r', Chg [] w w1 → Row w2 28 3 (.slice ao' (oo.n + 1) cap') r' (oo.n + 1) (oo.xs ++ evC l[i]) → Grew w1 w2 oo.r r' →
      ∃ ps', ApS l (i + 1) ps' ∧ mapV ps' = updG (mapV ps) l[i].t (.slice ao' (oo.n + 1) cap') ∧ Hp [] w0 w2 (.box M (.map es clock) :: ps'.map itP) := by
  rcases idx_look (mapV ps) l[i].t with ⟨h4, h5⟩ | ⟨j, v, h4, h5⟩
  · refine ⟨⟨none, 0, 0, none, []⟩, by rw [h5]; rfl, Row.nil _ _ _, Nat.zero_le _, by simp, fun w1 w2 ao' cap' r' hc hr hg => ?_⟩
    refine ⟨ps ++ [(l[i].t, ⟨ao', 0 + 1, cap', r', [] ++ evC l[i]⟩)], hA.new hi (by rw [← mapV_fst]; exact idx_none h4) rfl (by simp), ?_, ?_⟩
    · rw [updG_new h4]
      simp [mapV, OL.v]
    · have hf : Fresh w none r' := fun g hgg => .inr (by
        rcases hg.fresh g hgg with h1 | h1
        · cases h1
        · have := hc.size; omega)
      have hh := (h.fresh (hc.trans hg.chg (fun x hx => by simp at hx)) hr hf)
      refine hh.re (fun a => ?_)
      simp only [List.count_append, List.count_cons, List.map_append, List.map_cons, List.map_nil, List.count_nil, itP, OL.it, OL.v]
      omega
  · obtain ⟨hj, hja⟩ := idx_lt _ _ _ h4
    have hjl : j < ps.length := by simpa [mapV] using hj
    obtain ⟨p, hp⟩ : ∃ p, ps[j]? = some p := ⟨_, List.getElem?_eq_getElem hjl⟩
    obtain ⟨t, o⟩ := p
    have hpe := (List.getElem?_eq_some_iff.1 hp).2
    have ht : t = l[i].t := by
      simp only [mapV, List.getElem_map, hpe] at hja
      exact hja
    subst ht
    have hlk : lookK (mapV ps) l[i].t = some o.v := by
      have hm : (l[i].t, o.v) ∈ mapV ps := List.mem_map.2 ⟨(l[i].t, o), List.mem_of_getElem? hp, rfl⟩
      exact MapG.look (w := w) (b := M) ⟨es, clock, h.get (i := 0) rfl, hE⟩ hm
    have hit : (It.box M (.map es clock) :: ps.map itP)[j + 1]? = some (.row 28 3 o.v o.r o.n o.xs) := by
      rw [List.getElem?_cons_succ, List.getElem?_map, hp]
      rfl
    have hpt := hA.part _ (List.mem_of_getElem? hp)
    refine ⟨o, by rw [hlk]; rfl, h.rowAt hit, ?_, h.ne (i := 0) (j := j + 1) rfl hit (by omega) rfl, fun w1 w2 ao' cap' r' hc hr hg => ?_⟩
    · have h6 := hpt.1
      simp only at h6
      have h7 := ofT_len l[i].t (l.take i)
      rw [List.length_take] at h7
      omega
    · refine ⟨ps.set j (l[i].t, ⟨ao', o.n + 1, cap', r', o.xs ++ evC l[i]⟩), hA.old hi hp rfl rfl, ?_, ?_⟩
      · rw [updG_old h4]
        simp [mapV, List.map_set, OL.v]
      · refine h.grow (j + 1) hit hc hr hg.chg hg.fresh ?_
        rw [List.set_cons_succ]
        simp [List.map_set, itP, OL.it, OL.v]
end Go.Proofs.YtbghkodcfedebaaGreatDoor
