/- Units and programs, plain: with other names, the same program but for its names. No program in sight. -/
import Derived.Test.YtaknmhipaifdkaaDoorJc
import Derived.Test.YtaknmhipaifdkaaDoorJn
set_option linter.unusedSimpArgs false
set_option linter.unusedSectionVars false
namespace Go.Proofs.YtaknmhipaifdkaaDoor
open Go.RowKit Go.AB
set_option linter.unusedVariables false
set_option linter.unusedSimpArgs false

/-- A byte ahead of a name. -/
def pre1 (c : UInt8) (s : ByteArray) : ByteArray := ⟨#[c]⟩ ++ s
theorem pre1_data (c : UInt8) (s : ByteArray) : (pre1 c s).data.toList = c :: s.data.toList := by
  show (ByteArray.append ⟨#[c]⟩ s).data.toList = _
  have h : (⟨#[c]⟩ ++ s : ByteArray).data = #[c] ++ s.data := ByteArray.data_append ..
  show (⟨#[c]⟩ ++ s : ByteArray).data.toList = _
  rw [h]
  simp
theorem ba_ext {a b : ByteArray} (h : a.data.toList = b.data.toList) : a = b := by
  cases a with | mk x => cases b with | mk y => exact congrArg ByteArray.mk (Array.ext' h)
theorem pre1_inj {c : UInt8} {a b : ByteArray} : pre1 c a = pre1 c b ↔ a = b := by
  refine ⟨fun h => ba_ext ?_, fun h => by rw [h]⟩
  have h1 := congrArg (fun s : ByteArray => s.data.toList) h
  simp only [pre1_data, List.cons.injEq, true_and] at h1
  exact h1
theorem pre1_size (c : UInt8) (s : ByteArray) : (pre1 c s).size = s.size + 1 := by
  have h := congrArg List.length (pre1_data c s)
  simp only [Array.length_toList, List.length_cons] at h
  exact h
theorem pre1_name {c : UInt8} {s : ByteArray} (hc : isLett c = true) (h : nameB s = true) (hs : s.size ≤ 23) : nameB (pre1 c s) = true := by
  unfold nameB at h ⊢
  rw [pre1_data]
  have hl : s.data.toList.length ≤ 23 := by rw [Array.length_toList]; exact hs
  generalize s.data.toList = l at h hl
  cases l with
  | nil => simp [nameL] at h
  | cons x r =>
    simp only [nameL, Bool.and_eq_true, decide_eq_true_eq, List.all_cons] at h ⊢
    refine ⟨⟨hl, hc⟩, ?_, h.2⟩
    unfold isNameC
    rw [h.1.2]
    simp
theorem zN_pre (s : ByteArray) : zN s = pre1 122 s := rfl
theorem yN_pre (s : ByteArray) : yN s = pre1 121 s := rfl
theorem zN_name {s : ByteArray} (h : nameB s = true) (hs : s.size ≤ 23) : nameB (zN s) = true := pre1_name (by decide) h hs
theorem yN_name {s : ByteArray} (h : nameB s = true) (hs : s.size ≤ 23) : nameB (yN s) = true := pre1_name (by decide) h hs
theorem name_size {s : ByteArray} (h : nameB s = true) : s.size ≠ 0 := by
  intro e
  unfold nameB at h
  have : s.data.toList = [] := by
    apply List.eq_nil_of_length_eq_zero
    rw [Array.length_toList]
    exact e
  rw [this] at h
  simp [nameL] at h
theorem dz_zN (s : ByteArray) : dz (zN s) = s := by
  unfold dz
  rw [zN_pre, if_neg (by rw [pre1_size]; omega)]
  apply ba_ext
  rw [ByteArray.data_extract, pre1_size]
  have h : (pre1 122 s).data = #[122] ++ s.data := by
    apply Array.ext'
    rw [pre1_data]
    simp
  rw [h]
  simp
  exact List.take_of_length_le (by rw [Array.length_toList]; exact Nat.le_refl _)

/-! Names so far, with a byte ahead. -/
def rKey {α : Type} (c : UInt8) (st : List (ByteArray × α)) : List (ByteArray × α) := st.map fun e => (pre1 c e.1, e.2)
theorem rKey_assoc {α : Type} (c : UInt8) (st : List (ByteArray × α)) (s : ByteArray) : assoc (rKey c st) (pre1 c s) = assoc st s := by
  unfold assoc rKey
  induction st with
  | nil => rfl
  | cons e st ih =>
    simp only [List.map_cons, List.find?_cons]
    by_cases h : e.1 = s
    · simp [h]
    · simp only [pre1_inj, h, decide_false]
      exact ih
theorem rKey_cnt (c : UInt8) (st : Nms) (s : Int) : cntS (rKey c st) s = cntS st s := by
  unfold cntS rKey
  rw [List.filter_map, List.length_map]
  rfl
theorem ren_decl {st st' : Nms} {nm : ByteArray} {s most l c : Int} (h : declD st nm s most l c = .ok st') (hs : nm.size ≤ 23) : declD (rKey 122 st) (zN nm) s most l c = .ok (rKey 122 st') := by
  obtain ⟨h1, h2, h3, rfl⟩ := declD_ok h
  rw [declD_mk (zN_name h1 hs) (by rw [zN_pre, rKey_assoc]; exact h2) (by rw [rKey_cnt]; exact h3), rKey_cnt]
  unfold rKey
  simp [zN_pre]
def rnV (v : VarD) : VarD := ⟨zN v.name, v.first⟩
def rnT (t : ThrD) : ThrD := ⟨zN t.name, t.code, t.places⟩
def rnP (p : PrgD) : PrgD := ⟨p.vars.map rnV, p.vols.map rnV, p.locks.map zN, p.bars.map rnV, p.thrs.map rnT⟩
theorem less_ren (p : PrgD) : lessD (rnP p) = p := by
  obtain ⟨a, b, c, d, e⟩ := p
  have h1 : ∀ l : List VarD, (l.map rnV).map rVn = l := fun l => by
    rw [List.map_map]
    conv => rhs; rw [← List.map_id l]
    refine List.map_congr_left fun x _ => ?_
    obtain ⟨n, f⟩ := x
    simp only [Function.comp_apply, rnV, rVn, dz_zN, id]
  have h2 : ∀ l : List ByteArray, (l.map zN).map dz = l := fun l => by
    rw [List.map_map]
    conv => rhs; rw [← List.map_id l]
    refine List.map_congr_left fun x _ => ?_
    simp only [Function.comp_apply, dz_zN, id]
  have h3 : ∀ l : List ThrD, (l.map rnT).map rTd = l := fun l => by
    rw [List.map_map]
    conv => rhs; rw [← List.map_id l]
    refine List.map_congr_left fun x _ => ?_
    obtain ⟨n, f, g⟩ := x
    simp only [Function.comp_apply, rnT, rTd, dz_zN, id]
  simp only [rnP, lessD, h1, h2, h3]
theorem ren_put (p : PrgD) (d : DcD) : dcPut (rnP p) (rnD d) = rnP (dcPut p d) := by
  unfold dcPut
  simp only [rnD]
  by_cases h1 : d.kind = 1
  · simp [h1, rnP, rnV]
  · by_cases h2 : d.kind = 2
    · simp [h2, rnP, rnV]
    · by_cases h3 : d.kind = 3
      · simp [h3, rnP]
      · simp [h1, h2, h3, rnP, rnV]
theorem ren_decls : ∀ (ds : List DcD) {st : Nms} {p : PrgD} {q : Nms × PrgD}, (∀ d ∈ ds, d.name.size ≤ 23) → declsD ds st p = .ok q → declsD (ds.map rnD) (rKey 122 st) (rnP p) = .ok (rKey 122 q.1, rnP q.2)
  | [], st, p, q, hd, h => by
    simp only [declsD, Except.ok.injEq] at h
    subst h
    rfl
  | d :: ds, st, p, q, hd, h => by
    unfold declsD at h
    split at h
    · cases h
    · rename_i r hr
      obtain ⟨h1, h2, h3, h4⟩ := declnD_ok hr
      have h5 := ren_decl h3 (hd d (List.mem_cons_self ..))
      have h6 := ren_decls ds (fun x hx => hd x (List.mem_cons_of_mem _ hx)) h
      rw [List.map_cons]
      unfold declsD declnD
      rw [show (rnD d).kind = d.kind from rfl, show (rnD d).val = d.val from rfl, show (rnD d).name = zN d.name from rfl, show (rnD d).l = d.l from rfl, show (rnD d).c = d.c from rfl, if_neg h1, if_pos h2, h5]
      simp only [ren_put, ← h4]
      exact h6
theorem ren_blocks : ∀ (ks : List BkD) {st st' : Nms}, (∀ k ∈ ks, k.name.size ≤ 23) → blocksD ks st = .ok st' → blocksD (ks.map rnB) (rKey 122 st) = .ok (rKey 122 st')
  | [], st, st', hk, h => by
    simp only [blocksD, Except.ok.injEq] at h
    subst h
    rfl
  | k :: ks, st, st', hk, h => by
    unfold blocksD at h
    split at h
    · cases h
    · rename_i r hr
      have h5 := ren_decl hr (hk k (List.mem_cons_self ..))
      have h6 := ren_blocks ks (fun x hx => hk x (List.mem_cons_of_mem _ hx)) h
      rw [List.map_cons]
      unfold blocksD
      rw [show (rnB k).name = zN k.name from rfl, show (rnB k).l = k.l from rfl, show (rnB k).c = k.c from rfl, h5]
      exact h6

/-! Items. -/
theorem touch6 {op : Int} : touchB op = 6 ↔ op = 8 ∨ op = 9 := by
  unfold touchB
  repeat' split
  all_goals omega
theorem led_touch {op : Int} (h0 : ¬ op = 0) : ledB op = true ↔ touchB op = 6 := by
  rw [touch6]
  unfold ledB
  simp [h0]
theorem look_name {x : ItD} (h : lookB x = true) : (x.op = 0 → nameB x.name = true) ∧ (x.op ≠ 0 → touchB x.op = 0 → x.name = ⟨#[]⟩) ∧ (x.op ≠ 0 → touchB x.op ≠ 0 → nameB x.name = true) := by
  unfold lookB at h
  refine ⟨fun h0 => ?_, fun h0 h1 => ?_, fun h0 h1 => ?_⟩
  · rw [if_pos h0, Bool.and_eq_true] at h
    exact h.2
  · rw [if_neg h0, if_pos h1, Bool.and_eq_true] at h
    exact of_decide_eq_true h.2
  · rw [if_neg h0, if_neg h1, Bool.and_eq_true] at h
    exact h.2
theorem rnI_lab {x : ItD} (h : x.op = 0) : (rnI x).name = yN x.name := by
  unfold rnI
  simp [ledB, h]
theorem rnI_led {x : ItD} (h : ¬ x.op = 0) (h2 : touchB x.op = 6) : (rnI x).name = yN x.name := by
  unfold rnI
  simp [(led_touch h).2 h2]
theorem rnI_none {x : ItD} (h : ¬ x.op = 0) (h2 : touchB x.op = 0) (hn : x.name = ⟨#[]⟩) : (rnI x).name = x.name := by
  have h3 : ¬ ledB x.op = true := by rw [led_touch h]; omega
  unfold rnI
  simp only
  rw [if_neg h3, if_pos (by rw [hn]; rfl)]
theorem rnI_name {x : ItD} (h : ¬ x.op = 0) (h2 : touchB x.op ≠ 6) (hn : nameB x.name = true) : (rnI x).name = zN x.name := by
  have h3 : ¬ ledB x.op = true := by rw [led_touch h]; exact h2
  unfold rnI
  simp only
  rw [if_neg h3, if_neg (name_size hn)]
theorem ren_look {x : ItD} (h : lookB x = true) (hs : x.name.size ≤ 23) : lookB (rnI x) = true := by
  obtain ⟨n0, n1, n2⟩ := look_name h
  unfold lookB at h ⊢
  rw [show (rnI x).op = x.op from rfl, show (rnI x).a = x.a from rfl, show (rnI x).b = x.b from rfl, show (rnI x).c = x.c from rfl, show (rnI x).n = x.n from rfl]
  by_cases h0 : x.op = 0
  · rw [if_pos h0, Bool.and_eq_true] at h ⊢
    exact ⟨h.1, by rw [rnI_lab h0]; exact yN_name h.2 hs⟩
  · rw [if_neg h0, Bool.and_eq_true] at h ⊢
    refine ⟨h.1, ?_⟩
    by_cases h1 : touchB x.op = 0
    · rw [if_pos h1, rnI_none h0 h1 (n1 h0 h1)]
      exact decide_eq_true (n1 h0 h1)
    · rw [if_neg h1]
      by_cases h6 : touchB x.op = 6
      · rw [rnI_led h0 h6]
        exact yN_name (n2 h0 h1) hs
      · rw [rnI_name h0 h6 (n2 h0 h1)]
        exact zN_name (n2 h0 h1) hs
theorem ren_ways : ∀ (l : List ItD) (n : Nat) (b : List (ByteArray × Nat)) (o : Option (Int × Int)) {r : List (ByteArray × Nat)}, (∀ x ∈ l, x.name.size ≤ 23) → waysGo l n b o = .ok r → waysGo (l.map rnI) n (rKey 121 b) o = .ok (rKey 121 r)
  | [], n, b, none, r, hs, h => by
    simp only [waysGo, Except.ok.injEq] at h
    subst h
    rfl
  | [], n, b, some q, r, hs, h => by simp [waysGo] at h
  | x :: l, n, b, o, r, hs, h => by
    have hx := hs x (List.mem_cons_self ..)
    have hl := fun y hy => hs y (List.mem_cons_of_mem x hy)
    rw [List.map_cons]
    unfold waysGo at h ⊢
    split at h
    · cases h
    · rename_i h1
      have h1' : lookB x = true := by simpa using h1
      rw [if_neg (by rw [ren_look h1' hx]; simp), show (rnI x).op = x.op from rfl]
      split at h
      · rename_i h2
        rw [if_pos h2]
        exact ren_ways l _ _ _ hl h
      · rename_i h2
        have h0 : x.op = 0 := by simpa using h2
        rw [if_neg h2]
        split at h
        · cases h
        · rename_i h3
          rw [rnI_lab h0, yN_pre, rKey_assoc, if_neg h3]
          have h4 := ren_ways l _ _ _ hl h
          rw [show rKey 121 (b ++ [(x.name, n)]) = rKey 121 b ++ [(pre1 121 x.name, n)] from by simp [rKey]] at h4
          exact h4
theorem ways_look : ∀ (l : List ItD) (n : Nat) (b : List (ByteArray × Nat)) (o : Option (Int × Int)) {r : List (ByteArray × Nat)}, waysGo l n b o = .ok r → ∀ x ∈ l, lookB x = true
  | [], n, b, o, r, h, x, hx => by cases hx
  | y :: l, n, b, o, r, h, x, hx => by
    unfold waysGo at h
    split at h
    · cases h
    · rename_i h1
      have hy : lookB y = true := by simpa using h1
      split at h
      · rcases List.mem_cons.1 hx with rfl | hx
        · exact hy
        · exact ways_look l _ _ _ h x hx
      · split at h
        · cases h
        · rcases List.mem_cons.1 hx with rfl | hx
          · exact hy
          · exact ways_look l _ _ _ h x hx
theorem ren_targ {st : Nms} {b : List (ByteArray × Nat)} {x : ItD} (h0 : ¬ x.op = 0) (hl : lookB x = true) : targD (rKey 122 st) (rKey 121 b) (rnI x) = targD st b x := by
  obtain ⟨_, n1, n2⟩ := look_name hl
  unfold targD
  rw [show (rnI x).op = x.op from rfl, show (rnI x).n = x.n from rfl, show (rnI x).q1 = x.q1 from rfl, show (rnI x).q2 = x.q2 from rfl]
  by_cases h1 : touchB x.op = 0
  · rw [if_pos h1, if_pos h1]
  · rw [if_neg h1, if_neg h1]
    by_cases h6 : touchB x.op = 6
    · rw [if_pos h6, if_pos h6, rnI_led h0 h6, yN_pre, rKey_assoc]
    · rw [if_neg h6, if_neg h6, rnI_name h0 h6 (n2 h0 h1), zN_pre, rKey_assoc]
theorem ren_code {st : Nms} {b : List (ByteArray × Nat)} : ∀ (l : List ItD) (all : Nat) (c : List InsD) (p : List PlcD), (∀ x ∈ l, lookB x = true) → codeGo (rKey 122 st) (rKey 121 b) (l.map rnI) all c p = codeGo st b l all c p
  | [], all, c, p, h => rfl
  | x :: l, all, c, p, h => by
    have hl := fun y hy => h y (List.mem_cons_of_mem x hy)
    rw [List.map_cons]
    unfold codeGo
    rw [show (rnI x).op = x.op from rfl, show (rnI x).a = x.a from rfl, show (rnI x).b = x.b from rfl, show (rnI x).c = x.c from rfl, show (rnI x).p1 = x.p1 from rfl, show (rnI x).p2 = x.p2 from rfl]
    split
    · exact ren_code l _ _ _ hl
    · rename_i h0
      rw [ren_targ h0 (h x (List.mem_cons_self ..))]
      split
      · rfl
      · split
        · rfl
        · exact ren_code l _ _ _ hl
theorem ren_thr {st : Nms} {all : Nat} {k : BkD} {q : Nat × ThrD} (hs : ∀ x ∈ k.items, x.name.size ≤ 23) (h : thrD st all k = .ok q) : thrD (rKey 122 st) all (rnB k) = .ok (q.1, rnT q.2) := by
  unfold thrD at h ⊢
  split at h
  · cases h
  · rename_i b hb
    have h1 := ren_ways k.items 0 [] none hs hb
    have h2 := ways_look k.items 0 [] none hb
    rw [show waysD (rnB k).items = .ok (rKey 121 b) from h1]
    simp only
    rw [show (rnB k).items = k.items.map rnI from rfl, ren_code _ _ _ _ h2]
    split at h
    · cases h
    · rename_i r hr
      cases h
      rfl
theorem ren_thrs {st : Nms} : ∀ (ks : List BkD) (all : Nat) (ts : List ThrD) {r : List ThrD}, (∀ k ∈ ks, ∀ x ∈ k.items, x.name.size ≤ 23) → thrsD st ks all ts = .ok r → thrsD (rKey 122 st) (ks.map rnB) all (ts.map rnT) = .ok (r.map rnT)
  | [], all, ts, r, hs, h => by
    simp only [thrsD, Except.ok.injEq] at h
    subst h
    rfl
  | k :: ks, all, ts, r, hs, h => by
    unfold thrsD at h
    split at h
    · cases h
    · rename_i q hq
      have h1 := ren_thr (hs k (List.mem_cons_self ..)) hq
      have h2 := ren_thrs ks _ _ (fun y hy => hs y (List.mem_cons_of_mem _ hy)) h
      rw [List.map_cons]
      unfold thrsD
      rw [h1]
      simp only
      rw [List.map_append, List.map_cons, List.map_nil] at h2
      exact h2
/-- With other names: the same program, but for its names. -/
theorem ren_prog {u : UnD} {p : PrgD} (h : progD u = .ok p) (hf : FitU u) : progD ⟨u.decls.map rnD, u.blocks.map rnB⟩ = .ok (rnP p) := by
  obtain ⟨q, st, ts, h1, h2, h3, rfl⟩ := prog_parts h
  have g1 := ren_decls u.decls hf.decls h1
  have g2 := ren_blocks u.blocks hf.blocks h2
  have g3 := ren_thrs u.blocks 0 [] hf.items h3
  unfold progD
  simp only [rKey, rnP, List.map_nil] at g1 g2 g3 ⊢
  simp only [g1, g2, g3]
end Go.Proofs.YtaknmhipaifdkaaDoor
