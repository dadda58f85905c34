/- Programs in memory of their own, a mark behind each list. -/
import Derived.Test.YtbikekgljabalaaXa
import Derived.Test.YtbikekgljabalaaHn
import Derived.Test.YtbikekgljabalaaM02
namespace Go.Proofs.Ytbikekgljabalaa
open Go.RowKit Go.AB
set_option linter.unusedVariables false

def entI (xs : List InsD) (g c : Nat) : Ent := ⟨61, 5, .slice (some ⟨g, 0, none⟩) (xs.length + 1) c, g, xs.length + 1, xs.flatMap insC ++ mIns⟩
def entC (x : ThrG) : Ent := entI x.t.code x.gc x.cc
def entJ (xs : List PlcD) (g c : Nat) : Ent := ⟨63, 2, .slice (some ⟨g, 0, none⟩) (xs.length + 1) c, g, xs.length + 1, xs.flatMap plcC ++ mPlc⟩
def entP (x : ThrG) : Ent := entJ x.t.places x.gp x.cp
def entsT (ts : List ThrG) : List Ent := ts.flatMap fun x => [entC x, entP x]
def ent0 (xs : List VarD) (g c : Nat) : Ent := ⟨53, 2, .slice (some ⟨g, 0, none⟩) (xs.length + 1) c, g, xs.length + 1, xs.flatMap varC ++ mVar⟩
def ent2 (xs : List ByteArray) (g c : Nat) : Ent := ⟨9, 1, .slice (some ⟨g, 0, none⟩) (xs.length + 1) c, g, xs.length + 1, xs.flatMap strC ++ mLock⟩
def ent3 (xs : List VarD) (g c : Nat) : Ent := ⟨55, 2, .slice (some ⟨g, 0, none⟩) (xs.length + 1) c, g, xs.length + 1, xs.flatMap varC ++ mVar⟩
def ent4 (ts : List ThrG) (g c : Nat) : Ent := ⟨59, 3, .slice (some ⟨g, 0, none⟩) (ts.length + 1) c, g, ts.length + 1, (ts.map ThrG.v).flatMap thrC ++ mThr⟩
def entsQ (q : TwD) : List Ent := [ent0 q.vars q.g0 q.c0, ent0 q.vols q.g1 q.c1, ent2 q.locks q.g2 q.c2, ent3 q.bars q.g3 q.c3] ++ entsT q.ts ++ [ent4 q.ts q.g4 q.c4]
/-- A program in memory of its own. -/
def Tw (w0 w : World) (q : TwD) : Prop := Ents w0 w (entsQ q)
theorem ent_lst {w : World} {α : Type} {f : α → List Value} {k : Nat} (hf : ∀ x, (f x).length = k) {e g c : Nat} {xs : List α} {m : List Value} (h : Row w e k (.slice (some ⟨g, 0, none⟩) (xs.length + 1) c) (some g) (xs.length + 1) (xs.flatMap f ++ m)) :
    Lst f k w (.slice (some ⟨g, 0, none⟩) xs.length c) xs := View.prek h.view (by omega) (flat_len hf xs) (by simp)
theorem entsT_snoc (ts : List ThrG) (x : ThrG) : entsT (ts ++ [x]) = entsT ts ++ ([entI x.t.code x.gc x.cc] ++ [entJ x.t.places x.gp x.cp]) := by simp [entsT, entC, entP]
theorem mem_entsT {ts : List ThrG} {x : ThrG} (h : x ∈ ts) : entC x ∈ entsT ts ∧ entP x ∈ entsT ts :=
  ⟨List.mem_flatMap.2 ⟨x, h, by simp⟩, List.mem_flatMap.2 ⟨x, h, by simp⟩⟩
theorem Tw.prgV {w0 w : World} {q : TwD} (h : Tw w0 w q) : PrgV w q.val q.prg := by
  refine ⟨_, _, _, _, _, q.ts.map ThrG.v, rfl, ?_, ?_, ?_, ?_, ?_, ?_, fun x hx => ?_⟩
  · exact ent_lst varC_len (h.row (x := ent0 q.vars q.g0 q.c0) (by simp [entsQ]))
  · exact ent_lst varC_len (h.row (x := ent0 q.vols q.g1 q.c1) (by simp [entsQ]))
  · exact ent_lst strC_len (h.row (x := ent2 q.locks q.g2 q.c2) (by simp [entsQ]))
  · exact ent_lst varC_len (h.row (x := ent3 q.bars q.g3 q.c3) (by simp [entsQ]))
  · have h4 := h.row (x := ent4 q.ts q.g4 q.c4) (by simp [entsQ])
    have := ent_lst (xs := q.ts.map ThrG.v) thrC_len (by simpa [ent4] using h4)
    simpa using this
  · simp [TwD.prg, ThrG.v, Function.comp_def]
  · obtain ⟨y, hy, rfl⟩ := List.mem_map.1 hx
    have hm := mem_entsT hy
    exact ⟨ent_lst insC_len (h.row (x := entC y) (by simp [entsQ, hm.1])), ent_lst plcC_len (h.row (x := entP y) (by simp [entsQ, hm.2]))⟩
theorem Tw.keep {w0 w w' : World} {q : TwD} (h : Tw w0 w q) (hc : Chg [] w w') : Tw w0 w' q := Ents.keep0 h hc

theorem tw_of {w0 w : World} {q : TwD} {ES : List Ent} {n : Nat} (h : Ents w0 w (ES ++ entsT q.ts ++ [⟨59, 3, .slice (some ⟨q.g4, 0, none⟩) (n + 1) q.c4, q.g4, n + 1, (q.ts.map ThrG.v).flatMap thrC ++ mThr⟩]))
    (hES : [] ++ [ent0 q.vars q.g0 q.c0] ++ [ent0 q.vols q.g1 q.c1] ++ [ent2 q.locks q.g2 q.c2] ++ [ent3 q.bars q.g3 q.c3] = ES) (hn : q.ts.length = n) : Tw w0 w q := by
  subst hES hn
  exact h
/-- Between the steps of twin: boxes, and the lists so far. -/
structure St (w0 w : World) (K : List (Nat × Obj)) (es : List Ent) : Prop where
  box : ∀ q ∈ K, w.heap[q.1]? = some q.2
  nd : (K.map Prod.fst).Nodup
  ents : Ents w0 w es
  chg : Chg [] w0 w
  ne : ∀ x ∈ es, ∀ q ∈ K, x.g ≠ q.1
  lo : ∀ q ∈ K, w0.heap.size ≤ q.1
/-- A list that still grows. -/
def Opn (w0 w : World) (K : List (Nat × Obj)) (es : List Ent) (e k : Nat) (v : Value) (n : Nat) (xs : List Value) : Prop :=
  ∃ r, Row w e k v r n xs ∧ ∀ g, r = some g → w0.heap.size ≤ g ∧ (∀ x ∈ es, x.g ≠ g) ∧ ∀ q ∈ K, q.1 ≠ g
section
variable {w0 w w' : World} {K K' : List (Nat × Obj)} {es : List Ent}
theorem St.start (w : World) : St w w [] [] := ⟨by simp, by simp, Ents.nil _ _, Chg.refl _ _, by simp, by simp⟩
theorem St.keep (h : St w0 w K es) (hc : Chg [] w w') : St w0 w' K es :=
  ⟨fun q hq => hc.heap (h.box q hq) (by simp), h.nd, h.ents.keep0 hc, h.chg.trans' hc, h.ne, h.lo⟩
theorem St.new (h : St w0 w K es) (o : Obj) : St w0 (w.alloc o) ((w.heap.size, o) :: K) es := by
  have hc := (Chg.refl [] w).alloc o
  have hk := h.keep hc
  refine ⟨fun q hq => ?_, ?_, hk.ents, hk.chg, fun x hx q hq => ?_, fun q hq => ?_⟩
  · rcases List.mem_cons.1 hq with rfl | hq
    · exact heap_alloc_new w o
    · exact hk.box q hq
  · rw [List.map_cons, List.nodup_cons]
    refine ⟨fun hm => ?_, h.nd⟩
    obtain ⟨q, hq, he⟩ := List.mem_map.1 hm
    have := blk_lt (h.box q hq)
    omega
  · rcases List.mem_cons.1 hq with rfl | hq
    · have := h.ents.lt hx
      simp only
      omega
    · exact h.ne x hx q hq
  · rcases List.mem_cons.1 hq with rfl | hq
    · exact h.chg.size
    · exact h.lo q hq
theorem St.c0 (h : St w0 w K es) : Chg [] w w.drew := (Chg.refl [] _).drew
theorem St.cA (h : St w0 w K es) (o : Obj) : Chg [] w (w.alloc o).drew := ((Chg.refl [] _).alloc o).drew
theorem View.structD (w : World) (cs : List Value) (t : TypeId) {k : Nat} (hk : cs.length = k) {w' : World} (hc : Chg [] (w.alloc (.cells cs.toArray t)).drew w') : View w' k (.slice (some ⟨w.heap.size, 0, none⟩) 1 1) 1 cs :=
  (View.struct w cs t hk).keep (S := []) (((Chg.refl [] _).drew).trans' hc) (by simp)
theorem St.sub (h : St w0 w K es) (hk : List.Sublist K' K) : St w0 w K' es :=
  ⟨fun q hq => h.box q (hk.subset hq), h.nd.sublist (hk.map _), h.ents, h.chg, fun x hx q hq => h.ne x hx q (hk.subset hq), fun q hq => h.lo q (hk.subset hq)⟩
theorem St.cell (h : St w0 w K es) {k : Nat} {cs : Array Value} {t : TypeId} {fr : Nat × Nat} (hk : (k, Obj.cells cs t fr) ∈ K) (i : Nat) : w.cell? ⟨k, i, none⟩ = cs[i]? := blk_cell (h.box _ hk) i
theorem St.free (h : St w0 w K es) {k : Nat} {cs : Array Value} {t : TypeId} (hk : (k, Obj.cells cs t (0, 0)) ∈ K) (i : Nat) : w.frozen? ⟨k, i, none⟩ = false := blk_free (h.box _ hk) i
/-- The first box is written. -/
theorem St.put {b : Nat} {vs : Array Value} {t : TypeId} (h : St w0 w ((b, .cells vs t (0, 0)) :: K) es) (f : Nat) (u : Value) :
    St w0 (w.setCell ⟨b, f, none⟩ u) ((b, .cells (vs.setIfInBounds f u) t (0, 0)) :: K) es := by
  have hs : Chg [b] w (w.setCell ⟨b, f, none⟩ u) := (Chg.refl [b] w).setCell (p := ⟨b, f, none⟩) (.inl (by simp)) _
  have hnd := h.nd
  rw [List.map_cons, List.nodup_cons] at hnd
  refine ⟨fun q hq => ?_, by rw [List.map_cons, List.nodup_cons]; exact hnd, h.ents.keep hs (fun x hx => by simpa using h.ne x hx _ (List.mem_cons_self ..)), h.chg.trans hs (fun x hx => .inr (by simp only [List.mem_singleton] at hx; subst hx; exact h.lo _ (List.mem_cons_self ..))), fun x hx q hq => ?_, fun q hq => ?_⟩
  · rcases List.mem_cons.1 hq with rfl | hq
    · exact blk_set (h.box _ (List.mem_cons_self ..)) f u
    · refine hs.heap (h.box q (List.mem_cons_of_mem _ hq)) (fun hm => hnd.1 ?_)
      simp only [List.mem_singleton] at hm
      exact List.mem_map.2 ⟨q, hq, hm⟩
  · rcases List.mem_cons.1 hq with rfl | hq
    · exact h.ne x hx (b, .cells vs t (0, 0)) (List.mem_cons_self ..)
    · exact h.ne x hx q (List.mem_cons_of_mem _ hq)
  · rcases List.mem_cons.1 hq with rfl | hq
    · exact h.lo (b, .cells vs t (0, 0)) (List.mem_cons_self ..)
    · exact h.lo q (List.mem_cons_of_mem _ hq)
theorem St.snoc (h : St w0 w K es) (x : Ent) (h1 : w0.heap.size ≤ x.g) (h2 : Row w x.e x.k x.v (some x.g) x.n x.xs) (h3 : ∀ y ∈ es, y.g ≠ x.g) (h4 : ∀ q ∈ K, x.g ≠ q.1) : St w0 w K (es ++ [x]) := by
  refine ⟨h.box, h.nd, h.ents.snoc x h1 h2 h3, h.chg, fun y hy q hq => ?_, h.lo⟩
  rcases List.mem_append.1 hy with hy | hy
  · exact h.ne y hy q hq
  · simp only [List.mem_singleton] at hy
    subst hy
    exact h4 q hq
/-- A new list is laid, and told in the first box. -/
theorem St.step {b : Nat} {vs : Array Value} {t : TypeId} (h : St w0 w ((b, .cells vs t (0, 0)) :: K) es) (hc : Chg [] w w') {e k : Nat} {ao : Option Addr} {cap n : Nat} {r : Option Nat} {xs : List Value} (hr : Row w' e k (.slice ao (n + 1) cap) r (n + 1) xs) (hf : Fresh w none r) (f : Nat) :
    ∃ g, ao = some ⟨g, 0, none⟩ ∧ w.heap.size ≤ g ∧ St w0 (w'.setCell ⟨b, f, none⟩ (.slice (some ⟨g, 0, none⟩) n cap)) ((b, .cells (vs.setIfInBounds f (.slice (some ⟨g, 0, none⟩) n cap)) t (0, 0)) :: K) (es ++ [⟨e, k, .slice (some ⟨g, 0, none⟩) (n + 1) cap, g, n + 1, xs⟩]) := by
  rcases hr.form with ⟨_, h0, _⟩ | ⟨g, cap', cur, hv, rfl, _⟩
  · omega
  · simp only [Value.slice.injEq, true_and] at hv
    obtain ⟨rfl, rfl⟩ := hv
    have hg := (hf g rfl).resolve_left (by simp)
    refine ⟨g, rfl, hg, ((h.keep hc).snoc ⟨e, k, _, g, n + 1, xs⟩ (Nat.le_trans h.chg.size hg) hr (fun y hy => ?_) (fun q hq => ?_)).put f _⟩
    · have := h.ents.lt hy
      simp only
      omega
    · have := blk_lt (h.box q hq)
      simp only
      omega
theorem Opn.keep {e k : Nat} {v : Value} {n : Nat} {xs : List Value} (h : Opn w0 w K es e k v n xs) (hc : Chg [] w w') : Opn w0 w' K es e k v n xs := by
  obtain ⟨r, h1, h2⟩ := h
  exact ⟨r, h1.keep hc (by simp), h2⟩
end
section
variable {w0 w w' : World} {K K' : List (Nat × Obj)} {es : List Ent} {e k : Nat} {v : Value} {n : Nat} {xs : List Value}
theorem Opn.box (h : Opn w0 w K es e k v n xs) (o : Obj) : Opn w0 (w.alloc o) ((w.heap.size, o) :: K) es e k v n xs := by
  obtain ⟨r, h1, h2⟩ := h
  refine ⟨r, h1.keep ((Chg.refl [] w).alloc o) (by simp), fun g hg => ⟨(h2 g hg).1, (h2 g hg).2.1, fun q hq => ?_⟩⟩
  rcases List.mem_cons.1 hq with rfl | hq
  · have := h1.lt g hg
    simp only
    omega
  · exact (h2 g hg).2.2 q hq
theorem Opn.step {b : Nat} {o o' : Obj} (h : Opn w0 w ((b, o) :: K) es e k v n xs) (hc : Chg [] w w') (f : Nat) (u : Value) (x : Ent) (hx : w.heap.size ≤ x.g) : Opn w0 (w'.setCell ⟨b, f, none⟩ u) ((b, o') :: K) (es ++ [x]) e k v n xs := by
  obtain ⟨r, h1, h2⟩ := h
  refine ⟨r, (h1.keep hc (by simp)).keep (S := [b]) ((Chg.refl [b] w').setCell (p := ⟨b, f, none⟩) (.inl (by simp)) u) (fun g hg => ?_), fun g hg => ⟨(h2 g hg).1, fun y hy => ?_, fun q hq => ?_⟩⟩
  · have := (h2 g hg).2.2 (b, o) (List.mem_cons_self ..)
    simp only [List.mem_singleton]
    exact fun e => this e.symm
  · rcases List.mem_append.1 hy with hy | hy
    · exact (h2 g hg).2.1 y hy
    · simp only [List.mem_singleton] at hy
      subst hy
      have := h1.lt g hg
      omega
  · rcases List.mem_cons.1 hq with rfl | hq
    · exact (h2 g hg).2.2 (b, o) (List.mem_cons_self ..)
    · exact (h2 g hg).2.2 q (List.mem_cons_of_mem _ hq)
theorem Opn.put {b : Nat} {o : Obj} {r : Option Nat} (hr : Row w e k v r n xs) (hrr : ∀ g, r = some g → w0.heap.size ≤ g ∧ (∀ x ∈ es, x.g ≠ g) ∧ ∀ q ∈ (b, o) :: K, q.1 ≠ g) (f : Nat) (u : Value) (o' : Obj) : Opn w0 (w.setCell ⟨b, f, none⟩ u) ((b, o') :: K) es e k v n xs := by
  refine ⟨r, hr.keep (S := [b]) ((Chg.refl [b] w).setCell (p := ⟨b, f, none⟩) (.inl (by simp)) u) (fun g hg => ?_), fun g hg => ⟨(hrr g hg).1, (hrr g hg).2.1, fun q hq => ?_⟩⟩
  · have := (hrr g hg).2.2 (b, o) (List.mem_cons_self ..)
    simp only [List.mem_singleton]
    exact fun e => this e.symm
  · rcases List.mem_cons.1 hq with rfl | hq
    · exact (hrr g hg).2.2 (b, o) (List.mem_cons_self ..)
    · exact (hrr g hg).2.2 q (List.mem_cons_of_mem _ hq)
/-- The open list is grown: the rest is as it was. -/
theorem St.app {r r' : Option Nat} {w1 w2 : World} (h : St w0 w K es) (hr : Row w e k v r n xs) (hrr : ∀ g, r = some g → w0.heap.size ≤ g ∧ (∀ x ∈ es, x.g ≠ g) ∧ ∀ q ∈ K, q.1 ≠ g) (h1 : Chg [] w w1) (hc2 : Chg r.toList w1 w2) (hf2 : Fresh w1 r r') :
    St w0 w2 K es ∧ ∀ g, r' = some g → w0.heap.size ≤ g ∧ (∀ x ∈ es, x.g ≠ g) ∧ ∀ q ∈ K, q.1 ≠ g := by
  have hk := h.keep h1
  have hne : ∀ g, g ∈ r.toList → r = some g := fun g hg => by simpa using hg
  refine ⟨⟨fun q hq => hc2.heap (hk.box q hq) (fun hm => (hrr _ (hne _ hm)).2.2 q hq rfl), hk.nd, hk.ents.keep hc2 (fun x hx hm => (hrr _ (hne _ hm)).2.1 x hx rfl), hk.chg.trans hc2 (fun x hx => .inr (hrr x (hne x hx)).1), hk.ne, hk.lo⟩, fun g hg => ?_⟩
  rcases hf2 g hg with h | h
  · exact hrr g h
  · refine ⟨Nat.le_trans hk.chg.size h, fun x hx => ?_, fun q hq => ?_⟩
    · have := hk.ents.lt hx
      omega
    · have := blk_lt (hk.box q hq)
      omega
/-- The open list has got its mark. -/
theorem St.close {b : Nat} {vs : Array Value} {t : TypeId} {ao : Option Addr} {cap : Nat} {r : Option Nat} (h : St w0 w ((b, .cells vs t (0, 0)) :: K) es) (hr : Row w e k (.slice ao (n + 1) cap) r (n + 1) xs) (hrr : ∀ g, r = some g → w0.heap.size ≤ g ∧ (∀ x ∈ es, x.g ≠ g) ∧ ∀ q ∈ (b, Obj.cells vs t (0, 0)) :: K, q.1 ≠ g) (f : Nat) :
    ∃ g, ao = some ⟨g, 0, none⟩ ∧ St w0 (w.setCell ⟨b, f, none⟩ (.slice (some ⟨g, 0, none⟩) n cap)) ((b, .cells (vs.setIfInBounds f (.slice (some ⟨g, 0, none⟩) n cap)) t (0, 0)) :: K) (es ++ [⟨e, k, .slice (some ⟨g, 0, none⟩) (n + 1) cap, g, n + 1, xs⟩]) := by
  rcases hr.form with ⟨_, h0, _⟩ | ⟨g, cap', cur, hv, rfl, _⟩
  · omega
  · simp only [Value.slice.injEq, true_and] at hv
    obtain ⟨rfl, rfl⟩ := hv
    have hg := hrr g rfl
    exact ⟨g, rfl, (h.snoc ⟨e, k, _, g, n + 1, xs⟩ hg.1 hr (fun y hy => hg.2.1 y hy) (fun q hq => Ne.symm (hg.2.2 q hq))).put f _⟩
end
/-- An append to a list that is none yet. -/
theorem step_app0 {P : Program} {w : World} {ops : Array Oper} {o : Oper} {a : Act} {K : Act → World → Prop} {Q : Exit → Act → World → Prop} {E0 : Prop} (hgd : o.guard = none) (s x : Operand) (t : TypeId)
    (ho : o.op = .call { callee := .builtin .append, args := #[s, x], argTypes := #[t, t] }) {e k bytes : Nat} (E : ElemOk P t e k bytes)
    (hs : a.eval s = .slice none 0 0)
    {y : Value} {m : Nat} {ys : List Value} (hx : a.eval x = y) (hy : View w k y m ys) (h1 : ∀ u ∈ ys, u.oneCell' = true) (h63 : m ≤ maxLen) (hbytes : m * bytes ≤ 140737488355328)
    (h : ∀ ao' cap' r' w', Row w' e k (.slice ao' m cap') r' m ys → Chg [] w w' → Fresh w none r' → K (a.put o.dst (.slice ao' m cap')) w') :
    if Region.wanted o (yielded ops a.tmps) = true then Oper.wp P o a w K Q else E0 :=
  step_app hgd s x t ho E hs (Row.nil w e k) hx hy h1 (by omega) (by rw [Nat.zero_add]; exact hbytes) (fun ao' cap' r' w' h2 h3 h4 => by
    rw [Nat.zero_add] at h2 ⊢
    exact h ao' cap' r' w' h2 h3 h4)
end Go.Proofs.Ytbikekgljabalaa
