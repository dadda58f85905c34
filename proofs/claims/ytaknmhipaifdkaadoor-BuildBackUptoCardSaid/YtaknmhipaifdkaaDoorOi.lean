/- Walks of the builder: a unit's program. -/
import Derived.Test.YtaknmhipaifdkaaDoorOh
set_option linter.unusedSimpArgs false
set_option linter.unusedVariables false
set_option linter.unusedSectionVars false
namespace Go.AB
open Go.RowKit
theorem Hp.widen {S S' : List Nat} {w w1 : World} {J : List It} (h : Hp S w w1 J) (h1 : ∀ x ∈ S, x ∈ S') (h2 : ∀ x ∈ S', x < w.heap.size) : Hp S' w w1 J :=
  ⟨h.ok, h.lo, h.nd, h.chg.mono (fun x hx => .inl (h1 x hx)), h2⟩

end Go.AB
namespace Go.Proofs.YtaknmhipaifdkaaDoor
open Go.RowKit Go.AB
set_option linter.unusedSimpArgs false
set_option linter.unusedVariables false
set_option linter.unusedSectionVars false

theorem info_thr : (Tryd.prog.info? 50).map (fun i => (i.zero, i.size, i.bytes)) = some (some (.agg #[.string ⟨#[]⟩, .slice none 0 0, .slice none 0 0]), 3, 64) := by kernel_rfl
theorem elem_thr : ElemOk Tryd.prog 30 50 3 64 := .of Tryd.underlying30 info_thr rfl (by decide)
theorem decls_at {w : World} {ao : Option Addr} {n cap : Nat} {xs : List DcD} (h : Lst dcC 5 w (.slice ao n cap) xs) {i : Nat} (hi : i < xs.length) {x : DcD} (hx : xs[i] = x) : ∃ b off, ao = some ⟨b, off, none⟩ ∧
    w.cell? ⟨b, off + i * 5, none⟩ = some (.int .i64 x.kind) ∧ w.cell? ⟨b, off + i * 5 + 1, none⟩ = some (.string x.name) ∧ w.cell? ⟨b, off + i * 5 + 2, none⟩ = some (.int .i64 x.val) ∧ w.cell? ⟨b, off + i * 5 + 3, none⟩ = some (.int .i64 x.l) ∧ w.cell? ⟨b, off + i * 5 + 4, none⟩ = some (.int .i64 x.c) := by
  subst hx
  obtain ⟨b, off, e, hc⟩ := h.at dcC_len hi (by omega)
  exact ⟨b, off, e, hc 0 (by omega), hc 1 (by omega), hc 2 (by omega), hc 3 (by omega), hc 4 (by omega)⟩
theorem blocks_at {w : World} {ao : Option Addr} {n cap : Nat} {xs : List BkV} (h : Lst bkC 4 w (.slice ao n cap) xs) {i : Nat} (hi : i < xs.length) {x : BkV} (hx : xs[i] = x) : ∃ b off, ao = some ⟨b, off, none⟩ ∧
    w.cell? ⟨b, off + i * 4, none⟩ = some (.string x.b.name) ∧ w.cell? ⟨b, off + i * 4 + 1, none⟩ = some x.items ∧ w.cell? ⟨b, off + i * 4 + 2, none⟩ = some (.int .i64 x.b.l) ∧ w.cell? ⟨b, off + i * 4 + 3, none⟩ = some (.int .i64 x.b.c) := by
  subst hx
  obtain ⟨b, off, e, hc⟩ := h.at bkC_len hi (by omega)
  exact ⟨b, off, e, hc 0 (by omega), hc 1 (by omega), hc 2 (by omega), hc 3 (by omega)⟩
/-- Small enough. -/
structure SmallU (u : UnD) : Prop where
  decls : u.decls.length ≤ 1048576
  blocks : u.blocks.length ≤ 1048576
  dn : ∀ d ∈ u.decls, d.name.size ≤ 4294967296
  bn : ∀ k ∈ u.blocks, k.name.size ≤ 4294967296 ∧ k.items.length ≤ 1048576 ∧ ∀ x ∈ k.items, x.name.size ≤ 4294967296
/-- A thread that is built: where its lists lie. -/
structure ThO where
  t : ThrD
  ac : Option Addr
  cc : Nat
  rc : Option Nat
  ap : Option Addr
  cp : Nat
  rp : Option Nat
def ThO.v (x : ThO) : ThrV := ⟨x.t, .slice x.ac x.t.code.length x.cc, .slice x.ap x.t.places.length x.cp⟩
def trow (ts : List ThO) (at' : Option Addr) (ct : Nat) (rt : Option Nat) : It := .row 50 3 (.slice at' ts.length ct) rt ts.length ((ts.map ThO.v).flatMap thrC)
def rowsT (ts : List ThO) : List It := ts.flatMap fun x => [irow x.ac x.cc x.rc x.t.code, prow x.ap x.cp x.rp x.t.places]
/-- The program with its threads. -/
structure PT (w0 w : World) (P b bk bc : Nat) (st : Nms) (all : Nat) (p : PrgD) (q : Q4) (ts : List ThO) (at' : Option Addr) (ct : Nat) (rt : Option Nat) (rows : List It) : Prop where
  hp : Hp [P, b, bk, bc] w0 w ([row0 p q, row1 p q, row2 p q, row3 p q, trow ts at' ct rt] ++ rows)
  box : w.heap[P]? = some (.cells #[.slice q.a0 p.vars.length q.c0, .slice q.a1 p.vols.length q.c1, .slice q.a2 p.locks.length q.c2, .slice q.a3 p.bars.length q.c3, .slice at' ts.length ct] 32 (0, 0))
  bs : BS w b bk bc st all
  ne : P ≠ b ∧ P ≠ bk ∧ P ≠ bc
  mem : ∀ x ∈ ts, irow x.ac x.cc x.rc x.t.code ∈ rows ∧ prow x.ap x.cp x.rp x.t.places ∈ rows
  ma : all ≤ 262144
theorem declD_len {st st' : Nms} {name : ByteArray} {s most l c : Int} (h : declD st name s most l c = .ok st') : st'.length = st.length + 1 := by
  unfold declD at h
  split at h
  · cases h
  · split at h
    · cases h
    · split at h
      · cases h
      · simp only [Except.ok.injEq] at h
        subst h
        simp
theorem declnD_len {st st' : Nms} {p p' : PrgD} {d : DcD} (h : declnD st p d = .ok (st', p')) : st'.length = st.length + 1 ∧ p'.vars.length ≤ p.vars.length + 1 ∧ p'.vols.length ≤ p.vols.length + 1 ∧ p'.locks.length ≤ p.locks.length + 1 ∧ p'.bars.length ≤ p.bars.length + 1 := by
  unfold declnD at h
  split at h
  · cases h
  · split at h
    · split at h
      · cases h
      · rename_i e
        simp only [Except.ok.injEq, Prod.mk.injEq] at h
        obtain ⟨rfl, rfl⟩ := h
        refine ⟨declD_len e, ?_⟩
        unfold dcPut
        split
        · simp
        · split
          · simp
          · split <;> simp
    · cases h
theorem PT.start {w0 w : World} {P b bk bc : Nat} {st : Nms} {p : PrgD} {q : Q4} (h : PS w0 w P b bk bc st 0 p q) : PT w0 w P b bk bc st 0 p q [] none 0 none [] :=
  ⟨(h.hp.nil 50 3).perm ((List.perm_append_comm (l₁ := [trow [] none 0 none]) (l₂ := [row0 p q, row1 p q, row2 p q, row3 p q]))), h.box, h.bs, h.ne, by simp, by omega⟩
theorem PT.same {w0 w w1 : World} {P b bk bc : Nat} {st : Nms} {all : Nat} {p : PrgD} {q : Q4} {ts : List ThO} {at' : Option Addr} {ct : Nat} {rt : Option Nat} {rows : List It} (h : PT w0 w P b bk bc st all p q ts at' ct rt rows) (hc : Chg [] w w1) : PT w0 w1 P b bk bc st all p q ts at' ct rt rows :=
  ⟨h.hp.same hc, hc.heap h.box (by simp), h.bs.keep hc (by simp) (by simp) (by simp), h.ne, h.mem, h.ma⟩
/-- One more thread. -/
theorem PT.more {w0 w w4 w5 wa : World} {P b bk bc : Nat} {st : Nms} {all all' : Nat} {p : PrgD} {q : Q4} {ts : List ThO} {at' at5 : Option Addr} {ct ct5 : Nat} {rt rt5 : Option Nat} {rows : List It} (h : PT w0 w P b bk bc st all p q ts at' ct rt rows)
    {x : ThO} (hx : Hp [b] w w4 [irow x.ac x.cc x.rc x.t.code, prow x.ap x.cp x.rp x.t.places]) (hB : BS w4 b bk bc st all') (hm : all' ≤ 262144) (hca : Chg [] w4 wa) (hr : Row wa 50 3 (.slice at' ts.length ct) rt ts.length ((ts.map ThO.v).flatMap thrC) → True)
    (hr5 : Row w5 50 3 (.slice at5 (ts.length + 1) ct5) rt5 (ts.length + 1) ((ts.map ThO.v).flatMap thrC ++ thrC x.v)) (hg5 : Grew wa w5 rt rt5) :
    PT w0 (w5.setCell ⟨P, 4, none⟩ (.slice at5 (ts.length + 1) ct5)) P b bk bc st all' p q (ts ++ [x]) at5 ct5 rt5 ([irow x.ac x.cc x.rc x.t.code, prow x.ap x.cp x.rp x.t.places] ++ rows) := by
  have hs0 := h.hp.s0
  have hne := h.ne
  have hlt : ∀ y ∈ [P, b, bk, bc], y < w.heap.size := fun y hy => Nat.lt_of_lt_of_le (hs0 y hy) h.hp.chg.size
  have hj := h.hp.join (hx.widen (S' := [P, b, bk, bc]) (by simp) hlt)
  have hj2 := hj.perm (I' := [row0 p q, row1 p q, row2 p q, row3 p q, trow ts at' ct rt] ++ ([irow x.ac x.cc x.rc x.t.code, prow x.ap x.cp x.rp x.t.places] ++ rows)) (by
    rw [← List.append_assoc, ← List.append_assoc]
    exact List.Perm.append_right rows List.perm_append_comm)
  have hgr := hj2.grow 4 rfl hca hr5 hg5.chg hg5.fresh rfl
  have hset : Chg [P] w5 (w5.setCell ⟨P, 4, none⟩ (.slice at5 (ts.length + 1) ct5)) := (Chg.refl [P] w5).setCell (p := ⟨P, 4, none⟩) (.inl (by simp)) _
  have hrt : ∀ g, g ∈ rt.toList → g ∉ [P, b, bk, bc] := fun g hg => h.hp.out (x := trow ts at' ct rt) (by simp) (by simpa [trow, It.blk] using hg)
  have hrt' : ∀ y, y ∈ [P, b, bk, bc] → y ∉ rt.toList := fun y hy hm => hrt y hm hy
  have hB5 := (hB.keep hca (by simp) (by simp) (by simp)).keep hg5.chg (hrt' b (by simp)) (hrt' bk (by simp)) (hrt' bc (by simp))
  refine ⟨?_, ?_, hB5.keep hset (by simp; omega) (by simp; omega) (by simp; omega), hne, ?_, hm⟩
  · have := hgr.step (hset.mono (fun y hy => .inl (by simp at hy; simp [hy])))
    simpa [trow, ThO.v] using this
  · have h4 := hx.chg.heap h.box (by simp; omega)
    have := blk_set (hg5.chg.heap (hca.heap h4 (by simp)) (hrt' P (by simp))) 4 (.slice at5 (ts.length + 1) ct5)
    simpa using this
  · intro y hy
    rcases List.mem_append.1 hy with hy | hy
    · exact ⟨List.mem_append_right _ (h.mem y hy).1, List.mem_append_right _ (h.mem y hy).2⟩
    · simp only [List.mem_singleton] at hy
      subst hy
      exact ⟨by simp, by simp⟩
theorem prgV_of {S0 : List Nat} {w0 w : World} {p : PrgD} {q : Q4} {ts : List ThO} {at' : Option Addr} {ct : Nat} {rt : Option Nat} {rows : List It} (hp : Hp S0 w0 w ([row0 p q, row1 p q, row2 p q, row3 p q, trow ts at' ct rt] ++ rows)) (hmem : ∀ x ∈ ts, irow x.ac x.cc x.rc x.t.code ∈ rows ∧ prow x.ap x.cp x.rp x.t.places ∈ rows) :
    PrgV w (.agg #[.slice q.a0 p.vars.length q.c0, .slice q.a1 p.vols.length q.c1, .slice q.a2 p.locks.length q.c2, .slice q.a3 p.bars.length q.c3, .slice at' ts.length ct]) { p with thrs := ts.map ThO.t } := by
  refine ⟨_, _, _, _, _, ts.map ThO.v, rfl, (hp.rowAt (i := 0) rfl).view, (hp.rowAt (i := 1) rfl).view, (hp.rowAt (i := 2) rfl).view, (hp.rowAt (i := 3) rfl).view, ?_, by simp [ThO.v, Function.comp_def], fun x hx => ?_⟩
  · have := (hp.rowAt (i := 4) rfl).view
    unfold Lst
    rw [List.length_map]
    exact this
  · obtain ⟨y, hy, rfl⟩ := List.mem_map.1 hx
    have hm := hmem y hy
    have h1 := hp.ok _ (List.mem_append_right _ hm.1)
    have h2 := hp.ok _ (List.mem_append_right _ hm.2)
    exact ⟨Row.view h1, Row.view h2⟩
/-- A program in new memory: it stays while old blocks are written. -/
def PrgN (w w' : World) (v : Value) (p : PrgD) : Prop := ∀ S u, Chg S w' u → (∀ x ∈ S, x < w.heap.size) → PrgV u v p
theorem PrgN.now {w w' : World} {v : Value} {p : PrgD} (h : PrgN w w' v p) : PrgV w' v p := h [] w' (Chg.refl _ _) (by simp)
/-- What whole answers. -/
def WhP (w : World) (d : Except Flt PrgD) (e : Ending) (w' : World) : Prop :=
  (∃ f, d = .error f ∧ e = refused f ∧ Chg [] w w') ∨ (∃ p vp, d = .ok p ∧ e = .returned vp ∧ PrgN w w' vp p ∧ Chg [] w w')

set_option maxHeartbeats 16000000 in
set_option maxRecDepth 100000 in
theorem whole_calls {u : UnD} (hu : SmallU u) {v : Value} (w : World) (hv : UnV w v u) : Calls Tryd.prog 17 #[v] w (WhP w (progD u)) := by
  obtain ⟨va, vb, bs, rfl, hda, hbb, hbs, hit⟩ := hv
  obtain ⟨ds, ks⟩ := u
  obtain ⟨ad, cd, rfl, hdc, _, _⟩ := hda.len
  obtain ⟨ab, cb, rfl, hbc, _, _⟩ := hbb.len
  simp only at hda hbs ⊢
  subst hbs
  have hlb : bs.length ≤ 1048576 := by have := hu.blocks; simpa using this
  have hld : ds.length ≤ 1048576 := hu.decls
  have HU := hid hu
  have HDA := hid hda
  have HBB := hid hbb
  have HIT := hid hit
  obtain ⟨D, hD⟩ : ∃ D, progD ⟨ds, bs.map BkV.b⟩ = D := ⟨_, rfl⟩
  rw [hD]
  unfold progD at hD
  simp only at hD
  have HD := hid hD
  clear hu hda hbb hit hD
  have hmm := fun W => @run_makeMap Tryd.prog W
  go_enter Tryd.func17, Tryd.ntmps17
  go_wp2_with fail
  obtain ⟨w0, hw0⟩ : ∃ w0, ((((((w.alloc (.cells #[.slice ad ds.length cd, .slice ab bs.length cb] 25)).alloc (.cells #[.slice none 0 0, .slice none 0 0, .slice none 0 0, .slice none 0 0, .slice none 0 0] 32)).alloc (.cells #[.slice none 0 0, .slice none 0 0, .slice none 0 0, .slice none 0 0, .slice none 0 0] 32)).alloc (.map #[] 0)).alloc (.map #[] 0)).alloc (.cells #[.map (some (w.heap.size + 1 + 1 + 1)), .map (some (w.heap.size + 1 + 1 + 1 + 1)), .int .i64 0] 90)) = w0 := ⟨_, rfl⟩
  rw [hw0]
  have hc0 : Chg [] w w0 := by rw [← hw0]; exact ((((((Chg.refl [] w).alloc _).alloc _).alloc _).alloc _).alloc _).alloc _
  have hz0 : w0.heap.size = w.heap.size + 1 + 1 + 1 + 1 + 1 + 1 := by rw [← hw0]; simp
  have hU : w0.heap[w.heap.size]? = some (.cells #[.slice ad ds.length cd, .slice ab bs.length cb] 25 (0, 0)) := by rw [← hw0]; exact blk_alloc_old (blk_alloc_old (blk_alloc_old (blk_alloc_old (blk_alloc_old (heap_alloc_new w _) _) _) _) _) _
  have hR : w0.heap[w.heap.size + 1]? = some (.cells #[.slice none 0 0, .slice none 0 0, .slice none 0 0, .slice none 0 0, .slice none 0 0] 32 (0, 0)) := by rw [← hw0]; refine blk_alloc_old (blk_alloc_old (blk_alloc_old (blk_alloc_old ?_ _) _) _) _; have h := heap_alloc_new (w.alloc (.cells #[.slice ad ds.length cd, .slice ab bs.length cb] 25)) (.cells #[.slice none 0 0, .slice none 0 0, .slice none 0 0, .slice none 0 0, .slice none 0 0] 32); simpa only [World.size_alloc] using h
  have hP : w0.heap[w.heap.size + 1 + 1]? = some (.cells #[.slice none 0 0, .slice none 0 0, .slice none 0 0, .slice none 0 0, .slice none 0 0] 32 (0, 0)) := by rw [← hw0]; refine blk_alloc_old (blk_alloc_old (blk_alloc_old ?_ _) _) _; have h := heap_alloc_new ((w.alloc (.cells #[.slice ad ds.length cd, .slice ab bs.length cb] 25)).alloc (.cells #[.slice none 0 0, .slice none 0 0, .slice none 0 0, .slice none 0 0, .slice none 0 0] 32)) (.cells #[.slice none 0 0, .slice none 0 0, .slice none 0 0, .slice none 0 0, .slice none 0 0] 32); simpa only [World.size_alloc] using h
  have hk : MapF w0 (w.heap.size + 1 + 1 + 1) Value.string (fKn []) := by
    rw [← hw0]
    have h := MapF.made (((w.alloc (.cells #[.slice ad ds.length cd, .slice ab bs.length cb] 25)).alloc (.cells #[.slice none 0 0, .slice none 0 0, .slice none 0 0, .slice none 0 0, .slice none 0 0] 32)).alloc (.cells #[.slice none 0 0, .slice none 0 0, .slice none 0 0, .slice none 0 0, .slice none 0 0] 32)) Value.string
    simp only [World.size_alloc] at h
    exact ((((h.keep (S := []) ((Chg.refl [] _).alloc _) (by simp)).keep (S := []) ((Chg.refl [] _).alloc _) (by simp))).congr (fun _ => rfl))
  have hc : MapF w0 (w.heap.size + 1 + 1 + 1 + 1) (Value.int .i64) (fCt []) := by
    rw [← hw0]
    have h := MapF.made ((((w.alloc (.cells #[.slice ad ds.length cd, .slice ab bs.length cb] 25)).alloc (.cells #[.slice none 0 0, .slice none 0 0, .slice none 0 0, .slice none 0 0, .slice none 0 0] 32)).alloc (.cells #[.slice none 0 0, .slice none 0 0, .slice none 0 0, .slice none 0 0, .slice none 0 0] 32)).alloc (.map #[] 0)) (Value.int .i64)
    simp only [World.size_alloc] at h
    exact (h.keep (S := []) ((Chg.refl [] _).alloc _) (by simp)).congr (fun _ => rfl)
  have hB : w0.heap[w.heap.size + 1 + 1 + 1 + 1 + 1]? = some (.cells #[.map (some (w.heap.size + 1 + 1 + 1)), .map (some (w.heap.size + 1 + 1 + 1 + 1)), .int .i64 (0 : Nat)] 90 (0, 0)) := by
    rw [← hw0]
    have h := heap_alloc_new (((((w.alloc (.cells #[.slice ad ds.length cd, .slice ab bs.length cb] 25)).alloc (.cells #[.slice none 0 0, .slice none 0 0, .slice none 0 0, .slice none 0 0, .slice none 0 0] 32)).alloc (.cells #[.slice none 0 0, .slice none 0 0, .slice none 0 0, .slice none 0 0, .slice none 0 0] 32)).alloc (.map #[] 0)).alloc (.map #[] 0)) (.cells #[.map (some (w.heap.size + 1 + 1 + 1)), .map (some (w.heap.size + 1 + 1 + 1 + 1)), .int .i64 0] 90)
    simp only [World.size_alloc] at h
    exact h
  have hord : ∃ R P bk bc b : Nat, R = w.heap.size + 1 ∧ P = w.heap.size + 1 + 1 ∧ bk = w.heap.size + 1 + 1 + 1 ∧ bc = w.heap.size + 1 + 1 + 1 + 1 ∧ b = w.heap.size + 1 + 1 + 1 + 1 + 1 := ⟨_, _, _, _, _, rfl, rfl, rfl, rfl, rfl⟩
  obtain ⟨R, P, bk, bc, b, eR, eP, ek, ec, eb⟩ := hord
  rw [← eb] at hB
  rw [← ec] at hB hc
  rw [← ek] at hB hk
  rw [← eP] at hP
  rw [← eR] at hR
  rw [← eb, ← ec, ← ek, ← eP, ← eR]
  have hlt : w.heap.size < R ∧ R < P ∧ P < bk ∧ bk < bc ∧ bc < b ∧ b < w0.heap.size := by omega
  clear eb ec ek eP eR hz0 hw0 hmm
  have HC0 := hid hc0
  have HUR := hid (And.intro hU hR)
  have hps : PS w0 w0 P b bk bc [] 0 ⟨[], [], [], [], []⟩ ⟨none, 0, none, none, 0, none, none, 0, none, none, 0, none⟩ :=
    ⟨((((Hp.start (S0 := [P, b, bk, bc]) w0 (by simp; omega)).nil 74 2).nil 9 1).nil 61 2).nil 61 2, hP, ⟨hB, hk, hc, by omega⟩, by omega, rfl⟩
  have HPS := hid hps
  have hu1 : w0.cell? ⟨w.heap.size, 1, none⟩ = some (.slice ab bs.length cb) := blk_cell hU 1
  obtain ⟨D1, hD1⟩ : ∃ D1, declsD ds [] ⟨[], [], [], [], []⟩ = D1 := ⟨_, rfl⟩
  have HD1 := hid hD1
  have hD := HD.out
  rw [hD1] at hD
  have HD' := hid hD
  clear HD hD hD1 hU hR hP hk hc hB hps hc0 hu1
  go_loopg [18] ds.length (fun gk vi wr => ∃ (st : Nms) (p : PrgD) (q : Q4) (i : Nat), Hid (PS w0 wr P b bk bc st 0 p q) ∧ gk + i = ds.length ∧ st.length ≤ i ∧ (p.vars.length ≤ i ∧ p.vols.length ≤ i ∧ p.locks.length ≤ i ∧ p.bars.length ≤ i) ∧ vi = .int .i64 i ∧ Hid (declsD (ds.drop i) st p = D1))
  case atStart => exact ⟨[], _, _, 0, HPS, by omega, by simp, by simp, rfl, HD1⟩
  case round =>
    obtain ⟨st, p, q, i, HS, hgi, hst, hl, rfl, HE⟩ := hrel
    by_cases hlt2 : i < ds.length
    · obtain ⟨x, hx⟩ : ∃ x, ds[i] = x := ⟨_, rfl⟩
      have hcw : Chg [] w wr := HC0.out.trans HS.out.hp.chg (fun x hx => .inr (by simp at hx; omega))
      obtain ⟨bi, oi, hai, x0, x1, x2, x3, x4⟩ := decls_at (HDA.out.keep hcw) hlt2 hx
      have hxn : x.name.size ≤ 4294967296 := by rw [← hx]; exact HU.out.dn _ (List.getElem_mem hlt2)
      have hEq : declsD (x :: ds.drop (i + 1)) st p = D1 := by rw [← HE.out, List.drop_eq_getElem_cons hlt2, hx]
      have HQ := hid hEq
      subst hai
      have hds := declaration_calls (HS.out.same ((Chg.refl [] wr).alloc (.cells #[.int .i64 x.kind, .string x.name, .int .i64 x.val, .int .i64 x.l, .int .i64 x.c] 72))) x hxn (by omega) (by omega)
      have HDS := hid hds
      clear hx hEq hxn hds
      go_wp2_with (go_at_call 26; refine halt (fun X hX => ?_))
      rw [hX.out]; clear hX
      refine HDS.out.mono ?_
      rintro e w2 (⟨f, hd, rfl, hc2⟩ | ⟨st', p', q', hd, rfl, hps2⟩)
      · have h1 : D1 = .error f := by
          rw [← HQ.out]
          unfold declsD
          rw [hd]
        have hD2 : D = .error f := by rw [← HD'.out, h1]
        have HD2 := hid hD2
        clear h1 hD2
        go_wp2
        exact ⟨rfl, .inl ⟨f, HD2.out, rfl, hcw.trans' (((Chg.refl [] wr).alloc _).trans' hc2)⟩⟩
      · have hlen := declnD_len hd
        have hE2 : declsD (ds.drop (i + 1)) st' p' = D1 := by
          rw [← HQ.out]
          conv => rhs; unfold declsD
          rw [hd]
        have HE2 := hid hE2
        have HPS2 := hid hps2
        clear hd hE2 hps2
        go_wp2
        go_roundg (gk - 1)
        case measure => omega
        case rel => exact ⟨st', p', q', i + 1, HPS2, by omega, by omega, by omega, by go_num, HE2⟩
    · have hnil : ds.drop i = [] := List.drop_eq_nil_of_le (by omega)
      have h1 : D1 = .ok (st, p) := by rw [← HE.out, hnil]; rfl
      have hD2 := HD'.out
      rw [h1] at hD2
      simp only at hD2
      obtain ⟨D2, hDD⟩ : ∃ D2, blocksD (bs.map BkV.b) st = D2 := ⟨_, rfl⟩
      rw [hDD] at hD2
      have HD2 := hid hD2
      have HE2 := hid hDD
      have hub : ∀ W, Chg [P, b, bk, bc] w0 W → W.cell? ⟨w.heap.size, 1, none⟩ = some (.slice ab bs.length cb) := fun W hW => blk_cell (hW.heap HUR.out.1 (by simp; omega)) 1
      have HUB := hid hub
      have hu1 := hub _ HS.out.hp.chg
      have hst1 : st.length ≤ 1048576 := by omega
      clear hnil h1 hD2 hDD hub
      go_wp2_with fail
      go_loopg [29] bs.length (fun gk vi wr => ∃ (st : Nms) (i : Nat), Hid (PS w0 wr P b bk bc st 0 p q) ∧ gk + i = bs.length ∧ st.length ≤ 1048576 + i ∧ vi = .int .i64 i ∧ Hid (blocksD ((bs.map BkV.b).drop i) st = D2))
      case atStart => exact ⟨st, 0, HS, by omega, by omega, rfl, HE2⟩
      case round =>
        obtain ⟨st, i, HS, hgi, hst, rfl, HE⟩ := hrel
        have hcw : Chg [] w wr := HC0.out.trans HS.out.hp.chg (fun x hx => .inr (by simp at hx; omega))
        by_cases hlt2 : i < bs.length
        · obtain ⟨x, hx⟩ : ∃ x, bs[i] = x := ⟨_, rfl⟩
          obtain ⟨bi, oi, hai, x0, x1, x2, x3⟩ := blocks_at (HBB.out.keep hcw) hlt2 hx
          have hmemx : x ∈ bs := by rw [← hx]; exact List.getElem_mem hlt2
          have hxn := HU.out.bn x.b (List.mem_map.2 ⟨x, hmemx, rfl⟩)
          have hEq : blocksD (x.b :: (bs.map BkV.b).drop (i + 1)) st = D2 := by
            have hdr := List.drop_eq_getElem_cons (l := bs.map BkV.b) (i := i) (by simpa using hlt2)
            rw [List.getElem_map, hx] at hdr
            rw [← HE.out, hdr]
          have HQ := hid hEq
          obtain ⟨ai2, ci2, hxi, _, _, _⟩ := (HIT.out x hmemx).len
          rw [hxi] at x1
          subst hai
          have hds := declare_calls x.b.name hxn.1 5 65535 x.b.l x.b.c (by omega) _ (HS.out.same ((Chg.refl [] wr).alloc (.cells #[.string x.b.name, .slice ai2 x.b.items.length ci2, .int .i64 x.b.l, .int .i64 x.b.c] 56))).bs
          have hSa := HS.out.same ((Chg.refl [] wr).alloc (.cells #[.string x.b.name, .slice ai2 x.b.items.length ci2, .int .i64 x.b.l, .int .i64 x.b.c] 56))
          have HDS := hid hds
          have HSA := hid hSa
          clear hx hEq hxn hds hSa hmemx hu1 hxi
          go_wp2_with (go_at_call 27; refine halt (fun X hX => ?_))
          rw [hX.out]; clear hX
          refine HDS.out.mono ?_
          rintro e w2 (⟨f, hd, rfl, hc2⟩ | ⟨st', hd, rfl, hb2, hc2⟩)
          · have h1 : D2 = .error f := by
              rw [← HQ.out]
              unfold blocksD
              rw [hd]
            have hD3 : D = .error f := by rw [← HD2.out, h1]
            have HD3 := hid hD3
            clear h1 hD3
            go_wp2
            exact ⟨rfl, .inl ⟨f, HD3.out, rfl, hcw.trans' (((Chg.refl [] wr).alloc _).trans' hc2)⟩⟩
          · have hlen := declD_len hd
            have hE3 : blocksD ((bs.map BkV.b).drop (i + 1)) st' = D2 := by
              rw [← HQ.out]
              conv => rhs; unfold blocksD
              rw [hd]
            have HE3 := hid hE3
            have HPS3 := hid (HSA.out.decl hb2 hc2)
            clear hd hE3 hb2
            go_wp2
            go_roundg (gk - 1)
            case measure => omega
            case rel => exact ⟨st', i + 1, HPS3, by omega, by omega, by go_num, HE3⟩
        · have hnil : (bs.map BkV.b).drop i = [] := List.drop_eq_nil_of_le (by simp; omega)
          have h1 : D2 = .ok st := by rw [← HE.out, hnil]; rfl
          have hD3 := HD2.out
          rw [h1] at hD3
          simp only at hD3
          obtain ⟨D3, hDD⟩ : ∃ D3, thrsD st (bs.map BkV.b) 0 [] = D3 := ⟨_, rfl⟩
          rw [hDD] at hD3
          have HD3 := hid hD3
          have HE3 := hid hDD
          have hu3 := HUB.out _ HS.out.hp.chg
          have HPT := hid (PT.start HS.out)
          clear hnil h1 hD3 hDD hu1
          go_wp2_with fail
          go_loopg [43] bs.length (fun gk vi wr => ∃ (all : Nat) (ts : List ThO) (at' : Option Addr) (ct : Nat) (rt : Option Nat) (rows : List It) (i : Nat), Hid (PT w0 wr P b bk bc st all p q ts at' ct rt rows) ∧ gk + i = bs.length ∧ ts.length ≤ i ∧ vi = .int .i64 i ∧ Hid (thrsD st ((bs.map BkV.b).drop i) all (ts.map ThO.t) = D3))
          case atStart => exact ⟨0, [], none, 0, none, [], 0, HPT, by omega, by simp, rfl, HE3⟩
          case round =>
            obtain ⟨all, ts, at', ct, rt, rows, i, HT, hgi, htl, rfl, HE⟩ := hrel
            have hcw : Chg [] w wr := HC0.out.trans HT.out.hp.chg (fun x hx => .inr (by simp at hx; omega))
            by_cases hlt2 : i < bs.length
            · obtain ⟨x, hx⟩ : ∃ x, bs[i] = x := ⟨_, rfl⟩
              obtain ⟨bi, oi, hai, x0, x1, x2, x3⟩ := blocks_at (HBB.out.keep hcw) hlt2 hx
              have hmemx : x ∈ bs := by rw [← hx]; exact List.getElem_mem hlt2
              have hxn := HU.out.bn x.b (List.mem_map.2 ⟨x, hmemx, rfl⟩)
              have hEq : thrsD st (x.b :: (bs.map BkV.b).drop (i + 1)) all (ts.map ThO.t) = D3 := by
                have hdr := List.drop_eq_getElem_cons (l := bs.map BkV.b) (i := i) (by simpa using hlt2)
                rw [List.getElem_map, hx] at hdr
                rw [← HE.out, hdr]
              have HQ := hid hEq
              have hitx := HIT.out x hmemx
              obtain ⟨ai2, ci2, hxi, _, _, _⟩ := hitx.len
              rw [hxi] at x1 hitx
              subst hai
              have hca := (Chg.refl [] wr).alloc (.cells #[.string x.b.name, .slice ai2 x.b.items.length ci2, .int .i64 x.b.l, .int .i64 x.b.c] 56)
              have hTa := HT.out.same hca
              obtain ⟨wz, hwz⟩ : ∃ wz, wr.alloc (.cells #[.string x.b.name, .slice ai2 x.b.items.length ci2, .int .i64 x.b.l, .int .i64 x.b.c] 56) = wz := ⟨_, rfl⟩
              rw [hwz] at hca hTa
              have hbz : wz.heap[wr.heap.size]? = some (.cells #[.string x.b.name, .slice ai2 x.b.items.length ci2, .int .i64 x.b.l, .int .i64 x.b.c] 56 (0, 0)) := by rw [← hwz]; exact heap_alloc_new wr _
              have s0 : wz.cell? ⟨wr.heap.size, 0, none⟩ = some (.string x.b.name) := blk_cell hbz 0
              have s1 : wz.cell? ⟨wr.heap.size, 1, none⟩ = some (.slice ai2 x.b.items.length ci2) := blk_cell hbz 1
              have s2 : wz.cell? ⟨wr.heap.size, 2, none⟩ = some (.int .i64 x.b.l) := blk_cell hbz 2
              have s3 : wz.cell? ⟨wr.heap.size, 3, none⟩ = some (.int .i64 x.b.c) := blk_cell hbz 3
              have P4 : wz.cell? ⟨P, 4, none⟩ = some (.slice at' ts.length ct) := blk_cell hTa.box 4
              have hTd := hTa.same ((Chg.refl [] wz).drew)
              have hth := thread_calls x.b hxn.2.2 hxn.2.1 hTd.bs hTd.ma (v := .slice ai2 x.b.items.length ci2) (fun u hu => hitx.keep ((hcw.trans' (hca.trans' ((Chg.refl [] wz).drew))).trans hu (fun y hy => .inr (by simp at hy; omega))))
              have HTH := hid hth
              have HTD := hid hTd
              have hbw := blk_lt HT.out.bs.blk
              have HCA := hid hca
              clear hx hEq hxn hth hTd hTa hitx hxi hmemx hu3 hbz hca
              go_wp2_with fail
              cases hT : thrD st all x.b with
              | error f =>
                have h1 : D3 = .error f := by
                  rw [← HQ.out]
                  unfold thrsD
                  rw [hT]
                have hD4 : D = .error f := by rw [← HD3.out, h1]
                have HD4 := hid hD4
                have HTE := hid (HTH.out.mono (R' := fun e w' => e = refused f ∧ Chg [b] wz.drew w') (fun e w' hp => by
                  rw [hT] at hp
                  rcases hp with ⟨f', h1, h2, h3⟩ | ⟨_, _, _, _, _, _, _, _, h1, _⟩
                  · simp only [Except.error.injEq] at h1; subst h1; exact ⟨h2, h3⟩
                  · cases h1))
                clear h1 hD4 hT
                (refine wp_region_held_drew (S := (fun w' => w'.cell? ⟨P, 4, none⟩ = some (.slice at' ts.length ct) ∧ w'.cell? ⟨wr.heap.size, 0, none⟩ = some (.string x.b.name) ∧ w'.cell? ⟨wr.heap.size, 1, none⟩ = some (.slice ai2 x.b.items.length ci2) ∧ w'.cell? ⟨wr.heap.size, 2, none⟩ = some (.int .i64 x.b.l) ∧ w'.cell? ⟨wr.heap.size, 3, none⟩ = some (.int .i64 x.b.c))) (by kernel_rfl) (by exact ⟨P4, s0, s1, s2, s3⟩) (fun hHeld => ?_); (refine wpAnyH_take (i := 0) (v := ?_) rfl (by kernel_rfl) (by kernel_rfl) (by kernel_rfl) (fun _ _ _ h => h) (Or.inl ⟨by rfl, ?_⟩) (by assumption) ?_; rotate_left 1; (focus (intro w hSw; (try dsimp only at hSw); go_simp; (try with_reducible rfl))); (try simp only [List.getElem_toArray, List.getElem_cons_zero, List.getElem_cons_succ, Act.put, List.setIfInBounds_toArray, List.set_cons_zero, List.set_cons_succ])); (refine wpAnyH_take (i := 1) (v := ?_) rfl (by kernel_rfl) (by kernel_rfl) (by kernel_rfl) (fun _ _ _ h => h) (Or.inl ⟨by rfl, ?_⟩) (by assumption) ?_; rotate_left 1; (focus (intro w hSw; (try dsimp only at hSw); go_simp; (try with_reducible rfl))); (try simp only [List.getElem_toArray, List.getElem_cons_zero, List.getElem_cons_succ, Act.put, List.setIfInBounds_toArray, List.set_cons_zero, List.set_cons_succ])); (refine wpAnyH_take (i := 2) (v := ?_) rfl (by kernel_rfl) (by kernel_rfl) (by kernel_rfl) (fun _ _ _ h => h) (Or.inl ⟨by rfl, ?_⟩) (by assumption) ?_; rotate_left 1; (focus (intro w hSw; (try dsimp only at hSw); go_simp; (try with_reducible rfl))); (try simp only [List.getElem_toArray, List.getElem_cons_zero, List.getElem_cons_succ, Act.put, List.setIfInBounds_toArray, List.set_cons_zero, List.set_cons_succ])); (refine wpAnyH_take (i := 3) (v := ?_) rfl (by kernel_rfl) (by kernel_rfl) (by kernel_rfl) (fun _ _ _ h => h) (Or.inl ⟨by rfl, ?_⟩) (by assumption) ?_; rotate_left 1; (focus (intro w hSw; (try dsimp only at hSw); go_simp; (try with_reducible rfl))); (try simp only [List.getElem_toArray, List.getElem_cons_zero, List.getElem_cons_succ, Act.put, List.setIfInBounds_toArray, List.set_cons_zero, List.set_cons_succ])); (refine wpAnyH_ready (rs := [4]) (by kernel_rfl) (by simp) ?_; refine AllReadyH.cons rfl (fun K hK => ?_) AllReadyH.nil; go_simp); (go_at_call 28; refine HTE.out.mono ?_; rintro e w' ⟨rfl, hcr⟩))
                exact ⟨rfl, .inl ⟨f, HD4.out, rfl, (hcw.trans' (HCA.out.trans' ((Chg.refl [] wz).drew))).trans hcr (fun y hy => .inr (by simp at hy; omega))⟩⟩
              | ok r =>
                obtain ⟨all', t⟩ := r
                have hE4 : thrsD st ((bs.map BkV.b).drop (i + 1)) all' (ts.map ThO.t ++ [t]) = D3 := by
                  rw [← HQ.out]
                  conv => rhs; unfold thrsD
                  rw [hT]
                have HE4 := hid hE4
                have HTE := hid (HTH.out.mono (R' := fun e w' => ∃ ac cc rc ap cp rp, e = .returned (.agg #[.string t.name, .slice ac t.code.length cc, .slice ap t.places.length cp]) ∧ BS w' b bk bc st all' ∧ Hp [b] wz.drew w' [irow ac cc rc t.code, prow ap cp rp t.places] ∧ all' ≤ 262144) (fun e w' hp => by
                  rw [hT] at hp
                  rcases hp with ⟨f', h1, _⟩ | ⟨a2, t2, ac, cc, rc, ap, cp, rp, h1, h2, h3, h4, h5⟩
                  · cases h1
                  · simp only [Except.ok.injEq, Prod.mk.injEq] at h1
                    obtain ⟨rfl, rfl⟩ := h1
                    exact ⟨ac, cc, rc, ap, cp, rp, h2, h3, h4, h5⟩))
                have HP4D : Hid (wz.drew.cell? ⟨P, 4, none⟩ = some (.slice at' ts.length ct)) := hid P4
                have HRT := HTD.out.hp.rowAt (i := 4) rfl
                have HRL : Hid (∀ g, rt = some g → g < wr.heap.size) := hid (HT.out.hp.rowAt (i := 4) rfl).lt
                have HRO : Hid (∀ g, rt = some g → g ∉ [P, b, bk, bc]) := hid (fun g hg => HT.out.hp.out (x := trow ts at' ct rt) (by simp) hg)
                have HRB : Hid (∀ g, rt = some g → g ≠ b) := hid (fun g hg e => HRO.out g hg (by simp [e]))
                have HRP : Hid (∀ g, rt = some g → g ≠ P) := hid (fun g hg e => HRO.out g hg (by simp [e]))
                have hPw : P < wr.heap.size := by omega
                clear hE4 hT HRT
                (refine wp_region_held_drew (S := (fun w' => w'.cell? ⟨wr.heap.size, 0, none⟩ = some (.string x.b.name) ∧ w'.cell? ⟨wr.heap.size, 1, none⟩ = some (.slice ai2 x.b.items.length ci2) ∧ w'.cell? ⟨wr.heap.size, 2, none⟩ = some (.int .i64 x.b.l) ∧ w'.cell? ⟨wr.heap.size, 3, none⟩ = some (.int .i64 x.b.c))) (by kernel_rfl) (by exact ⟨s0, s1, s2, s3⟩) (fun hHeld => ?_); (refine wpAnyH_take (i := 0) (v := ?_) rfl (by kernel_rfl) (by kernel_rfl) (by kernel_rfl) (fun _ _ _ h => h) (Or.inl ⟨by rfl, ?_⟩) (by assumption) ?_; rotate_left 1; (focus (intro w hSw; (try dsimp only at hSw); go_simp; (try with_reducible rfl))); (try simp only [List.getElem_toArray, List.getElem_cons_zero, List.getElem_cons_succ, Act.put, List.setIfInBounds_toArray, List.set_cons_zero, List.set_cons_succ])); (refine wpAnyH_take (i := 2) (v := ?_) rfl (by kernel_rfl) (by kernel_rfl) (by kernel_rfl) (fun _ _ _ h => h) (Or.inl ⟨by rfl, ?_⟩) (by assumption) ?_; rotate_left 1; (focus (intro w hSw; (try dsimp only at hSw); go_simp; (try with_reducible rfl))); (try simp only [List.getElem_toArray, List.getElem_cons_zero, List.getElem_cons_succ, Act.put, List.setIfInBounds_toArray, List.set_cons_zero, List.set_cons_succ])); (refine wpAnyH_take (i := 3) (v := ?_) rfl (by kernel_rfl) (by kernel_rfl) (by kernel_rfl) (fun _ _ _ h => h) (Or.inl ⟨by rfl, ?_⟩) (by assumption) ?_; rotate_left 1; (focus (intro w hSw; (try dsimp only at hSw); go_simp; (try with_reducible rfl))); (try simp only [List.getElem_toArray, List.getElem_cons_zero, List.getElem_cons_succ, Act.put, List.setIfInBounds_toArray, List.set_cons_zero, List.set_cons_succ])); (refine wpAnyH_ready (rs := [1, 4]) (by kernel_rfl) (by simp) ?_; refine AllReadyH.cons rfl (fun K hK => ?_) (AllReadyH.cons rfl (fun K hK => ?_) AllReadyH.nil)); (focus (go_simp; (refine hK.out _ _ (by exact hHeld) (fun hHeld => ?_); clear hK K; (try simp only [List.getElem_toArray, List.getElem_cons_zero, List.getElem_cons_succ, Act.put, List.setIfInBounds_toArray, List.set_cons_zero, List.set_cons_succ])); (refine wpAnyH_ready (rs := [4]) (by kernel_rfl) (by simp) ?_; refine AllReadyH.cons rfl (fun K hK => ?_) AllReadyH.nil; go_simp; go_at_call 28; refine HTE.out.mono ?_; rintro e w4 ⟨ac, cc, rc, ap, cp, rp, rfl, hb4, hp4, hm4⟩; have v1 := hp4.chg.cell (HP4D.out) (by have := HTD.out.ne; simp; omega); have v1a := (fun o => ((Chg.refl [] w4).alloc o).cell v1 (by simp)); have hrt4 := Row.keep (HTD.out.hp.rowAt (i := 4) rfl) hp4.chg (fun g hg hm => HRB.out g hg (by simpa using hm)); (refine hK.out _ _ (by exact (by have hn : wr.heap.size ∉ [b] := (by simp; omega); exact ⟨hp4.chg.cell hHeld.1 hn, hp4.chg.cell hHeld.2.1 hn, hp4.chg.cell hHeld.2.2.1 hn, hp4.chg.cell hHeld.2.2.2 hn⟩)) (fun hHeld => ?_); clear hK K; (try simp only [List.getElem_toArray, List.getElem_cons_zero, List.getElem_cons_succ, Act.put, List.setIfInBounds_toArray, List.set_cons_zero, List.set_cons_succ]))); (refine wpAnyH_ready (rs := [5]) (by kernel_rfl) (by simp) ?_; refine AllReadyH.cons rfl (fun K hK => ?_) AllReadyH.nil; go_simp; (refine hK.out _ _ (by exact (by exact ⟨((Chg.refl [] _).alloc _).cell hHeld.1 (by simp), ((Chg.refl [] _).alloc _).cell hHeld.2.1 (by simp), ((Chg.refl [] _).alloc _).cell hHeld.2.2.1 (by simp), ((Chg.refl [] _).alloc _).cell hHeld.2.2.2 (by simp)⟩)) (fun hHeld => ?_); clear hK K; (try simp only [List.getElem_toArray, List.getElem_cons_zero, List.getElem_cons_succ, Act.put, List.setIfInBounds_toArray, List.set_cons_zero, List.set_cons_succ]))))); rotate_left 1; (focus (go_simp; go_at_call 28; refine HTE.out.mono ?_; rintro e w4 ⟨ac, cc, rc, ap, cp, rp, rfl, hb4, hp4, hm4⟩; have v1 := hp4.chg.cell (HP4D.out) (by have := HTD.out.ne; simp; omega); have v1a := (fun o => ((Chg.refl [] w4).alloc o).cell v1 (by simp)); have hrt4 := Row.keep (HTD.out.hp.rowAt (i := 4) rfl) hp4.chg (fun g hg hm => HRB.out g hg (by simpa using hm)); (refine hK.out _ _ (by exact (by have hn : wr.heap.size ∉ [b] := (by simp; omega); exact ⟨hp4.chg.cell hHeld.1 hn, hp4.chg.cell hHeld.2.1 hn, hp4.chg.cell hHeld.2.2.1 hn, hp4.chg.cell hHeld.2.2.2 hn⟩)) (fun hHeld => ?_); clear hK K; (try simp only [List.getElem_toArray, List.getElem_cons_zero, List.getElem_cons_succ, Act.put, List.setIfInBounds_toArray, List.set_cons_zero, List.set_cons_succ])); (refine wpAnyH_ready (rs := [1, 5]) (by kernel_rfl) (by simp) ?_; refine AllReadyH.cons rfl (fun K hK => ?_) (AllReadyH.cons rfl (fun K hK => ?_) AllReadyH.nil)); (focus (go_simp; (refine hK.out _ _ (by exact hHeld) (fun hHeld => ?_); clear hK K; (try simp only [List.getElem_toArray, List.getElem_cons_zero, List.getElem_cons_succ, Act.put, List.setIfInBounds_toArray, List.set_cons_zero, List.set_cons_succ])); (refine wpAnyH_ready (rs := [5]) (by kernel_rfl) (by simp) ?_; refine AllReadyH.cons rfl (fun K hK => ?_) AllReadyH.nil; go_simp; (refine hK.out _ _ (by exact (by exact ⟨((Chg.refl [] _).alloc _).cell hHeld.1 (by simp), ((Chg.refl [] _).alloc _).cell hHeld.2.1 (by simp), ((Chg.refl [] _).alloc _).cell hHeld.2.2.1 (by simp), ((Chg.refl [] _).alloc _).cell hHeld.2.2.2 (by simp)⟩)) (fun hHeld => ?_); clear hK K; (try simp only [List.getElem_toArray, List.getElem_cons_zero, List.getElem_cons_succ, Act.put, List.setIfInBounds_toArray, List.set_cons_zero, List.set_cons_succ]))))); rotate_left 1; (focus (go_simp; (refine hK.out _ _ (by exact (by exact ⟨((Chg.refl [] _).alloc _).cell hHeld.1 (by simp), ((Chg.refl [] _).alloc _).cell hHeld.2.1 (by simp), ((Chg.refl [] _).alloc _).cell hHeld.2.2.1 (by simp), ((Chg.refl [] _).alloc _).cell hHeld.2.2.2 (by simp)⟩)) (fun hHeld => ?_); clear hK K; (try simp only [List.getElem_toArray, List.getElem_cons_zero, List.getElem_cons_succ, Act.put, List.setIfInBounds_toArray, List.set_cons_zero, List.set_cons_succ])); (refine wpAnyH_ready (rs := [1]) (by kernel_rfl) (by simp) ?_; refine AllReadyH.cons rfl (fun K hK => ?_) AllReadyH.nil; go_simp; (refine hK.out _ _ (by exact hHeld) (fun hHeld => ?_); clear hK K; (try simp only [List.getElem_toArray, List.getElem_cons_zero, List.getElem_cons_succ, Act.put, List.setIfInBounds_toArray, List.set_cons_zero, List.set_cons_succ]))))))); (all_goals ((refine wpAnyH_ready (rs := [6]) (by kernel_rfl) (by simp) ?_; refine AllReadyH.cons rfl (fun K hK => ?_) AllReadyH.nil; refine step_grew rfl _ _ 30 rfl elem_thr rfl (Row.keep (S := []) hrt4 ((Chg.refl [] w4).alloc _) (by simp)) rfl (View.struct _ [.string t.name, .slice ac t.code.length cc, .slice ap t.places.length cp] 50 rfl) (by simp [Value.oneCell']) (by unfold maxLen; omega) (by omega) (fun at5 ct5 rt5 w5 hr5 hg5 => ?_); (refine hK.out _ _ (by exact (by have h5 := hg5.chg; have hn : wr.heap.size ∉ rt.toList := (fun hm => by have := HRL.out _ (by simpa using hm); omega); exact ⟨h5.cell hHeld.1 hn, h5.cell hHeld.2.1 hn, h5.cell hHeld.2.2.1 hn, h5.cell hHeld.2.2.2 hn⟩)) (fun hHeld => ?_); clear hK K; (try simp only [List.getElem_toArray, List.getElem_cons_zero, List.getElem_cons_succ, Act.put, List.setIfInBounds_toArray, List.set_cons_zero, List.set_cons_succ]))); (refine wpAnyH_take (i := 7) (v := ?_) rfl (by kernel_rfl) (by kernel_rfl) (by kernel_rfl) (fun _ _ _ h => h) (Or.inl ⟨by rfl, ?_⟩) (by assumption) ?_; rotate_left 1; (focus (intro w hSw; (try dsimp only at hSw); go_simp; (try with_reducible rfl))); (try simp only [List.getElem_toArray, List.getElem_cons_zero, List.getElem_cons_succ, Act.put, List.setIfInBounds_toArray, List.set_cons_zero, List.set_cons_succ])); (refine wpAnyH_ready (rs := [8]) (by kernel_rfl) (by simp) ?_; refine AllReadyH.cons rfl (fun K hK => ?_) AllReadyH.nil; go_simp; (have hx5 := hg5.chg.heap (((Chg.refl [] w4).alloc _).heap (hp4.chg.heap HTD.out.box (by have := HTD.out.ne; simp; omega)) (by simp)) (fun hm => HRP.out _ (by simpa using hm) rfl); have p5 : w5.cell? ⟨P, 4, none⟩ = some (.slice at' ts.length ct) := blk_cell hx5 4; have f5 := blk_free hx5 4; go_simp); (refine hK.out _ _ (by exact (by have h6 : ∀ v, Chg [P] w5 (w5.setCell ⟨P, 4, none⟩ v) := (fun v => (Chg.refl _ w5).setCell (p := ⟨P, 4, none⟩) (.inl (by simp)) v); exact ⟨(h6 _).cell hHeld.1 (by simp; omega), (h6 _).cell hHeld.2.1 (by simp; omega), (h6 _).cell hHeld.2.2.1 (by simp; omega), (h6 _).cell hHeld.2.2.2 (by simp; omega)⟩)) (fun hHeld => ?_); clear hK K; (try simp only [List.getElem_toArray, List.getElem_cons_zero, List.getElem_cons_succ, Act.put, List.setIfInBounds_toArray, List.set_cons_zero, List.set_cons_succ]))); refine wpAnyH_done (by kernel_rfl) ?_ _)))
                all_goals
                  have hPT := HTD.out.more (x := ⟨t, ac, cc, rc, ap, cp, rp⟩) hp4 hb4 hm4 ((Chg.refl [] w4).alloc _) (fun _ => trivial) hr5 hg5
                  have HPT2 := hid hPT
                  have HE5 : Hid (thrsD st ((bs.map BkV.b).drop (i + 1)) all' ((ts ++ [(⟨t, ac, cc, rc, ap, cp, rp⟩ : ThO)]).map ThO.t) = D3) := hid (by simpa using HE4.out)
                  clear hPT hr5 hg5 hp4 hb4 hrt4 v1 v1a hHeld s0 s1 s2 s3 P4
                  go_wp2
                  go_roundg (gk - 1)
                  case measure => omega
                  case rel => exact ⟨all', ts ++ [⟨t, ac, cc, rc, ap, cp, rp⟩], at5, ct5, rt5, _, i + 1, HPT2, by omega, by simp; omega, by go_num, HE5⟩
            · have hnil : (bs.map BkV.b).drop i = [] := List.drop_eq_nil_of_le (by simp; omega)
              have h1 : D3 = .ok (ts.map ThO.t) := by rw [← HE.out, hnil]; rfl
              have hD4 := HD3.out
              rw [h1] at hD4
              have HD4 := hid hD4
              have p0 : wr.cell? ⟨P, 0, none⟩ = some (.slice q.a0 p.vars.length q.c0) := blk_cell HT.out.box 0
              have p1 : wr.cell? ⟨P, 1, none⟩ = some (.slice q.a1 p.vols.length q.c1) := blk_cell HT.out.box 1
              have p2 : wr.cell? ⟨P, 2, none⟩ = some (.slice q.a2 p.locks.length q.c2) := blk_cell HT.out.box 2
              have p3 : wr.cell? ⟨P, 3, none⟩ = some (.slice q.a3 p.bars.length q.c3) := blk_cell HT.out.box 3
              have p4 : wr.cell? ⟨P, 4, none⟩ = some (.slice at' ts.length ct) := blk_cell HT.out.box 4
              have hRb := HT.out.hp.chg.heap HUR.out.2 (by simp; omega)
              have r0 : wr.cell? ⟨R, 0, none⟩ = some (.slice none 0 0) := blk_cell hRb 0
              have r1 : wr.cell? ⟨R, 1, none⟩ = some (.slice none 0 0) := blk_cell hRb 1
              have r2 : wr.cell? ⟨R, 2, none⟩ = some (.slice none 0 0) := blk_cell hRb 2
              have r3 : wr.cell? ⟨R, 3, none⟩ = some (.slice none 0 0) := blk_cell hRb 3
              have r4 : wr.cell? ⟨R, 4, none⟩ = some (.slice none 0 0) := blk_cell hRb 4
              have rf := fun i => blk_free hRb i
              have HRB := hid hRb
              clear hnil h1 hD4 hRb hu3
              go_wp2
              have hRb := HRB.out
              have hcf : Chg [R] wr (((((wr.setCell ⟨R, 0, none⟩ (.slice q.a0 p.vars.length q.c0)).setCell ⟨R, 1, none⟩ (.slice q.a1 p.vols.length q.c1)).setCell ⟨R, 2, none⟩ (.slice q.a2 p.locks.length q.c2)).setCell ⟨R, 3, none⟩ (.slice q.a3 p.bars.length q.c3)).setCell ⟨R, 4, none⟩ (.slice at' ts.length ct)) := ((((((Chg.refl [R] wr).setCell (p := ⟨R, 0, none⟩) (.inl (by simp)) _).setCell (p := ⟨R, 1, none⟩) (.inl (by simp)) _).setCell (p := ⟨R, 2, none⟩) (.inl (by simp)) _).setCell (p := ⟨R, 3, none⟩) (.inl (by simp)) _).setCell (p := ⟨R, 4, none⟩) (.inl (by simp)) _)
              have hbf := (blk_set (blk_set (blk_set (blk_set (blk_set hRb 0 (.slice q.a0 p.vars.length q.c0)) 1 (.slice q.a1 p.vols.length q.c1)) 2 (.slice q.a2 p.locks.length q.c2)) 3 (.slice q.a3 p.bars.length q.c3)) 4 (.slice at' ts.length ct))
              obtain ⟨wf, hwf⟩ : ∃ wf, (((((wr.setCell ⟨R, 0, none⟩ (.slice q.a0 p.vars.length q.c0)).setCell ⟨R, 1, none⟩ (.slice q.a1 p.vols.length q.c1)).setCell ⟨R, 2, none⟩ (.slice q.a2 p.locks.length q.c2)).setCell ⟨R, 3, none⟩ (.slice q.a3 p.bars.length q.c3)).setCell ⟨R, 4, none⟩ (.slice at' ts.length ct)) = wf := ⟨_, rfl⟩
              rw [hwf] at hcf hbf ⊢
              have u0 : wf.cell? ⟨R, 0, none⟩ = some (.slice q.a0 p.vars.length q.c0) := blk_cell hbf 0
              have u1 : wf.cell? ⟨R, 1, none⟩ = some (.slice q.a1 p.vols.length q.c1) := blk_cell hbf 1
              have u2 : wf.cell? ⟨R, 2, none⟩ = some (.slice q.a2 p.locks.length q.c2) := blk_cell hbf 2
              have u3 : wf.cell? ⟨R, 3, none⟩ = some (.slice q.a3 p.bars.length q.c3) := blk_cell hbf 3
              have u4 : wf.cell? ⟨R, 4, none⟩ = some (.slice at' ts.length ct) := blk_cell hbf 4
              have hpf := (HT.out.hp.widen (S' := [R, P, b, bk, bc]) (fun y hy => List.mem_cons_of_mem _ hy) (by simp; omega)).step (hcf.mono (fun y hy => .inl (by simp at hy; simp [hy])))
              exact bodyPost_ret (v := .agg #[.slice q.a0 p.vars.length q.c0, .slice q.a1 p.vols.length q.c1, .slice q.a2 p.locks.length q.c2, .slice q.a3 p.bars.length q.c3, .slice at' ts.length ct]) (by simp [results, Tryd.results17, go_sem, u0, u1, u2, u3, u4]) rfl (.inr ⟨_, _, HD4.out.symm, rfl, (fun S u hS hlS => prgV_of ((hpf.widen (S' := S ++ [R, P, b, bk, bc]) (fun y hy => List.mem_append_right _ hy) (fun y hy => by
                have h0 := HC0.out.size
                rcases List.mem_append.1 hy with hy | hy
                · have := hlS y hy; omega
                · simp at hy; omega)).step (hS.mono (fun y hy => .inl (List.mem_append_left _ hy)))) HT.out.mem), hcw.trans hcf (fun y hy => .inr (by simp at hy; omega))⟩)
end Go.Proofs.YtaknmhipaifdkaaDoor
