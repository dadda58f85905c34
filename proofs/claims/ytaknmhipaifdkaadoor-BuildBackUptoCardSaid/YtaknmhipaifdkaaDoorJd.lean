/- Walks of the builder's laws: what BuildRefuses leans on. -/
import Derived.Test.YtaknmhipaifdkaaDoorJb
import Derived.Test.YtaknmhipaifdkaaDoorJc
import Derived.Test.YtaknmhipaifdkaaDoorOn
set_option linter.unusedSimpArgs false
set_option linter.unusedVariables false
set_option linter.unusedSectionVars false
namespace Go.AB
open Go.RowKit
theorem ways_code : ∀ (l : List ItD) (n : Nat) (b : List (ByteArray × Nat)) (o : Option (Int × Int)) {f : Flt}, waysGo l n b o = .error f → 0 < f.code
  | [], n, b, none, f, h => by simp [waysGo] at h
  | [], n, b, some q, f, h => by simp only [waysGo, Except.error.injEq] at h; subst h; simp
  | x :: l, n, b, o, f, h => by
    unfold waysGo at h
    split at h
    · cases h; simp
    · split at h
      · exact ways_code l _ _ _ h
      · split at h
        · cases h; simp
        · exact ways_code l _ _ _ h
theorem declD_code {st : Nms} {name : ByteArray} {s most l c : Int} {f : Flt} (h : declD st name s most l c = .error f) : 0 < f.code := by
  unfold declD at h
  split at h
  · cases h; simp
  · split at h
    · cases h; simp
    · split at h
      · cases h; simp
      · cases h
theorem decls_code : ∀ (ds : List DcD) (st : Nms) (p : PrgD) {f : Flt}, declsD ds st p = .error f → 0 < f.code
  | [], st, p, f, h => by cases h
  | d :: ds, st, p, f, h => by
    unfold declsD at h
    split at h
    · rename_i g hg
      cases h
      unfold declnD at hg
      split at hg
      · cases hg; simp
      · split at hg
        · split at hg
          · rename_i h2; cases hg; exact declD_code h2
          · cases hg
        · cases hg; simp
    · exact decls_code ds _ _ h
theorem blocks_code : ∀ (ks : List BkD) (st : Nms) {f : Flt}, blocksD ks st = .error f → 0 < f.code
  | [], st, f, h => by cases h
  | k :: ks, st, f, h => by
    unfold blocksD at h
    split at h
    · rename_i g hg; cases h; exact declD_code hg
    · exact blocks_code ks _ h
theorem targ_code {st : Nms} {b : List (ByteArray × Nat)} {x : ItD} {f : Flt} (h : targD st b x = .error f) : 0 < f.code := by
  unfold targD at h
  split at h
  · cases h
  · split at h
    · split at h
      · cases h; simp
      · cases h
    · split at h
      · cases h; simp
      · split at h
        · cases h; simp
        · cases h
theorem code_code {st : Nms} {b : List (ByteArray × Nat)} : ∀ (l : List ItD) (all : Nat) (c : List InsD) (p : List PlcD) {f : Flt}, codeGo st b l all c p = .error f → 0 < f.code
  | [], all, c, p, f, h => by cases h
  | x :: l, all, c, p, f, h => by
    unfold codeGo at h
    split at h
    · exact code_code l _ _ _ h
    · split at h
      · cases h; simp
      · split at h
        · rename_i g hg; cases h; exact targ_code hg
        · exact code_code l _ _ _ h
theorem thrs_code {st : Nms} : ∀ (ks : List BkD) (all : Nat) (ts : List ThrD) {f : Flt}, thrsD st ks all ts = .error f → 0 < f.code
  | [], all, ts, f, h => by cases h
  | k :: ks, all, ts, f, h => by
    unfold thrsD at h
    split at h
    · rename_i g hg
      cases h
      unfold thrD at hg
      split at hg
      · rename_i h2; cases hg; exact ways_code _ _ _ _ h2
      · split at hg
        · rename_i h2; cases hg; exact code_code _ _ _ _ h2
        · cases hg
    · exact thrs_code ks _ _ h
theorem prog_code {u : UnD} {f : Flt} (h : progD u = .error f) : 0 < f.code := by
  unfold progD at h
  split at h
  · rename_i h1; cases h; exact decls_code _ _ _ h1
  · split at h
    · rename_i h1; cases h; exact blocks_code _ _ h1
    · split at h
      · rename_i h1; cases h; exact thrs_code _ _ _ h1
      · cases h
theorem Hp.front2 {S0 : List Nat} {w0 w : World} {x y a b : It} {R : List It} (h : Hp S0 w0 w (a :: b :: R ++ [x, y])) : Hp S0 w0 w (x :: y :: a :: b :: R) :=
  h.perm (List.perm_append_comm (l₁ := a :: b :: R) (l₂ := [x, y]))
theorem Hp.rot7 {S0 : List Nat} {w0 w : World} {x a b c d e f g : It} {R : List It} (h : Hp S0 w0 w (x :: a :: b :: c :: d :: e :: f :: g :: R)) : Hp S0 w0 w (a :: b :: c :: d :: e :: f :: g :: x :: R) :=
  h.perm (List.perm_middle (l₁ := [a, b, c, d, e, f, g])).symm
theorem Hp.rot5 {S0 : List Nat} {w0 w : World} {x a b c d e : It} {R : List It} (h : Hp S0 w0 w (x :: a :: b :: c :: d :: e :: R)) : Hp S0 w0 w (a :: b :: c :: d :: e :: x :: R) :=
  h.perm (List.perm_middle (l₁ := [a, b, c, d, e])).symm
theorem Row.made (w : World) (t k n : Nat) (cs : List Value) {b : Nat} (hb : w.heap.size = b) (hk : cs.length = n * k) (hn : n ≤ maxLen) : Row (w.alloc (.cells cs.toArray t)) t k (.slice (Option.some ⟨b, 0, none⟩) n n) (Option.some b) n cs := by
  subst hb
  exact ⟨⟨hk, .inr ⟨_, n, cs.toArray, rfl, Nat.zero_le _, heap_alloc_new w _, Nat.le_refl _, hn, by simpa using hk, by rw [← hk]; simp⟩⟩, rfl⟩
theorem Row.some {w : World} {e k : Nat} {v : Value} {r : Option Nat} {n : Nat} {xs : List Value} (h : Row w e k v r n xs) (hn : 0 < n) : ∃ g cap, r = Option.some g ∧ v = .slice (Option.some ⟨g, 0, none⟩) n cap ∧ n ≤ cap := by
  rcases h.form with ⟨_, h2, _, _⟩ | ⟨g, cap, cur, rfl, h2, h3, _⟩
  · omega
  · exact ⟨g, cap, h2, rfl, h3⟩
end Go.AB
namespace Go.Proofs.YtaknmhipaifdkaaDoor
open Go.RowKit Go.AB
set_option linter.unusedSimpArgs false
set_option linter.unusedVariables false
set_option linter.unusedSectionVars false

theorem bko_at {w : World} {g ct : Nat} {os : List BkO} (h : Row w 56 4 (.slice (some ⟨g, 0, none⟩) os.length ct) (some g) os.length (os.flatMap bkoC)) {k : Nat} (hk : k < os.length) {y : BkO} (hy : os[k] = y) :
    w.cell? ⟨g, k * 4, none⟩ = some (.string y.1.b.name) ∧ w.cell? ⟨g, k * 4 + 1, none⟩ = some y.1.items ∧ w.cell? ⟨g, k * 4 + 2, none⟩ = some (.int .i64 y.1.b.l) ∧ w.cell? ⟨g, k * 4 + 3, none⟩ = some (.int .i64 y.1.b.c) := by
  subst hy
  obtain ⟨b, off, e, hc⟩ := Lst.at (f := bkoC) (k := 4) (fun x => bkC_len x.1) (show Lst bkoC 4 w _ os from h.view) hk (by omega)
  simp only [Option.some.injEq, Addr.mk.injEq, and_true] at e
  obtain ⟨rfl, rfl⟩ := e
  have h0 := hc 0 (by omega)
  have h1 := hc 1 (by omega)
  have h2 := hc 2 (by omega)
  have h3 := hc 3 (by omega)
  simp only [Nat.zero_add, Nat.add_zero] at h0 h1 h2 h3
  exact ⟨h0, h1, h2, h3⟩
theorem idx_rem {m : Int} {L : Nat} (hm : -9223372036854775808 ≤ m ∧ m ≤ 9223372036854775807) (hL : 0 < L) (hb : L ≤ 1048576) : ∃ k : Nat, k < L ∧ (wrap64 (m.tmod L + L)).tmod L = k := by
  have h1 := Int.tmod_lt_of_pos m (show (0 : Int) < (L : Int) by omega)
  have h2 := Int.lt_tmod_of_pos m (show (0 : Int) < (L : Int) by omega)
  rw [show wrap64 (m.tmod L + L) = m.tmod L + L from by unfold wrap64; omega]
  have h3 := Int.tmod_nonneg (L : Int) (show 0 ≤ m.tmod L + L by omega)
  have h4 := Int.tmod_lt_of_pos (m.tmod L + L) (show (0 : Int) < (L : Int) by omega)
  exact ⟨((m.tmod L + L).tmod L).toNat, by omega, by omega⟩

theorem blk_put_len (ks : List BkD) (n : Nat) (hn : n < ks.length) (l : List ItD) : lens (ks.set n (ks[n].put l)) + ks[n].items.length = lens ks + l.length := by
  induction ks generalizing n with
  | nil => simp at hn
  | cons k ks ih =>
    cases n with
    | zero => simp [lens, BkD.put]; omega
    | succ n =>
      have := ih n (by simpa using hn)
      simp only [lens, List.set_cons_succ, List.map_cons, List.sum_cons, List.getElem_cons_succ] at this ⊢
      omega
/-- The unit that is refused, in memory. -/
structure RF (w wx : World) (a1 a2 : Int) (p3 p4 p9 p11 p13 : Nat) (ad : Option Addr) (D cd : Nat) (ab : Option Addr) (L cb g ct : Nat) (u : UnD) (os : List BkO) (k : Nat) (y : BkO) (code c1 c2 : Int) (aj : Option Addr) (J cj : Nat) (avd' : Option Addr) (D' cvd' : Nat) (rd' : Option Nat) (ds' : List DcD) (its' : List ItD) (X : It) : Prop where
  hp : Hp [] w wx (.box p13 (.cells #[.int .i64 c1, .int .i64 c2] 35) :: .box p11 (.cells #[.string y.1.b.name, .slice aj J cj, .int .i64 y.1.b.l, .int .i64 y.1.b.c] 56) :: .box p9 (.cells #[.slice avd' D' cvd', .slice (some ⟨g, 0, none⟩) L ct] 25) ::
    .box p4 (.cells #[.int .i64 a1, .int .i64 a2] 35) :: .box p3 (.cells #[.slice ad D cd, .slice ab L cb] 25) :: .row 72 5 (.slice avd' D' cvd') rd' D' (ds'.flatMap dcC) :: .row 56 4 (.slice (some ⟨g, 0, none⟩) L ct) (some g) L (os.flatMap bkoC) :: X :: os.map itRow)
  dl : ds'.length = D'
  jl : its'.length = J
  src : (∃ r, X = .row 82 10 (.slice aj J cj) r J (its'.flatMap itC)) ∨ (.slice aj J cj = y.1.items ∧ its' = y.1.b.items)
  ans : (∀ x ∈ y.1.b.items, x.name ≠ nobody) → lens (u.blocks.set k (y.1.b.put its')) < 260000 → progD ⟨ds', u.blocks.set k (y.1.b.put its')⟩ = .error ⟨code, c1, c2⟩
  sm : SmallU ⟨ds', u.blocks.set k (y.1.b.put its')⟩
theorem sm_put {u : UnD} (hu : SmallU u) {k : Nat} (hk : k < u.blocks.length) {l : List ItD} (hl : l.length ≤ 1048576) (hn : ∀ x ∈ l, x.name.size ≤ 4294967296) {ds : List DcD} (h1 : ds.length ≤ 1048576) (h2 : ∀ d ∈ ds, d.name.size ≤ 4294967296) : SmallU ⟨ds, u.blocks.set k (u.blocks[k].put l)⟩ := by
  refine ⟨h1, by simpa using hu.blocks, h2, fun b hb => ?_⟩
  rcases List.mem_or_eq_of_mem_set hb with hb | rfl
  · exact hu.bn b hb
  · exact ⟨(hu.bn _ (List.getElem_mem hk)).1, hl, hn⟩
theorem put_self (k : BkD) : k.put k.items = k := rfl
theorem ans_lock {u : UnD} {p : PrgD} (hu : SmallU u) (hp : progD u = .ok p) {k : Nat} (hk : k < u.blocks.length) {y : BkD} (hy : u.blocks[k] = y) (hI : ¬ 4000 ≤ y.items.length) (a1 a2 : Int) :
    ((∀ x ∈ y.items, x.name ≠ nobody) → lens (u.blocks.set k (y.put (lockOf y.name a1 a2 :: y.items))) < 260000 → progD ⟨u.decls, u.blocks.set k (y.put (lockOf y.name a1 a2 :: y.items))⟩ = .error ⟨92, a1, a2⟩) ∧ SmallU ⟨u.decls, u.blocks.set k (y.put (lockOf y.name a1 a2 :: y.items))⟩ := by
  subst hy
  have hb := hu.bn _ (List.getElem_mem hk)
  refine ⟨fun _ hl => refuse_lock hp hk a1 a2 ?_, sm_put hu hk (by simp only [List.length_cons]; omega) (fun x hx => ?_) hu.decls hu.dn⟩
  · have := blk_put_len u.blocks k hk (lockOf u.blocks[k].name a1 a2 :: u.blocks[k].items)
    simp only [List.length_cons] at this
    omega
  · rcases List.mem_cons.1 hx with rfl | hx
    · exact hb.1
    · exact hb.2.2 x hx
theorem ans_jump {u : UnD} {p : PrgD} (hu : SmallU u) (hp : progD u = .ok p) {k : Nat} (hk : k < u.blocks.length) {y : BkD} (hy : u.blocks[k] = y) (hI : ¬ 4000 ≤ y.items.length) (a1 a2 : Int) :
    ((∀ x ∈ y.items, x.name ≠ nobody) → lens (u.blocks.set k (y.put (jumpOf a1 a2 :: y.items))) < 260000 → progD ⟨u.decls, u.blocks.set k (y.put (jumpOf a1 a2 :: y.items))⟩ = .error ⟨91, a1, a2⟩) ∧ SmallU ⟨u.decls, u.blocks.set k (y.put (jumpOf a1 a2 :: y.items))⟩ := by
  subst hy
  have hb := hu.bn _ (List.getElem_mem hk)
  refine ⟨fun hno hl => refuse_jump hp hk a1 a2 ?_ hno, sm_put hu hk (by simp only [List.length_cons]; omega) (fun x hx => ?_) hu.decls hu.dn⟩
  · have := blk_put_len u.blocks k hk (jumpOf a1 a2 :: u.blocks[k].items)
    simp only [List.length_cons] at this
    omega
  · rcases List.mem_cons.1 hx with rfl | hx
    · exact (by decide : nobody.size ≤ 4294967296)
    · exact hb.2.2 x hx
theorem ans_lab {u : UnD} {p : PrgD} (hu : SmallU u) (hp : progD u = .ok p) {k : Nat} (hk : k < u.blocks.length) {y : BkD} (hy : u.blocks[k] = y) (hI : ¬ 4000 ≤ y.items.length) (a1 a2 : Int) :
    ((∀ x ∈ y.items, x.name ≠ nobody) → lens (u.blocks.set k (y.put (y.items ++ [labOf a1 a2]))) < 260000 → progD ⟨u.decls, u.blocks.set k (y.put (y.items ++ [labOf a1 a2]))⟩ = .error ⟨93, a1, a2⟩) ∧ SmallU ⟨u.decls, u.blocks.set k (y.put (y.items ++ [labOf a1 a2]))⟩ := by
  subst hy
  have hb := hu.bn _ (List.getElem_mem hk)
  refine ⟨fun hno hl => refuse_lab hp hk a1 a2 hno, sm_put hu hk (by simp only [List.length_append, List.length_cons, List.length_nil]; omega) (fun x hx => ?_) hu.decls hu.dn⟩
  rcases List.mem_append.1 hx with hx | hx
  · exact hb.2.2 x hx
  · simp only [List.mem_singleton] at hx
    subst hx
    exact (by decide : nobody.size ≤ 4294967296)
theorem ans_gate {u : UnD} {p : PrgD} (hu : SmallU u) (hp : progD u = .ok p) {k : Nat} (hk : k < u.blocks.length) {y : BkD} (hy : u.blocks[k] = y) (hD : ¬ 4000 ≤ u.decls.length) (a1 a2 : Int) :
    ((∀ x ∈ y.items, x.name ≠ nobody) → lens (u.blocks.set k (y.put y.items)) < 260000 → progD ⟨gateOf y.name a1 a2 :: u.decls, u.blocks.set k (y.put y.items)⟩ = .error ⟨90, y.l, y.c⟩) ∧ SmallU ⟨gateOf y.name a1 a2 :: u.decls, u.blocks.set k (y.put y.items)⟩ := by
  subst hy
  have hb := hu.bn _ (List.getElem_mem hk)
  rw [put_self, List.set_getElem_self]
  refine ⟨fun _ _ => refuse_gate hp hk a1 a2 (by omega), by simp only [List.length_cons]; omega, hu.blocks, fun d hd => ?_, hu.bn⟩
  rcases List.mem_cons.1 hd with rfl | hd
  · exact hb.1
  · exact hu.dn d hd
end Go.Proofs.YtaknmhipaifdkaaDoor
