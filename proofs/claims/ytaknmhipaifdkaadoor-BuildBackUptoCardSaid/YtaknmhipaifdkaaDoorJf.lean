/- Walks of the builder's laws: the unit that BuildRefuses has changed. -/
import Derived.Test.YtaknmhipaifdkaaDoorJd
set_option linter.unusedSimpArgs false
set_option linter.unusedSectionVars false
namespace Go.AB
open Go.RowKit
set_option linter.unusedVariables false
theorem flat_put {α : Type} {f : α → List Value} {k : Nat} (hf : ∀ x, (f x).length = k) : ∀ (l : List α) (i : Nat) (hi : i < l.length) (y : α) (j : Nat) (hj : j < k) (u : Value) (hy : f y = (f l[i]).set j u), (l.flatMap f).set (i * k + j) u = (l.set i y).flatMap f
  | [], i, hi, _, _, _, _, _ => by simp at hi
  | x :: l, 0, hi, y, j, hj, u, hy => by
    simp only [List.getElem_cons_zero] at hy
    rw [List.flatMap_cons, List.set_cons_zero, List.flatMap_cons, List.set_append_left _ _ (by rw [hf]; omega), hy]
    congr 2
    omega
  | x :: l, i + 1, hi, y, j, hj, u, hy => by
    have h := flat_put hf l i (by simpa using hi) y j hj u (by simpa using hy)
    rw [List.flatMap_cons, List.set_cons_succ, List.flatMap_cons, List.set_append_right _ _ (by rw [hf, Nat.add_mul]; omega), hf, show (i + 1) * k + j - k = i * k + j from by rw [Nat.add_mul]; omega, h]
theorem lens_take (ks : List BkD) {i : Nat} (hi : i < ks.length) : lens (ks.take (i + 1)) = lens (ks.take i) + ks[i].items.length := by
  rw [List.take_succ_eq_append_getElem hi]
  simp only [lens, List.map_append, List.sum_append, List.map_cons, List.map_nil, List.sum_cons, List.sum_nil, Nat.add_zero]
theorem lens_le (ks : List BkD) (h : ∀ k ∈ ks, k.items.length ≤ 1048576) : lens ks ≤ ks.length * 1048576 := by
  induction ks with
  | nil => simp [lens]
  | cons k ks ih =>
    have h1 := h k (List.mem_cons_self ..)
    have h2 := ih (fun x hx => h x (List.mem_cons_of_mem _ hx))
    simp only [lens, List.map_cons, List.sum_cons, List.length_cons] at h2 ⊢
    omega
theorem nobody_eq (s : ByteArray) : (s.toList == [110, 111, 98, 111, 100, 121, 95, 104, 97, 115, 95, 116, 104, 105, 115]) = decide (s = nobody) := by
  rw [← ba_beq, beq_toListBytes, show nobody.toList = [110, 111, 98, 111, 100, 121, 95, 104, 97, 115, 95, 116, 104, 105, 115] from by decide +kernel]
end Go.AB
namespace Go.Proofs.YtaknmhipaifdkaaDoor
open Go.RowKit Go.AB
set_option linter.unusedSimpArgs false
set_option linter.unusedVariables false
set_option linter.unusedSectionVars false

/-- The changed unit, in memory. -/
structure RG (w W : World) (p3 p9 p13 : Nat) (ad : Option Addr) (D cd : Nat) (ab : Option Addr) (L cb g ct : Nat) (avd' : Option Addr) (D' cvd' : Nat) (c1 c2 : Int) (u' : UnD) (bs' : List BkV) : Prop where
  q0 : W.cell? ⟨p13, 0, none⟩ = some (.int .i64 c1)
  q1 : W.cell? ⟨p13, 1, none⟩ = some (.int .i64 c2)
  v0 : W.cell? ⟨p9, 0, none⟩ = some (.slice avd' D' cvd')
  v1 : W.cell? ⟨p9, 1, none⟩ = some (.slice (some ⟨g, 0, none⟩) L ct)
  u0 : W.cell? ⟨p3, 0, none⟩ = some (.slice ad D cd)
  u1 : W.cell? ⟨p3, 1, none⟩ = some (.slice ab L cb)
  dl : u'.decls.length = D'
  bl : bs'.length = L
  ds : Lst dcC 5 W (.slice avd' D' cvd') u'.decls
  bs : Lst bkC 4 W (.slice (some ⟨g, 0, none⟩) L ct) bs'
  nm : bs'.map BkV.b = u'.blocks
  it : ∀ x ∈ bs', Lst itC 10 W x.items x.b.items
  chg : Chg [] w W
section
variable {w W W' : World} {p3 p9 p13 : Nat} {ad : Option Addr} {D cd : Nat} {ab : Option Addr} {L cb g ct : Nat} {avd' : Option Addr} {D' cvd' : Nat} {c1 c2 : Int} {u' : UnD} {bs' : List BkV}
theorem RG.keep (h : RG w W p3 p9 p13 ad D cd ab L cb g ct avd' D' cvd' c1 c2 u' bs') (hc : Chg [] W W') : RG w W' p3 p9 p13 ad D cd ab L cb g ct avd' D' cvd' c1 c2 u' bs' :=
  ⟨hc.cell h.q0 (by simp), hc.cell h.q1 (by simp), hc.cell h.v0 (by simp), hc.cell h.v1 (by simp), hc.cell h.u0 (by simp), hc.cell h.u1 (by simp), h.dl, h.bl, h.ds.keep hc, h.bs.keep hc, h.nm, fun x hx => (h.it x hx).keep hc, h.chg.trans' hc⟩
theorem RG.unV (h : RG w W p3 p9 p13 ad D cd ab L cb g ct avd' D' cvd' c1 c2 u' bs') : UnV W (.agg #[.slice avd' D' cvd', .slice (some ⟨g, 0, none⟩) L ct]) u' := ⟨_, _, bs', rfl, h.ds, h.bs, h.nm, h.it⟩
end
theorem RF.stored {w wx : World} {a1 a2 : Int} {p3 p4 p9 p11 p13 : Nat} {ad : Option Addr} {D cd : Nat} {ab : Option Addr} {L cb g ct : Nat} {u : UnD} {os : List BkO} {k : Nat} {y : BkO} {code c1 c2 : Int} {aj : Option Addr} {J cj : Nat} {avd' : Option Addr} {D' cvd' : Nat} {rd' : Option Nat} {ds' : List DcD} {its' : List ItD} {X : It}
    (h : RF w wx a1 a2 p3 p4 p9 p11 p13 ad D cd ab L cb g ct u os k y code c1 c2 aj J cj avd' D' cvd' rd' ds' its' X) (hol : os.length = L) (hb : blks os = u.blocks) (hk : k < os.length) (hy : os[k] = y) :
    ∃ bs', RG w ((((wx.setCell ⟨g, k * 4, none⟩ (.string y.1.b.name)).setCell ⟨g, k * 4 + 1, none⟩ (.slice aj J cj)).setCell ⟨g, k * 4 + 2, none⟩ (.int .i64 y.1.b.l)).setCell ⟨g, k * 4 + 3, none⟩ (.int .i64 y.1.b.c)) p3 p9 p13 ad D cd ab L cb g ct avd' D' cvd' c1 c2 ⟨ds', u.blocks.set k (y.1.b.put its')⟩ bs' := by
  have hp0 := h.hp.puti 6 rfl (k * 4 + 0) (.string y.1.b.name) rfl
  have hp1 := hp0.puti 6 rfl (k * 4 + 1) (.slice aj J cj) rfl
  have hp2 := hp1.puti 6 rfl (k * 4 + 2) (.int .i64 y.1.b.l) rfl
  have hp3 := hp2.puti 6 rfl (k * 4 + 3) (.int .i64 y.1.b.c) rfl
  have e0 : (os.flatMap bkoC).set (k * 4 + 0) (.string y.1.b.name) = os.flatMap bkoC := by
    rw [flat_put (f := bkoC) (k := 4) (fun x => bkC_len x.1) os k hk y 0 (by omega) _ (by rw [hy]; rfl), ← hy, List.set_getElem_self]
  obtain ⟨z, hz⟩ : ∃ z : BkO, z = (⟨y.1.b.put its', .slice aj J cj⟩, none) := ⟨_, rfl⟩
  have e1 : (os.flatMap bkoC).set (k * 4 + 1) (.slice aj J cj) = (os.set k z).flatMap bkoC := flat_put (f := bkoC) (k := 4) (fun x => bkC_len x.1) os k hk z 1 (by omega) _ (by rw [hy, hz]; rfl)
  have hk2 : k < (os.set k z).length := by simpa using hk
  have hzk : (os.set k z)[k] = z := by simp
  have e2 : ((os.set k z).flatMap bkoC).set (k * 4 + 2) (.int .i64 y.1.b.l) = (os.set k z).flatMap bkoC := by
    rw [flat_put (f := bkoC) (k := 4) (fun x => bkC_len x.1) (os.set k z) k hk2 z 2 (by omega) _ (by rw [hzk, hz]; rfl)]
    simp
  have e3 : ((os.set k z).flatMap bkoC).set (k * 4 + 3) (.int .i64 y.1.b.c) = (os.set k z).flatMap bkoC := by
    rw [flat_put (f := bkoC) (k := 4) (fun x => bkC_len x.1) (os.set k z) k hk2 z 3 (by omega) _ (by rw [hzk, hz]; rfl)]
    simp
  simp only [List.set_cons_zero, List.set_cons_succ, e0, e1, e2, e3] at hp3
  have hrow := (hp3.rowAt (i := 6) rfl).view
  have hln : (os.set k z).length = L := by simpa using hol
  refine ⟨(os.set k z).map Prod.fst, hp3.cell (i := 0) rfl 0, hp3.cell (i := 0) rfl 1, hp3.cell (i := 2) rfl 0, hp3.cell (i := 2) rfl 1, hp3.cell (i := 4) rfl 0, hp3.cell (i := 4) rfl 1, h.dl, by simpa using hol, ?_, ?_, ?_, fun x hx => ?_, hp3.chg⟩
  · have h1 := (hp3.rowAt (i := 5) rfl).view
    have h2 := h.dl
    simp only [Lst]
    rw [h2]
    exact h1
  · have h2 : (os.set k z).flatMap bkoC = ((os.set k z).map Prod.fst).flatMap bkC := by rw [List.flatMap_map]; rfl
    rw [h2] at hrow
    simp only [Lst]
    rw [List.length_map, hln]
    exact hrow
  · simp only [List.map_map, ← hb, blks, List.map_set]
    rw [hz]
    congr 1
  · obtain ⟨q, hq, rfl⟩ := List.mem_map.1 hx
    have hold : ∀ q ∈ os, Lst itC 10 ((((wx.setCell ⟨g, k * 4, none⟩ (.string y.1.b.name)).setCell ⟨g, k * 4 + 1, none⟩ (.slice aj J cj)).setCell ⟨g, k * 4 + 2, none⟩ (.int .i64 y.1.b.l)).setCell ⟨g, k * 4 + 3, none⟩ (.int .i64 y.1.b.c)) q.1.items q.1.b.items := fun q hq =>
      Row.view (hp3.ok (itRow q) (by simp only [List.mem_cons]; exact .inr (.inr (.inr (.inr (.inr (.inr (.inr (.inr (List.mem_map.2 ⟨q, hq, rfl⟩)))))))))) 
    rcases List.mem_or_eq_of_mem_set hq with hq | rfl
    · exact hold q hq
    · rw [hz]
      show Lst itC 10 _ (.slice aj J cj) its'
      rcases h.src with ⟨r, rfl⟩ | ⟨h1, h2⟩
      · have := (hp3.rowAt (i := 7) rfl).view
        simp only [Lst, h.jl]
        exact this
      · have h3 := hold y (by rw [← hy]; exact List.getElem_mem _)
        rw [← h1] at h3
        rw [h2]
        exact h3
end Go.Proofs.YtaknmhipaifdkaaDoor
