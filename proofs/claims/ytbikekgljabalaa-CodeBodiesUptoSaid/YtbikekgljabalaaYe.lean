/- The document's reader of programs: the walk of take. -/
import Derived.Test.YtbikekgljabalaaYd
import Derived.Test.YtbikekgljabalaaHn
namespace Go.Proofs.Ytbikekgljabalaa
open Go.RowKit Go.AB
set_option linter.unusedSimpArgs false
set_option linter.unusedVariables false
set_option linter.unusedSectionVars false

/-- What take answers. -/
def QP (w : World) (l : List UInt8) (e : Ending) (w' : World) : Prop :=
  ∃ (x : PrgD) (s : RS) (v : Value), Hid (qPrg l ⟨0, 0, 0⟩ = (x, s)) ∧ e = .returned (.tuple #[v, .bool (decide (rEnd l s = 0) && prgB x)]) ∧ (∀ (S : List Nat) u, (∀ g ∈ S, g < w.heap.size) → Chg S w' u → PrgV u v x) ∧ Chg [] w w'
section
variable {w u u' : World} {b : Nat} {l : List UInt8} {ao : Option Addr} {cap p h bd p' h' bd' : Nat} {I : List It}
theorem RH.fresh (k : RH w u b l ao cap p h bd I) (hc : Chg [b] u u') (hr : OkQ u' b l ao cap p' h' bd') {e kk n : Nat} {v : Value} {r : Option Nat} {xs : List Value} (hrow : Row u' e kk v r n xs) (hf : Fresh u none r) : RH w u' b l ao cap p' h' bd' (.row e kk v r n xs :: I) := ⟨hr, k.hp.fresh hc hrow hf, k.sl⟩
theorem RH.join (k : RH w u b l ao cap p h bd I) (hr : OkQ u' b l ao cap p' h' bd') {J : List It} (hj : Hp [b] u u' J) : RH w u' b l ao cap p' h' bd' (J ++ I) := ⟨hr, k.hp.join hj, k.sl⟩
theorem RH.perm (k : RH w u b l ao cap p h bd I) {I' : List It} (hp : I.Perm I') : RH w u b l ao cap p h bd I' := ⟨k.rd, k.hp.perm hp, k.sl⟩
end
/-- A thread that was read, and where it lies. -/
structure TR where
  t : ThrD
  vc : Value
  vp : Value
  rc : Option Nat
  rp : Option Nat
def TR.v (x : TR) : ThrV := ⟨x.t, x.vc, x.vp⟩
def TR.c (x : TR) : It := .row 61 5 x.vc x.rc x.t.code.length (x.t.code.flatMap insC)
def TR.p (x : TR) : It := .row 63 2 x.vp x.rp x.t.places.length (x.t.places.flatMap plcC)
theorem qprg_V {w : World} {S0 : List Nat} {w0 : World} {TL : List It} {x : PrgD} {a0 a1 a2 a3 a4 : Value} {r0 r1 r2 r3 r4 : Option Nat} {ts : List TR} {n0 n1 n2 n3 n4 : Nat} (h : Hp S0 w0 w TL)
    (hn : x.vars.length = n0 ∧ x.vols.length = n1 ∧ x.locks.length = n2 ∧ x.bars.length = n3 ∧ ts.length = n4)
    (h0 : .row 53 2 a0 r0 n0 (x.vars.flatMap varC) ∈ TL) (h1 : .row 53 2 a1 r1 n1 (x.vols.flatMap varC) ∈ TL) (h2 : .row 9 1 a2 r2 n2 (x.locks.flatMap strC) ∈ TL) (h3 : .row 55 2 a3 r3 n3 (x.bars.flatMap varC) ∈ TL)
    (h4 : .row 59 3 a4 r4 n4 ((ts.map TR.v).flatMap thrC) ∈ TL) (ht : ts.map TR.t = x.thrs) (hts : ∀ y ∈ ts, TR.c y ∈ TL ∧ TR.p y ∈ TL) : PrgV w (.agg #[a0, a1, a2, a3, a4]) x := by
  obtain ⟨e0, e1, e2, e3, e4⟩ := hn
  subst e0 e1 e2 e3 e4
  have hl : (ts.map TR.v).length = ts.length := by simp
  refine ⟨_, _, _, _, _, ts.map TR.v, rfl, Row.view (h.ok _ h0), Row.view (h.ok _ h1), Row.view (h.ok _ h2), Row.view (h.ok _ h3), ?_, ?_, fun y hy => ?_⟩
  · unfold Lst
    rw [hl]
    exact Row.view (h.ok _ h4)
  · rw [← ht]; simp [TR.v, Function.comp_def]
  · obtain ⟨z, hz, rfl⟩ := List.mem_map.1 hy
    have := hts z hz
    exact ⟨Row.view (h.ok _ this.1), Row.view (h.ok _ this.2)⟩
theorem qMany_of {α : Type} {m n : Nat} {L : List UInt8} {f : RS → α × RS} {s s1 : RS} {R : List α × RS} (h : rShort m L s = (n, s1)) (k : repQ (fun _ : Unit => f) (fun _ => ()) n () s1 = R) : qMany m L f s = R := by
  unfold qMany
  rw [h]
  exact k
theorem qPrg_of {L : List UInt8} {s s1 s2 s3 s4 s5 : RS} {xs ys bs : List VarD} {ls : List ByteArray} {ts : List ThrD} (a : qMany 4096 L (qVar L) s = (xs, s1)) (b : qMany 4096 L (qVar L) s1 = (ys, s2)) (c : qMany 4096 L (qLock L) s2 = (ls, s3)) (d : qMany 4096 L (qVar L) s3 = (bs, s4)) (e : qMany 65535 L (qThr L) s4 = (ts, s5)) :
    qPrg L s = (⟨xs, ys, ls, bs, ts⟩, s5) := by
  unfold qPrg
  dsimp only
  rw [a]
  dsimp only
  rw [b]
  dsimp only
  rw [c]
  dsimp only
  rw [d]
  dsimp only
  rw [e]
theorem qthr_more {w u : World} {b : Nat} {l : List UInt8} {ao : Option Addr} {cap p h bd n : Nat} {TL J : List It} {ts : List TR} {v : Value} {r : Option Nat} {B : It} (h1 : ∀ y ∈ ts, TR.c y ∈ TL ∧ TR.p y ∈ TL) (h2 : ∀ y ∈ J, y ∈ TL)
    {nm : ByteArray} {code : List InsD} {places : List PlcD} {m : Nat} {ac : Option Addr} {cc : Nat} {ap : Option Addr} {cp : Nat} {rc rp : Option Nat} (hm1 : code.length = m) (hm2 : places.length = m)
    (k : RH w u b l ao cap p h bd (.row 59 3 v r n ((ts.map TR.v).flatMap thrC ++ [.string nm, .slice ac m cc, .slice ap m cp]) :: B :: ([.row 63 2 (.slice ap m cp) rp m (places.flatMap plcC), .row 61 5 (.slice ac m cc) rc m (code.flatMap insC)] ++ TL))) :
    ∃ TL' : List It, (∀ y ∈ ts ++ [(⟨⟨nm, code, places⟩, .slice ac m cc, .slice ap m cp, rc, rp⟩ : TR)], TR.c y ∈ TL' ∧ TR.p y ∈ TL') ∧ (∀ y ∈ J, y ∈ TL') ∧ RH w u b l ao cap p h bd (.row 59 3 v r n (((ts ++ [(⟨⟨nm, code, places⟩, .slice ac m cc, .slice ap m cp, rc, rp⟩ : TR)]).map TR.v).flatMap thrC) :: B :: TL') := by
  refine ⟨_, fun y hy => ?_, fun y hy => List.mem_append_right _ (h2 y hy), by rw [List.map_append, List.flatMap_append]; exact k⟩
  rcases List.mem_append.1 hy with hy | hy
  · exact ⟨List.mem_append_right _ (h1 y hy).1, List.mem_append_right _ (h1 y hy).2⟩
  · simp only [List.mem_singleton] at hy
    subst hy
    refine ⟨List.mem_append_left _ ?_, List.mem_append_left _ ?_⟩
    · unfold TR.c
      simp only [hm1]
      simp
    · unfold TR.p
      simp only [hm2]
      simp
theorem qp_fin {w W : World} {l l0 : List UInt8} {x : PrgD} {s : RS} {E : Nat} {g B : Bool} {v : Value} (hl : l = l0) (hq : qPrg l ⟨0, 0, 0⟩ = (x, s)) (he : rEnd l s = E) (hg : prgB x = g) (hb : (decide (E = 0) && g) = B) (hv : ∀ (S : List Nat) u, (∀ g ∈ S, g < w.heap.size) → Chg S W u → PrgV u v x) (hc : Chg [] w W) : QP w l0 (.returned (.tuple #[v, .bool B])) W := by
  subst hl
  exact ⟨x, s, v, hid hq, by rw [he, hg, hb], hv, hc⟩
theorem hp_wide {S0 S1 : List Nat} {w0 w : World} {I : List It} (h : Hp S0 w0 w I) (hs : ∀ x ∈ S0, x ∈ S1) (hl : ∀ x ∈ S1, x < w0.heap.size) : Hp S1 w0 w I := ⟨h.ok, h.lo, h.nd, h.chg.mono (fun x hx => .inl (hs x hx)), hl⟩
section
variable {w : World}
set_option maxHeartbeats 8000000 in
set_option maxRecDepth 100000 in
theorem q_take (l0 : List UInt8) (hl0 : l0.length ≤ 16777216) {vb : Value} (hv : Bytes w vb l0) :
    Calls Try.prog 56 #[vb] w (QP w l0) := by
  have hnw := fun u (hu : Chg [] w u) => q_new_calls vb l0 u (hv.keep hu (by simp)) (by omega)
  have HNW := hid hnw
  have hca := (Chg.refl [] w).alloc (.cells #[.slice none 0 0, .slice none 0 0, .slice none 0 0, .slice none 0 0, .slice none 0 0] 28)
  have hres := heap_alloc_new w (.cells #[.slice none 0 0, .slice none 0 0, .slice none 0 0, .slice none 0 0, .slice none 0 0] 28)
  have HRES := hid hres
  clear hnw hres
  go_enter Try.func56, Try.ntmps56
  go_upto_region 2 with (go_at_call 88; refine (HNW.out _ hca).mono ?_; rintro e w1 ⟨b, l, ao, cap, rfl, hR1, hb1, hsl, hc1, HL⟩)
  have hlen : l.length ≤ 16777216 := by rw [HL.out]; exact hl0
  have hO1 : OkQ w1 b l ao cap 0 0 0 := ⟨hR1, fun g hg => (hsl g hg).2⟩
  have hr1 : w1.heap[w.heap.size]? = some (.cells #[.slice none 0 0, .slice none 0 0, .slice none 0 0, .slice none 0 0, .slice none 0 0] 28) := hc1.heap HRES.out (by simp)
  have hbw : w.heap.size < b := by simp only [World.size_alloc] at hb1; omega
  have HC1 := hid (hca.trans' hc1)
  have HR1 := hid hr1
  have hk1 := (RH.start hO1).box (.cells #[.slice none 0 0, .slice none 0 0, .slice none 0 0, .slice none 0 0, .slice none 0 0] 28)
  clear HNW hR1 hsl hc1 hr1 HRES hb1
  obtain ⟨pb, hpb⟩ : ∃ x, w1.heap.size = x := ⟨_, rfl⟩
  rw [hpb] at hk1
  have HK1 := hid hk1
  clear hk1
  go_upto_region 3 with fail
  obtain ⟨wp, hwp⟩ : ∃ x : World, w1.alloc (.cells #[.slice none 0 0, .slice none 0 0, .slice none 0 0, .slice none 0 0, .slice none 0 0] 28) = x := ⟨_, rfl⟩
  rw [hwp] at HK1 ⊢
  clear hpb hwp
  go_upto_region 4 with (go_at_call 89; refine (q_takeVars HK1.out.rd hlen).mono ?_; rintro e w2 ⟨xs, p1, h1, bd1, a0, k0, r0, HX, rfl, hrow2, hf2, hO2, hc2⟩; obtain ⟨n0, hn0⟩ : ∃ n, xs.length = n := ⟨_, rfl⟩; rw [hn0] at hrow2 ⊢; have hk2 := HK1.out.fresh hc2 hO2 hrow2 hf2; have y := (hk2.hp.cell (i := 1) rfl 0).trans (rfl : _ = some (Value.slice none 0 0)); have f := hk2.hp.free (i := 1) rfl 0)
  have HK2 : Hid (RH w1 (w2.setCell ⟨pb, 0, none⟩ (.slice a0 n0 k0)) b l ao cap p1 h1 bd1 [.row 53 2 (.slice a0 n0 k0) r0 n0 (xs.flatMap varC), .box pb (.cells #[.slice a0 n0 k0, .slice none 0 0, .slice none 0 0, .slice none 0 0, .slice none 0 0] 28)]) := hid (hk2.put 1 rfl 0 _ rfl)
  clear HK1 hk2 y f hrow2 hf2 hO2 hc2
  have HN0 := hid hn0
  clear hn0
  go_upto_region 5 with (go_at_call 89; refine (q_takeVars HK2.out.rd hlen).mono ?_; rintro e w3 ⟨ys, p2, h2, bd2, a1, k1, r1, HY, rfl, hrow3, hf3, hO3, hc3⟩; obtain ⟨n1, hn1⟩ : ∃ n, ys.length = n := ⟨_, rfl⟩; rw [hn1] at hrow3 ⊢; have hk3 := HK2.out.fresh hc3 hO3 hrow3 hf3; have y := (hk3.hp.cell (i := 2) rfl 1).trans (rfl : _ = some (Value.slice none 0 0)); have f := hk3.hp.free (i := 2) rfl 1)
  have HK3 : Hid (RH w1 (w3.setCell ⟨pb, 1, none⟩ (.slice a1 n1 k1)) b l ao cap p2 h2 bd2 [.row 53 2 (.slice a1 n1 k1) r1 n1 (ys.flatMap varC), .row 53 2 (.slice a0 n0 k0) r0 n0 (xs.flatMap varC), .box pb (.cells #[.slice a0 n0 k0, .slice a1 n1 k1, .slice none 0 0, .slice none 0 0, .slice none 0 0] 28)]) := hid (hk3.put 2 rfl 1 _ rfl)
  clear HK2 hk3 y f hrow3 hf3 hO3 hc3
  have HN1 := hid hn1
  clear hn1
  go_upto_region 7 with (go_at_call 90; refine (q_counted 4096 (by omega) HK3.out.rd hlen).mono ?_; rintro e w4 ⟨nl, p3, h3, bd3, HNL, hn4, rfl, hO4, hc4⟩)
  have HK4 : Hid (RH w1 w4 b l ao cap p3 h3 bd3 [.row 9 1 (.slice none 0 0) none 0 [], .box pb (.cells #[.slice a0 n0 k0, .slice a1 n1 k1, .slice none 0 0, .slice none 0 0, .slice none 0 0] 28), .row 53 2 (.slice a1 n1 k1) r1 n1 (ys.flatMap varC), .row 53 2 (.slice a0 n0 k0) r0 n0 (xs.flatMap varC)]) := hid (((HK3.out.take hc4 hO4).nil 9 1).perm (by
    refine .cons _ ?_
    exact (List.perm_append_comm (l₁ := [It.row 53 2 (.slice a1 n1 k1) r1 n1 (ys.flatMap varC), It.row 53 2 (.slice a0 n0 k0) r0 n0 (xs.flatMap varC)]) (l₂ := [It.box pb (.cells #[.slice a0 n0 k0, .slice a1 n1 k1, .slice none 0 0, .slice none 0 0, .slice none 0 0] 28)]))))
  clear HK3 hO4 hc4
  go_loopg [7] nl (fun gk vi wr => ∃ (j p h bd : Nat) (zs : List ByteArray) (r : Option Nat) (av : Option Addr) (cv : Nat), j + gk = nl ∧ vi = .int .i64 j ∧ Hid (RH w1 wr b l ao cap p h bd [.row 9 1 (.slice av j cv) r j (zs.flatMap strC), .box pb (.cells #[.slice a0 n0 k0, .slice a1 n1 k1, .slice av j cv, .slice none 0 0, .slice none 0 0] 28), .row 53 2 (.slice a1 n1 k1) r1 n1 (ys.flatMap varC), .row 53 2 (.slice a0 n0 k0) r0 n0 (xs.flatMap varC)]) ∧ Hid (RQ (fun _ => qLock l) (fun _ => ()) nl () ⟨p3, h3, bd3⟩ j () ⟨p, h, bd⟩ zs))
  case atStart => exact ⟨0, p3, h3, bd3, [], none, none, 0, by omega, rfl, HK4, hid (RQ.start _ _ _ _ _)⟩
  case round =>
  clear HK4
  obtain ⟨j, p, h, bd, zs, r, av, cv, hj, rfl, HK, HQ⟩ := hrel
  have c3 := HK.out.rd.rd.c3
  obtain ⟨q, hq⟩ : ∃ q : Bool, (decide (j < nl) && decide (bd = 0)) = q := ⟨_, rfl⟩
  have HQQ := hid hq
  clear hq
  go_upto_region 7 with fail
  go_cut [31] (fun v wx => v = .bool q ∧ wx = wr)
  case first =>
    have hq := HQQ.out
    by_cases hlt : j < nl
    · have zl : (j : Int) < (nl : Int) := by omega
      by_cases hb0 : bd = 0
      · subst hb0
        rw [decide_eq_true hlt] at hq
        obtain rfl : true = q := hq
        go_wp2_with fail
        go_meet
        exact ⟨rfl, rfl⟩
      · have zb : ((bd : Int) == 0) = false := by simp; omega
        rw [decide_eq_true hlt, decide_eq_false hb0] at hq
        obtain rfl : false = q := hq
        go_wp2_with fail
        go_meet
        exact ⟨rfl, rfl⟩
    · have zl : ¬ ((j : Int) < (nl : Int)) := by omega
      rw [decide_eq_false hlt] at hq
      obtain rfl : false = q := hq
      go_wp2_with fail
      go_meet
      exact ⟨rfl, rfl⟩
  case rest =>
  obtain ⟨rfl, rfl⟩ := hcut
  clear c3
  by_cases hqt : q = true
  · have hq := HQQ.out
    rw [hqt] at hq
    simp only [Bool.and_eq_true, decide_eq_true_eq] at hq
    obtain ⟨hlt, rfl⟩ := hq
    subst hqt
    have hj4 : j ≤ 4096 := by omega
    obtain ⟨nm, p', h', bd', hT⟩ : ∃ o x y z, rText 24 l ⟨p, h, 0⟩ = (o, ⟨x, y, z⟩) := ⟨_, _, _, _, rfl⟩
    have hq2 : qLock l ⟨p, h, 0⟩ = (⟨nm.toArray⟩, ⟨p', h', bd'⟩) := by unfold qLock; rw [hT]
    have HQ2 := hid (HQ.out.step hlt rfl hq2)
    have hTX := fun u (hu : OkQ u b l ao cap p h 0) => q_text_calls hu.rd (by omega) 24 (by unfold I64; omega)
    rw [hT] at hTX
    have HTX := hid hTX
    clear hTX hT hq2 HQ HQQ
    have x2 := (HK.out.hp.cell (i := 1) rfl 2).trans (rfl : _ = some (Value.slice av j cv))
    go_upto_region 9 with fail
    go_region_law (first
      | (refine step_app rfl _ _ 24 rfl elem_str rfl ((hk5.hp.rowAt (i := 0) rfl).keep ((Chg.refl [] _).alloc _) (by simp)) rfl (View.struct _ [.string ⟨nm.toArray⟩] 9 rfl) (by simp [Value.oneCell']) (by unfold maxLen; omega) (by omega) (fun ao' cap' r' w6 hr6 hc6 hf6 => ?_); have hk6 := hk5.grow 0 rfl ((Chg.refl [] _).alloc _) hr6 hc6 hf6 rfl; have z2 := (hk6.hp.cell (i := 1) rfl 2).trans (rfl : _ = some (Value.slice av j cv)); have f2 := hk6.hp.free (i := 1) rfl 2)
      | (go_simp; go_at_call 91; refine (HTX.out _ (HK.out.rd.keep (Chg.of_drewN [] _ _))).mono ?_; rintro e w5 ⟨rfl, hR5, hc5⟩; unfold strB; have hk5 := (HK.out.same (Chg.of_drewN [] _ 1)).take hc5 ((HK.out.rd.keep (Chg.of_drewN [] _ 1)).next hc5 hR5); have x25 := (hk5.hp.cell (i := 1) rfl 2).trans (rfl : _ = some (Value.slice av j cv)); have hx5 := fun o => ((hk5.same ((Chg.refl [] _).alloc o)).hp.cell (i := 1) rfl 2).trans (rfl : _ = some (Value.slice av j cv))))
    all_goals
      have HK7 : Hid (RH w1 (w6.setCell ⟨pb, 2, none⟩ (.slice ao' (j + 1) cap')) b l ao cap p' h' bd' [.row 9 1 (.slice ao' (j + 1) cap') r' (j + 1) ((zs ++ [(⟨nm.toArray⟩ : ByteArray)]).flatMap strC), .box pb (.cells #[.slice a0 n0 k0, .slice a1 n1 k1, .slice ao' (j + 1) cap', .slice none 0 0, .slice none 0 0] 28), .row 53 2 (.slice a1 n1 k1) r1 n1 (ys.flatMap varC), .row 53 2 (.slice a0 n0 k0) r0 n0 (xs.flatMap varC)]) := hid (by rw [List.flatMap_append]; exact hk6.put 1 rfl 2 _ rfl)
      clear x2 x25 hx5 hk5 hk6 hR5 hc5 hr6 hc6 hf6 HTX HK
      go_wp2_with fail
      go_roundg (gk - 1)
      case measure => omega
      case rel => exact ⟨j + 1, p', h', bd', _, r', ao', cap', by omega, by go_num, HK7, HQ2⟩
  have hqf : q = false := by simpa using hqt
  have hx : j = nl ∨ bd ≠ 0 := by
    have hq := HQQ.out
    rw [hqf] at hq
    by_cases hlt : j < nl
    · rw [decide_eq_true hlt] at hq
      refine .inr (fun h => ?_)
      rw [decide_eq_true h] at hq
      cases hq
    · exact .inl (by omega)
  subst hqf
  have HD := hid (HQ.out.done hx)
  have hzl := HQ.out.len
  clear hx hqt HQQ HQ
  obtain ⟨ls, hs⟩ : ∃ x, x = zs := ⟨_, rfl⟩
  subst hs
  obtain ⟨n2, hs⟩ : ∃ x, x = j := ⟨_, rfl⟩
  subst hs
  obtain ⟨a2, hs⟩ : ∃ x, x = av := ⟨_, rfl⟩
  subst hs
  obtain ⟨k2, hs⟩ : ∃ x, x = cv := ⟨_, rfl⟩
  subst hs
  obtain ⟨r2, hs⟩ : ∃ x, x = r := ⟨_, rfl⟩
  subst hs
  have HD1 := HD
  have HN2 := hid hzl
  clear HD hzl
  go_upto_region 12 with (go_at_call 90; refine (q_counted 4096 (by omega) HK.out.rd hlen).mono ?_; rintro e w5 ⟨nb, p5, h5, bd5, HNB, hn5, rfl, hO5, hc5⟩)
  have HK5 : Hid (RH w1 w5 b l ao cap p5 h5 bd5 [.row 55 2 (.slice none 0 0) none 0 [], .box pb (.cells #[.slice a0 n0 k0, .slice a1 n1 k1, .slice a2 n2 k2, .slice none 0 0, .slice none 0 0] 28), .row 9 1 (.slice a2 n2 k2) r2 n2 (ls.flatMap strC), .row 53 2 (.slice a1 n1 k1) r1 n1 (ys.flatMap varC), .row 53 2 (.slice a0 n0 k0) r0 n0 (xs.flatMap varC)]) := hid (((HK.out.take hc5 hO5).nil 55 2).perm (by
    refine .cons _ ?_
    exact .swap _ _ _))
  clear HK hO5 hc5
  go_loopg [8] nb (fun gk vi wr => ∃ (j p h bd : Nat) (zs : List VarD) (r : Option Nat) (av : Option Addr) (cv : Nat), j + gk = nb ∧ vi = .int .i64 j ∧ Hid (RH w1 wr b l ao cap p h bd [.row 55 2 (.slice av j cv) r j (zs.flatMap varC), .box pb (.cells #[.slice a0 n0 k0, .slice a1 n1 k1, .slice a2 n2 k2, .slice av j cv, .slice none 0 0] 28), .row 9 1 (.slice a2 n2 k2) r2 n2 (ls.flatMap strC), .row 53 2 (.slice a1 n1 k1) r1 n1 (ys.flatMap varC), .row 53 2 (.slice a0 n0 k0) r0 n0 (xs.flatMap varC)]) ∧ Hid (RQ (fun _ => qVar l) (fun _ => ()) nb () ⟨p5, h5, bd5⟩ j () ⟨p, h, bd⟩ zs))
  case atStart => exact ⟨0, p5, h5, bd5, [], none, none, 0, by omega, rfl, HK5, hid (RQ.start _ _ _ _ _)⟩
  case round =>
  clear HK5
  obtain ⟨j, p, h, bd, zs, r, av, cv, hj, rfl, HK, HQ⟩ := hrel
  have c3 := HK.out.rd.rd.c3
  obtain ⟨q, hq⟩ : ∃ q : Bool, (decide (j < nb) && decide (bd = 0)) = q := ⟨_, rfl⟩
  have HQQ := hid hq
  clear hq
  go_upto_region 12 with fail
  go_cut [52] (fun v wx => v = .bool q ∧ wx = wr)
  case first =>
    have hq := HQQ.out
    by_cases hlt : j < nb
    · have zl : (j : Int) < (nb : Int) := by omega
      by_cases hb0 : bd = 0
      · subst hb0
        rw [decide_eq_true hlt] at hq
        obtain rfl : true = q := hq
        go_wp2_with fail
        go_meet
        exact ⟨rfl, rfl⟩
      · have zb : ((bd : Int) == 0) = false := by simp; omega
        rw [decide_eq_true hlt, decide_eq_false hb0] at hq
        obtain rfl : false = q := hq
        go_wp2_with fail
        go_meet
        exact ⟨rfl, rfl⟩
    · have zl : ¬ ((j : Int) < (nb : Int)) := by omega
      rw [decide_eq_false hlt] at hq
      obtain rfl : false = q := hq
      go_wp2_with fail
      go_meet
      exact ⟨rfl, rfl⟩
  case rest =>
  obtain ⟨rfl, rfl⟩ := hcut
  clear c3
  by_cases hqt : q = true
  · have hq := HQQ.out
    rw [hqt] at hq
    simp only [Bool.and_eq_true, decide_eq_true_eq] at hq
    obtain ⟨hlt, rfl⟩ := hq
    subst hqt
    have hj4 : j ≤ 4096 := by omega
    obtain ⟨nm, p', h', bd', hT⟩ : ∃ o x y z, rText 24 l ⟨p, h, 0⟩ = (o, ⟨x, y, z⟩) := ⟨_, _, _, _, rfl⟩
    obtain ⟨fi, p6, h6, bd6, hS⟩ : ∃ o x y z, rSigned l ⟨p', h', bd'⟩ = (o, ⟨x, y, z⟩) := ⟨_, _, _, _, rfl⟩
    have hq2 : qVar l ⟨p, h, 0⟩ = (⟨⟨nm.toArray⟩, fi⟩, ⟨p6, h6, bd6⟩) := by unfold qVar; rw [hT]; simp only [hS]
    have HQ2 := hid (HQ.out.step hlt rfl hq2)
    have hTX := q_text_calls HK.out.rd.rd (by omega) 24 (by unfold I64; omega)
    rw [hT] at hTX
    have HTX := hid hTX
    have HSG := hid hS
    clear hTX hT hS hq2 HQ HQQ
    go_upto_region 16 with (first
      | (go_at_call 91; refine (HTX.out).mono ?_; rintro e w6 ⟨rfl, hR6, hc6⟩; unfold strB; have hk6 := HK.out.take hc6 (HK.out.rd.next hc6 hR6))
      | (go_at_call 92; refine (sg_calls hk6.rd hlen HSG.out).mono ?_; rintro e w7 ⟨rfl, hR7, hc7⟩))
    have HK7 := hid (hk6.take hc7 hR7)
    clear hk6 hR6 hc6 hR7 hc7 HTX HSG HK
    have x2 := (HK7.out.hp.cell (i := 1) rfl 3).trans (rfl : _ = some (Value.slice av j cv))
    have hrow := HK7.out.hp.rowAt (i := 0) rfl
    have HROW := hid fun o => hrow.keep ((Chg.refl [] _).alloc o) (by simp)
    clear hrow
    go_wp2_with (at_builtin; refine wpList_app rfl _ _ 25 rfl elem_bar rfl (HROW.out _) rfl (View.struct _ [.string ⟨nm.toArray⟩, .int .i64 fi] 55 rfl) (by simp [Value.oneCell']) (by unfold maxLen; omega) (by omega) (fun ao8 cap8 r8 w8 hr8 hc8 hf8 _ => halt (fun X hX => ?_)))
    rw [hX.out]; clear hX
    have hk8 := HK7.out.grow 0 rfl ((Chg.refl [] _).alloc _) hr8 hc8 hf8 rfl
    have z1 := (hk8.hp.cell (i := 1) rfl 3).trans (rfl : _ = some (Value.slice av j cv))
    have f1 := hk8.hp.free (i := 1) rfl 3
    have hk9 := hk8.put 1 rfl 3 (.slice ao8 (j + 1) cap8) rfl
    have HK9 : Hid (RH w1 (w8.setCell ⟨pb, 3, none⟩ (.slice ao8 (j + 1) cap8)) b l ao cap p6 h6 bd6 [.row 55 2 (.slice ao8 (j + 1) cap8) r8 (j + 1) ((zs ++ [(⟨⟨nm.toArray⟩, fi⟩ : VarD)]).flatMap varC), .box pb (.cells #[.slice a0 n0 k0, .slice a1 n1 k1, .slice a2 n2 k2, .slice ao8 (j + 1) cap8, .slice none 0 0] 28), .row 9 1 (.slice a2 n2 k2) r2 n2 (ls.flatMap strC), .row 53 2 (.slice a1 n1 k1) r1 n1 (ys.flatMap varC), .row 53 2 (.slice a0 n0 k0) r0 n0 (xs.flatMap varC)]) := hid (by rw [List.flatMap_append]; exact hk9)
    clear hk8 hk9 hr8 hc8 hf8 x2 HROW HK7
    go_wp2_with fail
    go_roundg (gk - 1)
    case measure => omega
    case rel => exact ⟨j + 1, p6, h6, bd6, _, r8, ao8, cap8, by omega, by go_num, HK9, HQ2⟩
  have hqf : q = false := by simpa using hqt
  have hx : j = nb ∨ bd ≠ 0 := by
    have hq := HQQ.out
    rw [hqf] at hq
    by_cases hlt : j < nb
    · rw [decide_eq_true hlt] at hq
      refine .inr (fun h => ?_)
      rw [decide_eq_true h] at hq
      cases hq
    · exact .inl (by omega)
  subst hqf
  have HD := hid (HQ.out.done hx)
  have hzl := HQ.out.len
  clear hx hqt HQQ HQ
  obtain ⟨bs, hs⟩ : ∃ x, x = zs := ⟨_, rfl⟩
  subst hs
  obtain ⟨n3, hs⟩ : ∃ x, x = j := ⟨_, rfl⟩
  subst hs
  obtain ⟨a3, hs⟩ : ∃ x, x = av := ⟨_, rfl⟩
  subst hs
  obtain ⟨k3, hs⟩ : ∃ x, x = cv := ⟨_, rfl⟩
  subst hs
  obtain ⟨r3, hs⟩ : ∃ x, x = r := ⟨_, rfl⟩
  subst hs
  have HD2 := HD
  have HN3 := hid hzl
  clear HD hzl
  go_upto_region 19 with (go_at_call 90; refine (q_counted 65535 (by omega) HK.out.rd hlen).mono ?_; rintro e w6 ⟨nt, p7, h7, bd7, HNT, hn7, rfl, hO7, hc7⟩)
  have HK7 : Hid (RH w1 w6 b l ao cap p7 h7 bd7 [.row 59 3 (.slice none 0 0) none 0 [], .box pb (.cells #[.slice a0 n0 k0, .slice a1 n1 k1, .slice a2 n2 k2, .slice a3 n3 k3, .slice none 0 0] 28), .row 55 2 (.slice a3 n3 k3) r3 n3 (bs.flatMap varC), .row 9 1 (.slice a2 n2 k2) r2 n2 (ls.flatMap strC), .row 53 2 (.slice a1 n1 k1) r1 n1 (ys.flatMap varC), .row 53 2 (.slice a0 n0 k0) r0 n0 (xs.flatMap varC)]) := hid (((HK.out.take hc7 hO7).nil 59 3).perm (by
    refine .cons _ ?_
    exact .swap _ _ _))
  clear HK hO7 hc7
  go_loopg [11] nt (fun gk vi wr => ∃ (j p h bd : Nat) (ts : List TR) (r : Option Nat) (av : Option Addr) (cv : Nat), j + gk = nt ∧ vi = .int .i64 j ∧ Hid (∃ TL : List It, (∀ y ∈ ts, TR.c y ∈ TL ∧ TR.p y ∈ TL) ∧ (∀ y ∈ [.row 55 2 (.slice a3 n3 k3) r3 n3 (bs.flatMap varC), .row 9 1 (.slice a2 n2 k2) r2 n2 (ls.flatMap strC), .row 53 2 (.slice a1 n1 k1) r1 n1 (ys.flatMap varC), .row 53 2 (.slice a0 n0 k0) r0 n0 (xs.flatMap varC)], y ∈ TL) ∧ RH w1 wr b l ao cap p h bd (.row 59 3 (.slice av j cv) r j ((ts.map TR.v).flatMap thrC) :: .box pb (.cells #[.slice a0 n0 k0, .slice a1 n1 k1, .slice a2 n2 k2, .slice a3 n3 k3, .slice av j cv] 28) :: TL)) ∧ Hid (RQ (fun _ => qThr l) (fun _ => ()) nt () ⟨p7, h7, bd7⟩ j () ⟨p, h, bd⟩ (ts.map TR.t)))
  case atStart => exact ⟨0, p7, h7, bd7, [], none, none, 0, by omega, rfl, hid ⟨_, by simp, fun y hy => hy, HK7.out⟩, hid (RQ.start _ _ _ _ _)⟩
  case round =>
  clear HK7
  obtain ⟨j, p, h, bd, ts, r, av, cv, hj, rfl, HI, HQ⟩ := hrel
  obtain ⟨TL, hT1, hT2, hk⟩ := HI.out
  have HT := hid (And.intro hT1 hT2)
  have HK := hid hk
  clear HI hT1 hT2 hk
  have c3 := HK.out.rd.rd.c3
  obtain ⟨q, hq⟩ : ∃ q : Bool, (decide (j < nt) && decide (bd = 0)) = q := ⟨_, rfl⟩
  have HQQ := hid hq
  clear hq
  go_upto_region 19 with fail
  go_cut [78] (fun v wx => v = .bool q ∧ wx = wr)
  case first =>
    have hq := HQQ.out
    by_cases hlt : j < nt
    · have zl : (j : Int) < (nt : Int) := by omega
      by_cases hb0 : bd = 0
      · subst hb0
        rw [decide_eq_true hlt] at hq
        obtain rfl : true = q := hq
        go_wp2_with fail
        go_meet
        exact ⟨rfl, rfl⟩
      · have zb : ((bd : Int) == 0) = false := by simp; omega
        rw [decide_eq_true hlt, decide_eq_false hb0] at hq
        obtain rfl : false = q := hq
        go_wp2_with fail
        go_meet
        exact ⟨rfl, rfl⟩
    · have zl : ¬ ((j : Int) < (nt : Int)) := by omega
      rw [decide_eq_false hlt] at hq
      obtain rfl : false = q := hq
      go_wp2_with fail
      go_meet
      exact ⟨rfl, rfl⟩
  case rest =>
  obtain ⟨rfl, rfl⟩ := hcut
  clear c3
  by_cases hqt : q = true
  · have hq := HQQ.out
    rw [hqt] at hq
    simp only [Bool.and_eq_true, decide_eq_true_eq] at hq
    obtain ⟨hlt, rfl⟩ := hq
    subst hqt
    have hj4 : j ≤ 65535 := by omega
    have HTH := hid (fun u (hu : OkQ u b l ao cap p h 0) => q_takeThread hu hlen)
    have HLT := hid hlt
    clear HQQ
    have x2 := (HK.out.hp.cell (i := 1) rfl 4).trans (rfl : _ = some (Value.slice av j cv))
    go_upto_region 21 with fail
    go_region_law (first
      | (refine step_app rfl _ _ 26 rfl elem_thr rfl ((hk5.hp.rowAt (i := 0) rfl).keep ((Chg.refl [] _).alloc _) (by simp)) rfl (View.struct _ [.string nm, .slice ac m cc, .slice ap m cp] 59 rfl) (by simp [Value.oneCell']) (by unfold maxLen; omega) (by omega) (fun ao' cap' r' w6 hr6 hc6 hf6 => ?_); have hk6 := hk5.grow 0 rfl ((Chg.refl [] _).alloc _) hr6 hc6 hf6 rfl; have z2 := (hk6.hp.cell (i := 1) rfl 4).trans (rfl : _ = some (Value.slice av j cv)); have f2 := hk6.hp.free (i := 1) rfl 4)
      | (go_simp; go_at_call 93; refine (HTH.out _ (HK.out.rd.keep (Chg.of_drewN [] _ _))).mono ?_; rintro e w5 ⟨nm, code, places, m, p', h', bd', ac, cc, ap, cp, rc, rp, HI5, HL5, rfl, hO5, hp5⟩; have hk5 := ((HK.out.same (Chg.of_drewN [] _ 1)).join hO5 hp5).perm (List.perm_append_comm_assoc [_, _] [_, _] TL); have x25 := (hk5.hp.cell (i := 1) rfl 4).trans (rfl : _ = some (Value.slice av j cv)); have hx5 := fun o => ((hk5.same ((Chg.refl [] _).alloc o)).hp.cell (i := 1) rfl 4).trans (rfl : _ = some (Value.slice av j cv))))
    all_goals
      have HQ2 : Hid (RQ (fun _ => qThr l) (fun _ => ()) nt () ⟨p7, h7, bd7⟩ (j + 1) () ⟨p', h', bd'⟩ ((ts ++ [(⟨⟨nm, code, places⟩, .slice ac m cc, .slice ap m cp, rc, rp⟩ : TR)]).map TR.t)) := hid (by rw [List.map_append]; exact HQ.out.step HLT.out rfl HI5.out)
      have HK8 := hid (qthr_more HT.out.1 HT.out.2 HL5.out.1 HL5.out.2 (hk6.put 1 rfl 4 (.slice ao' (j + 1) cap') rfl))
      clear x2 x25 hx5 hk5 hk6 hO5 hp5 hr6 hc6 hf6 HTH HK HQ HT HI5 HL5 HLT
      go_wp2_with fail
      go_roundg (gk - 1)
      case measure => omega
      case rel => exact ⟨j + 1, p', h', bd', _, r', ao', cap', by omega, by go_num, HK8, HQ2⟩
  have hqf : q = false := by simpa using hqt
  have hx : j = nt ∨ bd ≠ 0 := by
    have hq := HQQ.out
    rw [hqf] at hq
    by_cases hlt : j < nt
    · rw [decide_eq_true hlt] at hq
      refine .inr (fun h => ?_)
      rw [decide_eq_true h] at hq
      cases hq
    · exact .inl (by omega)
  subst hqf
  have HD := hid (HQ.out.done hx)
  have hzl := HQ.out.len
  clear hx hqt HQQ HQ
  have hQ := qPrg_of HX.out HY.out (qMany_of HNL.out HD1.out) (qMany_of HNB.out HD2.out) (qMany_of HNT.out HD.out)
  have hS5 := q_small l ⟨0, 0, 0⟩
  rw [hQ] at hS5
  have hwd : Hp [b, w.heap.size] w1 wc (.row 59 3 (.slice av j cv) r j ((ts.map TR.v).flatMap thrC) :: .box pb (.cells #[.slice a0 n0 k0, .slice a1 n1 k1, .slice a2 n2 k2, .slice a3 n3 k3, .slice av j cv] 28) :: TL) := hp_wide HK.out.hp (fun x hx => by simp only [List.mem_singleton] at hx; simp [hx]) (fun x hx => by
    have h1 := HK.out.hp.s0 b (by simp)
    simp only [List.mem_cons, List.not_mem_nil, or_false] at hx
    rcases hx with rfl | rfl
    · exact h1
    · omega)
  have hPV : ∀ (S : List Nat) u, (∀ g ∈ S, g ≤ w.heap.size) → Chg S wc u → PrgV u (.agg #[.slice a0 n0 k0, .slice a1 n1 k1, .slice a2 n2 k2, .slice a3 n3 k3, .slice av j cv]) ⟨xs, ys, ls, bs, ts.map TR.t⟩ := fun S u hS hu => by
    have hb1 := HK.out.hp.s0 b (by simp)
    have h := (hp_wide (S1 := b :: S) HK.out.hp (fun x hx => by simp only [List.mem_singleton] at hx; simp [hx]) (fun x hx => by
      rcases List.mem_cons.1 hx with rfl | hx
      · exact hb1
      · have := hS x hx; omega)).step (hu.mono (fun x hx => .inl (List.mem_cons_of_mem _ hx)))
    have hm : ∀ y ∈ [.row 55 2 (.slice a3 n3 k3) r3 n3 (bs.flatMap varC), .row 9 1 (.slice a2 n2 k2) r2 n2 (ls.flatMap strC), .row 53 2 (.slice a1 n1 k1) r1 n1 (ys.flatMap varC), .row 53 2 (.slice a0 n0 k0) r0 n0 (xs.flatMap varC)], y ∈ (It.row 59 3 (.slice av j cv) r j ((ts.map TR.v).flatMap thrC) :: It.box pb (.cells #[.slice a0 n0 k0, .slice a1 n1 k1, .slice a2 n2 k2, .slice a3 n3 k3, .slice av j cv] 28) :: TL) := fun y hy => List.mem_cons_of_mem _ (List.mem_cons_of_mem _ (HT.out.2 y hy))
    exact qprg_V h ⟨HN0.out, HN1.out, HN2.out, HN3.out, by simpa using hzl⟩ (hm _ (.tail _ (.tail _ (.tail _ (.head _))))) (hm _ (.tail _ (.tail _ (.head _)))) (hm _ (.tail _ (.head _))) (hm _ (.head _)) (List.mem_cons_self ..) rfl (fun y hy => ⟨List.mem_cons_of_mem _ (List.mem_cons_of_mem _ (HT.out.1 y hy).1), List.mem_cons_of_mem _ (List.mem_cons_of_mem _ (HT.out.1 y hy).2)⟩)
  have hKP : ∀ u, Chg [w.heap.size] wc u → u.cell? ⟨pb, 0, none⟩ = some (.slice a0 n0 k0) ∧ u.cell? ⟨pb, 1, none⟩ = some (.slice a1 n1 k1) ∧ u.cell? ⟨pb, 2, none⟩ = some (.slice a2 n2 k2) ∧ u.cell? ⟨pb, 3, none⟩ = some (.slice a3 n3 k3) ∧ u.cell? ⟨pb, 4, none⟩ = some (.slice av j cv) := fun u hu => by
    have h := hwd.step (hu.mono (fun x hx => .inl (by simp only [List.mem_singleton] at hx; simp [hx])))
    exact ⟨(h.cell (i := 1) rfl 0).trans rfl, (h.cell (i := 1) rfl 1).trans rfl, (h.cell (i := 1) rfl 2).trans rfl, (h.cell (i := 1) rfl 3).trans rfl, (h.cell (i := 1) rfl 4).trans rfl⟩
  have hres : wc.heap[w.heap.size]? = some (.cells #[.slice none 0 0, .slice none 0 0, .slice none 0 0, .slice none 0 0, .slice none 0 0] 28) := HK.out.chg.heap HR1.out (by simp; omega)
  have hCW : Chg [] w1 wc ∨ True := .inr trivial
  obtain ⟨x, hx⟩ : ∃ x : PrgD, ⟨xs, ys, ls, bs, ts.map TR.t⟩ = x := ⟨_, rfl⟩
  rw [hx] at hQ hS5 hPV
  have hen := fun u (hu : Chg [] wc u) => q_end_calls (HK.out.same hu).rd.rd
  have hpl := fun u (hu : Chg [] wc u) => r_plain_calls x hS5 u (hPV [] u (by simp) hu)
  obtain ⟨g, hg⟩ : ∃ g : Bool, prgB x = g := ⟨_, rfl⟩
  rw [hg] at hpl
  obtain ⟨E, hE⟩ : ∃ E : Nat, rEnd l ⟨p, h, bd⟩ = E := ⟨_, rfl⟩
  rw [hE] at hen
  have HQP := hid hQ
  have HPV := hid hPV
  have HKP := hid hKP
  have HRS := hid hres
  have HEN := hid hen
  have HPL := hid hpl
  have HG := hid hg
  have HE := hid hE
  have HCH : Hid (∀ u, Chg [w.heap.size] wc u → Chg [] w u) := hid fun u hu => by
    have h1 := HC1.out
    have h2 := HK.out.chg
    exact (h1.trans h2 (fun y hy => .inr (by simp only [List.mem_singleton] at hy; omega))).trans hu (fun y hy => .inr (by simp only [List.mem_singleton] at hy; omega))
  clear hQ hS5 hwd hPV hKP hres hCW hx hen hpl hg hE HD HD1 HD2 HX HY HNL HNB HNT HN0 HN1 HN2 HN3 hzl HT HK HR1 HC1
  by_cases hE0 : E = 0
  rotate_left
  · have ze : ((E : Int) == 0) = false := by simp; omega
    have hB : (decide (E = 0) && g) = false := by rw [decide_eq_false hE0]; rfl
    have HB := hid hB
    clear hB HPL
    have y := HKP.out _ (Chg.refl _ wc)
    obtain ⟨y0, y1, y2, y3, y4⟩ := y
    go_upto_region 22 with fail
    (refine wp_region_held_drew (S := (fun w' => w'.cell? ⟨pb, 0, none⟩ = some (.slice a0 n0 k0) ∧ w'.cell? ⟨pb, 1, none⟩ = some (.slice a1 n1 k1) ∧ w'.cell? ⟨pb, 2, none⟩ = some (.slice a2 n2 k2) ∧ w'.cell? ⟨pb, 3, none⟩ = some (.slice a3 n3 k3) ∧ w'.cell? ⟨pb, 4, none⟩ = some (.slice av j cv))) (by kernel_rfl) (by exact HKP.out _ ((Chg.refl [] wc).drew).nil) (fun hHeld => ?_); (refine wpAnyH_take (i := 0) (v := ?_) rfl (by kernel_rfl) (by kernel_rfl) (by kernel_rfl) (fun _ _ _ h => h) (Or.inl ⟨by rfl, ?_⟩) (by assumption) ?_; rotate_left 1; (focus (intro w hSw; (try dsimp only at hSw); go_simp; (try with_reducible rfl))); (try simp only [List.getElem_toArray, List.getElem_cons_zero, List.getElem_cons_succ, Act.put, List.setIfInBounds_toArray, List.set_cons_zero, List.set_cons_succ])); (refine wpAnyH_take (i := 1) (v := ?_) rfl (by kernel_rfl) (by kernel_rfl) (by kernel_rfl) (fun _ _ _ h => h) (Or.inl ⟨by rfl, ?_⟩) (by assumption) ?_; rotate_left 1; (focus (intro w hSw; (try dsimp only at hSw); go_simp; (try with_reducible rfl))); (try simp only [List.getElem_toArray, List.getElem_cons_zero, List.getElem_cons_succ, Act.put, List.setIfInBounds_toArray, List.set_cons_zero, List.set_cons_succ])); (refine wpAnyH_ready (rs := [2]) (by kernel_rfl) (by simp) ?_; refine AllReadyH.cons rfl (fun K hK => ?_) AllReadyH.nil; go_simp); (go_at_call 94; refine (HEN.out _ (Chg.of_drewN [] _ 1)).mono ?_; rintro e w7 ⟨rfl, hd7⟩; have k7 := ((Chg.of_drewN [] wc 1)).trans' hd7.chg; have hb8 := k7.heap HRS.out (by simp); have r0 := (blk_cell hb8 0).trans (rfl : _ = some (Value.slice none 0 0)); have f0 := blk_free hb8 0; have r1 := (blk_cell hb8 1).trans (rfl : _ = some (Value.slice none 0 0)); have f1 := blk_free hb8 1; have r2 := (blk_cell hb8 2).trans (rfl : _ = some (Value.slice none 0 0)); have f2 := blk_free hb8 2; have r3 := (blk_cell hb8 3).trans (rfl : _ = some (Value.slice none 0 0)); have f3 := blk_free hb8 3; have r4 := (blk_cell hb8 4).trans (rfl : _ = some (Value.slice none 0 0)); have f4 := blk_free hb8 4); (refine hK.out _ _ (by exact HKP.out _ k7.nil) (fun hHeld => ?_); clear hK K; (try simp only [List.getElem_toArray, List.getElem_cons_zero, List.getElem_cons_succ, Act.put, List.setIfInBounds_toArray, List.set_cons_zero, List.set_cons_succ])); (refine wpAnyH_take (i := 3) (v := ?_) rfl (by kernel_rfl) (by kernel_rfl) (by kernel_rfl) (fun _ _ _ h => h) (Or.inl ⟨by rfl, ?_⟩) (by assumption) ?_; rotate_left 1; (focus (intro w hSw; (try dsimp only at hSw); go_simp; (try with_reducible rfl))); (try simp only [List.getElem_toArray, List.getElem_cons_zero, List.getElem_cons_succ, Act.put, List.setIfInBounds_toArray, List.set_cons_zero, List.set_cons_succ])); (refine wpAnyH_take (i := 4) (v := ?_) rfl (by kernel_rfl) (by kernel_rfl) (by kernel_rfl) (fun _ _ _ h => h) (Or.inl ⟨by rfl, ?_⟩) (by assumption) ?_; rotate_left 1; (focus (intro w hSw; (try dsimp only at hSw); go_simp; (try with_reducible rfl))); (try simp only [List.getElem_toArray, List.getElem_cons_zero, List.getElem_cons_succ, Act.put, List.setIfInBounds_toArray, List.set_cons_zero, List.set_cons_succ])); (refine wpAnyH_take (i := 5) (v := undef) rfl (by kernel_rfl) (by kernel_rfl) (by kernel_rfl) (fun _ _ _ h => h) (Or.inr ⟨by rfl, rfl⟩) (by assumption) ?_; (try simp only [List.getElem_toArray, List.getElem_cons_zero, List.getElem_cons_succ, Act.put, List.setIfInBounds_toArray, List.set_cons_zero, List.set_cons_succ])); (refine wpAnyH_take (i := 6) (v := undef) rfl (by kernel_rfl) (by kernel_rfl) (by kernel_rfl) (fun _ _ _ h => h) (Or.inr ⟨by rfl, rfl⟩) (by assumption) ?_; (try simp only [List.getElem_toArray, List.getElem_cons_zero, List.getElem_cons_succ, Act.put, List.setIfInBounds_toArray, List.set_cons_zero, List.set_cons_succ])); (refine wpAnyH_take (i := 7) (v := ?_) rfl (by kernel_rfl) (by kernel_rfl) (by kernel_rfl) (fun _ _ _ h => h) (Or.inl ⟨by rfl, ?_⟩) (by assumption) ?_; rotate_left 1; (focus (intro w hSw; (try dsimp only at hSw); go_simp; (try with_reducible rfl))); (try simp only [List.getElem_toArray, List.getElem_cons_zero, List.getElem_cons_succ, Act.put, List.setIfInBounds_toArray, List.set_cons_zero, List.set_cons_succ])); (refine wpAnyH_ready (rs := [8]) (by kernel_rfl) (by simp) ?_; refine AllReadyH.cons rfl (fun K hK => ?_) AllReadyH.nil; go_simp); (skip); (refine hK.out _ _ (by exact HKP.out _ (Chg.setCell (Chg.setCell (Chg.setCell (Chg.setCell (Chg.setCell (k7.nil (T := [w.heap.size])) (p := ⟨w.heap.size, 0, none⟩) (.inl (by simp)) _) (p := ⟨w.heap.size, 1, none⟩) (.inl (by simp)) _) (p := ⟨w.heap.size, 2, none⟩) (.inl (by simp)) _) (p := ⟨w.heap.size, 3, none⟩) (.inl (by simp)) _) (p := ⟨w.heap.size, 4, none⟩) (.inl (by simp)) _)) (fun hHeld => ?_); clear hK K; (try simp only [List.getElem_toArray, List.getElem_cons_zero, List.getElem_cons_succ, Act.put, List.setIfInBounds_toArray, List.set_cons_zero, List.set_cons_succ])); (refine wpAnyH_take (i := 9) (v := ?_) rfl (by kernel_rfl) (by kernel_rfl) (by kernel_rfl) (fun _ _ _ h => h) (Or.inl ⟨by rfl, ?_⟩) (by assumption) ?_; rotate_left 1; (focus (intro w hSw; (try dsimp only at hSw); go_simp; (try with_reducible rfl))); (try simp only [List.getElem_toArray, List.getElem_cons_zero, List.getElem_cons_succ, Act.put, List.setIfInBounds_toArray, List.set_cons_zero, List.set_cons_succ])); refine wpAnyH_done (by kernel_rfl) ?_ _)
    clear y0 y1 y2 y3 y4
    have hcW := (Chg.setCell (Chg.setCell (Chg.setCell (Chg.setCell (Chg.setCell (k7.nil (T := [w.heap.size])) (p := ⟨w.heap.size, 0, none⟩) (.inl (by simp)) (.slice a0 n0 k0)) (p := ⟨w.heap.size, 1, none⟩) (.inl (by simp)) (.slice a1 n1 k1)) (p := ⟨w.heap.size, 2, none⟩) (.inl (by simp)) (.slice a2 n2 k2)) (p := ⟨w.heap.size, 3, none⟩) (.inl (by simp)) (.slice a3 n3 k3)) (p := ⟨w.heap.size, 4, none⟩) (.inl (by simp)) (.slice av j cv))
    have hbW := (blk_set (blk_set (blk_set (blk_set (blk_set hb8 0 (.slice a0 n0 k0)) 1 (.slice a1 n1 k1)) 2 (.slice a2 n2 k2)) 3 (.slice a3 n3 k3)) 4 (.slice av j cv))
    obtain ⟨wf, hwf⟩ : ∃ x : World, (((((w7.setCell ⟨w.heap.size, 0, none⟩ (.slice a0 n0 k0)).setCell ⟨w.heap.size, 1, none⟩ (.slice a1 n1 k1)).setCell ⟨w.heap.size, 2, none⟩ (.slice a2 n2 k2)).setCell ⟨w.heap.size, 3, none⟩ (.slice a3 n3 k3)).setCell ⟨w.heap.size, 4, none⟩ (.slice av j cv)) = x := ⟨_, rfl⟩
    rw [hwf] at hcW hbW ⊢
    have c0 := (blk_cell hbW 0).trans (rfl : _ = some (Value.slice a0 n0 k0))
    have c1 := (blk_cell hbW 1).trans (rfl : _ = some (Value.slice a1 n1 k1))
    have c2 := (blk_cell hbW 2).trans (rfl : _ = some (Value.slice a2 n2 k2))
    have c3 := (blk_cell hbW 3).trans (rfl : _ = some (Value.slice a3 n3 k3))
    have c4 := (blk_cell hbW 4).trans (rfl : _ = some (Value.slice av j cv))
    have HCW := hid hcW
    clear hcW hHeld hbW hwf hb8 r0 r1 r2 r3 r4 f0 f1 f2 f3 f4
    go_wp2
    exact bodyPost_ret (v := .tuple #[.agg #[.slice a0 n0 k0, .slice a1 n1 k1, .slice a2 n2 k2, .slice a3 n3 k3, .slice av j cv], .bool false]) (by simp [results, Try.results56, go_sem, c0, c1, c2, c3, c4]) rfl (qp_fin HL.out HQP.out HE.out HG.out HB.out (fun S u hS hu => HPV.out (w.heap.size :: S) u (fun y hy => by rcases List.mem_cons.1 hy with rfl | hy; exact Nat.le_refl _; exact Nat.le_of_lt (hS y hy)) ((HCW.out.mono (fun y hy => .inl (by simp only [List.mem_singleton] at hy; simp [hy]))).trans' (hu.mono (fun y hy => .inl (List.mem_cons_of_mem _ hy))))) (HCH.out _ HCW.out))
  · subst hE0
    have hB : (decide ((0 : Nat) = 0) && g) = g := by simp
    have HB := hid hB
    clear hB
    have y := HKP.out _ (Chg.refl _ wc)
    obtain ⟨y0, y1, y2, y3, y4⟩ := y
    go_upto_region 22 with fail
    (refine wp_region_held_drew (S := (fun w' => w'.cell? ⟨pb, 0, none⟩ = some (.slice a0 n0 k0) ∧ w'.cell? ⟨pb, 1, none⟩ = some (.slice a1 n1 k1) ∧ w'.cell? ⟨pb, 2, none⟩ = some (.slice a2 n2 k2) ∧ w'.cell? ⟨pb, 3, none⟩ = some (.slice a3 n3 k3) ∧ w'.cell? ⟨pb, 4, none⟩ = some (.slice av j cv))) (by kernel_rfl) (by exact HKP.out _ ((Chg.refl [] wc).drew).nil) (fun hHeld => ?_); (refine wpAnyH_take (i := 0) (v := ?_) rfl (by kernel_rfl) (by kernel_rfl) (by kernel_rfl) (fun _ _ _ h => h) (Or.inl ⟨by rfl, ?_⟩) (by assumption) ?_; rotate_left 1; (focus (intro w hSw; (try dsimp only at hSw); go_simp; (try with_reducible rfl))); (try simp only [List.getElem_toArray, List.getElem_cons_zero, List.getElem_cons_succ, Act.put, List.setIfInBounds_toArray, List.set_cons_zero, List.set_cons_succ])); (refine wpAnyH_take (i := 1) (v := ?_) rfl (by kernel_rfl) (by kernel_rfl) (by kernel_rfl) (fun _ _ _ h => h) (Or.inl ⟨by rfl, ?_⟩) (by assumption) ?_; rotate_left 1; (focus (intro w hSw; (try dsimp only at hSw); go_simp; (try with_reducible rfl))); (try simp only [List.getElem_toArray, List.getElem_cons_zero, List.getElem_cons_succ, Act.put, List.setIfInBounds_toArray, List.set_cons_zero, List.set_cons_succ])); (refine wpAnyH_ready (rs := [2]) (by kernel_rfl) (by simp) ?_; refine AllReadyH.cons rfl (fun K hK => ?_) AllReadyH.nil; go_simp); (go_at_call 94; refine (HEN.out _ (Chg.of_drewN [] _ 1)).mono ?_; rintro e w7 ⟨rfl, hd7⟩; have k7 := ((Chg.of_drewN [] wc 1)).trans' hd7.chg); (refine hK.out _ _ (by exact HKP.out _ k7.nil) (fun hHeld => ?_); clear hK K; (try simp only [List.getElem_toArray, List.getElem_cons_zero, List.getElem_cons_succ, Act.put, List.setIfInBounds_toArray, List.set_cons_zero, List.set_cons_succ])); (refine wpAnyH_take (i := 3) (v := ?_) rfl (by kernel_rfl) (by kernel_rfl) (by kernel_rfl) (fun _ _ _ h => h) (Or.inl ⟨by rfl, ?_⟩) (by assumption) ?_; rotate_left 1; (focus (intro w hSw; (try dsimp only at hSw); go_simp; (try with_reducible rfl))); (try simp only [List.getElem_toArray, List.getElem_cons_zero, List.getElem_cons_succ, Act.put, List.setIfInBounds_toArray, List.set_cons_zero, List.set_cons_succ])); (refine wpAnyH_take (i := 4) (v := ?_) rfl (by kernel_rfl) (by kernel_rfl) (by kernel_rfl) (fun _ _ _ h => h) (Or.inl ⟨by rfl, ?_⟩) (by assumption) ?_; rotate_left 1; (focus (intro w hSw; (try dsimp only at hSw); go_simp; (try with_reducible rfl))); (try simp only [List.getElem_toArray, List.getElem_cons_zero, List.getElem_cons_succ, Act.put, List.setIfInBounds_toArray, List.set_cons_zero, List.set_cons_succ])); (refine wpAnyH_take (i := 5) (v := ?_) rfl (by kernel_rfl) (by kernel_rfl) (by kernel_rfl) (fun _ _ _ h => h) (Or.inl ⟨by rfl, ?_⟩) (by assumption) ?_; rotate_left 1; (focus (intro w hSw; (try dsimp only at hSw); go_simp; (try with_reducible rfl))); (try simp only [List.getElem_toArray, List.getElem_cons_zero, List.getElem_cons_succ, Act.put, List.setIfInBounds_toArray, List.set_cons_zero, List.set_cons_succ])); (refine wpAnyH_ready (rs := [6]) (by kernel_rfl) (by simp) ?_; refine AllReadyH.cons rfl (fun K hK => ?_) AllReadyH.nil; go_simp); (go_at_call 17; refine (HPL.out _ k7).mono ?_; rintro e w8 ⟨rfl, hd8⟩; have k8 := k7.trans' hd8; have hb8 := k8.heap HRS.out (by simp); have r0 := (blk_cell hb8 0).trans (rfl : _ = some (Value.slice none 0 0)); have f0 := blk_free hb8 0; have r1 := (blk_cell hb8 1).trans (rfl : _ = some (Value.slice none 0 0)); have f1 := blk_free hb8 1; have r2 := (blk_cell hb8 2).trans (rfl : _ = some (Value.slice none 0 0)); have f2 := blk_free hb8 2; have r3 := (blk_cell hb8 3).trans (rfl : _ = some (Value.slice none 0 0)); have f3 := blk_free hb8 3; have r4 := (blk_cell hb8 4).trans (rfl : _ = some (Value.slice none 0 0)); have f4 := blk_free hb8 4); (refine hK.out _ _ (by exact HKP.out _ k8.nil) (fun hHeld => ?_); clear hK K; (try simp only [List.getElem_toArray, List.getElem_cons_zero, List.getElem_cons_succ, Act.put, List.setIfInBounds_toArray, List.set_cons_zero, List.set_cons_succ])); (refine wpAnyH_take (i := 7) (v := ?_) rfl (by kernel_rfl) (by kernel_rfl) (by kernel_rfl) (fun _ _ _ h => h) (Or.inl ⟨by rfl, ?_⟩) (by assumption) ?_; rotate_left 1; (focus (intro w hSw; (try dsimp only at hSw); go_simp; (try with_reducible rfl))); (try simp only [List.getElem_toArray, List.getElem_cons_zero, List.getElem_cons_succ, Act.put, List.setIfInBounds_toArray, List.set_cons_zero, List.set_cons_succ])); (refine wpAnyH_ready (rs := [8]) (by kernel_rfl) (by simp) ?_; refine AllReadyH.cons rfl (fun K hK => ?_) AllReadyH.nil; go_simp); (skip); (refine hK.out _ _ (by exact HKP.out _ (Chg.setCell (Chg.setCell (Chg.setCell (Chg.setCell (Chg.setCell (k8.nil (T := [w.heap.size])) (p := ⟨w.heap.size, 0, none⟩) (.inl (by simp)) _) (p := ⟨w.heap.size, 1, none⟩) (.inl (by simp)) _) (p := ⟨w.heap.size, 2, none⟩) (.inl (by simp)) _) (p := ⟨w.heap.size, 3, none⟩) (.inl (by simp)) _) (p := ⟨w.heap.size, 4, none⟩) (.inl (by simp)) _)) (fun hHeld => ?_); clear hK K; (try simp only [List.getElem_toArray, List.getElem_cons_zero, List.getElem_cons_succ, Act.put, List.setIfInBounds_toArray, List.set_cons_zero, List.set_cons_succ])); (refine wpAnyH_take (i := 9) (v := ?_) rfl (by kernel_rfl) (by kernel_rfl) (by kernel_rfl) (fun _ _ _ h => h) (Or.inl ⟨by rfl, ?_⟩) (by assumption) ?_; rotate_left 1; (focus (intro w hSw; (try dsimp only at hSw); go_simp; (try with_reducible rfl))); (try simp only [List.getElem_toArray, List.getElem_cons_zero, List.getElem_cons_succ, Act.put, List.setIfInBounds_toArray, List.set_cons_zero, List.set_cons_succ])); refine wpAnyH_done (by kernel_rfl) ?_ _)
    clear y0 y1 y2 y3 y4
    have hcW := (Chg.setCell (Chg.setCell (Chg.setCell (Chg.setCell (Chg.setCell (k8.nil (T := [w.heap.size])) (p := ⟨w.heap.size, 0, none⟩) (.inl (by simp)) (.slice a0 n0 k0)) (p := ⟨w.heap.size, 1, none⟩) (.inl (by simp)) (.slice a1 n1 k1)) (p := ⟨w.heap.size, 2, none⟩) (.inl (by simp)) (.slice a2 n2 k2)) (p := ⟨w.heap.size, 3, none⟩) (.inl (by simp)) (.slice a3 n3 k3)) (p := ⟨w.heap.size, 4, none⟩) (.inl (by simp)) (.slice av j cv))
    have hbW := (blk_set (blk_set (blk_set (blk_set (blk_set hb8 0 (.slice a0 n0 k0)) 1 (.slice a1 n1 k1)) 2 (.slice a2 n2 k2)) 3 (.slice a3 n3 k3)) 4 (.slice av j cv))
    obtain ⟨wf, hwf⟩ : ∃ x : World, (((((w8.setCell ⟨w.heap.size, 0, none⟩ (.slice a0 n0 k0)).setCell ⟨w.heap.size, 1, none⟩ (.slice a1 n1 k1)).setCell ⟨w.heap.size, 2, none⟩ (.slice a2 n2 k2)).setCell ⟨w.heap.size, 3, none⟩ (.slice a3 n3 k3)).setCell ⟨w.heap.size, 4, none⟩ (.slice av j cv)) = x := ⟨_, rfl⟩
    rw [hwf] at hcW hbW ⊢
    have c0 := (blk_cell hbW 0).trans (rfl : _ = some (Value.slice a0 n0 k0))
    have c1 := (blk_cell hbW 1).trans (rfl : _ = some (Value.slice a1 n1 k1))
    have c2 := (blk_cell hbW 2).trans (rfl : _ = some (Value.slice a2 n2 k2))
    have c3 := (blk_cell hbW 3).trans (rfl : _ = some (Value.slice a3 n3 k3))
    have c4 := (blk_cell hbW 4).trans (rfl : _ = some (Value.slice av j cv))
    have HCW := hid hcW
    clear hcW hHeld hbW hwf hb8 r0 r1 r2 r3 r4 f0 f1 f2 f3 f4
    go_wp2
    exact bodyPost_ret (v := .tuple #[.agg #[.slice a0 n0 k0, .slice a1 n1 k1, .slice a2 n2 k2, .slice a3 n3 k3, .slice av j cv], .bool g]) (by simp [results, Try.results56, go_sem, c0, c1, c2, c3, c4]) rfl (qp_fin HL.out HQP.out HE.out HG.out HB.out (fun S u hS hu => HPV.out (w.heap.size :: S) u (fun y hy => by rcases List.mem_cons.1 hy with rfl | hy; exact Nat.le_refl _; exact Nat.le_of_lt (hS y hy)) ((HCW.out.mono (fun y hy => .inl (by simp only [List.mem_singleton] at hy; simp [hy]))).trans' (hu.mono (fun y hy => .inl (List.mem_cons_of_mem _ hy))))) (HCH.out _ HCW.out))
end
end Go.Proofs.Ytbikekgljabalaa
