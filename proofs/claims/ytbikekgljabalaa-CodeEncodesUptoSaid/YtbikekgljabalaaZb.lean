/- The walk of turn: a program written over where it stands. -/
import Derived.Test.YtbikekgljabalaaZa
import Derived.WalkMore
import Derived.Deep.LoopGhost
namespace Go.Proofs.Ytbikekgljabalaa
open Go.RowKit Go.AB
set_option linter.unusedVariables false
set_option linter.unusedSimpArgs false
set_option linter.unusedSectionVars false

def tI (x : Int) : Int := bits .xor .i64 x 1
def tV (x : VarD) : VarD := ⟨x.name, tI x.first⟩
def tL (x : ByteArray) : ByteArray := x ++ ⟨#[116]⟩
def tN (x : InsD) : InsD := ⟨x.op, tI x.a, x.b, x.c, x.n⟩
def tP (x : PlcD) : PlcD := ⟨x.line, tI x.col⟩
def tT (x : ThrD) : ThrD := ⟨x.name, x.code.map tN, x.places.map tP⟩
def tG (x : ThrG) : ThrG := ⟨tT x.t, x.cc, x.gc, x.cp, x.gp⟩
def turnP (p : PrgD) : PrgD := ⟨p.vars.map tV, p.vols, p.locks.map tL, p.bars, p.thrs.map tT⟩
def turnQ (q : TwD) : TwD := ⟨q.vars.map tV, q.vols, q.locks.map tL, q.bars, q.ts.map tG, q.g0, q.g1, q.g2, q.g3, q.g4, q.c0, q.c1, q.c2, q.c3, q.c4⟩
theorem turnQ_prg (q : TwD) : (turnQ q).prg = turnP q.prg := by
  simp [turnQ, TwD.prg, turnP, tG]
theorem thrC_tG (ts : List ThrG) : ((ts.map tG).map ThrG.v).flatMap thrC = (ts.map ThrG.v).flatMap thrC := by
  induction ts with
  | nil => rfl
  | cons x ts ih => simp only [List.map_cons, List.flatMap_cons, ih]; simp [tG, tT, ThrG.v, thrC, ThrG.code, ThrG.plcs]
theorem ent4_tG (ts : List ThrG) (g c : Nat) : ent4 (ts.map tG) g c = ent4 ts g c := by
  unfold ent4
  rw [thrC_tG, List.length_map]
theorem kt_open (F : List It) (A Bs : List ThrG) (X : ThrG) (Q r0 r1 r2 r3 r4 : It) : (Q :: r0 :: r1 :: r2 :: r3 :: ((entsT (A ++ X :: Bs)).map entIt ++ (r4 :: F))).Perm (Q :: entIt (entC X) :: entIt (entP X) :: ((r0 :: r1 :: r2 :: r3 :: (entsT A).map entIt) ++ ((entsT Bs).map entIt ++ (r4 :: F)))) := by
  have h : (Q :: r0 :: r1 :: r2 :: r3 :: ((entsT (A ++ X :: Bs)).map entIt ++ (r4 :: F))) = Q :: ((r0 :: r1 :: r2 :: r3 :: (entsT A).map entIt) ++ ([entIt (entC X), entIt (entP X)] ++ ((entsT Bs).map entIt ++ (r4 :: F)))) := by
    simp [entsT]
  rw [h]
  exact .cons _ (List.perm_append_comm_assoc _ _ _)
theorem entC_tG (x : ThrG) : entIt (entC (tG x)) = .row 61 5 (.slice (some ⟨x.gc, 0, none⟩) (x.t.code.length + 1) x.cc) (some x.gc) (x.t.code.length + 1) ((x.t.code.map tN).flatMap insC ++ mIns) := by
  simp [entIt, entC, entI, tG, tT]
theorem entP_tG (x : ThrG) : entIt (entP (tG x)) = .row 63 2 (.slice (some ⟨x.gp, 0, none⟩) (x.t.places.length + 1) x.cp) (some x.gp) (x.t.places.length + 1) ((x.t.places.map tP).flatMap plcC ++ mPlc) := by
  simp [entIt, entP, entJ, tG, tT]
section
variable {w0 w : World}
set_option maxHeartbeats 8000000 in
set_option maxRecDepth 100000 in
theorem turn_calls (F : List It) (q : TwD) (hs : SmallP q.prg) (h : Hp [] w0 w ((entsQ q).map entIt ++ F)) :
    Calls Try.prog 15 #[q.val] w fun e w' => e = .returned (.tuple #[]) ∧ Hid (Hp [] w0 w' ((entsQ (turnQ q)).map entIt ++ F)) := by
  obtain ⟨vars, vols, locks, bars, ts, g0, g1, g2, g3, g4, c0, c1, c2, c3, c4⟩ := q
  unfold TwD.val
  simp only
  obtain ⟨n0, hn0⟩ : ∃ n, vars.length = n := ⟨_, rfl⟩
  obtain ⟨n1, hn1⟩ : ∃ n, vols.length = n := ⟨_, rfl⟩
  obtain ⟨n2, hn2⟩ : ∃ n, locks.length = n := ⟨_, rfl⟩
  obtain ⟨n3, hn3⟩ : ∃ n, bars.length = n := ⟨_, rfl⟩
  obtain ⟨n4, hn4⟩ : ∃ n, ts.length = n := ⟨_, rfl⟩
  have hb0 : n0 ≤ 1048576 := by have := hs.vars; simp only [TwD.prg] at this; omega
  have hb2 : n2 ≤ 1048576 := by have := hs.locks; simp only [TwD.prg] at this; omega
  have hb4 : n4 ≤ 1048576 := by have := hs.thrs; simp only [TwD.prg, List.length_map] at this; omega
  have hbt : ∀ x ∈ ts, x.t.code.length ≤ 1048576 ∧ x.t.places.length ≤ 1048576 := fun x hx => by
    have := hs.nthrs x.t (by simp only [TwD.prg]; exact List.mem_map.2 ⟨x, hx, rfl⟩)
    exact ⟨this.2.1, this.2.2⟩
  have HBT := hid hbt
  have hbl : ∀ x ∈ locks, x.size ≤ 1048576 := fun x hx => hs.nlocks x hx
  have HBL := hid hbl
  have hk := h.box (.cells #[.slice (some ⟨g0, 0, none⟩) n0 c0, .slice (some ⟨g1, 0, none⟩) n1 c1, .slice (some ⟨g2, 0, none⟩) n2 c2, .slice (some ⟨g3, 0, none⟩) n3 c3, .slice (some ⟨g4, 0, none⟩) n4 c4] 28)
  rw [hn0, hn1, hn2, hn3, hn4]
  have HN := hid (And.intro hn0 (And.intro hn2 hn4))
  obtain ⟨qb, hqb⟩ : ∃ x, w.heap.size = x := ⟨_, rfl⟩
  rw [hqb] at hk
  have HK : Hid (Hp [] w0 (w.alloc (.cells #[.slice (some ⟨g0, 0, none⟩) n0 c0, .slice (some ⟨g1, 0, none⟩) n1 c1, .slice (some ⟨g2, 0, none⟩) n2 c2, .slice (some ⟨g3, 0, none⟩) n3 c3, .slice (some ⟨g4, 0, none⟩) n4 c4] 28)) (.box qb (.cells #[.slice (some ⟨g0, 0, none⟩) n0 c0, .slice (some ⟨g1, 0, none⟩) n1 c1, .slice (some ⟨g2, 0, none⟩) n2 c2, .slice (some ⟨g3, 0, none⟩) n3 c3, .slice (some ⟨g4, 0, none⟩) n4 c4] 28) :: .row 53 2 (.slice (some ⟨g0, 0, none⟩) (n0 + 1) c0) (some g0) (n0 + 1) ((tk tV 0 vars).flatMap varC ++ mVar) :: entIt (ent0 vols g1 c1) :: .row 9 1 (.slice (some ⟨g2, 0, none⟩) (n2 + 1) c2) (some g2) (n2 + 1) ((tk tL 0 locks).flatMap strC ++ mLock) :: entIt (ent3 bars g3 c3) :: ((entsT ts).map entIt ++ (entIt (ent4 ts g4 c4) :: F)))) := hid (by
    have h2 := hk
    subst hn0 hn2
    rw [tk_zero, tk_zero]
    simp only [entsQ, List.map_append, List.map_cons, List.map_nil, List.cons_append, List.nil_append, List.append_assoc] at h2
    exact h2)
  clear h hk hn0 hn1 hn2 hn3 hn4 hs hbt hbl
  go_enter Try.func15, Try.ntmps15
  go_wp2_with fail
  (try rw [hqb])
  clear hqb
  go_loopg [2] n0 (fun gk vi wr => ∃ i : Nat, i + gk = n0 ∧ vi = .int .i64 i ∧ Hid (Hp [] w0 wr (.box qb (.cells #[.slice (some ⟨g0, 0, none⟩) n0 c0, .slice (some ⟨g1, 0, none⟩) n1 c1, .slice (some ⟨g2, 0, none⟩) n2 c2, .slice (some ⟨g3, 0, none⟩) n3 c3, .slice (some ⟨g4, 0, none⟩) n4 c4] 28) :: .row 53 2 (.slice (some ⟨g0, 0, none⟩) (n0 + 1) c0) (some g0) (n0 + 1) ((tk tV i vars).flatMap varC ++ mVar) :: entIt (ent0 vols g1 c1) :: .row 9 1 (.slice (some ⟨g2, 0, none⟩) (n2 + 1) c2) (some g2) (n2 + 1) ((tk tL 0 locks).flatMap strC ++ mLock) :: entIt (ent3 bars g3 c3) :: ((entsT ts).map entIt ++ (entIt (ent4 ts g4 c4) :: F)))))
  case atStart => exact ⟨0, by omega, rfl, HK⟩
  case round =>
  clear HK
  obtain ⟨i, hi, rfl, HK⟩ := hrel
  have y0 := (HK.out.cell (i := 0) rfl 0).trans (rfl : _ = some (Value.slice (some ⟨g0, 0, none⟩) n0 c0))
  by_cases hlt : i < n0
  · have zl : (i : Int) < (n0 : Int) := by omega
    have z0 : (0 : Int) ≤ (i : Int) := by omega
    have hlv : i < vars.length := by rw [HN.out.1]; exact hlt
    obtain ⟨nm, fi, hx⟩ : ∃ nm fi, vars[i] = ⟨nm, fi⟩ := ⟨_, _, rfl⟩
    have htl : ((vars.take i).map tV).length = i := by rw [List.length_map, List.length_take]; omega
    have ht1 := tk_at tV hlv
    have ht2 := tk_succ tV hlv
    rw [hx] at ht1 ht2
    have hc := (Row.cellk (HK.out.rowAt (i := 1) rfl)).1 (i * 2 + 1) (by omega)
    have hf := (Row.cellk (HK.out.rowAt (i := 1) rfl)).2.1 (i * 2 + 1)
    rw [ht1, flat_at varC_len _ _ _ _ (by omega) htl] at hc
    replace hc : wr.cell? ⟨g0, i * 2 + 1, none⟩ = some (.int .i64 fi) := hc
    have hk2 := HK.out.puti 1 rfl (i * 2 + 1) (.int .i64 (tI fi)) rfl
    have hst := flat_set varC_len ((vars.take i).map tV) (vars.drop (i + 1)) (⟨nm, fi⟩) (tV (⟨nm, fi⟩)) mVar (j := 1) (by omega) (u := .int .i64 (tI fi)) rfl htl
    have HK2 : Hid (Hp [] w0 (wr.setCell ⟨g0, i * 2 + 1, none⟩ (.int .i64 (tI fi))) (.box qb (.cells #[.slice (some ⟨g0, 0, none⟩) n0 c0, .slice (some ⟨g1, 0, none⟩) n1 c1, .slice (some ⟨g2, 0, none⟩) n2 c2, .slice (some ⟨g3, 0, none⟩) n3 c3, .slice (some ⟨g4, 0, none⟩) n4 c4] 28) :: .row 53 2 (.slice (some ⟨g0, 0, none⟩) (n0 + 1) c0) (some g0) (n0 + 1) ((tk tV (i + 1) vars).flatMap varC ++ mVar) :: entIt (ent0 vols g1 c1) :: .row 9 1 (.slice (some ⟨g2, 0, none⟩) (n2 + 1) c2) (some g2) (n2 + 1) ((tk tL 0 locks).flatMap strC ++ mLock) :: entIt (ent3 bars g3 c3) :: ((entsT ts).map entIt ++ (entIt (ent4 ts g4 c4) :: F)))) := hid (by rw [ht2, ← hst, ← ht1]; exact hk2)
    have hq1 : qb ≠ g0 := fun e => HK.out.ne (i := 0) (j := 1) rfl rfl (by decide) rfl (by rw [e]; rfl)
    have hq2 := Ne.symm hq1
    clear ht1 ht2 hk2 hst htl hx HK hlv
    go_wp2_with fail
    go_region
    all_goals
      go_wp2_with fail
      go_roundg (gk - 1)
      case measure => omega
      case rel => exact ⟨i + 1, by omega, by go_num, hid (HK2.out.same ((Chg.refl [] _).drew))⟩
  obtain rfl : n0 = i := by omega
  clear hlt hi
  go_wp2_with fail
  clear y0
  go_loopg [3] n2 (fun gk vi wr => ∃ i : Nat, i + gk = n2 ∧ vi = .int .i64 i ∧ Hid (Hp [] w0 wr (.box qb (.cells #[.slice (some ⟨g0, 0, none⟩) n0 c0, .slice (some ⟨g1, 0, none⟩) n1 c1, .slice (some ⟨g2, 0, none⟩) n2 c2, .slice (some ⟨g3, 0, none⟩) n3 c3, .slice (some ⟨g4, 0, none⟩) n4 c4] 28) :: .row 53 2 (.slice (some ⟨g0, 0, none⟩) (n0 + 1) c0) (some g0) (n0 + 1) ((tk tV n0 vars).flatMap varC ++ mVar) :: entIt (ent0 vols g1 c1) :: .row 9 1 (.slice (some ⟨g2, 0, none⟩) (n2 + 1) c2) (some g2) (n2 + 1) ((tk tL i locks).flatMap strC ++ mLock) :: entIt (ent3 bars g3 c3) :: ((entsT ts).map entIt ++ (entIt (ent4 ts g4 c4) :: F)))))
  case atStart => exact ⟨0, by omega, rfl, HK⟩
  case round =>
  clear HK
  obtain ⟨i, hi, rfl, HK⟩ := hrel
  have y0 := (HK.out.cell (i := 0) rfl 2).trans (rfl : _ = some (Value.slice (some ⟨g2, 0, none⟩) n2 c2))
  by_cases hlt : i < n2
  · have zl : (i : Int) < (n2 : Int) := by omega
    have z0 : (0 : Int) ≤ (i : Int) := by omega
    have hlv : i < locks.length := by rw [HN.out.2.1]; exact hlt
    obtain ⟨nm, hx⟩ : ∃ nm, locks[i] = nm := ⟨_, rfl⟩
    have htl : ((locks.take i).map tL).length = i := by rw [List.length_map, List.length_take]; omega
    have ht1 := tk_at tL hlv
    have ht2 := tk_succ tL hlv
    rw [hx] at ht1 ht2
    have hc := (Row.cellk (HK.out.rowAt (i := 3) rfl)).1 (i * 1 + 0) (by omega)
    have hf := (Row.cellk (HK.out.rowAt (i := 3) rfl)).2.1 (i * 1 + 0)
    rw [ht1, flat_at strC_len _ _ _ _ (by omega) htl] at hc
    replace hc : wr.cell? ⟨g2, i * 1 + 0, none⟩ = some (.string nm) := hc
    have hk2 := HK.out.puti 3 rfl (i * 1 + 0) (.string (tL nm)) rfl
    have hst := flat_set strC_len ((locks.take i).map tL) (locks.drop (i + 1)) (nm) (tL (nm)) mLock (j := 0) (by omega) (u := .string (tL nm)) rfl htl
    have HK2 : Hid (Hp [] w0 (wr.setCell ⟨g2, i * 1 + 0, none⟩ (.string (tL nm))) (.box qb (.cells #[.slice (some ⟨g0, 0, none⟩) n0 c0, .slice (some ⟨g1, 0, none⟩) n1 c1, .slice (some ⟨g2, 0, none⟩) n2 c2, .slice (some ⟨g3, 0, none⟩) n3 c3, .slice (some ⟨g4, 0, none⟩) n4 c4] 28) :: .row 53 2 (.slice (some ⟨g0, 0, none⟩) (n0 + 1) c0) (some g0) (n0 + 1) ((tk tV n0 vars).flatMap varC ++ mVar) :: entIt (ent0 vols g1 c1) :: .row 9 1 (.slice (some ⟨g2, 0, none⟩) (n2 + 1) c2) (some g2) (n2 + 1) ((tk tL (i + 1) locks).flatMap strC ++ mLock) :: entIt (ent3 bars g3 c3) :: ((entsT ts).map entIt ++ (entIt (ent4 ts g4 c4) :: F)))) := hid (by rw [ht2, ← hst, ← ht1]; exact hk2)
    have hq1 : qb ≠ g2 := fun e => HK.out.ne (i := 0) (j := 3) rfl rfl (by decide) rfl (by rw [e]; rfl)
    have hq2 := Ne.symm hq1
    have hsz := HBL.out _ (List.getElem_mem hlv)
    rw [hx] at hsz
    have zs : ¬ (9223372036854775807 < nm.size + 1) := by omega
    clear ht1 ht2 hk2 hst htl hx HK hlv
    simp only [Nat.mul_one, Nat.add_zero] at hc hf HK2
    go_wp2_with fail
    go_region
    all_goals
      go_wp2_with fail
      go_roundg (gk - 1)
      case measure => omega
      case rel => exact ⟨i + 1, by omega, by go_num, hid (HK2.out.same ((Chg.refl [] _).drew))⟩
  obtain rfl : n2 = i := by omega
  clear hlt hi
  go_wp2_with fail
  clear y0
  have HK0 : Hid (Hp [] w0 _ (.box qb (.cells #[.slice (some ⟨g0, 0, none⟩) n0 c0, .slice (some ⟨g1, 0, none⟩) n1 c1, .slice (some ⟨g2, 0, none⟩) n2 c2, .slice (some ⟨g3, 0, none⟩) n3 c3, .slice (some ⟨g4, 0, none⟩) n4 c4] 28) :: .row 53 2 (.slice (some ⟨g0, 0, none⟩) (n0 + 1) c0) (some g0) (n0 + 1) ((tk tV n0 vars).flatMap varC ++ mVar) :: entIt (ent0 vols g1 c1) :: .row 9 1 (.slice (some ⟨g2, 0, none⟩) (n2 + 1) c2) (some g2) (n2 + 1) ((tk tL n2 locks).flatMap strC ++ mLock) :: entIt (ent3 bars g3 c3) :: ((entsT (tk tG 0 ts)).map entIt ++ (entIt (ent4 ts g4 c4) :: F)))) := hid (by rw [tk_zero]; exact HK.out)
  clear HK
  go_loopg [4] n4 (fun gk vi wr => ∃ i : Nat, i + gk = n4 ∧ vi = .int .i64 i ∧ Hid (Hp [] w0 wr (.box qb (.cells #[.slice (some ⟨g0, 0, none⟩) n0 c0, .slice (some ⟨g1, 0, none⟩) n1 c1, .slice (some ⟨g2, 0, none⟩) n2 c2, .slice (some ⟨g3, 0, none⟩) n3 c3, .slice (some ⟨g4, 0, none⟩) n4 c4] 28) :: .row 53 2 (.slice (some ⟨g0, 0, none⟩) (n0 + 1) c0) (some g0) (n0 + 1) ((tk tV n0 vars).flatMap varC ++ mVar) :: entIt (ent0 vols g1 c1) :: .row 9 1 (.slice (some ⟨g2, 0, none⟩) (n2 + 1) c2) (some g2) (n2 + 1) ((tk tL n2 locks).flatMap strC ++ mLock) :: entIt (ent3 bars g3 c3) :: ((entsT (tk tG i ts)).map entIt ++ (entIt (ent4 ts g4 c4) :: F)))))
  case atStart => exact ⟨0, by omega, rfl, HK0⟩
  case round =>
  clear HK0
  obtain ⟨i, hi, rfl, HK⟩ := hrel
  obtain ⟨gq, hgq⟩ : ∃ x, x = gk := ⟨_, rfl⟩
  subst hgq
  have y4 := (HK.out.cell (i := 0) rfl 4).trans (rfl : _ = some (Value.slice (some ⟨g4, 0, none⟩) n4 c4))
  by_cases hlt : i < n4
  · have zl : (i : Int) < (n4 : Int) := by omega
    have z0 : (0 : Int) ≤ (i : Int) := by omega
    have hli : i < ts.length := by rw [HN.out.2.2]; exact hlt
    have hbb := HBT.out _ (List.getElem_mem hli)
    have ht1 := tk_at tG hli
    have ht2 := tk_succ tG hli
    have htv : ts.map ThrG.v = (ts.take i).map ThrG.v ++ ThrG.v ts[i] :: (ts.drop (i + 1)).map ThrG.v := by
      rw [← List.map_cons, ← List.map_append, ← List.drop_eq_getElem_cons hli, List.take_append_drop]
    have htl : ((ts.take i).map ThrG.v).length = i := by rw [List.length_map, List.length_take]; omega
    have hr4 : Row wr 59 3 (.slice (some ⟨g4, 0, none⟩) (ts.length + 1) c4) (some g4) (ts.length + 1) ((ts.map ThrG.v).flatMap thrC ++ mThr) := HK.out.ok (entIt (ent4 ts g4 c4)) (by simp)
    have d0 := (Row.cellk hr4).1 (i * 3 + 0) (by omega)
    have d1 := (Row.cellk hr4).1 (i * 3 + 1) (by omega)
    have d2 := (Row.cellk hr4).1 (i * 3 + 2) (by omega)
    rw [htv, flat_at thrC_len _ _ _ _ (by omega) htl] at d0 d1 d2
    obtain ⟨X, hX⟩ : ∃ X, ts[i] = X := ⟨_, rfl⟩
    rw [hX] at ht1 ht2 d0 d1 d2 hbb
    obtain ⟨⟨nm, code, places⟩, cc, gc, cp, gp⟩ := X
    obtain ⟨nc, hnc⟩ : ∃ n, code.length = n := ⟨_, rfl⟩
    obtain ⟨np, hnp⟩ : ∃ n, places.length = n := ⟨_, rfl⟩
    simp only at hbb
    replace d0 : wr.cell? ⟨g4, i * 3, none⟩ = some (.string nm) := d0
    replace d1 : wr.cell? ⟨g4, i * 3 + 1, none⟩ = some (.slice (some ⟨gc, 0, none⟩) nc cc) := by rw [← hnc]; exact d1
    replace d2 : wr.cell? ⟨g4, i * 3 + 2, none⟩ = some (.slice (some ⟨gp, 0, none⟩) np cp) := by rw [← hnp]; exact d2
    obtain ⟨Lr, hLr⟩ : ∃ Lr, (.row 53 2 (.slice (some ⟨g0, 0, none⟩) (n0 + 1) c0) (some g0) (n0 + 1) ((tk tV n0 vars).flatMap varC ++ mVar) :: entIt (ent0 vols g1 c1) :: .row 9 1 (.slice (some ⟨g2, 0, none⟩) (n2 + 1) c2) (some g2) (n2 + 1) ((tk tL n2 locks).flatMap strC ++ mLock) :: entIt (ent3 bars g3 c3) :: (entsT ((ts.take i).map tG)).map entIt) ++ ((entsT (ts.drop (i + 1))).map entIt ++ (entIt (ent4 ts g4 c4) :: F)) = Lr := ⟨_, rfl⟩
    have hk1 : Hp [] w0 wr (.box qb (.cells #[.slice (some ⟨g0, 0, none⟩) n0 c0, .slice (some ⟨g1, 0, none⟩) n1 c1, .slice (some ⟨g2, 0, none⟩) n2 c2, .slice (some ⟨g3, 0, none⟩) n3 c3, .slice (some ⟨g4, 0, none⟩) n4 c4] 28) :: .row 61 5 (.slice (some ⟨gc, 0, none⟩) (nc + 1) cc) (some gc) (nc + 1) ((tk tN 0 code).flatMap insC ++ mIns) :: .row 63 2 (.slice (some ⟨gp, 0, none⟩) (np + 1) cp) (some gp) (np + 1) ((tk tP 0 places).flatMap plcC ++ mPlc) :: Lr) := by
      have h := HK.out
      rw [ht1] at h
      have h2 := h.perm (kt_open _ _ _ _ _ _ _ _ _ _)
      rw [hLr] at h2
      rw [tk_zero, tk_zero, ← hnc, ← hnp]
      exact h2
    have HL : Hid (∀ u, Hp [] w0 u (.box qb (.cells #[.slice (some ⟨g0, 0, none⟩) n0 c0, .slice (some ⟨g1, 0, none⟩) n1 c1, .slice (some ⟨g2, 0, none⟩) n2 c2, .slice (some ⟨g3, 0, none⟩) n3 c3, .slice (some ⟨g4, 0, none⟩) n4 c4] 28) :: .row 61 5 (.slice (some ⟨gc, 0, none⟩) (nc + 1) cc) (some gc) (nc + 1) ((code.map tN).flatMap insC ++ mIns) :: .row 63 2 (.slice (some ⟨gp, 0, none⟩) (np + 1) cp) (some gp) (np + 1) ((places.map tP).flatMap plcC ++ mPlc) :: Lr) → Hp [] w0 u (.box qb (.cells #[.slice (some ⟨g0, 0, none⟩) n0 c0, .slice (some ⟨g1, 0, none⟩) n1 c1, .slice (some ⟨g2, 0, none⟩) n2 c2, .slice (some ⟨g3, 0, none⟩) n3 c3, .slice (some ⟨g4, 0, none⟩) n4 c4] 28) :: .row 53 2 (.slice (some ⟨g0, 0, none⟩) (n0 + 1) c0) (some g0) (n0 + 1) ((tk tV n0 vars).flatMap varC ++ mVar) :: entIt (ent0 vols g1 c1) :: .row 9 1 (.slice (some ⟨g2, 0, none⟩) (n2 + 1) c2) (some g2) (n2 + 1) ((tk tL n2 locks).flatMap strC ++ mLock) :: entIt (ent3 bars g3 c3) :: ((entsT (tk tG (i + 1) ts)).map entIt ++ (entIt (ent4 ts g4 c4) :: F)))) := hid (fun u hu => by
      rw [ht2]
      refine Hp.perm ?_ (kt_open _ _ _ _ _ _ _ _ _ _).symm
      rw [hLr, entC_tG, entP_tG]
      simp only [hnc, hnp]
      exact hu)
    have HNC := hid (And.intro hnc hnp)
    have hbc : nc ≤ 1048576 := by omega
    have hbp : np ≤ 1048576 := by omega
    have hkb := hk1.box (.cells #[.string nm, .slice (some ⟨gc, 0, none⟩) nc cc, .slice (some ⟨gp, 0, none⟩) np cp] 59)
    clear ht1 ht2 htv htl hr4 hk1 hX hLr hli HK hnc hnp hbb
    go_upto_region 13 with fail
    clear d0 d1 d2 y4
    obtain ⟨tb, htb⟩ : ∃ x, wr.heap.size = x := ⟨_, rfl⟩
    rw [htb] at hkb
    (try rw [htb])
    have HKB := hid hkb
    clear hkb
    obtain ⟨wb, hwb⟩ : ∃ x : World, wr.alloc (.cells #[.string nm, .slice (some ⟨gc, 0, none⟩) nc cc, .slice (some ⟨gp, 0, none⟩) np cp] 59) = x := ⟨_, rfl⟩
    rw [hwb] at HKB ⊢
    clear hwb htb
    go_wp2_with fail
    go_loopg [6] nc (fun gk2 vk wr => ∃ k : Nat, k + gk2 = nc ∧ vk = .int .i64 k ∧ Hid (Hp [] w0 wr (.box tb (.cells #[.string nm, .slice (some ⟨gc, 0, none⟩) nc cc, .slice (some ⟨gp, 0, none⟩) np cp] 59) :: .box qb (.cells #[.slice (some ⟨g0, 0, none⟩) n0 c0, .slice (some ⟨g1, 0, none⟩) n1 c1, .slice (some ⟨g2, 0, none⟩) n2 c2, .slice (some ⟨g3, 0, none⟩) n3 c3, .slice (some ⟨g4, 0, none⟩) n4 c4] 28) :: .row 61 5 (.slice (some ⟨gc, 0, none⟩) (nc + 1) cc) (some gc) (nc + 1) ((tk tN k code).flatMap insC ++ mIns) :: .row 63 2 (.slice (some ⟨gp, 0, none⟩) (np + 1) cp) (some gp) (np + 1) ((tk tP 0 places).flatMap plcC ++ mPlc) :: Lr)))
    case atStart => exact ⟨0, by omega, rfl, HKB⟩
    case round =>
    clear HKB
    obtain ⟨k, hk, rfl, HK⟩ := hrel
    have y0 := (HK.out.cell (i := 0) rfl 1).trans (rfl : _ = some (Value.slice (some ⟨gc, 0, none⟩) nc cc))
    by_cases hlk : k < nc
    · have zk : (k : Int) < (nc : Int) := by omega
      have z0 : (0 : Int) ≤ (k : Int) := by omega
      have hlv : k < code.length := by rw [HNC.out.1]; exact hlk
      obtain ⟨xo, xa, xb, xc, xn, hx⟩ : ∃ xo xa xb xc xn, code[k] = ⟨xo, xa, xb, xc, xn⟩ := ⟨_, _, _, _, _, rfl⟩
      have htl : ((code.take k).map tN).length = k := by rw [List.length_map, List.length_take]; omega
      have ht1 := tk_at tN hlv
      have ht2 := tk_succ tN hlv
      rw [hx] at ht1 ht2
      have hc := (Row.cellk (HK.out.rowAt (i := 2) rfl)).1 (k * 5 + 1) (by omega)
      have hf := (Row.cellk (HK.out.rowAt (i := 2) rfl)).2.1 (k * 5 + 1)
      rw [ht1, flat_at insC_len _ _ _ _ (by omega) htl] at hc
      replace hc : wr.cell? ⟨gc, k * 5 + 1, none⟩ = some (.int .i64 xa) := hc
      have hk2 := HK.out.puti 2 rfl (k * 5 + 1) (.int .i64 (tI xa)) rfl
      have hst := flat_set insC_len ((code.take k).map tN) (code.drop (k + 1)) (⟨xo, xa, xb, xc, xn⟩) (tN (⟨xo, xa, xb, xc, xn⟩)) mIns (j := 1) (by omega) (u := .int .i64 (tI xa)) rfl htl
      have HK2 : Hid (Hp [] w0 (wr.setCell ⟨gc, k * 5 + 1, none⟩ (.int .i64 (tI xa))) (.box tb (.cells #[.string nm, .slice (some ⟨gc, 0, none⟩) nc cc, .slice (some ⟨gp, 0, none⟩) np cp] 59) :: .box qb (.cells #[.slice (some ⟨g0, 0, none⟩) n0 c0, .slice (some ⟨g1, 0, none⟩) n1 c1, .slice (some ⟨g2, 0, none⟩) n2 c2, .slice (some ⟨g3, 0, none⟩) n3 c3, .slice (some ⟨g4, 0, none⟩) n4 c4] 28) :: .row 61 5 (.slice (some ⟨gc, 0, none⟩) (nc + 1) cc) (some gc) (nc + 1) ((tk tN (k + 1) code).flatMap insC ++ mIns) :: .row 63 2 (.slice (some ⟨gp, 0, none⟩) (np + 1) cp) (some gp) (np + 1) ((tk tP 0 places).flatMap plcC ++ mPlc) :: Lr)) := hid (by rw [ht2, ← hst, ← ht1]; exact hk2)
      have hq1 : tb ≠ gc := fun e => HK.out.ne (i := 0) (j := 2) rfl rfl (by decide) rfl (by rw [e]; rfl)
      have hq2 := Ne.symm hq1
      clear ht1 ht2 hk2 hst htl hx HK hlv
      go_wp2_with fail
      go_region
      all_goals
        go_wp2_with fail
        go_roundg (gk - 1)
        case measure => omega
        case rel => exact ⟨k + 1, by omega, by go_num, hid (HK2.out.same ((Chg.refl [] _).drew))⟩
    obtain rfl : nc = k := by omega
    clear hlk hk
    go_wp2_with fail
    clear y0
    go_loopg [7] np (fun gk2 vk wr => ∃ k : Nat, k + gk2 = np ∧ vk = .int .i64 k ∧ Hid (Hp [] w0 wr (.box tb (.cells #[.string nm, .slice (some ⟨gc, 0, none⟩) nc cc, .slice (some ⟨gp, 0, none⟩) np cp] 59) :: .box qb (.cells #[.slice (some ⟨g0, 0, none⟩) n0 c0, .slice (some ⟨g1, 0, none⟩) n1 c1, .slice (some ⟨g2, 0, none⟩) n2 c2, .slice (some ⟨g3, 0, none⟩) n3 c3, .slice (some ⟨g4, 0, none⟩) n4 c4] 28) :: .row 61 5 (.slice (some ⟨gc, 0, none⟩) (nc + 1) cc) (some gc) (nc + 1) ((tk tN nc code).flatMap insC ++ mIns) :: .row 63 2 (.slice (some ⟨gp, 0, none⟩) (np + 1) cp) (some gp) (np + 1) ((tk tP k places).flatMap plcC ++ mPlc) :: Lr)))
    case atStart => exact ⟨0, by omega, rfl, HK⟩
    case round =>
    clear HK
    obtain ⟨k, hk, rfl, HK⟩ := hrel
    have y0 := (HK.out.cell (i := 0) rfl 2).trans (rfl : _ = some (Value.slice (some ⟨gp, 0, none⟩) np cp))
    by_cases hlk : k < np
    · have zk : (k : Int) < (np : Int) := by omega
      have z0 : (0 : Int) ≤ (k : Int) := by omega
      have hlv : k < places.length := by rw [HNC.out.2]; exact hlk
      obtain ⟨xl, xc, hx⟩ : ∃ xl xc, places[k] = ⟨xl, xc⟩ := ⟨_, _, rfl⟩
      have htl : ((places.take k).map tP).length = k := by rw [List.length_map, List.length_take]; omega
      have ht1 := tk_at tP hlv
      have ht2 := tk_succ tP hlv
      rw [hx] at ht1 ht2
      have hc := (Row.cellk (HK.out.rowAt (i := 3) rfl)).1 (k * 2 + 1) (by omega)
      have hf := (Row.cellk (HK.out.rowAt (i := 3) rfl)).2.1 (k * 2 + 1)
      rw [ht1, flat_at plcC_len _ _ _ _ (by omega) htl] at hc
      replace hc : wr.cell? ⟨gp, k * 2 + 1, none⟩ = some (.int .i64 xc) := hc
      have hk2 := HK.out.puti 3 rfl (k * 2 + 1) (.int .i64 (tI xc)) rfl
      have hst := flat_set plcC_len ((places.take k).map tP) (places.drop (k + 1)) (⟨xl, xc⟩) (tP (⟨xl, xc⟩)) mPlc (j := 1) (by omega) (u := .int .i64 (tI xc)) rfl htl
      have HK2 : Hid (Hp [] w0 (wr.setCell ⟨gp, k * 2 + 1, none⟩ (.int .i64 (tI xc))) (.box tb (.cells #[.string nm, .slice (some ⟨gc, 0, none⟩) nc cc, .slice (some ⟨gp, 0, none⟩) np cp] 59) :: .box qb (.cells #[.slice (some ⟨g0, 0, none⟩) n0 c0, .slice (some ⟨g1, 0, none⟩) n1 c1, .slice (some ⟨g2, 0, none⟩) n2 c2, .slice (some ⟨g3, 0, none⟩) n3 c3, .slice (some ⟨g4, 0, none⟩) n4 c4] 28) :: .row 61 5 (.slice (some ⟨gc, 0, none⟩) (nc + 1) cc) (some gc) (nc + 1) ((tk tN nc code).flatMap insC ++ mIns) :: .row 63 2 (.slice (some ⟨gp, 0, none⟩) (np + 1) cp) (some gp) (np + 1) ((tk tP (k + 1) places).flatMap plcC ++ mPlc) :: Lr)) := hid (by rw [ht2, ← hst, ← ht1]; exact hk2)
      have hq1 : tb ≠ gp := fun e => HK.out.ne (i := 0) (j := 3) rfl rfl (by decide) rfl (by rw [e]; rfl)
      have hq2 := Ne.symm hq1
      clear ht1 ht2 hk2 hst htl hx HK hlv
      go_wp2_with fail
      go_region
      all_goals
        go_wp2_with fail
        go_roundg (gk - 1)
        case measure => omega
        case rel => exact ⟨k + 1, by omega, by go_num, hid (HK2.out.same ((Chg.refl [] _).drew))⟩
    obtain rfl : np = k := by omega
    clear hlk hk
    have HKF := hid (HL.out _ ((by
      have h := HK.out
      rw [tk_all tN code (by rw [HNC.out.1]; exact Nat.le_refl _), tk_all tP places (by rw [HNC.out.2]; exact Nat.le_refl _)] at h
      exact h.sub (.cons _ (.refl _))) : Hp [] w0 _ _))
    clear HK HL HNC
    go_wp2_with fail
    go_roundg (gq - 1)
    case measure => omega
    case rel => exact ⟨i + 1, by omega, by go_num, HKF⟩
  obtain rfl : n4 = i := by omega
  clear hlt hi
  have hfin : Hid (Hp [] w0 wr ((entsQ (turnQ ⟨vars, vols, locks, bars, ts, g0, g1, g2, g3, g4, c0, c1, c2, c3, c4⟩)).map entIt ++ F)) := hid (by
    have h := HK.out
    rw [tk_all tV vars (by rw [HN.out.1]; exact Nat.le_refl _), tk_all tL locks (by rw [HN.out.2.1]; exact Nat.le_refl _), tk_all tG ts (by rw [HN.out.2.2]; exact Nat.le_refl _)] at h
    have h2 := h.sub (.cons _ (.refl _))
    simp only [turnQ, entsQ, List.map_append, List.map_cons, List.map_nil, List.cons_append, List.nil_append, List.append_assoc, ent4_tG]
    have e0 : entIt (ent0 (vars.map tV) g0 c0) = It.row 53 2 (.slice (some ⟨g0, 0, none⟩) (n0 + 1) c0) (some g0) (n0 + 1) ((vars.map tV).flatMap varC ++ mVar) := by simp [entIt, ent0, HN.out.1]
    have e2 : entIt (ent2 (locks.map tL) g2 c2) = It.row 9 1 (.slice (some ⟨g2, 0, none⟩) (n2 + 1) c2) (some g2) (n2 + 1) ((locks.map tL).flatMap strC ++ mLock) := by simp [entIt, ent2, HN.out.2.1]
    rw [e0, e2]
    exact h2)
  clear HK
  go_wp2_with fail
  go_end0
  exact ⟨rfl, hfin⟩
end
end Go.Proofs.Ytbikekgljabalaa
