/- The law ParseUnits: its walk. -/
import Derived.Test.YtmahcabidggmeaaGreatDoorVuk
import Derived.Test.YtmahcabidggmeaaGreatDoorVui
import Derived.Test.YtmahcabidggmeaaGreatDoorVpv
import Derived.Test.YtmahcabidggmeaaGreatDoorVpx
set_option linter.unusedVariables false
set_option linter.unusedSectionVars false
set_option linter.unusedSimpArgs false
namespace Go.AB
open Go.RowKit
def uOf (d : Except Flt UnD) : UnD := match d with | .error _ => ⟨[], []⟩ | .ok u => u
def fOf (d : Except Flt UnD) : Flt := match d with | .error f => f | .ok _ => ⟨0, 0, 0⟩
def uoOf (ds : List DcD) (q : RQ) : UO := ⟨⟨q.a0, ds.length, q.c0, q.r0, ds.flatMap dcC⟩, ⟨q.a1, q.bs.length, q.c1, q.r1, q.bs.flatMap blC⟩, q.bs.map fun x => ⟨x.ao, x.b.items.length, x.cap, x.r, x.b.items.flatMap itC⟩⟩
theorem dcC_len' (x : DcD) : (dcC x).length = 5 := rfl
theorem itC_len' (x : ItD) : (itC x).length = 10 := rfl
theorem Hp.mcell {S0 : List Nat} {w0 w : World} {I : List It} (h : Hp S0 w0 w I) {a : Nat} {cs : Array Value} {t : TypeId} (hm : It.box a (.cells cs t (0, 0)) ∈ I) (j : Nat) : w.cell? ⟨a, j, none⟩ = cs[j]? := blk_cell (h.ok _ hm) j
end Go.AB
namespace Go.Proofs.YtmahcabidggmeaaGreatDoor
open Go.RowKit Go.AB
def Cl (W : World) (P n0 n1 : Nat) (q : RQ) (a b c : Int) : Prop := W.cell? ⟨P, 0, none⟩ = some (.slice q.a0 n0 q.c0) ∧ W.cell? ⟨P, 1, none⟩ = some (.slice q.a1 n1 q.c1) ∧ W.cell? ⟨P + 1, 0, none⟩ = some (.int .i64 a) ∧ W.cell? ⟨P + 1, 1, none⟩ = some (.int .i64 b) ∧ W.cell? ⟨P + 1, 2, none⟩ = some (.int .i64 c)
abbrev uO (n0 n1 : Nat) (q : RQ) : Obj := .cells #[.slice q.a0 n0 q.c0, .slice q.a1 n1 q.c1] 25
abbrev fO (a b c : Int) : Obj := .cells #[.int .i64 a, .int .i64 b, .int .i64 c] 30
abbrev uB (P n0 n1 : Nat) (q : RQ) : It := .box P (.cells #[.slice q.a0 n0 q.c0, .slice q.a1 n1 q.c1] 25 (0, 0))
abbrev fB (P : Nat) (a b c : Int) : It := .box P (.cells #[.int .i64 a, .int .i64 b, .int .i64 c] 30 (0, 0))
theorem cl_of {w0 W : World} {I : List It} {P n0 n1 : Nat} {q : RQ} {a b c : Int} (h : Hp [] w0 W I) (h1 : uB P n0 n1 q ∈ I) (h2 : fB (P + 1) a b c ∈ I) : Cl W P n0 n1 q a b c :=
  ⟨h.mcell h1 0, h.mcell h1 1, h.mcell h2 0, h.mcell h2 1, h.mcell h2 2⟩
abbrev SameC (W : World) (n0 n1 : Nat) (x y : RQ) : Prop := Calls Tryz.prog 7 #[.agg #[.slice x.a0 n0 x.c0, .slice x.a1 n1 x.c1], .agg #[.slice y.a0 n0 y.c0, .slice y.a1 n1 y.c1], .bool true] W fun e w' => e = .returned (.bool true) ∧ Chg [] W w'
theorem und_flt : Tryz.prog.underlying 30 = some (.struct (Tryz.prog.fieldsOf 30)) := by kernel_rfl
theorem guard_flt (u : World) (x y : Operand) (xs ys : Array Value) : (eqGuard .neq 30 x y (.agg xs) (.agg ys)).run Tryz.prog u = .ok () u := run_eqGuard_agg u .neq 30 x y xs ys (by kernel_rfl)
theorem guard_flt2 (u : World) (x y : Operand) (xs ys : Array Value) : (eqGuard .eql 30 x y (.agg xs) (.agg ys)).run Tryz.prog u = .ok () u := run_eqGuard_agg u .eql 30 x y xs ys (by kernel_rfl)
theorem same_flt (u : World) (a0 a1 a2 : Int) : (binOp .neq 30 (.agg #[.int .i64 a0, .int .i64 a1, .int .i64 a2]) (.agg #[.int .i64 a0, .int .i64 a1, .int .i64 a2])).run Tryz.prog u = .ok (.bool false) u := by
  rw [run_neq_struct, run_equalIn_agg u 9999 30 _ _ und_flt (by kernel_rfl)]
  simp [go_sem, und_plq, std_plq]
theorem same_flt2 (u : World) (a0 a1 a2 : Int) : (binOp .eql 30 (.agg #[.int .i64 a0, .int .i64 a1, .int .i64 a2]) (.agg #[.int .i64 a0, .int .i64 a1, .int .i64 a2])).run Tryz.prog u = .ok (.bool true) u := by
  have h := run_equalIn_agg u 9999 30 #[.int .i64 a0, .int .i64 a1, .int .i64 a2] #[.int .i64 a0, .int .i64 a1, .int .i64 a2] und_flt (by kernel_rfl)
  simp [go_sem, und_plq, std_plq] at h ⊢
theorem unit_one {w w' : World} {d : Except Flt UnD} {e : Ending} (h : UnitP w d e w') : ∃ q : RQ, q.bks = (uOf d).blocks ∧ e = .returned (.tuple #[.agg #[.slice q.a0 (uOf d).decls.length q.c0, .slice q.a1 (uOf d).blocks.length q.c1], .agg #[.int .i64 (fOf d).code, .int .i64 (fOf d).l, .int .i64 (fOf d).c]]) ∧ Hp [] w w' (unI (uOf d).decls q) := by
  cases d with
  | error f =>
    obtain ⟨rfl, hc⟩ := h
    refine ⟨⟨0, 0, 0, none, 0, none, none, 0, none, []⟩, rfl, rfl, ?_⟩
    exact (((Hp.start (S0 := []) w (by simp)).nil 50 4).nil 47 5).same hc
  | ok u =>
    obtain ⟨v, rfl, q, hq, rfl, hp⟩ := h
    refine ⟨q, hq, ?_, hp⟩
    have : q.bs.length = u.blocks.length := by rw [← hq]; exact (List.length_map ..).symm
    rw [this]
    rfl
theorem uo_ok {u : UnD} {q : RQ} (hu : SmallN u) (hq : q.bks = u.blocks) : (uoOf u.decls q).ok := by
  have hl : q.bs.length = u.blocks.length := by rw [← hq]; exact (List.length_map ..).symm
  refine ⟨flat_len dcC_len' _, flat_len blC_len _, by show (q.bs.map _).length = _; rw [List.length_map]; rfl, fun k hk => ?_, fun o ho => ?_, hu.dl, ?_⟩
  · have hk' : k < q.bs.length := by have h : k < (q.bs.map _).length := hk; rw [List.length_map] at h; exact h
    show (q.bs.flatMap blC).getD (k * 4 + 1) undef = _
    rw [flat_get blC_len q.bs k 1 hk' (by omega)]
    show _ = OL.v ((q.bs.map fun x => (⟨x.ao, x.b.items.length, x.cap, x.r, x.b.items.flatMap itC⟩ : OL))[k]'(by rw [List.length_map]; exact hk'))
    rw [List.getElem_map]
    rfl
  · obtain ⟨x, hx, rfl⟩ := List.mem_map.1 ho
    have hxb : x.b ∈ u.blocks := by rw [← hq]; exact List.mem_map.2 ⟨x, hx, rfl⟩
    exact ⟨flat_len itC_len' _, Nat.le_trans (hu.il _ hxb) (by omega)⟩
  · show q.bs.length ≤ _
    have := hu.bl
    omega
theorem uo_its (ds : List DcD) (q : RQ) : unI ds q = itD (uoOf ds q).d :: itB (uoOf ds q).b :: (uoOf ds q).its.map itI := by
  unfold unI uoOf
  simp only [List.map_map]
  rfl

set_option maxHeartbeats 16000000 in
set_option maxRecDepth 100000 in
theorem units_walk (L : List UInt8) (hL : L.length ≤ 1048576) (w : World) (hv : VarsP w) : Calls Tryz.prog 3 #[.string (bA L)] w fun e w' => e = .returned (.bool true) ∧ Chg [] w w' := by
  have hR := fun W (hc : Chg [] w W) => r_unit_calls L hL W (hv.keep hc)
  have hP := fun W (hc : Chg [] w W) => unit_calls L hL W (hv.keep hc)
  have hsm : SmallN (uOf (sourceD L)) := by
    cases hd : sourceD L with
    | error f => exact ⟨by simp [uOf], by simp [uOf], by simp [uOf], by simp [uOf], by simp [uOf], by simp [uOf]⟩
    | ok u => exact (source_unit hL hd).2.2
  obtain ⟨D, hD⟩ : ∃ D, sourceD L = D := ⟨_, rfl⟩
  rw [hD] at hR hP hsm
  have hone := fun W W' e => unit_one (w := W) (w' := W') (d := D) (e := e)
  obtain ⟨U, hU⟩ : ∃ U, uOf D = U := ⟨_, rfl⟩
  obtain ⟨⟨fc, fl, fk⟩, hF⟩ : ∃ F, fOf D = F := ⟨_, rfl⟩
  rw [hU] at hone hsm
  rw [hF] at hone
  simp only at hone
  have HSM := hid hsm
  obtain ⟨n0, hn0⟩ : ∃ n, U.decls.length = n := ⟨_, rfl⟩
  obtain ⟨n1, hn1⟩ : ∃ n, U.blocks.length = n := ⟨_, rfl⟩
  rw [hn0, hn1] at hone
  have HN := hid (And.intro hn0 hn1)
  have HONE := hid hone
  have HR := hid hR
  have HP := hid hP
  have HV := hid hv
  have HUV : Hid (∀ (W : World) (q : RQ), q.bks = U.blocks → (∀ x ∈ unI U.decls q, x.ok W) → UnV W (.agg #[.slice q.a0 n0 q.c0, .slice q.a1 n1 q.c1]) U) := hid (fun W q hq hx => by
    have h1 := un_unV hq hx
    rw [HN.out.1, show q.bs.length = n1 from by rw [← HN.out.2, ← hq]; exact (List.length_map ..).symm] at h1
    exact h1)
  clear hone hR hP hsm hv hn0 hn1 hU hF hD
  go_enter Tryz.func3, Tryz.ntmps3
  go_wp2_with (go_at_call 5; refine (HR.out w (Chg.refl _ _)).mono ?_; rintro e w1 hP1; obtain ⟨q1, hq1, rfl, hp1⟩ := HONE.out _ _ _ hP1; clear hP1; refine halt (fun XX hXX => ?_))
  have hb1 := (hp1.box (uO n0 n1 q1)).box (fO fc fl fk)
  simp only [World.size_alloc] at hb1
  obtain ⟨w2, hw2⟩ : ∃ w2, (w1.alloc (uO n0 n1 q1)).alloc (fO fc fl fk) = w2 := ⟨_, rfl⟩
  obtain ⟨P1, hP1⟩ : ∃ P, w1.heap.size = P := ⟨_, rfl⟩
  rw [hw2, hP1] at hb1
  have HQ1 := hid hq1
  have H2 := hid hb1
  clear hp1 hb1 hq1
  rw [hXX.out]; clear hXX XX
  go_upto_region 2 with fail
  try rw [hw2]
  try rw [hP1]
  clear hw2 hP1
  go_wp2_with (go_at_call 6; refine (HP.out _ H2.out.chg).mono ?_; rintro e w3 hP1; obtain ⟨q2, hq2, rfl, hp2⟩ := HONE.out _ _ _ hP1; clear hP1; refine halt (fun XX hXX => ?_))
  have hb2 := ((H2.out.join hp2).box (uO n0 n1 q2)).box (fO fc fl fk)
  simp only [World.size_alloc] at hb2
  obtain ⟨w4, hw4⟩ : ∃ w4, (w3.alloc (uO n0 n1 q2)).alloc (fO fc fl fk) = w4 := ⟨_, rfl⟩
  obtain ⟨P2, hP2⟩ : ∃ P, w3.heap.size = P := ⟨_, rfl⟩
  rw [hw4, hP2] at hb2
  have HQ2 := hid hq2
  have H4 := hid hb2
  clear hp2 hb2 hq2 H2
  rw [hXX.out]; clear hXX XX
  go_upto_region 3 with fail
  try rw [hw4]
  try rw [hP2]
  clear hw4 hP2
  go_wp2_with (go_at_call 6; refine (HP.out _ H4.out.chg).mono ?_; rintro e w5 hP1; obtain ⟨q3, hq3, rfl, hp3⟩ := HONE.out _ _ _ hP1; clear hP1; refine halt (fun XX hXX => ?_))
  have hb3 := ((H4.out.join hp3).box (uO n0 n1 q3)).box (fO fc fl fk)
  simp only [World.size_alloc] at hb3
  obtain ⟨w6, hw6⟩ : ∃ w6, (w5.alloc (uO n0 n1 q3)).alloc (fO fc fl fk) = w6 := ⟨_, rfl⟩
  obtain ⟨P3, hP3⟩ : ∃ P, w5.heap.size = P := ⟨_, rfl⟩
  rw [hw6, hP3] at hb3
  have HQ3 := hid hq3
  have H6 := hid hb3
  clear hp3 hb3 hq3 H4
  rw [hXX.out]; clear hXX XX
  go_upto_region 4 with fail
  try rw [hw6]
  try rw [hP3]
  clear hw6 hP3
  have HCL : Hid (∀ W, Chg [] w6 W → Cl W P1 n0 n1 q1 fc fl fk ∧ Cl W P2 n0 n1 q2 fc fl fk ∧ Cl W P3 n0 n1 q3 fc fl fk) := hid (fun W hc =>
    have h := H6.out.same hc
    ⟨cl_of h (by simp) (by simp), cl_of h (by simp) (by simp), cl_of h (by simp) (by simp)⟩)
  have HSA : Hid (∀ W, Chg [] w6 W → SameC W n0 n1 q2 q1) := hid (fun W hc => same_calls true (unS_refl true U) HSM.out W (HUV.out W q2 HQ2.out (fun x hx => (H6.out.same hc).ok x (by simp [hx]))) (HUV.out W q1 HQ1.out (fun x hx => (H6.out.same hc).ok x (by simp [hx]))))
  have HSB : Hid (∀ W, Chg [] w6 W → SameC W n0 n1 q3 q1) := hid (fun W hc => same_calls true (unS_refl true U) HSM.out W (HUV.out W q3 HQ3.out (fun x hx => (H6.out.same hc).ok x (by simp [hx]))) (HUV.out W q1 HQ1.out (fun x hx => (H6.out.same hc).ok x (by simp [hx]))))
  obtain ⟨⟨a1, a2, a3, a4, a5⟩, ⟨b1, b2, b3, b4, b5⟩, ⟨c1, c2, c3, c4, c5⟩⟩ := HCL.out _ (Chg.refl _ _)
  have HC6 := hid (Chg.refl [] w6)
  have gn := guard_flt
  have gs := same_flt
  have ge := guard_flt2
  have gq := same_flt2
  have hbl : n1 ≤ 2097152 := by rw [← HN.out.2]; exact HSM.out.bl
  have hq2l : q2.bs.length = n1 := by rw [← HN.out.2, ← HQ2.out]; exact (List.length_map ..).symm
  have hq3l : q3.bs.length = n1 := by rw [← HN.out.2, ← HQ3.out]; exact (List.length_map ..).symm
  obtain ⟨RR, hRR⟩ : ∃ RR : List It, RR = fB (P3 + 1) fc fl fk :: uB P3 n0 n1 q3 :: fB (P2 + 1) fc fl fk :: uB P2 n0 n1 q2 :: fB (P1 + 1) fc fl fk :: uB P1 n0 n1 q1 :: unI U.decls q1 := ⟨_, rfl⟩
  have HMK : Hid (∀ W, Chg [] w6 W → Calls Tryz.prog 8 #[.slice (some ⟨W.heap.size, 0, none⟩) 2 2] (W.alloc (.cells #[.slice q2.a0 n0 q2.c0, .slice q2.a1 n1 q2.c1, .slice q3.a0 n0 q3.c0, .slice q3.a1 n1 q3.c1] 25)) fun e w' => e = .returned (.bool true) ∧ Hp [] w w' RR) := hid (fun W hc => by
    have h1 := (H6.out.same hc).box (.cells #[.slice q2.a0 n0 q2.c0, .slice q2.a1 n1 q2.c1, .slice q3.a0 n0 q3.c0, .slice q3.a1 n1 q3.c1] 25)
    have e1 : ubx W.heap.size [uoOf U.decls q2, uoOf U.decls q3] = .box W.heap.size (.cells #[.slice q2.a0 n0 q2.c0, .slice q2.a1 n1 q2.c1, .slice q3.a0 n0 q3.c0, .slice q3.a1 n1 q3.c1] 25 (0, 0)) := by
      simp [ubx, uoOf, OL.v, hq2l, hq3l, HN.out.1]
    refine marked_calls [uoOf U.decls q2, uoOf U.decls q3] ?_ (by simp) ?_ (h1.re (fun a => ?_))
    · intro u hu
      simp only [List.mem_cons, List.not_mem_nil, or_false] at hu
      rcases hu with rfl | rfl
      · exact uo_ok HSM.out HQ2.out
      · exact uo_ok HSM.out HQ3.out
    · simp only [osI, List.flatMap_cons, List.flatMap_nil, List.append_nil, List.length_append, uoOf, List.length_map, hq2l, hq3l]
      omega
    · rw [e1, hRR, uo_its U.decls q2, uo_its U.decls q3]
      simp only [osD, osB, osI, List.map_cons, List.map_nil, List.map_append, List.flatMap_cons, List.flatMap_nil, List.append_nil, List.count_append, List.count_cons, List.count_nil, itD, itB, itI, uB, fB, uO, fO]
      omega)
  clear hbl hq2l hq3l
  go_wp2_with (first
    | (go_at_call 7; (with_reducible refine (HSA.out _ HC6.out).mono ?_); rintro e w7 ⟨rfl, hc7⟩; obtain ⟨⟨a1, a2, a3, a4, a5⟩, ⟨b1, b2, b3, b4, b5⟩, ⟨c1, c2, c3, c4, c5⟩⟩ := HCL.out _ hc7)
    | (go_at_call 7; (with_reducible refine (HSB.out _ hc7).mono ?_); rintro e w8 ⟨rfl, hc8⟩; have hc78 := hc7.trans' hc8; obtain ⟨⟨a1, a2, a3, a4, a5⟩, ⟨b1, b2, b3, b4, b5⟩, ⟨c1, c2, c3, c4, c5⟩⟩ := HCL.out _ hc78)
    | (go_at_call 8; (with_reducible refine (HMK.out _ hc78).mono ?_); rintro e w9 ⟨rfl, h9⟩; refine halt (fun XX hXX => ?_)))
  have H9 := hid h9
  clear h9 a1 a2 a3 a4 a5 b1 b2 b3 b4 b5 c1 c2 c3 c4 c5 HMK HSA HSB HCL hc7 hc8 hc78 HC6
  rw [hXX.out]; clear hXX XX
  go_upto_region 8 with fail
  go_wp2_with (go_at_call 6; refine (HP.out _ H9.out.chg).mono ?_; rintro e w10 hP1; obtain ⟨q4, hq4, rfl, hp4⟩ := HONE.out _ _ _ hP1; clear hP1; refine halt (fun XX hXX => ?_))
  have hb4 := ((H9.out.join hp4).box (uO n0 n1 q4)).box (fO fc fl fk)
  simp only [World.size_alloc] at hb4
  obtain ⟨w11, hw11⟩ : ∃ w11, (w10.alloc (uO n0 n1 q4)).alloc (fO fc fl fk) = w11 := ⟨_, rfl⟩
  obtain ⟨P4, hP4⟩ : ∃ P, w10.heap.size = P := ⟨_, rfl⟩
  rw [hw11, hP4] at hb4
  have HQ4 := hid hq4
  have H11 := hid hb4
  clear hp4 hb4 hq4 H9
  rw [hXX.out]; clear hXX XX
  go_upto_region 9 with fail
  try rw [hw11]
  try rw [hP4]
  clear hw11 hP4
  have HCL : Hid (∀ W, Chg [] w11 W → Cl W P1 n0 n1 q1 fc fl fk ∧ Cl W P4 n0 n1 q4 fc fl fk) := hid (fun W hc => by
    have h := H11.out.same hc
    rw [hRR] at h
    exact ⟨cl_of h (by simp) (by simp), cl_of h (by simp) (by simp)⟩)
  have HSC : Hid (∀ W, Chg [] w11 W → SameC W n0 n1 q4 q1) := hid (fun W hc => same_calls true (unS_refl true U) HSM.out W (HUV.out W q4 HQ4.out (fun x hx => (H11.out.same hc).ok x (by simp [hx]))) (HUV.out W q1 HQ1.out (fun x hx => (H11.out.same hc).ok x (by rw [hRR]; simp [hx]))))
  have HLV := hid fun W (hc : Chg [] w11 W) => lives_calls W (HV.out.keep (H11.out.chg.trans' hc))
  obtain ⟨⟨a1, a2, a3, a4, a5⟩, ⟨c1, c2, c3, c4, c5⟩⟩ := HCL.out _ (Chg.refl _ _)
  have HC11 := hid (Chg.refl [] w11)
  clear HCL
  go_wp2_with (first
    | (go_at_call 7; (with_reducible refine (HSC.out _ HC11.out).mono ?_); rintro e w12 ⟨rfl, hc12⟩)
    | (go_at_call 9; (with_reducible refine (HLV.out _ hc12).mono ?_); rintro e w13 ⟨rfl, hc13⟩))
  go_ret
  exact ⟨rfl, (H11.out.chg.trans' hc12).trans' hc13⟩
end Go.Proofs.YtmahcabidggmeaaGreatDoor
