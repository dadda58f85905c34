/- Joined by join.py out of Vtf, Vtg, Lq, Ls, Vvz. -/
import Derived.Test.YtmahcabidggmeaaGreatDoorVtx
import Derived.Test.YtmahcabidggmeaaGreatDoorVqx
import Derived.WalkMore
import Derived.Deep.LoopGhost
import Derived.BigRegion
import Derived.Test.YtmahcabidggmeaaGreatDoorVpv
import Derived.Test.YtmahcabidggmeaaGreatDoorLaw
import Derived.Test.YtmahcabidggmeaaGreatDoorRows
import Derived.Stop.LaidErr
import Derived.MakeChecks
import Derived.Lib.LaidTab
set_option linter.unusedSimpArgs false
set_option linter.unusedVariables false
set_option linter.unusedSectionVars false

/- The law ParsePrints: left: a copy as it was made, the marks too. -/
set_option linter.unusedVariables false
set_option linter.unusedSectionVars false
set_option linter.unusedSimpArgs false
namespace Go.Proofs.YtmahcabidggmeaaGreatDoor
open Go.RowKit Go.AB
theorem last_at {α : Type} {xs : List α} {m : α} {n : Nat} (h : xs.length = n) (h2 : n < (xs ++ [m]).length) : (xs ++ [m])[n] = m := by
  subst h
  simp
theorem wrapNy {c : Nat} (h : c ≤ 2147483647) : IntKind.i64.wrap (c : Int) = (c : Int) := by rw [IntKind.wrap_i64]; omega

set_option maxHeartbeats 16000000 in
set_option maxRecDepth 100000 in
theorem left_calls {v : Value} (u : UnD) (hu : SmallN u) (q : RQ) (hq : q.bks = u.blocks) (w : World) (hok : ∀ x ∈ cpI u.decls q, x.ok w) (hvu : UnV w v u) : Calls Tryz.prog 14 #[.agg #[.slice q.a0 u.decls.length q.c0, .slice q.a1 q.bs.length q.c1], v] w fun e w' => e = .returned (.bool true) ∧ Chg [] w w' := by
  obtain ⟨va0, va1, ts, rfl, l0, l1, hts, hit⟩ := id hvu
  obtain ⟨a0, c0, rfl, _⟩ := l0.len
  obtain ⟨a1, c1, rfl, _⟩ := l1.len
  have hmv := cp_unV hq hok
  have hqn : q.bs.length = u.blocks.length := by rw [← hq]; exact (List.length_map ..).symm
  have htn : ts.length = u.blocks.length := by rw [← hts, List.length_map]
  rw [cp_mv] at hok
  have hd := hu.dl
  have hb := hu.bl
  obtain ⟨n0, hn0⟩ : ∃ n, u.decls.length = n := ⟨_, rfl⟩
  obtain ⟨n1, hn1⟩ : ∃ n, u.blocks.length = n := ⟨_, rfl⟩
  rw [hqn, hn0, hn1] at hmv hok ⊢
  rw [htn, hn0, hn1] at hvu
  rw [htn, hn1]
  rw [hn0] at hd
  rw [hn1] at hb
  have hil : ∀ x ∈ q.bs, x.b.items.length ≤ 2097152 := fun x hx => hu.il x.b (by rw [← hq]; exact List.mem_map.2 ⟨x, hx, rfl⟩)
  obtain ⟨tb, off, tc, a2, c2, r2, a3, c3, r3, bs⟩ := q
  simp only at hok hmv hqn hil ⊢
  rw [hn1] at hqn
  have r0 : Row w 47 5 (.slice a2 (n0 + 1) c2) r2 (n0 + 1) ((u.decls ++ [mkD]).flatMap dcC) := hok _ (List.mem_cons_self ..)
  have r1 : Row w 50 4 (.slice a3 (n1 + 1) c3) r3 (n1 + 1) ((bs ++ [mkBl]).flatMap blC) := hok _ (List.mem_cons_of_mem _ (List.mem_cons_self ..))
  have ri : ∀ x ∈ bs, (itRowM x).ok w := fun x hx => hok _ (List.mem_cons_of_mem _ (List.mem_cons_of_mem _ (List.mem_map.2 ⟨x, hx, rfl⟩)))
  obtain ⟨g2, rfl, rfl, hc2⟩ := r0.slice (by omega)
  obtain ⟨g3, rfl, rfl, hc3⟩ := r1.slice (by omega)
  have HU := hid hu
  have HN := hid (And.intro hn0 hqn)
  have HR := hid (And.intro r0 (And.intro r1 (And.intro ri hil)))
  have HC := hid (And.intro hc2 hc3)
  have hb0 := ((Hp.start (S0 := []) w (by simp)).box (.cells #[.slice (some ⟨g2, 0, none⟩) n0 c2, .slice (some ⟨g3, 0, none⟩) n1 c3] 25)).box (.cells #[.slice a0 n0 c0, .slice a1 n1 c1] 25)
  simp only [World.size_alloc] at hb0
  obtain ⟨wA, hwA⟩ : ∃ wA, (w.alloc (.cells #[.slice (some ⟨g2, 0, none⟩) n0 c2, .slice (some ⟨g3, 0, none⟩) n1 c3] 25)).alloc (.cells #[.slice a0 n0 c0, .slice a1 n1 c1] 25) = wA := ⟨_, rfl⟩
  rw [hwA] at hb0
  obtain ⟨P, hP⟩ : ∃ P, w.heap.size = P := ⟨_, rfl⟩
  rw [hP] at hb0
  have H0 := hid hb0
  have u0 := hb0.cell (i := 1) rfl 0
  have u1 := hb0.cell (i := 1) rfl 1
  have s0 := hb0.cell (i := 0) rfl 0
  have s1 := hb0.cell (i := 0) rfl 1
  simp only [List.getElem?_toArray, List.getElem?_cons_zero, List.getElem?_cons_succ] at u0 u1 s0 s1
  have HSM := hid (same_calls true (unS_refl true u) hu wA (hmv.keep hb0.chg) (hvu.keep hb0.chg))
  clear hmv hvu l0 l1 hts hit hu hn0 hn1 hqn htn hb0 r0 r1 ri hok hil hc2 hc3 hq
  go_enter Tryz.func14, Tryz.ntmps14
  go_upto_region 1 with fail
  try rw [hwA]
  try rw [hP]
  clear hwA hP
  go_wp2_with (go_at_call 7; refine HSM.out.mono ?_; rintro e w2 ⟨rfl, hc⟩; refine halt (fun XX hXX => ?_))
  have hh := H0.out.same hc
  have H2 := hid hh
  have u0 := hh.cell (i := 1) rfl 0
  have u1 := hh.cell (i := 1) rfl 1
  simp only [List.getElem?_toArray, List.getElem?_cons_zero, List.getElem?_cons_succ] at u0 u1
  have hcw := hh.chg
  have HCW := hid hcw
  have hr0 := HR.out.1.keep hcw (by simp)
  have hr1 := HR.out.2.1.keep hcw (by simp)
  have y2 := Row.atf dcC_len hr0 (show (u.decls ++ [mkD]).length = n0 + 1 by rw [List.length_append, HN.out.1]; rfl) (i := n0) (by rw [List.length_append, HN.out.1]; exact Nat.lt_succ_self _) (j := 2) (by omega)
  rw [last_at HN.out.1] at y2
  have y2' : w2.cell? ⟨g2, n0 * 5 + 2, none⟩ = some (.int .i64 77) := y2
  have z0 := Row.atf blC_len hr1 (show (bs ++ [mkBl]).length = n1 + 1 by rw [List.length_append, HN.out.2]; rfl) (i := n1) (by rw [List.length_append, HN.out.2]; exact Nat.lt_succ_self _) (j := 0) (by omega)
  rw [last_at HN.out.2] at z0
  have z0' : w2.cell? ⟨g3, n1 * 4, none⟩ = some (.string ⟨#[55, 55]⟩) := z0
  obtain ⟨N0, hN0⟩ : ∃ N, n0 + 1 = N := ⟨_, rfl⟩
  obtain ⟨N1, hN1⟩ : ∃ N, n1 + 1 = N := ⟨_, rfl⟩
  have v0 : (n0 : Int) + 1 = (N0 : Int) := by omega
  have v1 : (n1 : Int) + 1 = (N1 : Int) := by omega
  have t0 : (n0 : Int) < (N0 : Int) := by omega
  have t1 : (n1 : Int) < (N1 : Int) := by omega
  have t0' : n0 < N0 := by omega
  have t1' : n1 < N1 := by omega
  have e0 : N0 ≤ c2 := by have := HC.out.1; omega
  have e1 : N1 ≤ c3 := by have := HC.out.2; omega
  have e0' : (N0 : Int) ≤ (c2 : Int) := by omega
  have e1' : (N1 : Int) ≤ (c3 : Int) := by omega
  have b0 : N0 ≤ 2147483647 := by omega
  have b1 : N1 ≤ 2147483647 := by omega
  have hwr : ∀ m : Nat, m ≤ 2147483647 → IntKind.i64.wrap (m : Int) = (m : Int) := fun m h => wrapNy h
  clear hN0 hN1 hh hcw hc s0 s1 H0 HSM hr0 hr1 y2 z0
  rw [hXX.out]; clear hXX XX
  go_upto_region 8 with fail
  clear y2' z0' t0 t1 t0' t1' e0 e1 e0' e1' v0 v1 b0 b1
  go_loopg [7] n1 (fun gk v7 wr => ∃ i : Nat, v7 = .int .i64 i ∧ Hid (gk + i = n1) ∧ Hid (Chg [] w2 wr))
  case atStart => exact ⟨0, rfl, hid (by omega), hid (Chg.refl _ _)⟩
  case round =>
    obtain ⟨i, rfl, HG, H⟩ := hrel
    have hh := H2.out.same H.out
    have u0 := hh.cell (i := 1) rfl 0
    have u1 := hh.cell (i := 1) rfl 1
    simp only [List.getElem?_toArray, List.getElem?_cons_zero, List.getElem?_cons_succ] at u0 u1
    clear hh
    by_cases hlt : i < n1
    · have hl1 : i < bs.length := by rw [HN.out.2]; exact hlt
      have hcw := HCW.out.trans' H.out
      have hr1 := HR.out.2.1.keep hcw (by simp)
      have hri := It.keep (HR.out.2.2.1 _ (List.getElem_mem hl1)) hcw (by simp)
      have hil := HR.out.2.2.2 _ (List.getElem_mem hl1)
      have y1 := Row.atf blC_len hr1 (show (bs ++ [mkBl]).length = n1 + 1 by rw [List.length_append, HN.out.2]; rfl) (i := i) (by rw [List.length_append, HN.out.2]; omega) (j := 1) (by omega)
      rw [List.getElem_append_left hl1] at y1
      obtain ⟨x, hx⟩ : ∃ x, bs[i] = x := ⟨_, rfl⟩
      rw [hx] at y1 hri hil
      obtain ⟨⟨nm, xi, l, c⟩, xa, xc, xr⟩ := x
      simp only at hil
      rw [← mvI_row] at hri
      have hrr : Row wr 53 10 (.slice xa (xi.length + 1) xc) xr (xi.length + 1) ((xi ++ [mkI]).flatMap itC) := hri
      obtain ⟨g5, rfl, rfl, h5c⟩ := hrr.slice (by omega)
      have y1' : wr.cell? ⟨g3, i * 4 + 1, none⟩ = some (.slice (some ⟨g5, 0, none⟩) xi.length xc) := y1
      have z4 := Row.atf itC_len hrr (by rw [List.length_append]; rfl) (i := xi.length) (by rw [List.length_append]; exact Nat.lt_succ_self _) (j := 4) (by omega)
      rw [last_at rfl] at z4
      have z4' : wr.cell? ⟨g5, xi.length * 10 + 4, none⟩ = some (.int .i64 77) := z4
      clear y1 z4 hrr hri hr1 hx hl1 hcw
      obtain ⟨N, hN⟩ : ∃ N, xi.length = N := ⟨_, rfl⟩
      rw [hN] at y1' z4' hil h5c
      obtain ⟨M, hM⟩ : ∃ M, N + 1 = M := ⟨_, rfl⟩
      have v0 : (N : Int) + 1 = (M : Int) := by omega
      have t0 : (N : Int) < (M : Int) := by omega
      have t0' : N < M := by omega
      have e0 : M ≤ xc := by omega
      have e0' : (M : Int) ≤ (xc : Int) := by omega
      have b0 : M ≤ 2147483647 := by omega
      clear hN hM
      go_wp2_with fail
      go_roundg (gk - 1)
      case measure => have := HG.out; omega
      case rel => exact ⟨i + 1, rfl, hid (by have := HG.out; omega), H⟩
    · obtain rfl : i = n1 := by have := HG.out; omega
      go_wp2_with fail
      go_ret
      exact ⟨rfl, HCW.out.trans' H.out⟩
end Go.Proofs.YtmahcabidggmeaaGreatDoor

/- The law ParsePrints: its walk. -/
set_option linter.unusedVariables false
set_option linter.unusedSectionVars false
set_option linter.unusedSimpArgs false
namespace Go.AB
open Go.RowKit
def prD (d : DcD) : DcD := ⟨d.kind, d.name, wrap64 (d.val + 1), d.l, d.c⟩
def prI (f : Int → Int) (x : ItD) : ItD := ⟨x.op, f x.a, x.b, x.c, x.n, x.name, x.p1, x.p2, x.q1, x.q2⟩
def prB (f : Int → Int) (b : BkD) : BkD := ⟨b.name ++ (⟨#[113]⟩ : ByteArray), b.items.map (prI f), b.l, b.c⟩
def prU (f : Int → Int) (u : UnD) : UnD := ⟨u.decls.map prD, u.blocks.map (prB f)⟩
def fX (a : Int) : Int := bits .xor .i64 a 1
theorem wrap_in (y : Int) : -9223372036854775808 ≤ IntKind.i64.wrap y ∧ IntKind.i64.wrap y ≤ 9223372036854775807 := by
  rw [IntKind.wrap_i64]
  omega
theorem fX_wf (x : Int) : -9223372036854775808 ≤ fX x ∧ fX x ≤ 9223372036854775807 := by
  unfold fX bits
  exact wrap_in _
theorem wrap64_wf (x : Int) : -9223372036854775808 ≤ wrap64 x ∧ wrap64 x ≤ 9223372036854775807 := by
  first
  | (have h := wrap_in x; rw [IntKind.wrap_i64] at h; exact h)
  | (unfold wrap64; omega)
def blP (f : Int → Int) (x : BlO) : BlO := ⟨prB f x.b, x.ao, x.cap, x.r⟩
theorem Hp.back1 {S0 : List Nat} {w0 w : World} {D B P0 : It} {M : List It} (h : Hp S0 w0 w (D :: B :: M ++ [P0])) : Hp S0 w0 w (P0 :: D :: B :: M) :=
  h.perm (List.perm_append_comm (l₁ := D :: B :: M) (l₂ := [P0]))
theorem prU_small {u : UnD} (hu : SmallN u) (hn : ∀ b ∈ u.blocks, b.name.size ≤ 1048575) : SmallN (prU fX u) := by
  refine ⟨?_, ?_, ?_, ?_, ?_, ?_⟩
  · show (u.decls.map prD).length ≤ _
    rw [List.length_map]; exact hu.dl
  · show (u.blocks.map (prB fX)).length ≤ _
    rw [List.length_map]; exact hu.bl
  · intro b hb
    obtain ⟨b0, h0, rfl⟩ := List.mem_map.1 hb
    show (b0.items.map (prI fX)).length ≤ _
    rw [List.length_map]; exact hu.il b0 h0
  · intro d hd
    obtain ⟨d0, h0, rfl⟩ := List.mem_map.1 hd
    have h1 := hu.ds d0 h0
    exact ⟨h1.1, wrap64_wf _⟩
  · intro b hb
    obtain ⟨b0, h0, rfl⟩ := List.mem_map.1 hb
    have h1 := hn b0 h0
    show (b0.name ++ (⟨#[113]⟩ : ByteArray)).size ≤ _
    rw [ByteArray.size_append]
    show b0.name.size + 1 ≤ _
    omega
  · intro b hb x hx
    obtain ⟨b0, h0, rfl⟩ := List.mem_map.1 hb
    obtain ⟨x0, h1, rfl⟩ := List.mem_map.1 hx
    have h2 := hu.is b0 h0 x0 h1
    refine ⟨h2.nm, h2.n0, h2.n1, fun k hk => ?_⟩
    have h3 := h2.rg k hk
    unfold regOf at h3 ⊢
    by_cases hk0 : k = 0
    · subst hk0
      exact fX_wf _
    · rw [if_neg hk0] at h3 ⊢
      exact h3
theorem mv_bks {bs : List BlO} {bb : List BkD} (h : bs.map BlO.b = bb) : (bs.map (blP fX)).map BlO.b = bb.map (prB fX) := by
  rw [← h, List.map_map, List.map_map]
  rfl
def prnS (p : Except Nat (List UInt8)) : ByteArray × Nat := match p with | .error k => (⟨#[]⟩, k) | .ok s => (bA s, 0)
end Go.AB
namespace Go.Proofs.YtmahcabidggmeaaGreatDoor
open Go.RowKit Go.AB
set_option linter.unusedSimpArgs false
set_option linter.unusedVariables false
set_option linter.unusedSectionVars false
theorem prU_ops {u : UnD} (h : OpW u) : OpW (prU fX u) := by
  intro b hb x hx
  obtain ⟨b0, h0, rfl⟩ := List.mem_map.1 hb
  obtain ⟨x0, h1, rfl⟩ := List.mem_map.1 hx
  exact h b0 h0 x0 h1
theorem prn_one {w w' : World} {p : Except Nat (List UInt8)} {e : Ending} (h : PrnP w p e w') : e = .returned (.tuple #[.string (prnS p).1, .int .i64 ((prnS p).2 : Nat)]) ∧ Chg [] w w' := by
  rcases h with ⟨k, rfl, rfl, h⟩ | ⟨s, rfl, _, rfl, h⟩
  · exact ⟨rfl, h⟩
  · exact ⟨rfl, h⟩
theorem mv_ok {w0 W : World} {A P0 : It} {ds : List DcD} {q : RQ} {n0 n1 : Nat} (h : Hp [] w0 W (A :: P0 :: mvD q.a0 n0 q.c0 q.r0 ds :: mvB q.a1 n1 q.c1 q.r1 q.bs :: q.bs.map itRowM)) (h0 : ds.length = n0) (h1 : q.bs.length = n1) : ∀ x ∈ cpI ds q, x.ok W := by
  rw [cp_mv, h0, h1]
  intro x hx
  exact h.ok x (List.mem_cons_of_mem _ (List.mem_cons_of_mem _ hx))
theorem mvI_prn (f : Int → Int) (x : BlO) : mvI x (x.b.items.map (prI f)) = itRowM (blP f x) := by
  unfold mvI itRowM blP prB
  rw [List.flatMap_append, List.length_map]
  rfl

set_option maxHeartbeats 16000000 in
set_option maxRecDepth 100000 in
theorem prints_walk {v : Value} (u : UnD) (hu : SmallN u) (ho : OpW u) (hnm : ∀ b ∈ u.blocks, b.name.size ≤ 1048575) (w : World) (hvu : UnV w v u) (hv : VarsP w) : Calls Tryz.prog 4 #[v] w fun e w' => e = .returned (.bool true) ∧ Chg [] w w' := by
  obtain ⟨va0, va1, ts, rfl, l0, l1, hts, hit⟩ := id hvu
  obtain ⟨a0, c0, rfl, _⟩ := l0.len
  obtain ⟨a1, c1, rfl, _⟩ := l1.len
  have htn : ts.length = u.blocks.length := by rw [← hts, List.length_map]
  obtain ⟨n0, hn0⟩ : ∃ n, u.decls.length = n := ⟨_, rfl⟩
  obtain ⟨n1, hnb⟩ : ∃ n, u.blocks.length = n := ⟨_, rfl⟩
  have hd := hu.dl
  have hb := hu.bl
  rw [hn0] at hd
  rw [hnb] at hb
  rw [htn, hn0, hnb] at hvu
  rw [htn, hn0, hnb]
  have HN := hid (And.intro hn0 hnb)
  have HU := hid hu
  have HO := hid ho
  have HNM := hid hnm
  have HV := hid hv
  have hb0 := (Hp.start (S0 := []) w (by simp)).box (.cells #[.slice a0 n0 c0, .slice a1 n1 c1] 25)
  obtain ⟨wA, hwA⟩ : ∃ wA, w.alloc (.cells #[.slice a0 n0 c0, .slice a1 n1 c1] 25) = wA := ⟨_, rfl⟩
  obtain ⟨P, hP⟩ : ∃ P, w.heap.size = P := ⟨_, rfl⟩
  rw [hwA, hP] at hb0
  have H0 := hid hb0
  have u0 := hb0.cell (i := 0) rfl 0
  have u1 := hb0.cell (i := 0) rfl 1
  simp only [List.getElem?_toArray, List.getElem?_cons_zero, List.getElem?_cons_succ] at u0 u1
  have HVU := hid (hvu.keep hb0.chg)
  have HCP := hid (copied_calls u hu wA (hvu.keep hb0.chg))
  clear hvu l0 l1 hts hit hu hn0 hnb hb0 ho hnm htn hv
  go_enter Tryz.func4, Tryz.ntmps4
  go_upto_region 1 with fail
  try rw [hwA]
  try rw [hP]
  clear hwA hP
  go_wp2_with (go_at_call 10; refine HCP.out.mono ?_; rintro e w2 ⟨v2, rfl, hcp⟩; refine halt (fun XX hXX => ?_))
  have hm2 := hcp.unV
  obtain ⟨q, hq, rfl, hp⟩ := hcp
  have hqn : q.bs.length = n1 := by rw [← HN.out.2, ← hq]; exact (List.length_map ..).symm
  rw [HN.out.1, hqn] at hm2
  have HQ := hid (And.intro hq hqn)
  have HVU2 := hid (HVU.out.keep hp.chg)
  have hj := (H0.out.join hp)
  rw [cp_mv, HN.out.1, hqn] at hj
  rw [HN.out.1, hqn] at hXX
  obtain ⟨tb, off, tc, a2, c2, r2, a3, c3, r3, bs⟩ := q
  simp only at hj hXX hm2
  have hbx := hj.back1.box (.cells #[.slice a2 n0 c2, .slice a3 n1 c3] 25)
  have HM3 := hid (hm2.keep ((Chg.refl [] w2).alloc (.cells #[.slice a2 n0 c2, .slice a3 n1 c3] 25)))
  have HVU3 := hid (HVU2.out.keep ((Chg.refl [] w2).alloc (.cells #[.slice a2 n0 c2, .slice a3 n1 c3] 25)))
  obtain ⟨w3, hw3⟩ : ∃ w3, w2.alloc (.cells #[.slice a2 n0 c2, .slice a3 n1 c3] 25) = w3 := ⟨_, rfl⟩
  obtain ⟨A, hA⟩ : ∃ A, w2.heap.size = A := ⟨_, rfl⟩
  rw [hw3, hA] at hbx
  rw [hw3] at HM3 HVU3
  have H3 := hid hbx
  obtain ⟨g2, rfl, rfl, hc2⟩ := (hbx.rowAt (i := 2) rfl).slice (by omega)
  obtain ⟨g3, rfl, rfl, hc3⟩ := (hbx.rowAt (i := 3) rfl).slice (by omega)
  have hbs : bs.length = n1 := HQ.out.2
  have hbk : bs.map BlO.b = u.blocks := HQ.out.1
  have HBS := hid (And.intro hbs hbk)
  have HPN := hid (print_calls u HU.out w3 HM3.out (HV.out.keep hbx.chg))
  have x0 := hbx.cell (i := 0) rfl 0
  have x1 := hbx.cell (i := 0) rfl 1
  simp only [List.getElem?_toArray, List.getElem?_cons_zero, List.getElem?_cons_succ] at x0 x1
  clear hj hbx u0 u1 HCP hp hqn hq hm2 HVU2 HVU hbs hbk HQ
  rw [hXX.out]; clear hXX XX
  go_upto_region 2 with fail
  try rw [hw3]
  try rw [hA]
  clear hw3 hA H0
  obtain ⟨ps, hps⟩ : ∃ ps, (prnS (printD u)).1 = ps := ⟨_, rfl⟩
  obtain ⟨pk, hpk⟩ : ∃ pk : Int, ((prnS (printD u)).2 : Int) = pk := ⟨_, rfl⟩
  have hpp : ∀ (W W' : World) (e : Ending), PrnP W (printD u) e W' → e = .returned (.tuple #[.string ps, .int .i64 pk]) ∧ Chg [] W W' := fun W W' e h => by
    have h := prn_one h
    rw [hps, hpk] at h
    exact h
  have HPP := hid hpp
  clear hps hpk hpp
  go_wp2_with (go_at_call 11; refine HPN.out.mono ?_; rintro e w4 hP4; obtain ⟨rfl, hc4⟩ := HPP.out _ _ _ hP4; clear hP4; refine halt (fun XX hXX => ?_))
  have H4 := hid (H3.out.same hc4)
  have HM4 := hid (HM3.out.keep hc4)
  have HVU4 := hid (HVU3.out.keep hc4)
  have u0 := H4.out.cell (i := 1) rfl 0
  have u1 := H4.out.cell (i := 1) rfl 1
  simp only [List.getElem?_toArray, List.getElem?_cons_zero, List.getElem?_cons_succ] at u0 u1
  have HRP := hid (r_print_calls u HU.out HO.out w4 HVU4.out (HV.out.keep H4.out.chg))
  clear hc4 H3 HM3 HVU3 x0 x1 HPN
  rw [hXX.out]; clear hXX XX
  go_upto_region 3 with fail
  go_wp2_with (go_at_call 12; refine HRP.out.mono ?_; rintro e w5 hP5; obtain ⟨rfl, hc5⟩ := HPP.out _ _ _ hP5; clear hP5; refine halt (fun XX hXX => ?_))
  have H5 := hid (H4.out.same hc5)
  have HM5 := hid (HM4.out.keep hc5)
  have HVU5 := hid (HVU4.out.keep hc5)
  have u0 := H5.out.cell (i := 1) rfl 0
  have u1 := H5.out.cell (i := 1) rfl 1
  have x0 := H5.out.cell (i := 0) rfl 0
  have x1 := H5.out.cell (i := 0) rfl 1
  simp only [List.getElem?_toArray, List.getElem?_cons_zero, List.getElem?_cons_succ] at u0 u1 x0 x1
  have HLF := hid (left_calls u HU.out ⟨0, 0, 0, some ⟨g2, 0, none⟩, c2, some g2, some ⟨g3, 0, none⟩, c3, some g3, bs⟩ HBS.out.2 w5 (mv_ok (q := ⟨0, 0, 0, some ⟨g2, 0, none⟩, c2, some g2, some ⟨g3, 0, none⟩, c3, some g3, bs⟩) H5.out HN.out.1 HBS.out.1) HVU5.out)
  simp only [HN.out.1, HBS.out.1] at HLF
  clear hc5 H4 HM4 HVU4 HRP
  rw [hXX.out]; clear hXX XX
  go_wp2_with (first
    | (go_at_call 13; refine (num_calls _ _).mono ?_; rintro e w'' ⟨rfl, rfl⟩; refine halt (fun XX hXX => ?_)))
  rw [hXX.out]; clear hXX XX
  go_wp2_with (first
    | (go_at_call 14; refine HLF.out.mono ?_; rintro e w6 ⟨rfl, hc6⟩; refine halt (fun XX hXX => ?_)))
  have H6 := hid (H5.out.same hc6)
  clear hc6 H5 HM5 HVU5 u0 u1 x0 x1 HLF
  rw [hXX.out]; clear hXX XX
  go_upto_region 7 with fail
  go_loopg [8] n0 (fun gk v8 wr => ∃ i : Nat, v8 = .int .i64 i ∧ Hid (gk + i = n0) ∧ Hid (Hp [] w wr (.box A (.cells #[.slice (some ⟨g2, 0, none⟩) n0 c2, .slice (some ⟨g3, 0, none⟩) n1 c3] 25) :: .box P (.cells #[.slice a0 n0 c0, .slice a1 n1 c1] 25) :: mvD (some ⟨g2, 0, none⟩) n0 c2 (some g2) (progL prD u.decls i) :: mvB (some ⟨g3, 0, none⟩) n1 c3 (some g3) bs :: bs.map itRowM)))
  case atStart => exact ⟨0, rfl, hid (by omega), H6⟩
  case round =>
    obtain ⟨i, rfl, HG, H⟩ := hrel
    have u0 := H.out.cell (i := 0) rfl 0
    simp only [List.getElem?_toArray, List.getElem?_cons_zero, List.getElem?_cons_succ] at u0
    by_cases hlt : i < n0
    · have hl1 : i < u.decls.length := by rw [HN.out.1]; exact hlt
      have hpl : (progL prD u.decls i ++ [mkD]).length = n0 + 1 := by rw [List.length_append, progL_len, HN.out.1]; rfl
      have hpi : i < (progL prD u.decls i ++ [mkD]).length := by omega
      have hpa : (progL prD u.decls i ++ [mkD])[i] = u.decls[i] := by
        rw [List.getElem_append_left (by rw [progL_len]; exact hl1)]
        exact progL_at hl1 _
      have y2 := Row.atf dcC_len (H.out.rowAt (i := 2) rfl) hpl (i := i) hpi (j := 2) (by omega)
      have yf := (Row.cellk (H.out.rowAt (i := 2) rfl)).2.1
      have hst := H.out.putf dcC_len 2 rfl (i := i) hpi (prD u.decls[i]) (j := 2) (by omega) (u := .int .i64 (wrap64 (u.decls[i].val + 1))) (by rw [hpa]; rfl) rfl
      rw [List.set_append_left _ _ (by rw [progL_len]; exact hl1), progL_set hl1] at hst
      rw [hpa] at y2
      have HST := hid hst
      clear hst hpa hpi hpl
      obtain ⟨x, hx⟩ : ∃ x, u.decls[i] = x := ⟨_, rfl⟩
      rw [hx] at y2 HST
      obtain ⟨k, nm, vv, l, c⟩ := x
      have y2' : wr.cell? ⟨g2, i * 5 + 2, none⟩ = some (.int .i64 vv) := y2
      have hil : (i : Int) < (n0 : Int) := by omega
      simp only at HST
      clear y2 hx hl1
      go_upto_region 9 with fail
      go_region
      obtain ⟨wB, hwB⟩ : ∃ wB, (wr.setCell ⟨g2, i * 5 + 2, none⟩ (.int .i64 (wrap64 (vv + 1)))).drew = wB := ⟨_, rfl⟩
      have hst := HST.out.same (Chg.refl [] _).drew
      simp only [List.set_cons_succ, List.set_cons_zero] at hst
      rw [hwB] at hst ⊢
      have HST2 := hid hst
      clear hst hwB HST H y2' yf u0
      go_wp2_with fail
      go_roundg (gk - 1)
      case measure => have := HG.out; omega
      case rel => exact ⟨i + 1, rfl, hid (by have := HG.out; omega), HST2⟩
    · obtain rfl : i = n0 := by have := HG.out; omega
      have hx := H.out
      rw [progL_all (by rw [HN.out.1]; exact Nat.le_refl _)] at hx
      have H7 := hid hx
      obtain ⟨w7, hw7⟩ : ∃ w7 : World, w7 = wr := ⟨_, rfl⟩
      rw [← hw7] at H7 u0 ⊢
      clear hx hw7 H HG
      go_upto_region 11 with fail
      clear u0
      go_loopg [9] n1 (fun gk v9 wr => ∃ j : Nat, v9 = .int .i64 j ∧ Hid (gk + j = n1) ∧ Hid (Hp [] w wr (.box A (.cells #[.slice (some ⟨g2, 0, none⟩) i c2, .slice (some ⟨g3, 0, none⟩) n1 c3] 25) :: .box P (.cells #[.slice a0 i c0, .slice a1 n1 c1] 25) :: mvD (some ⟨g2, 0, none⟩) i c2 (some g2) (u.decls.map prD) :: mvB (some ⟨g3, 0, none⟩) n1 c3 (some g3) (progL (blP fX) bs j) :: (progL (blP fX) bs j).map itRowM)))
      case atStart => exact ⟨0, rfl, hid (by omega), H7⟩
      case round =>
        obtain ⟨j, rfl, HG, H⟩ := hrel
        have u1 := H.out.cell (i := 0) rfl 1
        simp only [List.getElem?_toArray, List.getElem?_cons_zero, List.getElem?_cons_succ] at u1
        by_cases hlj : j < n1
        · have hl1 : j < bs.length := by rw [HBS.out.1]; exact hlj
          obtain ⟨hs1, hs2, hs3⟩ := progL_split (f := blP fX) hl1
          have hmem : bs[j].b ∈ u.blocks := by rw [← HBS.out.2]; exact List.mem_map.2 ⟨_, List.getElem_mem hl1, rfl⟩
          have hnb := HNM.out bs[j].b hmem
          have hil := HU.out.il bs[j].b hmem
          have hDK : ((bs.take j).map (blP fX) ++ bs[j] :: bs.drop (j + 1) ++ [mkBl]).length = n1 + 1 := by
            rw [← hs1, List.length_append, progL_len, HBS.out.1]; rfl
          have hH := H.out
          rw [hs1] at hH
          have HS2 := hid hs2
          obtain ⟨x, hx⟩ : ∃ x, bs[j] = x := ⟨_, rfl⟩
          obtain ⟨DD, hDD⟩ : ∃ DD, (bs.take j).map (blP fX) = DD := ⟨_, rfl⟩
          obtain ⟨KK, hKK⟩ : ∃ KK, bs.drop (j + 1) = KK := ⟨_, rfl⟩
          rw [hx, hDD, hKK] at hH HS2 hDK
          rw [hDD] at hs3
          rw [hx] at hnb hil
          clear hx hDD hKK hs1 hs2 hl1 H hmem
          rw [List.map_append, List.map_cons] at hH
          have hH := hH.pull
          obtain ⟨⟨nm, xi, l, c⟩, xa, xc, xr⟩ := x
          simp only at hnb hil
          obtain ⟨N, hN⟩ : ∃ N, xi.length = N := ⟨_, rfl⟩
          rw [hN] at hil
          have hgi : j < (DD ++ (⟨⟨nm, xi, l, c⟩, xa, xc, xr⟩ : BlO) :: KK ++ [mkBl]).length := by omega
          have hga := get_mid (x := (⟨⟨nm, xi, l, c⟩, xa, xc, xr⟩ : BlO)) (K := KK) (z := mkBl) hs3 hgi
          have y0 := Row.atf blC_len (hH.rowAt (i := 3) rfl) hDK (i := j) hgi (j := 0) (by omega)
          have yf := (Row.cellk (hH.rowAt (i := 3) rfl)).2.1
          rw [hga] at y0
          have y0' : wr.cell? ⟨g3, j * 4, none⟩ = some (.string nm) := y0
          obtain ⟨g5, h5a, h5b, h5c⟩ := Row.slice (hH.rowAt (i := 4) rfl) (by simp)
          simp only at h5a h5b h5c
          subst h5a h5b
          rw [hN] at h5c
          have hst := hH.putf blC_len 3 rfl (i := j) hgi (⟨⟨nm ++ (⟨#[113]⟩ : ByteArray), xi, l, c⟩, some ⟨g5, 0, none⟩, xc, some g5⟩ : BlO) (j := 0) (by omega) (u := .string (nm ++ (⟨#[113]⟩ : ByteArray))) (by rw [hga]; rfl) rfl
          rw [set_mid hs3] at hst
          have HST := hid (hst.same (Chg.refl [] _).drew)
          have HX := hid (And.intro hs3 (And.intro hDK hN))
          have hij : (j : Int) < (n1 : Int) := by omega
          have hns : ¬ 9223372036854775807 < nm.size + 1 := by omega
          have hns' : ¬ 9223372036854775807 < nm.size + (⟨#[113]⟩ : ByteArray).size := hns
          clear hst y0 hga hgi hH hs3 hDK hN
          go_upto_region 13 with fail
          go_region
          obtain ⟨wB, hwB⟩ : ∃ wB, (wr.setCell ⟨g3, j * 4, none⟩ (.string (nm ++ (⟨#[113]⟩ : ByteArray)))).drew = wB := ⟨_, rfl⟩
          have hst := HST.out
          simp only [Nat.add_zero] at hst
          rw [hwB] at hst ⊢
          have HST2 := hid hst
          clear hst hwB HST y0' yf u1 hns hns' hH
          go_upto_region 15 with fail
          obtain ⟨gj, hgj⟩ : ∃ x, x = gk := ⟨_, rfl⟩
          rw [← hgj] at HG
          obtain ⟨wo, hwo⟩ : ∃ wo : World, wo = wr := ⟨_, rfl⟩
          go_loopg [10] N (fun gk v10 wr => ∃ k : Nat, v10 = .int .i64 k ∧ Hid (gk + k = N) ∧ Hid (Hp [] w wr (.box A (.cells #[.slice (some ⟨g2, 0, none⟩) i c2, .slice (some ⟨g3, 0, none⟩) n1 c3] 25) :: .box P (.cells #[.slice a0 i c0, .slice a1 n1 c1] 25) :: mvD (some ⟨g2, 0, none⟩) i c2 (some g2) (u.decls.map prD) :: mvB (some ⟨g3, 0, none⟩) n1 c3 (some g3) (DD ++ (⟨⟨nm ++ (⟨#[113]⟩ : ByteArray), xi, l, c⟩, some ⟨g5, 0, none⟩, xc, some g5⟩ : BlO) :: KK) :: mvI (⟨⟨nm, xi, l, c⟩, some ⟨g5, 0, none⟩, xc, some g5⟩ : BlO) (progL (prI fX) xi k) :: (DD.map itRowM ++ KK.map itRowM))))
          case atStart =>
            refine ⟨0, rfl, hid (by omega), hid ?_⟩
            have h9 := HST2.out
            rw [← mvI_row] at h9
            exact h9
          case round =>
            obtain ⟨k, rfl, HG2, H⟩ := hrel
            have u1 := H.out.cell (i := 0) rfl 1
            simp only [List.getElem?_toArray, List.getElem?_cons_zero, List.getElem?_cons_succ] at u1
            have hDK : (DD ++ (⟨⟨nm ++ (⟨#[113]⟩ : ByteArray), xi, l, c⟩, some ⟨g5, 0, none⟩, xc, some g5⟩ : BlO) :: KK ++ [mkBl]).length = n1 + 1 := by
              have := HX.out.2.1
              simpa using this
            have hgi : j < (DD ++ (⟨⟨nm ++ (⟨#[113]⟩ : ByteArray), xi, l, c⟩, some ⟨g5, 0, none⟩, xc, some g5⟩ : BlO) :: KK ++ [mkBl]).length := by omega
            have hga := get_mid (x := (⟨⟨nm ++ (⟨#[113]⟩ : ByteArray), xi, l, c⟩, some ⟨g5, 0, none⟩, xc, some g5⟩ : BlO)) (K := KK) (z := mkBl) HX.out.1 hgi
            have y1 := Row.atf blC_len (H.out.rowAt (i := 3) rfl) hDK (i := j) hgi (j := 1) (by omega)
            rw [hga] at y1
            have y1' : wr.cell? ⟨g3, j * 4 + 1, none⟩ = some (.slice (some ⟨g5, 0, none⟩) N xc) := by rw [← HX.out.2.2]; exact y1
            clear y1 hga hgi hDK
            by_cases hlk : k < N
            · have hl1 : k < xi.length := by rw [HX.out.2.2]; exact hlk
              have hpl : (progL (prI fX) xi k ++ [mkI]).length = N + 1 := by rw [List.length_append, progL_len, HX.out.2.2]; rfl
              have hpi : k < (progL (prI fX) xi k ++ [mkI]).length := by omega
              have hpa : (progL (prI fX) xi k ++ [mkI])[k] = xi[k] := by
                rw [List.getElem_append_left (by rw [progL_len]; exact hl1)]
                exact progL_at hl1 _
              have hr4 : Row wr 53 10 (.slice (some ⟨g5, 0, none⟩) (N + 1) xc) (some g5) (N + 1) ((progL (prI fX) xi k ++ [mkI]).flatMap itC) := by
                have h9 := H.out.rowAt (i := 4) rfl
                simp only [HX.out.2.2] at h9
                exact h9
              have z1 := Row.atf itC_len hr4 hpl (i := k) hpi (j := 1) (by omega)
              have zf := (Row.cellk hr4).2.1
              rw [hpa] at z1
              have hst := H.out.putf itC_len 4 rfl (i := k) hpi (prI fX xi[k]) (j := 1) (by omega) (u := .int .i64 (fX xi[k].a)) (by rw [hpa]; rfl) rfl
              rw [List.set_append_left _ _ (by rw [progL_len]; exact hl1), progL_set hl1] at hst
              have HST3 := hid (hst.same (Chg.refl [] _).drew)
              clear hst
              obtain ⟨x, hx⟩ : ∃ x, xi[k] = x := ⟨_, rfl⟩
              rw [hx] at z1 HST3
              obtain ⟨xo, xa1, xb1, xc1, xn, xnm, p1, p2, q1, q2⟩ := x
              have z1' : wr.cell? ⟨g5, k * 10 + 1, none⟩ = some (.int .i64 xa1) := z1
              simp only at HST3
              have hij : (j : Int) < (n1 : Int) := by omega
              have hik : (k : Int) < (N : Int) := by omega
              clear z1 hx hpa hpi hpl hr4 hl1
              go_upto_region 17 with fail
              go_region
              obtain ⟨wB, hwB⟩ : ∃ wB, (wr.setCell ⟨g5, k * 10 + 1, none⟩ (.int .i64 (fX xa1))).drew = wB := ⟨_, rfl⟩
              have hst := HST3.out
              simp only [List.set_cons_succ, List.set_cons_zero] at hst
              rw [hwB] at hst
              rw [show (wr.setCell ⟨g5, k * 10 + 1, none⟩ (.int .i64 (bits BinOp.xor IntKind.i64 xa1 1))).drew = wB from hwB]
              have HST4 := hid hst
              clear hst hwB HST3 H z1' zf u1 y1'
              go_wp2_with fail
              go_roundg (gk - 1)
              case measure => have := HG2.out; omega
              case rel => exact ⟨k + 1, rfl, hid (by have := HG2.out; omega), HST4⟩
            · obtain rfl : k = N := by have := HG2.out; omega
              have h9 := H.out
              rw [progL_all (by rw [HX.out.2.2]; exact Nat.le_refl _)] at h9
              have e := mvI_prn fX (⟨⟨nm, xi, l, c⟩, some ⟨g5, 0, none⟩, xc, some g5⟩ : BlO)
              simp only at e
              rw [e, mvB_eq (y := blP fX (⟨⟨nm, xi, l, c⟩, some ⟨g5, 0, none⟩, xc, some g5⟩ : BlO)) (by simp [blC, BlO.v, blP, prB])] at h9
              have h10 := h9.push
              have e2 : (progL (blP fX) bs (j + 1)).map itRowM = DD.map itRowM ++ itRowM (blP fX (⟨⟨nm, xi, l, c⟩, some ⟨g5, 0, none⟩, xc, some g5⟩ : BlO)) :: KK.map itRowM := by rw [HS2.out, List.map_append, List.map_cons]
              rw [← e2, ← HS2.out] at h10
              have H10 := hid h10
              clear h9 h10 e e2
              go_wp2_with fail
              go_roundg (gj - 1)
              case measure => have := HG.out; omega
              case rel => exact ⟨j + 1, rfl, hid (by have := HG.out; omega), H10⟩
        · obtain rfl : j = n1 := by have := HG.out; omega
          have hx := H.out
          rw [progL_all (by rw [HBS.out.1]; exact Nat.le_refl _)] at hx
          have hl2 : (bs.map (blP fX)).length = j := by rw [List.length_map]; exact HBS.out.1
          have hl3 : (prU fX u).decls.length = i := by show (u.decls.map prD).length = i; rw [List.length_map]; exact HN.out.1
          have hmv := cp_unV (u := prU fX u) (q := ⟨0, 0, 0, some ⟨g2, 0, none⟩, c2, some g2, some ⟨g3, 0, none⟩, c3, some g3, bs.map (blP fX)⟩) (mv_bks HBS.out.2) (mv_ok (q := ⟨0, 0, 0, some ⟨g2, 0, none⟩, c2, some g2, some ⟨g3, 0, none⟩, c3, some g3, bs.map (blP fX)⟩) hx hl3 hl2)
          simp only [hl3, hl2] at hmv
          have HM := hid hmv
          have HUP := hid (prU_small HU.out HNM.out)
          have HOP := hid (prU_ops HO.out)
          obtain ⟨u', hu'⟩ : ∃ u', prU fX u = u' := ⟨_, rfl⟩
          rw [hu'] at HM HUP HOP hl3
          have HX := hid hx
          have x0 := hx.cell (i := 0) rfl 0
          have x1 := hx.cell (i := 0) rfl 1
          simp only [List.getElem?_toArray, List.getElem?_cons_zero, List.getElem?_cons_succ] at x0 x1
          have HL3 := hid hl3
          obtain ⟨w8, hw8⟩ : ∃ w8 : World, w8 = wr := ⟨_, rfl⟩
          rw [← hw8] at HM HX x0 x1 ⊢
          have HCP := hid (copied_calls u' HUP.out w8 HM.out)
          clear hu' hx hmv hl2 hl3 hw8 H HG u1 H7 HPP
          go_upto_region 18 with fail
          go_wp2_with (go_at_call 10; refine HCP.out.mono ?_; rintro e w9 ⟨v9, rfl, hcp⟩; refine halt (fun XX hXX => ?_))
          have hm9 := hcp.unV
          have hc9 := hcp.chg
          clear hcp
          obtain ⟨va9, vb9, ts9, rfl, hda, hbb, _, _⟩ := id hm9
          obtain ⟨ad9, cd9, rfl, _⟩ := hda.len
          obtain ⟨ab9, cb9, rfl, _⟩ := hbb.len
          obtain ⟨D9, hD⟩ : ∃ D, u'.decls.length = D := ⟨_, rfl⟩
          obtain ⟨M9, hM⟩ : ∃ M, ts9.length = M := ⟨_, rfl⟩
          rw [hD, hM] at hm9 hXX
          have hbx := (HX.out.same hc9).box (.cells #[.slice ad9 D9 cd9, .slice ab9 M9 cb9] 25)
          have hca := (Chg.refl [] w9).alloc (.cells #[.slice ad9 D9 cd9, .slice ab9 M9 cb9] 25)
          obtain ⟨w10, hw10⟩ : ∃ w10, w9.alloc (.cells #[.slice ad9 D9 cd9, .slice ab9 M9 cb9] 25) = w10 := ⟨_, rfl⟩
          obtain ⟨Q, hQ⟩ : ∃ Q, w9.heap.size = Q := ⟨_, rfl⟩
          rw [hw10, hQ] at hbx
          rw [hw10] at hca
          have HX10 := hid hbx
          have HN10 := hid (hm9.keep hca)
          have HM10 := hid ((HM.out.keep hc9).keep hca)
          have z0 := hbx.cell (i := 0) rfl 0
          have z1 := hbx.cell (i := 0) rfl 1
          simp only [List.getElem?_toArray, List.getElem?_cons_zero, List.getElem?_cons_succ] at z0 z1
          have HRP := hid (r_print_calls u' HUP.out HOP.out w10 HN10.out (HV.out.keep hbx.chg))
          clear hm9 hc9 hca hbx HX HM HCP x0 x1 hD hM hda hbb
          rw [hXX.out]; clear hXX XX
          go_upto_region 19 with fail
          try rw [hw10]
          try rw [hQ]
          clear hw10 hQ
          obtain ⟨ps', hps⟩ : ∃ ps, (prnS (printD u')).1 = ps := ⟨_, rfl⟩
          obtain ⟨pk', hpk⟩ : ∃ pk : Int, ((prnS (printD u')).2 : Int) = pk := ⟨_, rfl⟩
          have hpp : ∀ (W W' : World) (e : Ending), PrnP W (printD u') e W' → e = .returned (.tuple #[.string ps', .int .i64 pk']) ∧ Chg [] W W' := fun W W' e h => by
            have h := prn_one h
            rw [hps, hpk] at h
            exact h
          have HPP := hid hpp
          clear hps hpk hpp
          go_wp2_with (go_at_call 12; refine HRP.out.mono ?_; rintro e w11 hP5; obtain ⟨rfl, hc5⟩ := HPP.out _ _ _ hP5; clear hP5; refine halt (fun XX hXX => ?_))
          have HX11 := hid (HX10.out.same hc5)
          have x0 := HX11.out.cell (i := 1) rfl 0
          have x1 := HX11.out.cell (i := 1) rfl 1
          simp only [List.getElem?_toArray, List.getElem?_cons_zero, List.getElem?_cons_succ] at x0 x1
          have HPN := hid (print_calls u' HUP.out w11 (HM10.out.keep hc5) (HV.out.keep HX11.out.chg))
          clear hc5 HX10 HM10 HN10 z0 z1 HRP
          rw [hXX.out]; clear hXX XX
          go_upto_region 20 with fail
          go_wp2_with (go_at_call 11; refine HPN.out.mono ?_; rintro e w12 hP4; obtain ⟨rfl, hc4⟩ := HPP.out _ _ _ hP4; clear hP4; refine halt (fun XX hXX => ?_))
          have HC12 := hid (HX11.out.same hc4).chg
          have HLV := hid (lives_calls w12 (HV.out.keep HC12.out))
          clear hc4 HX11 x0 x1 HPN
          rw [hXX.out]; clear hXX XX
          go_wp2_with (go_at_call 13; refine (num_calls _ _).mono ?_; rintro e w'' ⟨rfl, rfl⟩; refine halt (fun XX hXX => ?_))
          rw [hXX.out]; clear hXX XX
          go_wp2_with (go_at_call 9; refine HLV.out.mono ?_; rintro e w13 ⟨rfl, hc6⟩; refine halt (fun XX hXX => ?_))
          have HC13 := hid (HC12.out.trans' hc6)
          rw [hXX.out]; clear hXX XX
          go_wp2
          go_ret
          exact ⟨rfl, HC13.out⟩
end Go.Proofs.YtmahcabidggmeaaGreatDoor

/- From the form of the rows to plain data: a unit that comes in (parse). -/
set_option linter.unusedVariables false
set_option linter.unusedSimpArgs false
set_option linter.unusedSectionVars false
namespace Go.Proofs.YtmahcabidggmeaaGreatDoor
open Go.RowKit Go.AB Go.ChangeShapes Go.WideShapes Go.ChangeAt
set_option linter.unusedVariables false

theorem Opens.mapE {α β : Type} {w : World} {t k : Nat} {R : α → List Value → Prop} {R' : β → List Value → Prop} {sz : α → Nat} {sz' : β → Nat} (h : Opens w t k R sz) (hi : ∀ a cs, R a cs → ∃ b, R' b cs ∧ sz' b ≤ sz a) : Opens w t k R' sz' := by
  intro H enc base spare held fuel cs x hx
  obtain ⟨h1, a, h2, h3⟩ := h H enc base spare held fuel cs x hx
  obtain ⟨b, h4, h5⟩ := hi a cs h2
  exact ⟨h1, b, h4, Nat.le_trans h5 h3⟩
/-- A slice that is read, its elements' cells said by a function. -/
theorem VL.lst {α : Type} {w : World} {k : Nat} {R : α → List Value → Prop} {f : α → List Value} {v : Value} {xs : List α} (h : VL w k R v xs) (hR : ∀ x cs, R x cs → cs = f x) : Lst f k w v xs := by
  obtain ⟨css, hv, hl, he⟩ := h
  have hfl : css.flatten = xs.flatMap f := by
    have : css = xs.map f := by
      apply List.ext_getElem
      · simp [hl]
      · intro i h1 h2
        rw [hR _ _ (he i (by omega) h1).2]
        simp
    rw [this]
    rfl
  unfold Lst
  rw [← hfl]
  exact hv
theorem VL.all {α : Type} {w : World} {k : Nat} {R : α → List Value → Prop} {v : Value} {xs : List α} (h : VL w k R v xs) {Q : α → Prop} (hR : ∀ x cs, R x cs → Q x) : ∀ x ∈ xs, Q x := by
  obtain ⟨css, hv, hl, he⟩ := h
  intro x hx
  obtain ⟨i, hi, rfl⟩ := List.mem_iff_getElem.1 hx
  exact hR _ _ (he i hi (by omega)).2
theorem wf_i64' {n : Int} (h : (Lit.int .i64 n).wf = true) : -9223372036854775808 ≤ n ∧ n ≤ 9223372036854775807 := by simpa [Lit.wf, IntKind.min, IntKind.max, IntKind.signed, IntKind.bits] using h
theorem len_le_sum {α : Type} (f : α → Nat) (xs : List α) (h : ∀ x, 1 ≤ f x) : xs.length ≤ (xs.map f).sum := by
  induction xs with
  | nil => simp
  | cons x xs ih => have := h x; simp only [List.length_cons, List.map_cons, List.sum_cons]; omega
theorem mem_le_sum {α : Type} (f : α → Nat) {xs : List α} {x : α} (h : x ∈ xs) : f x ≤ (xs.map f).sum := by
  induction xs with
  | nil => cases h
  | cons y ys ih =>
    simp only [List.map_cons, List.sum_cons]
    cases List.mem_cons.1 h with
    | inl e => subst e; omega
    | inr e => have := ih e; omega
theorem list_2 {α : Type} (l : List α) (h : l.length = 2) : ∃ a0 a1, l = [a0, a1] := by
  match l, h with
  | [a0, a1], _ => exact ⟨a0, a1, rfl⟩
theorem list_3 {α : Type} (l : List α) (h : l.length = 3) : ∃ a0 a1 a2, l = [a0, a1, a2] := by
  match l, h with
  | [a0, a1, a2], _ => exact ⟨a0, a1, a2, rfl⟩
theorem list_4 {α : Type} (l : List α) (h : l.length = 4) : ∃ a0 a1 a2 a3, l = [a0, a1, a2, a3] := by
  match l, h with
  | [a0, a1, a2, a3], _ => exact ⟨a0, a1, a2, a3, rfl⟩
theorem list_5 {α : Type} (l : List α) (h : l.length = 5) : ∃ a0 a1 a2 a3 a4, l = [a0, a1, a2, a3, a4] := by
  match l, h with
  | [a0, a1, a2, a3, a4], _ => exact ⟨a0, a1, a2, a3, a4, rfl⟩
theorem list_8 {α : Type} (l : List α) (h : l.length = 8) : ∃ a0 a1 a2 a3 a4 a5 a6 a7, l = [a0, a1, a2, a3, a4, a5, a6, a7] := by
  match l, h with
  | [a0, a1, a2, a3, a4, a5, a6, a7], _ => exact ⟨a0, a1, a2, a3, a4, a5, a6, a7, rfl⟩
theorem list_10 {α : Type} (l : List α) (h : l.length = 10) : ∃ a0 a1 a2 a3 a4 a5 a6 a7 a8 a9, l = [a0, a1, a2, a3, a4, a5, a6, a7, a8, a9] := by
  match l, h with
  | [a0, a1, a2, a3, a4, a5, a6, a7, a8, a9], _ => exact ⟨a0, a1, a2, a3, a4, a5, a6, a7, a8, a9, rfl⟩
theorem opens_st11 {α0 α1 : Type} {w : World} {t : Nat} {f0 f1 : Field} (ht : Tryz.prog.underlying t = some (.struct #[f0, f1])) (hc : Tryz.prog.cellsOf t = 2)
    (o0 : (f0.offset, Tryz.prog.cellsOf f0.type) = (0, 1)) (o1 : (f1.offset, Tryz.prog.cellsOf f1.type) = (1, 1))
    {R0 : α0 → List Value → Prop} {s0 : α0 → Nat} {R1 : α1 → List Value → Prop} {s1 : α1 → Nat}
    (h0 : Opens w f0.type 1 R0 s0) (h1 : Opens w f1.type 1 R1 s1) :
    Opens w t 2 (fun (p : α0 × α1) cs => ∃ c0 c1, cs = [c0, c1] ∧ R0 p.1 [c0] ∧ R1 p.2 [c1]) (fun p => s0 p.1 + s1 p.2 + 1) := by
  intro H enc base spare held fuel cs x h
  obtain ⟨xs, n, _, rfl, hl, hxl, hx⟩ := DataW.trod_struct ht h
  rw [hc] at hl
  simp only [Prod.mk.injEq] at o0 o1
  obtain ⟨c0, c1, rfl⟩ := list_2 cs hl
  obtain ⟨x0, x1, rfl⟩ := list_2 xs (by simpa using hxl)
  have e0 := hx 0 f0 rfl
  have e1 := hx 1 f1 rfl
  rw [o0.1, o0.2] at e0
  rw [o1.1, o1.2] at e1
  obtain ⟨_, a0, r0, b0⟩ := h0 H enc base spare held n [c0] x0 e0
  obtain ⟨_, a1, r1, b1⟩ := h1 H enc base spare held n [c1] x1 e1
  refine ⟨rfl, (a0, a1), ⟨c0, c1, rfl, r0, r1⟩, ?_⟩
  simp only [List.map_cons, List.map_nil, Rows.uptoBulk, Rows.uptoBulkAll]
  omega
theorem opens_st112 {α0 α1 α2 : Type} {w : World} {t : Nat} {f0 f1 f2 : Field} (ht : Tryz.prog.underlying t = some (.struct #[f0, f1, f2])) (hc : Tryz.prog.cellsOf t = 4)
    (o0 : (f0.offset, Tryz.prog.cellsOf f0.type) = (0, 1)) (o1 : (f1.offset, Tryz.prog.cellsOf f1.type) = (1, 1)) (o2 : (f2.offset, Tryz.prog.cellsOf f2.type) = (2, 2))
    {R0 : α0 → List Value → Prop} {s0 : α0 → Nat} {R1 : α1 → List Value → Prop} {s1 : α1 → Nat} {R2 : α2 → List Value → Prop} {s2 : α2 → Nat}
    (h0 : Opens w f0.type 1 R0 s0) (h1 : Opens w f1.type 1 R1 s1) (h2 : Opens w f2.type 2 R2 s2) :
    Opens w t 4 (fun (p : α0 × α1 × α2) cs => ∃ c0 c1 c2 c3, cs = [c0, c1, c2, c3] ∧ R0 p.1 [c0] ∧ R1 p.2.1 [c1] ∧ R2 p.2.2 [c2, c3]) (fun p => s0 p.1 + s1 p.2.1 + s2 p.2.2 + 1) := by
  intro H enc base spare held fuel cs x h
  obtain ⟨xs, n, _, rfl, hl, hxl, hx⟩ := DataW.trod_struct ht h
  rw [hc] at hl
  simp only [Prod.mk.injEq] at o0 o1 o2
  obtain ⟨c0, c1, c2, c3, rfl⟩ := list_4 cs hl
  obtain ⟨x0, x1, x2, rfl⟩ := list_3 xs (by simpa using hxl)
  have e0 := hx 0 f0 rfl
  have e1 := hx 1 f1 rfl
  have e2 := hx 2 f2 rfl
  rw [o0.1, o0.2] at e0
  rw [o1.1, o1.2] at e1
  rw [o2.1, o2.2] at e2
  obtain ⟨_, a0, r0, b0⟩ := h0 H enc base spare held n [c0] x0 e0
  obtain ⟨_, a1, r1, b1⟩ := h1 H enc base spare held n [c1] x1 e1
  obtain ⟨_, a2, r2, b2⟩ := h2 H enc base spare held n [c2, c3] x2 e2
  refine ⟨rfl, (a0, a1, a2), ⟨c0, c1, c2, c3, rfl, r0, r1, r2⟩, ?_⟩
  simp only [List.map_cons, List.map_nil, Rows.uptoBulk, Rows.uptoBulkAll]
  omega
theorem opens_st1112 {α0 α1 α2 α3 : Type} {w : World} {t : Nat} {f0 f1 f2 f3 : Field} (ht : Tryz.prog.underlying t = some (.struct #[f0, f1, f2, f3])) (hc : Tryz.prog.cellsOf t = 5)
    (o0 : (f0.offset, Tryz.prog.cellsOf f0.type) = (0, 1)) (o1 : (f1.offset, Tryz.prog.cellsOf f1.type) = (1, 1)) (o2 : (f2.offset, Tryz.prog.cellsOf f2.type) = (2, 1)) (o3 : (f3.offset, Tryz.prog.cellsOf f3.type) = (3, 2))
    {R0 : α0 → List Value → Prop} {s0 : α0 → Nat} {R1 : α1 → List Value → Prop} {s1 : α1 → Nat} {R2 : α2 → List Value → Prop} {s2 : α2 → Nat} {R3 : α3 → List Value → Prop} {s3 : α3 → Nat}
    (h0 : Opens w f0.type 1 R0 s0) (h1 : Opens w f1.type 1 R1 s1) (h2 : Opens w f2.type 1 R2 s2) (h3 : Opens w f3.type 2 R3 s3) :
    Opens w t 5 (fun (p : α0 × α1 × α2 × α3) cs => ∃ c0 c1 c2 c3 c4, cs = [c0, c1, c2, c3, c4] ∧ R0 p.1 [c0] ∧ R1 p.2.1 [c1] ∧ R2 p.2.2.1 [c2] ∧ R3 p.2.2.2 [c3, c4]) (fun p => s0 p.1 + s1 p.2.1 + s2 p.2.2.1 + s3 p.2.2.2 + 1) := by
  intro H enc base spare held fuel cs x h
  obtain ⟨xs, n, _, rfl, hl, hxl, hx⟩ := DataW.trod_struct ht h
  rw [hc] at hl
  simp only [Prod.mk.injEq] at o0 o1 o2 o3
  obtain ⟨c0, c1, c2, c3, c4, rfl⟩ := list_5 cs hl
  obtain ⟨x0, x1, x2, x3, rfl⟩ := list_4 xs (by simpa using hxl)
  have e0 := hx 0 f0 rfl
  have e1 := hx 1 f1 rfl
  have e2 := hx 2 f2 rfl
  have e3 := hx 3 f3 rfl
  rw [o0.1, o0.2] at e0
  rw [o1.1, o1.2] at e1
  rw [o2.1, o2.2] at e2
  rw [o3.1, o3.2] at e3
  obtain ⟨_, a0, r0, b0⟩ := h0 H enc base spare held n [c0] x0 e0
  obtain ⟨_, a1, r1, b1⟩ := h1 H enc base spare held n [c1] x1 e1
  obtain ⟨_, a2, r2, b2⟩ := h2 H enc base spare held n [c2] x2 e2
  obtain ⟨_, a3, r3, b3⟩ := h3 H enc base spare held n [c3, c4] x3 e3
  refine ⟨rfl, (a0, a1, a2, a3), ⟨c0, c1, c2, c3, c4, rfl, r0, r1, r2, r3⟩, ?_⟩
  simp only [List.map_cons, List.map_nil, Rows.uptoBulk, Rows.uptoBulkAll]
  omega
theorem opens_st8 {α0 α1 α2 α3 α4 α5 α6 α7 : Type} {w : World} {t : Nat} {f0 f1 f2 f3 f4 f5 f6 f7 : Field} (ht : Tryz.prog.underlying t = some (.struct #[f0, f1, f2, f3, f4, f5, f6, f7])) (hc : Tryz.prog.cellsOf t = 10)
    (o0 : (f0.offset, Tryz.prog.cellsOf f0.type) = (0, 1)) (o1 : (f1.offset, Tryz.prog.cellsOf f1.type) = (1, 1)) (o2 : (f2.offset, Tryz.prog.cellsOf f2.type) = (2, 1)) (o3 : (f3.offset, Tryz.prog.cellsOf f3.type) = (3, 1)) (o4 : (f4.offset, Tryz.prog.cellsOf f4.type) = (4, 1)) (o5 : (f5.offset, Tryz.prog.cellsOf f5.type) = (5, 1)) (o6 : (f6.offset, Tryz.prog.cellsOf f6.type) = (6, 2)) (o7 : (f7.offset, Tryz.prog.cellsOf f7.type) = (8, 2))
    {R0 : α0 → List Value → Prop} {s0 : α0 → Nat} {R1 : α1 → List Value → Prop} {s1 : α1 → Nat} {R2 : α2 → List Value → Prop} {s2 : α2 → Nat} {R3 : α3 → List Value → Prop} {s3 : α3 → Nat} {R4 : α4 → List Value → Prop} {s4 : α4 → Nat} {R5 : α5 → List Value → Prop} {s5 : α5 → Nat} {R6 : α6 → List Value → Prop} {s6 : α6 → Nat} {R7 : α7 → List Value → Prop} {s7 : α7 → Nat}
    (h0 : Opens w f0.type 1 R0 s0) (h1 : Opens w f1.type 1 R1 s1) (h2 : Opens w f2.type 1 R2 s2) (h3 : Opens w f3.type 1 R3 s3) (h4 : Opens w f4.type 1 R4 s4) (h5 : Opens w f5.type 1 R5 s5) (h6 : Opens w f6.type 2 R6 s6) (h7 : Opens w f7.type 2 R7 s7) :
    Opens w t 10 (fun (p : α0 × α1 × α2 × α3 × α4 × α5 × α6 × α7) cs => ∃ c0 c1 c2 c3 c4 c5 c6 c7 c8 c9, cs = [c0, c1, c2, c3, c4, c5, c6, c7, c8, c9] ∧ R0 p.1 [c0] ∧ R1 p.2.1 [c1] ∧ R2 p.2.2.1 [c2] ∧ R3 p.2.2.2.1 [c3] ∧ R4 p.2.2.2.2.1 [c4] ∧ R5 p.2.2.2.2.2.1 [c5] ∧ R6 p.2.2.2.2.2.2.1 [c6, c7] ∧ R7 p.2.2.2.2.2.2.2 [c8, c9]) (fun p => s0 p.1 + s1 p.2.1 + s2 p.2.2.1 + s3 p.2.2.2.1 + s4 p.2.2.2.2.1 + s5 p.2.2.2.2.2.1 + s6 p.2.2.2.2.2.2.1 + s7 p.2.2.2.2.2.2.2 + 1) := by
  intro H enc base spare held fuel cs x h
  obtain ⟨xs, n, _, rfl, hl, hxl, hx⟩ := DataW.trod_struct ht h
  rw [hc] at hl
  simp only [Prod.mk.injEq] at o0 o1 o2 o3 o4 o5 o6 o7
  obtain ⟨c0, c1, c2, c3, c4, c5, c6, c7, c8, c9, rfl⟩ := list_10 cs hl
  obtain ⟨x0, x1, x2, x3, x4, x5, x6, x7, rfl⟩ := list_8 xs (by simpa using hxl)
  have e0 := hx 0 f0 rfl
  have e1 := hx 1 f1 rfl
  have e2 := hx 2 f2 rfl
  have e3 := hx 3 f3 rfl
  have e4 := hx 4 f4 rfl
  have e5 := hx 5 f5 rfl
  have e6 := hx 6 f6 rfl
  have e7 := hx 7 f7 rfl
  rw [o0.1, o0.2] at e0
  rw [o1.1, o1.2] at e1
  rw [o2.1, o2.2] at e2
  rw [o3.1, o3.2] at e3
  rw [o4.1, o4.2] at e4
  rw [o5.1, o5.2] at e5
  rw [o6.1, o6.2] at e6
  rw [o7.1, o7.2] at e7
  obtain ⟨_, a0, r0, b0⟩ := h0 H enc base spare held n [c0] x0 e0
  obtain ⟨_, a1, r1, b1⟩ := h1 H enc base spare held n [c1] x1 e1
  obtain ⟨_, a2, r2, b2⟩ := h2 H enc base spare held n [c2] x2 e2
  obtain ⟨_, a3, r3, b3⟩ := h3 H enc base spare held n [c3] x3 e3
  obtain ⟨_, a4, r4, b4⟩ := h4 H enc base spare held n [c4] x4 e4
  obtain ⟨_, a5, r5, b5⟩ := h5 H enc base spare held n [c5] x5 e5
  obtain ⟨_, a6, r6, b6⟩ := h6 H enc base spare held n [c6, c7] x6 e6
  obtain ⟨_, a7, r7, b7⟩ := h7 H enc base spare held n [c8, c9] x7 e7
  refine ⟨rfl, (a0, a1, a2, a3, a4, a5, a6, a7), ⟨c0, c1, c2, c3, c4, c5, c6, c7, c8, c9, rfl, r0, r1, r2, r3, r4, r5, r6, r7⟩, ?_⟩
  simp only [List.map_cons, List.map_nil, Rows.uptoBulk, Rows.uptoBulkAll]
  omega

/-- A number of 64 bits. -/
def Wf (n : Int) : Prop := -9223372036854775808 ≤ n ∧ n ≤ 9223372036854775807
def ItWf (x : ItD) : Prop := Wf x.op ∧ Wf x.a ∧ Wf x.b ∧ Wf x.c ∧ Wf x.n ∧ Wf x.p1 ∧ Wf x.p2 ∧ Wf x.q1 ∧ Wf x.q2
def DcWf (d : DcD) : Prop := Wf d.kind ∧ Wf d.val ∧ Wf d.l ∧ Wf d.c
def BkWf (k : BkD) : Prop := Wf k.l ∧ Wf k.c ∧ ∀ x ∈ k.items, ItWf x
def szIt (x : ItD) : Nat := x.name.size + 9
def szDc (d : DcD) : Nat := d.name.size + 1
def szBk (k : BkD) : Nat := k.name.size + (k.items.map szIt).sum + 1
section
variable (w : World)
theorem opens_plc : Opens w 28 2 (fun (p : Int × Int) cs => cs = [.int .i64 p.1, .int .i64 p.2] ∧ Wf p.1 ∧ Wf p.2) (fun _ => 1) :=
  (opens_st11 Tryz.underlying28 (by kernel_rfl) (by kernel_rfl) (by kernel_rfl) (opens_int Tryz.underlying3) (opens_int Tryz.underlying3)).mapE (fun p cs h => by
    obtain ⟨c0, c1, rfl, ⟨h0, w0⟩, h1, w1⟩ := h
    simp only [List.cons.injEq, and_true] at h0 h1
    subst h0 h1
    exact ⟨p, ⟨rfl, wf_i64' w0, wf_i64' w1⟩, by omega⟩)
theorem opens_itm : Opens w 53 10 (fun (x : ItD) cs => cs = itC x ∧ ItWf x) szIt :=
  (opens_st8 Tryz.underlying53 (by kernel_rfl) (by kernel_rfl) (by kernel_rfl) (by kernel_rfl) (by kernel_rfl) (by kernel_rfl) (by kernel_rfl) (by kernel_rfl) (by kernel_rfl) (opens_int Tryz.underlying51) (opens_int Tryz.underlying3) (opens_int Tryz.underlying3) (opens_int Tryz.underlying3) (opens_int Tryz.underlying3)
    (opens_string Tryz.underlying9) (opens_plc w) (opens_plc w)).mapE (fun p cs h => by
    obtain ⟨c0, c1, c2, c3, c4, c5, c6, c7, c8, c9, rfl, ⟨h0, w0⟩, ⟨h1, w1⟩, ⟨h2, w2⟩, ⟨h3, w3⟩, ⟨h4, w4⟩, h5, ⟨h6, w6, w7⟩, h8, w8, w9⟩ := h
    simp only [List.cons.injEq, and_true] at h0 h1 h2 h3 h4 h5 h6 h8
    obtain ⟨rfl, rfl⟩ := h6
    obtain ⟨rfl, rfl⟩ := h8
    subst h0 h1 h2 h3 h4 h5
    obtain ⟨p0, p1, p2, p3, p4, p5, ⟨p6, p7⟩, p8, p9⟩ := p
    exact ⟨⟨p0, p1, p2, p3, p4, p5, p6, p7, p8, p9⟩, ⟨rfl, wf_i64' w0, wf_i64' w1, wf_i64' w2, wf_i64' w3, wf_i64' w4, w6, w7, w8, w9⟩, by unfold szIt; simp only; omega⟩)
theorem opens_dcl : Opens w 47 5 (fun (x : DcD) cs => cs = dcC x ∧ DcWf x) szDc :=
  (opens_st1112 Tryz.underlying47 (by kernel_rfl) (by kernel_rfl) (by kernel_rfl) (by kernel_rfl) (by kernel_rfl) (opens_int Tryz.underlying45) (opens_string Tryz.underlying9) (opens_int Tryz.underlying3) (opens_plc w)).mapE (fun p cs h => by
    obtain ⟨c0, c1, c2, c3, c4, rfl, ⟨h0, w0⟩, h1, ⟨h2, w2⟩, h3, w3, w4⟩ := h
    simp only [List.cons.injEq, and_true] at h0 h1 h2 h3
    obtain ⟨rfl, rfl⟩ := h3
    subst h0 h1 h2
    obtain ⟨p0, p1, p2, p3, p4⟩ := p
    exact ⟨⟨p0, p1, p2, p3, p4⟩, ⟨rfl, wf_i64' w0, wf_i64' w2, w3, w4⟩, by unfold szDc; simp only; omega⟩)
theorem opens_blk : Opens w 50 4 (fun (x : BkV) cs => cs = bkC x ∧ Lst itC 10 w x.items x.b.items ∧ BkWf x.b) (fun x => szBk x.b) :=
  (opens_st112 Tryz.underlying50 (by kernel_rfl) (by kernel_rfl) (by kernel_rfl) (by kernel_rfl) (opens_string Tryz.underlying9) (opens_slice Tryz.underlying48 (by kernel_rfl) (opens_itm w)) (opens_plc w)).mapE (fun p cs h => by
    obtain ⟨c0, c1, c2, c3, rfl, h0, ⟨v1, h1, l1⟩, h2, w2, w3⟩ := h
    simp only [List.cons.injEq, and_true] at h0 h1 h2
    obtain ⟨rfl, rfl⟩ := h2
    subst h0 h1
    obtain ⟨p0, p1, p2, p3⟩ := p
    refine ⟨⟨⟨p0, p1, p2, p3⟩, c1⟩, ⟨rfl, l1.lst (fun x cs h => h.1), w2, w3, l1.all (fun x cs h => h.2)⟩, ?_⟩
    unfold szBk
    simp only
    omega)
/-- A unit that comes in: what is read of it. -/
def WfU (u : UnD) : Prop := (∀ d ∈ u.decls, DcWf d) ∧ ∀ k ∈ u.blocks, BkWf k
theorem opens_unit : Opens w 25 2 (fun (u : UnD) cs => UnV w (.agg cs.toArray) u ∧ WfU u) (fun u => (u.decls.map szDc).sum + (u.blocks.map szBk).sum) :=
  (opens_st11 Tryz.underlying25 (by kernel_rfl) (by kernel_rfl) (by kernel_rfl) (opens_slice Tryz.underlying22 (by kernel_rfl) (opens_dcl w)) (opens_slice Tryz.underlying23 (by kernel_rfl) (opens_blk w))).mapE (fun p cs h => by
    obtain ⟨c0, c1, rfl, ⟨v0, h0, l0⟩, v1, h1, l1⟩ := h
    simp only [List.cons.injEq, and_true] at h0 h1
    subst h0 h1
    obtain ⟨ds, bs⟩ := p
    simp only at l0 l1
    refine ⟨⟨ds, bs.map BkV.b⟩, ⟨⟨_, _, bs, rfl, l0.lst (fun x cs h => h.1), l1.lst (fun x cs h => h.1), rfl, l1.all (fun x cs h => h.2.1)⟩, l0.all (fun x cs h => h.2), fun k hk => ?_⟩, ?_⟩
    · obtain ⟨x, hx, rfl⟩ := List.mem_map.1 hk
      exact l1.all (Q := fun x => BkWf x.b) (fun x cs h => h.2.2) x hx
    · simp only [List.map_map]
      show _ ≤ (ds.map szDc).sum + 1 + ((bs.map fun x => szBk x.b).sum + 1) + 1
      have : (bs.map (szBk ∘ BkV.b)).sum = (bs.map fun x => szBk x.b).sum := rfl
      omega)
end
theorem small_item {x : ItD} (h : x.name.size ≤ 1048576) (h1 : Wf x.a) (h2 : Wf x.b) (h3 : Wf x.c) (h4 : Wf x.n) : SmallI x := by
  refine ⟨h, h4.1, h4.2, fun k hk => ?_⟩
  unfold regOf
  split
  · exact h1
  · split
    · exact h2
    · exact h3
/-- What the sizes say. -/
theorem small_unn {u : UnD} (hw : WfU u) (h : (u.decls.map szDc).sum + (u.blocks.map szBk).sum ≤ 1048576) : SmallN u ∧ UnW u := by
  have a0 := len_le_sum szDc u.decls (fun _ => by unfold szDc; omega)
  have a1 := len_le_sum szBk u.blocks (fun _ => by unfold szBk; omega)
  refine ⟨⟨by omega, by omega, fun k hk => ?_, fun d hd => ?_, fun k hk => ?_, fun k hk x hx => ?_⟩, fun d hd => (hw.1 d hd).2.1, fun k hk x hx => ((hw.2 k hk).2.2 x hx).2.2.2.2.1⟩
  · have h9 : k.name.size + (k.items.map szIt).sum + 1 ≤ _ := mem_le_sum szBk hk
    have a2 := len_le_sum szIt k.items (fun _ => by unfold szIt; omega)
    omega
  · have h9 : d.name.size + 1 ≤ _ := mem_le_sum szDc hd
    exact ⟨by omega, (hw.1 d hd).2.1⟩
  · have h9 : k.name.size + (k.items.map szIt).sum + 1 ≤ _ := mem_le_sum szBk hk
    omega
  · have h9 : k.name.size + (k.items.map szIt).sum + 1 ≤ _ := mem_le_sum szBk hk
    have h8 : x.name.size + 9 ≤ _ := mem_le_sum szIt hx
    obtain ⟨w0, w1, w2, w3, w4, _⟩ := (hw.2 k hk).2.2 x hx
    exact small_item (by omega) w1 w2 w3 w4
end Go.Proofs.YtmahcabidggmeaaGreatDoor

/- Small facts that each law's frame wants. -/
set_option linter.unusedSimpArgs false
set_option linter.unusedVariables false
set_option linter.unusedSectionVars false
namespace Go.Proofs.YtmahcabidggmeaaGreatDoor
open Go.RowKit Go.AB Go.ChangeShapes Go.WideShapes Go.ChangeAt

theorem small_bound {H : Type} {l : List (DataW H)} (hk : Rows.uptoSmall H l = true) : Rows.uptoBulkAll l ≤ 1048576 := of_decide_eq_true hk
theorem cells_one {v : Value} {c : Value} {a : Option Addr} {n cap : Nat} (hv : v = .slice a n cap) (h : v.cells.toList = [c]) : c = v := by
  subst hv
  simpa [Value.cells] using h.symm
theorem cells_str {v : Value} {c : Value} {s : ByteArray} (hv : v = .string s) (h : v.cells.toList = [c]) : c = v := by
  subst hv
  simpa [Value.cells] using h.symm
theorem cells_num {v : Value} {c : Value} {k : IntKind} {n : Int} (hv : v = .int k n) (h : v.cells.toList = [c]) : c = v := by
  subst hv
  simpa [Value.cells] using h.symm
end Go.Proofs.YtmahcabidggmeaaGreatDoor

/- What the rows' conditions say of the program's variables (parse). -/
set_option linter.unusedVariables false
set_option linter.unusedSectionVars false
set_option linter.unusedSimpArgs false
namespace Go.Proofs.YtmahcabidggmeaaGreatDoor
open Go.RowKit Go.AB

theorem pow10_of {a b : String × DataW Unit} {r : List (String × DataW Unit)} {W : World} (h : laidMetH Tryz.prog (a :: b :: ("internal/strconv.uint64pow10", Rows.laid_internal_strconv_uint64pow10) :: r) W)
    (hp : ((a :: b :: ("internal/strconv.uint64pow10", Rows.laid_internal_strconv_uint64pow10) :: r).all fun x => x.2.handleName?.isNone) = true) : Pow10 W := by
  rw [MakeChecks.laidMetH_plain _ _ _ hp] at h
  exact Lib.tabIs_of_head (g := 0) (by kernel_rfl) (t := 154) (by kernel_rfl) Tryz.underlying154 Tryz.underlying141 (by kernel_rfl) (by kernel_rfl) h.tail.tail
theorem star_err : "*" ++ "errors.errorString" = "*errors.errorString" := by decide
theorem row_err (u : TypeId) (h : Tryz.prog.typeName? 3 u = some "*errors.errorString") : u = 175 :=
  typeName_ptr_named (nm := "errors.errorString") (by rw [star_err]; kernel_rfl) (by kernel_rfl) (by decide) u (by rw [star_err]; exact h)
theorem err_of {n : String} {text : List UInt8} {r : List (String × DataW Unit)} {W : World} {g : Nat} (h : laidMet Tryz.prog ((n, .iface "*errors.errorString" (.ptr (.agg [.lit (.string text)]))) :: r) W)
    (hg : Tryz.prog.globalNamed n = some g) (ht : (Tryz.prog.globals[g]?).map (·.type) = some 83) : ErrAt g W := by
  obtain ⟨a, s, hv, _⟩ := laid_sentinel h hg ht Tryz.underlying83 row_err Tryz.underlying175 Tryz.underlying177 rfl rfl Tryz.underlying9 (by kernel_rfl) (by kernel_rfl)
  exact ⟨_, _, World.var?_cell hg hv 0⟩
theorem vars_of {W : World} (h : laidMetH Tryz.prog Rows.parsePrintsUptoRow.laid W) : VarsP W := by
  have hp := pow10_of h (by kernel_rfl)
  rw [MakeChecks.laidMetH_plain _ _ _ (by kernel_rfl)] at h
  refine ⟨hp, ?_, ?_⟩
  · exact err_of h.tail.tail.tail.tail (by kernel_rfl) (by kernel_rfl)
  · exact err_of h.tail.tail.tail (by kernel_rfl) (by kernel_rfl)
theorem ba_list (s : ByteArray) : bA s.data.toList = s := rfl
theorem prints_walk' {v : Value} (u : UnD) (hw : WfU u) (h : (u.decls.map szDc).sum + (u.blocks.map szBk).sum ≤ 1048576) (w : World) (hvu : UnV w v u) (hv : VarsP w) : Calls Tryz.prog 4 #[v] w fun e w' => e = .returned (.bool true) ∧ Chg [] w w' :=
  prints_walk u (small_unn hw h).1 (fun b hb x hx => ((hw.2 b hb).2.2 x hx).1) (fun b hb => by
    have h9 : b.name.size + (b.items.map szIt).sum + 1 ≤ _ := mem_le_sum szBk hb
    omega) w hvu hv
end Go.Proofs.YtmahcabidggmeaaGreatDoor
