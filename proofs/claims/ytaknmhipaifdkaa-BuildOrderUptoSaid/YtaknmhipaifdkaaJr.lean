/- Walks of the builder's laws: doubled. (Printed by gen_doubled.py.) -/
import Derived.Test.YtaknmhipaifdkaaJq
set_option linter.unusedVariables false
set_option linter.unusedSectionVars false
namespace Go.Proofs.Ytaknmhipaifdkaa
open Go.RowKit Go.AB
set_option linter.unusedSimpArgs false
set_option linter.unusedVariables false
set_option linter.unusedSectionVars false

def yItem (x : ItD) : ItD := ⟨x.op, x.a, x.b, x.c, x.n, yU ++ x.name, x.p1, x.p2, x.q1, x.q2⟩
def dblAt (i : Nat) (x : ItD) : List ItD := if x.op = 0 then [x, yItem x] else if ledB x.op = true ∧ i % 2 = 0 then [yItem x] else [x]
def dblTo (l : List ItD) : Nat → List ItD
  | 0 => []
  | i + 1 => dblTo l i ++ match l[i]? with
    | some x => dblAt i x
    | none => []
theorem dblTo_succ (l : List ItD) {i : Nat} (hi : i < l.length) : dblTo l (i + 1) = dblTo l i ++ dblAt i l[i] := by
  rw [dblTo, List.getElem?_eq_getElem hi]

set_option maxHeartbeats 8000000 in
set_option maxRecDepth 100000 in
theorem doubled_calls {nm : ByteArray} {v : Value} {l : List ItD} {l1 l2 : Int} (w : World) (hv : Lst itC 10 w v l) (hl : l.length ≤ 1048576) (hs : ∀ x ∈ l, x.name.size ≤ 4294967296) : Calls Try.prog 16 #[.agg #[.string nm, v, .int .i64 l1, .int .i64 l2]] w fun e w' => ∃ v' r, e = .returned (.agg #[.string nm, v', .int .i64 l1, .int .i64 l2]) ∧ Row w' 55 10 v' r (dblTo l l.length).length ((dblTo l l.length).flatMap itC) ∧ Chg [] w w' ∧ Fresh w none r := by
  obtain ⟨a, c, rfl, hlc, hcm, -⟩ := hv.len
  have hp0 := (((Hp.start (S0 := []) w (by simp)).box (.cells #[.string nm, .slice a l.length c, .int .i64 l1, .int .i64 l2] 48)).box (.cells #[.string ⟨#[]⟩, .slice none 0 0, .int .i64 0, .int .i64 0] 48)).box (.cells #[.string nm, .slice none 0 0, .int .i64 l1, .int .i64 l2] 48)
  simp only [World.size_alloc] at hp0
  have hp1 := hp0.nil 55 10
  obtain ⟨D, hD⟩ : ∃ D, l.length = D := ⟨_, rfl⟩
  have hv1 : Lst itC 10 w (.slice a D c) l := by rw [← hD]; exact hv
  rw [hD] at hl hlc hp1 ⊢
  have HD := hid hD
  have HS := hid hs
  have HV := hid hv1
  have HP := hid hp1
  clear hv hv1 hD hp0 hp1 hs
  go_enter Try.func16, Try.ntmps16
  go_upto_region 3 with fail
  go_loopg [4] D (fun gk vi wr => ∃ (i n : Nat) (ao : Option Addr) (cap : Nat) (r : Option Nat), gk + i = D ∧ vi = .int .i64 i ∧ n ≤ 2 * i ∧ Hid ((dblTo l i).length = n) ∧ Hid (Hp [] w wr (.row 55 10 (.slice ao n cap) r n ((dblTo l i).flatMap itC) :: .box (w.heap.size + 1 + 1) (.cells #[.string nm, .slice ao n cap, .int .i64 l1, .int .i64 l2] 48) ::
    .box (w.heap.size + 1) (.cells #[.string ⟨#[]⟩, .slice none 0 0, .int .i64 0, .int .i64 0] 48) :: .box w.heap.size (.cells #[.string nm, .slice a D c, .int .i64 l1, .int .i64 l2] 48) :: [])))
  case atStart => exact ⟨0, 0, none, 0, none, by omega, rfl, by omega, hid rfl, HP⟩
  case round =>
    obtain ⟨i, n, ao, cap, r, hgi, rfl, hn, HN, H⟩ := hrel
    have u1 := H.out.cell (i := 3) rfl 1
    simp only [List.getElem?_toArray, List.getElem?_cons_zero, List.getElem?_cons_succ] at u1
    by_cases hi : i < D
    · have hil : i < l.length := by rw [HD.out]; exact hi
      obtain ⟨x, hx⟩ : ∃ x, l[i]'hil = x := ⟨_, rfl⟩
      obtain ⟨b, o, ha, x0, x1, x2, x3, x4, x5, x6, x7, x8, x9⟩ := items_at (HV.out.keep H.out.chg) hil hx
      have hxs := HS.out x (by rw [← hx]; exact List.getElem_mem _)
      have HX := hid (dblTo_succ l hil)
      rw [hx] at HX
      subst ha
      clear hx
      have hH1 := H.out.box (.cells #[.int .i64 x.op, .int .i64 x.a, .int .i64 x.b, .int .i64 x.c, .int .i64 x.n, .string x.name, .int .i64 x.p1, .int .i64 x.p2, .int .i64 x.q1, .int .i64 x.q2] 55)
      have hsz : (wr.alloc (.cells #[.int .i64 x.op, .int .i64 x.a, .int .i64 x.b, .int .i64 x.c, .int .i64 x.n, .string x.name, .int .i64 x.p1, .int .i64 x.p2, .int .i64 x.q1, .int .i64 x.q2] 55)).heap.size = wr.heap.size + 1 := by simp
      go_upto_region 6 with fail
      obtain ⟨w4, hw4⟩ : ∃ y, wr.alloc (.cells #[.int .i64 x.op, .int .i64 x.a, .int .i64 x.b, .int .i64 x.c, .int .i64 x.n, .string x.name, .int .i64 x.p1, .int .i64 x.p2, .int .i64 x.q1, .int .i64 x.q2] 55) = y := ⟨_, rfl⟩
      rw [hw4] at hH1 hsz
      try rw [hw4]
      obtain ⟨a5, ha5⟩ : ∃ y, wr.heap.size = y := ⟨_, rfl⟩
      rw [ha5] at hH1 hsz
      try rw [ha5]
      have HH1 := hid hH1
      have HSZ := hid hsz
      clear hH1 hsz hw4 ha5 x0 x1 x2 x3 x4 x5 x6 x7 x8 x9
      by_cases h0 : x.op = 0
      · have e0 : (x.op == 0) = true := by simp [h0]
        have e1 : (x.op != 0) = false := by simp [h0]
        have hL : ledB x.op = true := by simp [ledB, h0]
        have HA := hid (show dblAt i x = [x, yItem x] from by unfold dblAt; rw [if_pos h0])
        clear h0
        have t0 := HH1.out.cell (i := 0) rfl 0
        have t1 := HH1.out.cell (i := 0) rfl 1
        have t2 := HH1.out.cell (i := 0) rfl 2
        have t3 := HH1.out.cell (i := 0) rfl 3
        have t4 := HH1.out.cell (i := 0) rfl 4
        have t5 := HH1.out.cell (i := 0) rfl 5
        have t6 := HH1.out.cell (i := 0) rfl 6
        have t7 := HH1.out.cell (i := 0) rfl 7
        have t8 := HH1.out.cell (i := 0) rfl 8
        have t9 := HH1.out.cell (i := 0) rfl 9
        have v1 := HH1.out.cell (i := 2) rfl 1
        simp only [List.getElem?_toArray, List.getElem?_cons_zero, List.getElem?_cons_succ] at t0 t1 t2 t3 t4 t5 t6 t7 t8 t9 v1
        have tf := HH1.out.free (i := 0) rfl
        have hrow := HH1.out.rowAt (i := 1) rfl
        go_wp2_with (first | (go_at_call 23; refine (led_calls _ _).mono ?_; rintro e w' ⟨rfl, hw9⟩; rw [hw9, hL]; clear hw9) | (at_builtin; refine wpList_grew rfl _ _ 46 rfl elem_itm rfl (hrow.keep ((Chg.refl [] _).alloc _) (by simp)) rfl (View.structAt w4 [.int .i64 x.op, .int .i64 x.a, .int .i64 x.b, .int .i64 x.c, .int .i64 x.n, .string x.name, .int .i64 x.p1, .int .i64 x.p2, .int .i64 x.q1, .int .i64 x.q2] 55 rfl rfl) (by simp [Value.oneCell']) (by unfold maxLen; omega) (by omega) (fun ao5 cap5 r5 w5 hr5 hg5 => halt (fun X hX => ?_))))
        rw [hX.out]; clear hX
        have hH5 := HH1.out.grow 1 rfl ((Chg.refl [] _).alloc _) hr5 hg5.chg hg5.fresh rfl
        have v1 := hH5.cell (i := 2) rfl 1
        have vf := hH5.free (i := 2) rfl
        have t0 := hH5.cell (i := 0) rfl 0
        simp only [List.set_cons_zero, List.set_cons_succ, List.getElem?_toArray, List.getElem?_cons_zero, List.getElem?_cons_succ] at v1 t0
        have hP5 := hH5.put 2 rfl 1 (.slice ao5 (n + 1) cap5) rfl
        simp only [List.set_cons_zero, List.set_cons_succ, List.setIfInBounds_toArray] at hP5
        have HG5 := hid hP5
        clear hrow hr5 hg5 hH5 hP5
        obtain ⟨w6, hw6⟩ : ∃ x, w5.setCell ⟨w.heap.size + 1 + 1, 1, none⟩ (.slice ao5 (n + 1) cap5) = x := ⟨_, rfl⟩
        rw [hw6] at HG5
        have HW6 := hid hw6
        clear hw6
        go_upto_region 9 with fail
        rw [show w5.setCell ⟨w.heap.size + 1 + 1, 1, none⟩ (.slice ao5 (n + 1) cap5) = w6 from HW6.out]
        clear t0 t1 t2 t3 t4 t5 t6 t7 t8 t9 v1 vf tf
        have t0 := HG5.out.cell (i := 0) rfl 0
        have t1 := HG5.out.cell (i := 0) rfl 1
        have t2 := HG5.out.cell (i := 0) rfl 2
        have t3 := HG5.out.cell (i := 0) rfl 3
        have t4 := HG5.out.cell (i := 0) rfl 4
        have t5 := HG5.out.cell (i := 0) rfl 5
        have t6 := HG5.out.cell (i := 0) rfl 6
        have t7 := HG5.out.cell (i := 0) rfl 7
        have t8 := HG5.out.cell (i := 0) rfl 8
        have t9 := HG5.out.cell (i := 0) rfl 9
        have v1 := HG5.out.cell (i := 2) rfl 1
        simp only [List.getElem?_toArray, List.getElem?_cons_zero, List.getElem?_cons_succ] at t0 t1 t2 t3 t4 t5 t6 t7 t8 t9 v1
        have tf := HG5.out.free (i := 0) rfl
        have hQ := HG5.out.put 0 rfl 5 (.string (⟨#[121, 95]⟩ ++ x.name)) rfl
        simp only [List.set_cons_zero, List.set_cons_succ, List.setIfInBounds_toArray] at hQ
        have HQ := hid hQ
        clear hQ
        go_upto_region 11 with fail
        obtain ⟨w7, hw7⟩ : ∃ y, w6.setCell ⟨a5, 5, none⟩ (.string (⟨#[121, 95]⟩ ++ x.name)) = y := ⟨_, rfl⟩
        rw [hw7] at HQ
        try rw [hw7]
        clear hw7 t0 t1 t2 t3 t4 t5 t6 t7 t8 t9 v1 tf
        have t0 := HQ.out.cell (i := 0) rfl 0
        have t1 := HQ.out.cell (i := 0) rfl 1
        have t2 := HQ.out.cell (i := 0) rfl 2
        have t3 := HQ.out.cell (i := 0) rfl 3
        have t4 := HQ.out.cell (i := 0) rfl 4
        have t5 := HQ.out.cell (i := 0) rfl 5
        have t6 := HQ.out.cell (i := 0) rfl 6
        have t7 := HQ.out.cell (i := 0) rfl 7
        have t8 := HQ.out.cell (i := 0) rfl 8
        have t9 := HQ.out.cell (i := 0) rfl 9
        have v1 := HQ.out.cell (i := 2) rfl 1
        simp only [List.getElem?_toArray, List.getElem?_cons_zero, List.getElem?_cons_succ] at t0 t1 t2 t3 t4 t5 t6 t7 t8 t9 v1
        have hrow := HQ.out.rowAt (i := 1) rfl
        go_wp2_with (first | (fail) | (at_builtin; refine wpList_grew rfl _ _ 46 rfl elem_itm rfl (hrow.keep ((Chg.refl [] _).alloc _) (by simp)) rfl (View.structAt w7 [.int .i64 x.op, .int .i64 x.a, .int .i64 x.b, .int .i64 x.c, .int .i64 x.n, .string (⟨#[121, 95]⟩ ++ x.name), .int .i64 x.p1, .int .i64 x.p2, .int .i64 x.q1, .int .i64 x.q2] 55 rfl rfl) (by simp [Value.oneCell']) (by unfold maxLen; omega) (by omega) (fun ao8 cap8 r8 w8 hr8 hg8 => halt (fun X hX => ?_))))
        rw [hX.out]; clear hX
        have hH8 := HQ.out.grow 1 rfl ((Chg.refl [] _).alloc _) hr8 hg8.chg hg8.fresh rfl
        have v1 := hH8.cell (i := 2) rfl 1
        have vf := hH8.free (i := 2) rfl
        have t0 := hH8.cell (i := 0) rfl 0
        simp only [List.set_cons_zero, List.set_cons_succ, List.getElem?_toArray, List.getElem?_cons_zero, List.getElem?_cons_succ] at v1 t0
        have hP8 := hH8.put 2 rfl 1 (.slice ao8 ((n + 1) + 1) cap8) rfl
        simp only [List.set_cons_zero, List.set_cons_succ, List.setIfInBounds_toArray] at hP8
        have HG8 := hid hP8
        clear hrow hr8 hg8 hH8 hP8
        go_wp2_with fail
        go_roundg (gk - 1)
        case measure => omega
        case rel =>
          refine ⟨i + 1, n + 1 + 1, ao8, cap8, r8, by omega, by go_num, by omega, hid ?_, hid ?_⟩
          · rw [HX.out, HA.out, List.length_append, HN.out]; rfl
          · have h9 := HG8.out.sub (.cons _ (.refl _))
            rw [HX.out, HA.out]
            simpa only [List.flatMap_append, List.flatMap_cons, List.flatMap_nil, List.append_nil, List.append_assoc, itC, yItem, yU] using h9
      · have e0 : (x.op == 0) = false := by simp [h0]
        have e1 : (x.op != 0) = true := by simp [h0]
        have HZ := hid h0
        cases hL : ledB x.op with
        | true =>
          by_cases h2 : i % 2 = 0
          · have z0 : (i : Int).tmod 2 = (i : Int) % 2 := Int.tmod_eq_emod_of_nonneg (by omega)
            have z1 : ((i : Int).tmod 2 == 0) = true := by rw [z0]; simp; omega
            have z2 : decide ((i : Int).tmod 2 = 0) = true := decide_eq_true (by omega)
            have z3 : ((i : Int) % 2 == 0) = true := by simp; omega
            have z4 : decide ((i : Int) % 2 = 0) = true := decide_eq_true (by omega)
            have HA := hid (show dblAt i x = [yItem x] from by unfold dblAt; rw [if_neg h0, if_pos ⟨hL, h2⟩])
            clear h0 h2 z0
            have t0 := HH1.out.cell (i := 0) rfl 0
            have t1 := HH1.out.cell (i := 0) rfl 1
            have t2 := HH1.out.cell (i := 0) rfl 2
            have t3 := HH1.out.cell (i := 0) rfl 3
            have t4 := HH1.out.cell (i := 0) rfl 4
            have t5 := HH1.out.cell (i := 0) rfl 5
            have t6 := HH1.out.cell (i := 0) rfl 6
            have t7 := HH1.out.cell (i := 0) rfl 7
            have t8 := HH1.out.cell (i := 0) rfl 8
            have t9 := HH1.out.cell (i := 0) rfl 9
            have v1 := HH1.out.cell (i := 2) rfl 1
            simp only [List.getElem?_toArray, List.getElem?_cons_zero, List.getElem?_cons_succ] at t0 t1 t2 t3 t4 t5 t6 t7 t8 t9 v1
            have tf := HH1.out.free (i := 0) rfl
            have hQ := HH1.out.put 0 rfl 5 (.string (⟨#[121, 95]⟩ ++ x.name)) rfl
            simp only [List.set_cons_zero, List.set_cons_succ, List.setIfInBounds_toArray] at hQ
            have HQ := hid hQ
            clear hQ
            go_upto_region 8 with (go_at_call 23; refine (led_calls _ _).mono ?_; rintro e w' ⟨rfl, hw9⟩; rw [hw9, hL]; clear hw9)
            obtain ⟨w7, hw7⟩ : ∃ y, w4.setCell ⟨a5, 5, none⟩ (.string (⟨#[121, 95]⟩ ++ x.name)) = y := ⟨_, rfl⟩
            rw [hw7] at HQ
            try rw [hw7]
            clear hw7 t0 t1 t2 t3 t4 t5 t6 t7 t8 t9 v1 tf
            have t0 := HQ.out.cell (i := 0) rfl 0
            have t1 := HQ.out.cell (i := 0) rfl 1
            have t2 := HQ.out.cell (i := 0) rfl 2
            have t3 := HQ.out.cell (i := 0) rfl 3
            have t4 := HQ.out.cell (i := 0) rfl 4
            have t5 := HQ.out.cell (i := 0) rfl 5
            have t6 := HQ.out.cell (i := 0) rfl 6
            have t7 := HQ.out.cell (i := 0) rfl 7
            have t8 := HQ.out.cell (i := 0) rfl 8
            have t9 := HQ.out.cell (i := 0) rfl 9
            have v1 := HQ.out.cell (i := 2) rfl 1
            simp only [List.getElem?_toArray, List.getElem?_cons_zero, List.getElem?_cons_succ] at t0 t1 t2 t3 t4 t5 t6 t7 t8 t9 v1
            have hrow := HQ.out.rowAt (i := 1) rfl
            go_wp2_with (first | (fail) | (at_builtin; refine wpList_grew rfl _ _ 46 rfl elem_itm rfl (hrow.keep ((Chg.refl [] _).alloc _) (by simp)) rfl (View.structAt w7 [.int .i64 x.op, .int .i64 x.a, .int .i64 x.b, .int .i64 x.c, .int .i64 x.n, .string (⟨#[121, 95]⟩ ++ x.name), .int .i64 x.p1, .int .i64 x.p2, .int .i64 x.q1, .int .i64 x.q2] 55 rfl rfl) (by simp [Value.oneCell']) (by unfold maxLen; omega) (by omega) (fun ao8 cap8 r8 w8 hr8 hg8 => halt (fun X hX => ?_))))
            rw [hX.out]; clear hX
            have hH8 := HQ.out.grow 1 rfl ((Chg.refl [] _).alloc _) hr8 hg8.chg hg8.fresh rfl
            have v1 := hH8.cell (i := 2) rfl 1
            have vf := hH8.free (i := 2) rfl
            have t0 := hH8.cell (i := 0) rfl 0
            simp only [List.set_cons_zero, List.set_cons_succ, List.getElem?_toArray, List.getElem?_cons_zero, List.getElem?_cons_succ] at v1 t0
            have hP8 := hH8.put 2 rfl 1 (.slice ao8 (n + 1) cap8) rfl
            simp only [List.set_cons_zero, List.set_cons_succ, List.setIfInBounds_toArray] at hP8
            have HG8 := hid hP8
            clear hrow hr8 hg8 hH8 hP8
            go_wp2_with fail
            go_roundg (gk - 1)
            case measure => omega
            case rel =>
              refine ⟨i + 1, n + 1, ao8, cap8, r8, by omega, by go_num, by omega, hid ?_, hid ?_⟩
              · rw [HX.out, HA.out, List.length_append, HN.out]; rfl
              · have h9 := HG8.out.sub (.cons _ (.refl _))
                rw [HX.out, HA.out]
                simpa only [List.flatMap_append, List.flatMap_cons, List.flatMap_nil, List.append_nil, List.append_assoc, itC, yItem, yU] using h9
          · have z0 : (i : Int).tmod 2 = (i : Int) % 2 := Int.tmod_eq_emod_of_nonneg (by omega)
            have z1 : ((i : Int).tmod 2 == 0) = false := by rw [z0]; simp; omega
            have z2 : decide ((i : Int).tmod 2 = 0) = false := decide_eq_false (by omega)
            have z3 : ((i : Int) % 2 == 0) = false := by simp; omega
            have z4 : decide ((i : Int) % 2 = 0) = false := decide_eq_false (by omega)
            have HA := hid (show dblAt i x = [x] from by unfold dblAt; rw [if_neg h0, if_neg (fun h => h2 h.2)])
            clear h0 h2 z0
            have t0 := HH1.out.cell (i := 0) rfl 0
            have t1 := HH1.out.cell (i := 0) rfl 1
            have t2 := HH1.out.cell (i := 0) rfl 2
            have t3 := HH1.out.cell (i := 0) rfl 3
            have t4 := HH1.out.cell (i := 0) rfl 4
            have t5 := HH1.out.cell (i := 0) rfl 5
            have t6 := HH1.out.cell (i := 0) rfl 6
            have t7 := HH1.out.cell (i := 0) rfl 7
            have t8 := HH1.out.cell (i := 0) rfl 8
            have t9 := HH1.out.cell (i := 0) rfl 9
            have v1 := HH1.out.cell (i := 2) rfl 1
            simp only [List.getElem?_toArray, List.getElem?_cons_zero, List.getElem?_cons_succ] at t0 t1 t2 t3 t4 t5 t6 t7 t8 t9 v1
            have tf := HH1.out.free (i := 0) rfl
            have hrow := HH1.out.rowAt (i := 1) rfl
            go_wp2_with (first | (go_at_call 23; refine (led_calls _ _).mono ?_; rintro e w' ⟨rfl, hw9⟩; rw [hw9, hL]; clear hw9) | (at_builtin; refine wpList_grew rfl _ _ 46 rfl elem_itm rfl (hrow.keep ((Chg.refl [] _).alloc _) (by simp)) rfl (View.structAt w4 [.int .i64 x.op, .int .i64 x.a, .int .i64 x.b, .int .i64 x.c, .int .i64 x.n, .string x.name, .int .i64 x.p1, .int .i64 x.p2, .int .i64 x.q1, .int .i64 x.q2] 55 rfl rfl) (by simp [Value.oneCell']) (by unfold maxLen; omega) (by omega) (fun ao8 cap8 r8 w8 hr8 hg8 => halt (fun X hX => ?_))))
            rw [hX.out]; clear hX
            have hH8 := HH1.out.grow 1 rfl ((Chg.refl [] _).alloc _) hr8 hg8.chg hg8.fresh rfl
            have v1 := hH8.cell (i := 2) rfl 1
            have vf := hH8.free (i := 2) rfl
            have t0 := hH8.cell (i := 0) rfl 0
            simp only [List.set_cons_zero, List.set_cons_succ, List.getElem?_toArray, List.getElem?_cons_zero, List.getElem?_cons_succ] at v1 t0
            have hP8 := hH8.put 2 rfl 1 (.slice ao8 (n + 1) cap8) rfl
            simp only [List.set_cons_zero, List.set_cons_succ, List.setIfInBounds_toArray] at hP8
            have HG8 := hid hP8
            clear hrow hr8 hg8 hH8 hP8
            go_wp2_with fail
            go_roundg (gk - 1)
            case measure => omega
            case rel =>
              refine ⟨i + 1, n + 1, ao8, cap8, r8, by omega, by go_num, by omega, hid ?_, hid ?_⟩
              · rw [HX.out, HA.out, List.length_append, HN.out]; rfl
              · have h9 := HG8.out.sub (.cons _ (.refl _))
                rw [HX.out, HA.out]
                simpa only [List.flatMap_append, List.flatMap_cons, List.flatMap_nil, List.append_nil, List.append_assoc, itC, yItem, yU] using h9
        | false =>
          have HA := hid (show dblAt i x = [x] from by unfold dblAt; rw [if_neg h0, if_neg (fun h => by rw [hL] at h; cases h.1)])
          clear h0
          have t0 := HH1.out.cell (i := 0) rfl 0
          have t1 := HH1.out.cell (i := 0) rfl 1
          have t2 := HH1.out.cell (i := 0) rfl 2
          have t3 := HH1.out.cell (i := 0) rfl 3
          have t4 := HH1.out.cell (i := 0) rfl 4
          have t5 := HH1.out.cell (i := 0) rfl 5
          have t6 := HH1.out.cell (i := 0) rfl 6
          have t7 := HH1.out.cell (i := 0) rfl 7
          have t8 := HH1.out.cell (i := 0) rfl 8
          have t9 := HH1.out.cell (i := 0) rfl 9
          have v1 := HH1.out.cell (i := 2) rfl 1
          simp only [List.getElem?_toArray, List.getElem?_cons_zero, List.getElem?_cons_succ] at t0 t1 t2 t3 t4 t5 t6 t7 t8 t9 v1
          have tf := HH1.out.free (i := 0) rfl
          have hrow := HH1.out.rowAt (i := 1) rfl
          go_wp2_with (first | (go_at_call 23; refine (led_calls _ _).mono ?_; rintro e w' ⟨rfl, hw9⟩; rw [hw9, hL]; clear hw9) | (at_builtin; refine wpList_grew rfl _ _ 46 rfl elem_itm rfl (hrow.keep ((Chg.refl [] _).alloc _) (by simp)) rfl (View.structAt w4 [.int .i64 x.op, .int .i64 x.a, .int .i64 x.b, .int .i64 x.c, .int .i64 x.n, .string x.name, .int .i64 x.p1, .int .i64 x.p2, .int .i64 x.q1, .int .i64 x.q2] 55 rfl rfl) (by simp [Value.oneCell']) (by unfold maxLen; omega) (by omega) (fun ao8 cap8 r8 w8 hr8 hg8 => halt (fun X hX => ?_))))
          rw [hX.out]; clear hX
          have hH8 := HH1.out.grow 1 rfl ((Chg.refl [] _).alloc _) hr8 hg8.chg hg8.fresh rfl
          have v1 := hH8.cell (i := 2) rfl 1
          have vf := hH8.free (i := 2) rfl
          have t0 := hH8.cell (i := 0) rfl 0
          simp only [List.set_cons_zero, List.set_cons_succ, List.getElem?_toArray, List.getElem?_cons_zero, List.getElem?_cons_succ] at v1 t0
          have hP8 := hH8.put 2 rfl 1 (.slice ao8 (n + 1) cap8) rfl
          simp only [List.set_cons_zero, List.set_cons_succ, List.setIfInBounds_toArray] at hP8
          have HG8 := hid hP8
          clear hrow hr8 hg8 hH8 hP8
          go_wp2_with fail
          go_roundg (gk - 1)
          case measure => omega
          case rel =>
            refine ⟨i + 1, n + 1, ao8, cap8, r8, by omega, by go_num, by omega, hid ?_, hid ?_⟩
            · rw [HX.out, HA.out, List.length_append, HN.out]; rfl
            · have h9 := HG8.out.sub (.cons _ (.refl _))
              rw [HX.out, HA.out]
              simpa only [List.flatMap_append, List.flatMap_cons, List.flatMap_nil, List.append_nil, List.append_assoc, itC, yItem, yU] using h9
    · obtain rfl : i = D := by omega
      have q1 := (((H.out.put 2 rfl 0 (.string nm) rfl).put 2 rfl 1 (.slice ao n cap) rfl).put 2 rfl 2 (.int .i64 l1) rfl).put 2 rfl 3 (.int .i64 l2) rfl
      simp only [List.set_cons_zero, List.set_cons_succ, List.setIfInBounds_toArray] at q1
      have HQ := hid q1
      have c0 := H.out.cell (i := 1) rfl 0
      have c1 := H.out.cell (i := 1) rfl 1
      have c2 := H.out.cell (i := 1) rfl 2
      have c3 := H.out.cell (i := 1) rfl 3
      have z0 := H.out.cell (i := 2) rfl 0
      have z1 := H.out.cell (i := 2) rfl 1
      have z2 := H.out.cell (i := 2) rfl 2
      have z3 := H.out.cell (i := 2) rfl 3
      have zf := H.out.free (i := 2) rfl
      simp only [List.getElem?_toArray, List.getElem?_cons_zero, List.getElem?_cons_succ] at c0 c1 c2 c3 z0 z1 z2 z3
      clear q1
      go_wp2_with fail
      obtain ⟨wC, hwC⟩ : ∃ wC, ((((wr.setCell ⟨w.heap.size + 1, 0, none⟩ (.string nm)).setCell ⟨w.heap.size + 1, 1, none⟩ (.slice ao n cap)).setCell ⟨w.heap.size + 1, 2, none⟩ (.int .i64 l1)).setCell ⟨w.heap.size + 1, 3, none⟩ (.int .i64 l2)) = wC := ⟨_, rfl⟩
      rw [hwC] at HQ
      try rw [hwC]
      clear hwC
      have d0 := HQ.out.cell (i := 2) rfl 0
      have d1 := HQ.out.cell (i := 2) rfl 1
      have d2 := HQ.out.cell (i := 2) rfl 2
      have d3 := HQ.out.cell (i := 2) rfl 3
      simp only [List.getElem?_toArray, List.getElem?_cons_zero, List.getElem?_cons_succ] at d0 d1 d2 d3
      refine bodyPost_ret (v := .agg #[.string nm, .slice ao n cap, .int .i64 l1, .int .i64 l2]) (by simp [results, Try.results16, go_sem, d0, d1, d2, d3]) rfl ⟨_, r, rfl, ?_, HQ.out.chg, fun g hg => .inr ?_⟩
      · rw [HN.out]
        exact HQ.out.rowAt (i := 0) rfl
      · exact HQ.out.lo _ (List.mem_cons_self ..) g hg
end Go.Proofs.Ytaknmhipaifdkaa
