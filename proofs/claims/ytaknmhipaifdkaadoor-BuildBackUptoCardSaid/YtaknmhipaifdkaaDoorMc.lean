/- Walks of the builder: block, a thread as a block. -/
import Derived.Test.YtaknmhipaifdkaaDoorMb
set_option linter.unusedSimpArgs false
set_option linter.unusedVariables false
set_option linter.unusedSectionVars false
namespace Go.AB
open Go.RowKit
theorem Hp.front1 {S0 : List Nat} {w0 w : World} {x a b : It} {R : List It} (h : Hp S0 w0 w (x :: a :: b :: R)) : Hp S0 w0 w (a :: b :: R) := h.sub (.cons _ (.refl _))
end Go.AB
namespace Go.Proofs.YtaknmhipaifdkaaDoor
open Go.RowKit Go.AB

theorem blockP_none {w w' : World} (h : Chg [] w w') : BlockP w none (.returned (.tuple #[.agg #[.string ⟨#[]⟩, .slice none 0 0, .int .i64 0, .int .i64 0], .bool false])) w' := ⟨rfl, h⟩
theorem blockP_some {w w' : World} {k : BkD} {v' : Value} {r : Option Nat} (h1 : Row w' 82 10 v' r k.items.length (k.items.flatMap itC)) (h2 : Chg [] w w') (h3 : Fresh w none r) : BlockP w (some k) (.returned (.tuple #[.agg #[.string k.name, v', .int .i64 0, .int .i64 0], .bool true])) w' := ⟨v', r, rfl, h1, h2, h3⟩

set_option maxHeartbeats 16000000 in
set_option maxRecDepth 100000 in
theorem block_calls {v vc vp : Value} {p : PrgD} {t : ThrD} (w : World) (hv : PrgV w v p) (hp : SmallP p) (htab : Pow10 w) (hcode : Lst insC 5 w vc t.code) (hpl : Lst plcC 2 w vp t.places) (hlen : t.code.length ≤ 524288) : Calls Tryd.prog 19 #[v, .agg #[.string t.name, vc, vp]] w (BlockP w (blockD decS p t)) := by
  obtain ⟨x0, n0, c0, x1, n1, c1, x2, n2, c2, x3, n3, c3, x4, n4, c4, ts, rfl, hb⟩ := prgv_boxed hv
  obtain ⟨ac, cc, rfl, hcc, -⟩ := hcode.len
  obtain ⟨apl, cpl, rfl, -⟩ := hpl.len
  obtain ⟨np, hnp⟩ : ∃ np, t.places.length = np := ⟨_, rfl⟩
  rw [hnp]
  obtain ⟨n, hn⟩ : ∃ n, t.code.length = n := ⟨_, rfl⟩
  have hcode1 : Lst insC 5 w (.slice ac n cc) t.code := by rw [← hn]; exact hcode
  rw [hn] at hcc hlen ⊢
  obtain ⟨E, hE⟩ : ∃ E, blockD decS p t = E := ⟨_, rfl⟩
  rw [hE]
  unfold blockD at hE
  have hh := (((Hp.start (S0 := []) w (by simp)).box (.cells #[.slice x0 n0 c0, .slice x1 n1 c1, .slice x2 n2 c2, .slice x3 n3 c3, .slice x4 n4 c4] 32)).box (.cells #[.string t.name, .slice ac n cc, .slice apl np cpl] 50)).box (.cells #[.string ⟨#[]⟩, .slice none 0 0, .int .i64 0, .int .i64 0] 56)
  simp only [World.size_alloc] at hh
  obtain ⟨wA, hwA⟩ : ∃ wA, ((w.alloc (.cells #[.slice x0 n0 c0, .slice x1 n1 c1, .slice x2 n2 c2, .slice x3 n3 c3, .slice x4 n4 c4] 32)).alloc (.cells #[.string t.name, .slice ac n cc, .slice apl np cpl] 50)).alloc (.cells #[.string ⟨#[]⟩, .slice none 0 0, .int .i64 0, .int .i64 0] 56) = wA := ⟨_, rfl⟩
  rw [hwA] at hh
  have hsA : wA.heap.size = w.heap.size + 3 := by rw [← hwA]; simp
  have HWA := hid hwA
  have HH := hid hh
  have HTAB := hid (fun W (h : Chg [] w W) => htab.keep h)
  have HCODE := hid (fun W (h : Chg [] w W) => hcode1.keep h)
  have HPV := hid (fun W (h : Chg [] w W) => hv.keep h)
  have HSP := hid hp
  have HN := hid hn
  have HE := hid hE
  have hmk := mk_strs wA n (by omega)
  have t1 := hh.cell (i := 1) rfl 1
  simp only [List.getElem?_toArray, List.getElem?_cons_zero, List.getElem?_cons_succ] at t1
  have hH0 := hh.fresh (w' := wA.alloc (.cells ((List.replicate n (⟨#[]⟩ : ByteArray)).flatMap strC).toArray 9)) ((Chg.refl [] wA).alloc _) (Row.made wA 9 1 n ((List.replicate n (⟨#[]⟩ : ByteArray)).flatMap strC) rfl (by rw [flat_len strC_len, List.length_replicate]) (by unfold maxLen; omega)) (fun g hg => .inr (by simp only [Option.some.injEq] at hg; omega))
  rw [show List.replicate n (⟨#[]⟩ : ByteArray) = m1 t.code 0 from by rw [m1_zero, hn]; rfl] at hH0 hmk
  have HH0 := hid hH0
  obtain ⟨bm, hbm⟩ : ∃ bm, wA.heap.size = bm := ⟨_, rfl⟩
  rw [hbm] at HH0
  have HBM := hid hbm
  obtain ⟨M0, hM0⟩ : ∃ M0, ((m1 t.code 0).flatMap strC).toArray = M0 := ⟨_, rfl⟩
  rw [hM0] at hmk HH0
  clear hv hb hcode hpl hcode1 htab hh hp hn hnp hE hH0 hwA hsA hM0 hbm
  have t1' := HH0.out.cell (i := 2) rfl 1
  simp only [List.getElem?_toArray, List.getElem?_cons_zero, List.getElem?_cons_succ] at t1'
  go_enter Tryd.func19, Tryd.ntmps19
  go_upto_region 1 with fail
  rw [HWA.out]
  go_upto_region 3 with fail
  rw [HBM.out]
  clear t1 t1' hmk
  go_loopg [25] n (fun gk vi wr => ∃ j : Nat, gk + j = n ∧ vi = .int .i64 j ∧ Hid (∀ k, k < j → ∀ x, t.code[k]? = some x → touchB x.op = 6 → 0 ≤ x.n ∧ x.n < (n : Int)) ∧ Hid (Hp [] w wr (.row 9 1 (.slice (some ⟨bm, 0, none⟩) n n) (some bm) n ((m1 t.code j).flatMap strC) :: .box (w.heap.size + 1 + 1) (.cells #[.string ⟨#[]⟩, .slice none 0 0, .int .i64 0, .int .i64 0] 56) :: .box (w.heap.size + 1) (.cells #[.string t.name, .slice ac n cc, .slice apl np cpl] 50) :: .box w.heap.size (.cells #[.slice x0 n0 c0, .slice x1 n1 c1, .slice x2 n2 c2, .slice x3 n3 c3, .slice x4 n4 c4] 32) :: [])))
  case atStart => exact ⟨0, by omega, rfl, hid (fun k hk => absurd hk (Nat.not_lt_zero _)), HH0⟩
  case round =>
    obtain ⟨j, hgj, rfl, HR, H⟩ := hrel
    by_cases hj : j < n
    · have hjc : j < t.code.length := by rw [HN.out]; exact hj
      obtain ⟨x, hx⟩ : ∃ x, t.code[j]'hjc = x := ⟨_, rfl⟩
      have hcl := HCODE.out wr H.out.chg
      rw [show (.slice ac n cc : Value) = .slice ac t.code.length cc from by rw [HN.out]] at hcl
      obtain ⟨b1, o1, e1, q1⟩ := hcl.at insC_len hjc (by omega)
      rw [hx] at q1
      have c0' : wr.cell? ⟨b1, o1 + j * 5, none⟩ = some (.int .i64 x.op) := q1 0 (by omega)
      have c1' : wr.cell? ⟨b1, o1 + j * 5 + 1, none⟩ = some (.int .i64 x.a) := q1 1 (by omega)
      have c2' : wr.cell? ⟨b1, o1 + j * 5 + 2, none⟩ = some (.int .i64 x.b) := q1 2 (by omega)
      have c3' : wr.cell? ⟨b1, o1 + j * 5 + 3, none⟩ = some (.int .i64 x.c) := q1 3 (by omega)
      have c4' : wr.cell? ⟨b1, o1 + j * 5 + 4, none⟩ = some (.int .i64 x.n) := q1 4 (by omega)
      have HX := hid hx
      subst e1
      have hH1 := H.out.box (.cells #[.int .i64 x.op, .int .i64 x.a, .int .i64 x.b, .int .i64 x.c, .int .i64 x.n] 64)
      have HH1 := hid hH1
      clear q1 hcl hx hH1
      go_upto_region 5 with fail
      obtain ⟨w1, hw1⟩ : ∃ w1, wr.alloc (.cells #[.int .i64 x.op, .int .i64 x.a, .int .i64 x.b, .int .i64 x.c, .int .i64 x.n] 64) = w1 := ⟨_, rfl⟩
      obtain ⟨bx, hbx⟩ : ∃ bx, wr.heap.size = bx := ⟨_, rfl⟩
      rw [hw1, hbx] at HH1
      rw [hw1, hbx]
      clear hw1 hbx c0' c1' c2' c3' c4'
      have i0 := HH1.out.cell (i := 0) rfl 0
      have i1 := HH1.out.cell (i := 0) rfl 1
      have i2 := HH1.out.cell (i := 0) rfl 2
      have i3 := HH1.out.cell (i := 0) rfl 3
      have i4 := HH1.out.cell (i := 0) rfl 4
      simp only [List.getElem?_toArray, List.getElem?_cons_zero, List.getElem?_cons_succ] at i0 i1 i2 i3 i4
      have t1 := HH1.out.cell (i := 3) rfl 1
      simp only [List.getElem?_toArray, List.getElem?_cons_zero, List.getElem?_cons_succ] at t1
      by_cases h6 : touchB x.op = 6
      · have z6 : (touchB x.op == 6) = true := by simp [h6]
        by_cases hneg : x.n < 0
        · have y1 : decide (x.n < 0) = true := decide_eq_true hneg
          have hEn : E = none := by
            rw [← HE.out, if_neg]
            intro h
            have := (eqB_prop h x (by rw [← HX.out]; exact List.getElem_mem _) h6).1
            omega
          have q4 := (((HH1.out.put 2 rfl 0 (.string ⟨#[]⟩) rfl).put 2 rfl 1 (.slice none 0 0) rfl).put 2 rfl 2 (.int .i64 0) rfl).put 2 rfl 3 (.int .i64 0) rfl
          simp only [List.set_cons_zero, List.set_cons_succ, List.setIfInBounds_toArray] at q4
          have z0 := HH1.out.cell (i := 2) rfl 0
          have z1 := HH1.out.cell (i := 2) rfl 1
          have z2 := HH1.out.cell (i := 2) rfl 2
          have z3 := HH1.out.cell (i := 2) rfl 3
          have zf := HH1.out.free (i := 2) rfl
          simp only [List.getElem?_toArray, List.getElem?_cons_zero, List.getElem?_cons_succ] at z0 z1 z2 z3
          have Q4 := hid q4
          clear q4
          clear h6 hneg
          go_wp2_with (go_at_call 29; refine (touches_calls _ _).mono ?_; rintro e w' ⟨rfl, hw9⟩; rw [← hw9]; clear hw9)
          obtain ⟨wZ, hwZ⟩ : ∃ wZ, ((((w1.setCell ⟨w.heap.size + 1 + 1, 0, none⟩ (.string ⟨#[]⟩)).setCell ⟨w.heap.size + 1 + 1, 1, none⟩ (.slice none 0 0)).setCell ⟨w.heap.size + 1 + 1, 2, none⟩ (.int .i64 0)).setCell ⟨w.heap.size + 1 + 1, 3, none⟩ (.int .i64 0)) = wZ := ⟨_, rfl⟩
          rw [hwZ] at Q4
          try rw [hwZ]
          have d0 := Q4.out.cell (i := 2) rfl 0
          have d1 := Q4.out.cell (i := 2) rfl 1
          have d2 := Q4.out.cell (i := 2) rfl 2
          have d3 := Q4.out.cell (i := 2) rfl 3
          simp only [List.getElem?_toArray, List.getElem?_cons_zero, List.getElem?_cons_succ] at d0 d1 d2 d3
          subst hEn
          exact bodyPost_ret (v := .tuple #[.agg #[.string ⟨#[]⟩, .slice none 0 0, .int .i64 0, .int .i64 0], .bool false]) (by simp [results, Tryd.results19, go_sem, d0, d1, d2, d3]) rfl (blockP_none Q4.out.chg)
        · have y1 : decide (x.n < 0) = false := decide_eq_false hneg
          by_cases hbig : (n : Int) ≤ x.n
          · have y2 : decide ((n : Int) ≤ x.n) = true := decide_eq_true hbig
            have hEn : E = none := by
              rw [← HE.out, if_neg]
              intro h
              have := (eqB_prop h x (by rw [← HX.out]; exact List.getElem_mem _) h6).2
              rw [HN.out] at this
              omega
            have q4 := (((HH1.out.put 2 rfl 0 (.string ⟨#[]⟩) rfl).put 2 rfl 1 (.slice none 0 0) rfl).put 2 rfl 2 (.int .i64 0) rfl).put 2 rfl 3 (.int .i64 0) rfl
            simp only [List.set_cons_zero, List.set_cons_succ, List.setIfInBounds_toArray] at q4
            have z0 := HH1.out.cell (i := 2) rfl 0
            have z1 := HH1.out.cell (i := 2) rfl 1
            have z2 := HH1.out.cell (i := 2) rfl 2
            have z3 := HH1.out.cell (i := 2) rfl 3
            have zf := HH1.out.free (i := 2) rfl
            simp only [List.getElem?_toArray, List.getElem?_cons_zero, List.getElem?_cons_succ] at z0 z1 z2 z3
            have Q4 := hid q4
            clear q4
            clear h6 hneg hbig
            go_wp2_with (go_at_call 29; refine (touches_calls _ _).mono ?_; rintro e w' ⟨rfl, hw9⟩; rw [← hw9]; clear hw9)
            obtain ⟨wZ, hwZ⟩ : ∃ wZ, ((((w1.setCell ⟨w.heap.size + 1 + 1, 0, none⟩ (.string ⟨#[]⟩)).setCell ⟨w.heap.size + 1 + 1, 1, none⟩ (.slice none 0 0)).setCell ⟨w.heap.size + 1 + 1, 2, none⟩ (.int .i64 0)).setCell ⟨w.heap.size + 1 + 1, 3, none⟩ (.int .i64 0)) = wZ := ⟨_, rfl⟩
            rw [hwZ] at Q4
            try rw [hwZ]
            have d0 := Q4.out.cell (i := 2) rfl 0
            have d1 := Q4.out.cell (i := 2) rfl 1
            have d2 := Q4.out.cell (i := 2) rfl 2
            have d3 := Q4.out.cell (i := 2) rfl 3
            simp only [List.getElem?_toArray, List.getElem?_cons_zero, List.getElem?_cons_succ] at d0 d1 d2 d3
            subst hEn
            exact bodyPost_ret (v := .tuple #[.agg #[.string ⟨#[]⟩, .slice none 0 0, .int .i64 0, .int .i64 0], .bool false]) (by simp [results, Tryd.results19, go_sem, d0, d1, d2, d3]) rfl (blockP_none Q4.out.chg)
          · have y2 : decide ((n : Int) ≤ x.n) = false := decide_eq_false hbig
            obtain ⟨N, hN⟩ : ∃ N : Nat, x.n = (N : Int) := ⟨x.n.toNat, by omega⟩
            have hNn : N < n := by omega
            have hbd : 0 ≤ x.n ∧ x.n < (n : Int) := by omega
            have HBD := hid hbd
            have HN6 := hid (And.intro hN h6)
            rw [hN] at i4 y1 y2
            have y3 : decide (n ≤ N) = false := decide_eq_false (by omega)
            have g1 := Row.atf strC_len (HH1.out.rowAt (i := 1) rfl) (by rw [m1_len, HN.out]) (i := N) (by rw [m1_len, HN.out]; exact hNn) (j := 0) (by omega)
            rw [Nat.mul_one] at g1
            have g0 : w1.cell? ⟨bm, N, none⟩ = some (.string ((m1 t.code j)[N]'(by rw [m1_len, HN.out]; exact hNn))) := g1
            clear g1
            have gf := (Row.cellk (HH1.out.rowAt (i := 1) rfl)).2.1
            have hf := HH1.out.putf strC_len 1 rfl (i := N) (by rw [m1_len, HN.out]; exact hNn) lS (j := 0) (by omega) (u := .string ⟨#[108]⟩) (by rfl) rfl
            simp only [List.set_cons_zero, List.set_cons_succ] at hf
            rw [m1_set t.code (by rw [HN.out]; exact hj) (by rw [HX.out]; exact h6) (by rw [HX.out]; exact hN) (by rw [HN.out]; exact hNn), Nat.mul_one] at hf
            have HF := hid (hf.sub (.cons _ (.refl _)))
            clear hf hneg hbig hbd hN h6
            go_wp2_with (go_at_call 29; refine (touches_calls _ _).mono ?_; rintro e w' ⟨rfl, hw9⟩; rw [← hw9]; clear hw9)
            go_roundg (gk - 1)
            case measure => omega
            case rel =>
              refine ⟨j + 1, by omega, by go_num, hid (fun k hk y hy h6 => ?_), HF⟩
              rcases Nat.lt_succ_iff_lt_or_eq.1 hk with hk | rfl
              · exact HR.out k hk y hy h6
              · rw [List.getElem?_eq_getElem hjc, HX.out] at hy
                cases hy
                exact HBD.out
      · have z6 : (touchB x.op == 6) = false := by simp [h6]
        have hm : m1 t.code (j + 1) = m1 t.code j := m1_no t.code hjc (by rw [HX.out]; exact h6)
        have HM := hid hm
        have HN6 := hid h6
        clear hm h6
        go_wp2_with (go_at_call 29; refine (touches_calls _ _).mono ?_; rintro e w' ⟨rfl, hw9⟩; rw [← hw9]; clear hw9)
        go_roundg (gk - 1)
        case measure => omega
        case rel =>
          refine ⟨j + 1, by omega, by go_num, hid (fun k hk y hy h6 => ?_), hid ?_⟩
          · rcases Nat.lt_succ_iff_lt_or_eq.1 hk with hk | rfl
            · exact HR.out k hk y hy h6
            · rw [List.getElem?_eq_getElem hjc, HX.out] at hy
              cases hy
              exact absurd h6 HN6.out
          · rw [HM.out]
            exact HH1.out.sub (.cons _ (.refl _))
    · obtain rfl : j = n := by omega
      have hIR : inRange t.code := fun x hx h6 => by
        obtain ⟨k, hk, rfl⟩ := List.mem_iff_getElem.1 hx
        have := HR.out k (by rw [← HN.out]; exact hk) _ (List.getElem?_eq_getElem hk) h6
        rw [HN.out]
        exact this
      have hE2 := HE.out
      rw [if_pos (eqB_true hIR)] at hE2
      have HE2 := hid hE2
      have HIR := hid hIR
      have h1 := H.out
      rw [← HN.out, m2_zero, HN.out] at h1
      have HM0 := hid h1
      have hHT := fun W (h : Chg [] w W) => HTAB.out W h
      clear hIR hE2 h1 HR HE
      go_upto_region 12 with fail
      go_loopg [52, 9] j (fun gk vi vk wr => ∃ i : Nat, gk + i = j ∧ vi = .int .i64 i ∧ vk = .int .i64 (lblN t.code i : Nat) ∧ Hid (Hp [] w wr (.row 9 1 (.slice (some ⟨bm, 0, none⟩) j j) (some bm) j ((m2 t.code i).flatMap strC) :: .box (w.heap.size + 1 + 1) (.cells #[.string ⟨#[]⟩, .slice none 0 0, .int .i64 0, .int .i64 0] 56) :: .box (w.heap.size + 1) (.cells #[.string t.name, .slice ac j cc, .slice apl np cpl] 50) :: .box w.heap.size (.cells #[.slice x0 n0 c0, .slice x1 n1 c1, .slice x2 n2 c2, .slice x3 n3 c3, .slice x4 n4 c4] 32) :: [])))
      case atStart => exact ⟨0, by omega, rfl, rfl, HM0⟩
      case round =>
        obtain ⟨i, hgi, rfl, rfl, H⟩ := hrel
        by_cases hi : i < j
        · have hic : i < t.code.length := by rw [HN.out]; exact hi
          have g1 := Row.atf strC_len (H.out.rowAt (i := 0) rfl) (by rw [m2_len, HN.out]) (i := i) (by rw [m2_len]; exact hic) (j := 0) (by omega)
          rw [m2_at t.code hic, Nat.mul_one] at g1
          have gf := (Row.cellk (H.out.rowAt (i := 0) rfl)).2.1
          by_cases ht : isTgt t.code i = true
          · rw [if_pos ht] at g1
            obtain ⟨s, hs⟩ : ∃ s, lS = s := ⟨_, rfl⟩
            rw [hs] at g1
            have g0 : wr.cell? ⟨bm, i, none⟩ = some (.string s) := g1
            have t1 : s.toList.isEmpty = false := by rw [isEmpty_size, ← hs]; exact decide_eq_false lS_ne
            have t2 : ¬ s.toList = [] := by intro e; rw [e] at t1; simp at t1
            have hss : s.size ≤ 1 := by rw [← hs]; decide
            obtain ⟨K, hK⟩ : ∃ K, lblN t.code i = K := ⟨_, rfl⟩
            have hKi : K ≤ i := by rw [← hK]; exact lblN_lt t.code
            rw [hK]
            have hds := digs_len (u := K) (by omega)
            have hadd : ¬ (9223372036854775807 < s.size + (decS K).size) := by omega
            have HIT := hid (fun W (h : Chg [] w W) => itoa_calls K (by omega) W (hHT W h))
            have HS := hid (And.intro hs (And.intro hK ht))
            have hcw := H.out.chg
            clear g1 hs hK ht
            go_upto_region 15 with fail
            (refine wp_region_held_drew (S := (fun w' => True)) (by kernel_rfl) (by exact trivial) (fun hHeld => ?_); (refine wpAnyH_take (i := 0) (v := ?_) rfl (by kernel_rfl) (by kernel_rfl) (by kernel_rfl) (fun _ _ _ h => h) (Or.inl ⟨by rfl, ?_⟩) (by assumption) ?_; rotate_left 1; (focus (intro w hSw; (try dsimp only at hSw); go_simp; (try with_reducible rfl))); (try simp only [List.getElem_toArray, List.getElem_cons_zero, List.getElem_cons_succ, Act.put, List.setIfInBounds_toArray, List.set_cons_zero, List.set_cons_succ])); (refine wpAnyH_take (i := 1) (v := ?_) rfl (by kernel_rfl) (by kernel_rfl) (by kernel_rfl) (fun _ _ _ h => h) (Or.inl ⟨by rfl, ?_⟩) (by assumption) ?_; rotate_left 1; (focus (intro w hSw; (try dsimp only at hSw); go_simp; (try with_reducible rfl))); (try simp only [List.getElem_toArray, List.getElem_cons_zero, List.getElem_cons_succ, Act.put, List.setIfInBounds_toArray, List.set_cons_zero, List.set_cons_succ])); (refine wpAnyH_take (i := 2) (v := ?_) rfl (by kernel_rfl) (by kernel_rfl) (by kernel_rfl) (fun _ _ _ h => h) (Or.inl ⟨by rfl, ?_⟩) (by assumption) ?_; rotate_left 1; (focus (intro w hSw; (try dsimp only at hSw); go_simp; (try with_reducible rfl))); (try simp only [List.getElem_toArray, List.getElem_cons_zero, List.getElem_cons_succ, Act.put, List.setIfInBounds_toArray, List.set_cons_zero, List.set_cons_succ])); (refine wpAnyH_take (i := 4) (v := ?_) rfl (by kernel_rfl) (by kernel_rfl) (by kernel_rfl) (fun _ _ _ h => h) (Or.inl ⟨by rfl, ?_⟩) (by assumption) ?_; rotate_left 1; (focus (intro w hSw; (try dsimp only at hSw); go_simp; (try with_reducible rfl))); (try simp only [List.getElem_toArray, List.getElem_cons_zero, List.getElem_cons_succ, Act.put, List.setIfInBounds_toArray, List.set_cons_zero, List.set_cons_succ])); (refine wpAnyH_ready (rs := [3, 5]) (by kernel_rfl) (by simp) ?_; refine AllReadyH.cons rfl (fun K hK => ?_) (AllReadyH.cons rfl (fun K hK => ?_) AllReadyH.nil)); (focus (go_simp; (refine hK.out _ _ (by exact trivial) (fun hHeld => ?_); clear hK K; (try simp only [List.getElem_toArray, List.getElem_cons_zero, List.getElem_cons_succ, Act.put, List.setIfInBounds_toArray, List.set_cons_zero, List.set_cons_succ])); (refine wpAnyH_ready (rs := [5]) (by kernel_rfl) (by simp) ?_; refine AllReadyH.cons rfl (fun K hK => ?_) AllReadyH.nil; go_simp; go_at_call 30; refine (HIT.out _ (hcw.trans' (Chg.refl [] wr).drew)).mono ?_; rintro e w2 ⟨rfl, hc2⟩; have g2 := hc2.cell g0 (by simp); (refine hK.out _ _ (by exact trivial) (fun hHeld => ?_); clear hK K; (try simp only [List.getElem_toArray, List.getElem_cons_zero, List.getElem_cons_succ, Act.put, List.setIfInBounds_toArray, List.set_cons_zero, List.set_cons_succ]))))); rotate_left 1; (focus (go_simp; go_at_call 30; refine (HIT.out _ (hcw.trans' (Chg.refl [] wr).drew)).mono ?_; rintro e w2 ⟨rfl, hc2⟩; have g2 := hc2.cell g0 (by simp); (refine hK.out _ _ (by exact trivial) (fun hHeld => ?_); clear hK K; (try simp only [List.getElem_toArray, List.getElem_cons_zero, List.getElem_cons_succ, Act.put, List.setIfInBounds_toArray, List.set_cons_zero, List.set_cons_succ])); (refine wpAnyH_ready (rs := [3]) (by kernel_rfl) (by simp) ?_; refine AllReadyH.cons rfl (fun K hK => ?_) AllReadyH.nil; go_simp; (refine hK.out _ _ (by exact trivial) (fun hHeld => ?_); clear hK K; (try simp only [List.getElem_toArray, List.getElem_cons_zero, List.getElem_cons_succ, Act.put, List.setIfInBounds_toArray, List.set_cons_zero, List.set_cons_succ]))))); (all_goals ((refine wpAnyH_take (i := 6) (v := ?_) rfl (by kernel_rfl) (by kernel_rfl) (by kernel_rfl) (fun _ _ _ h => h) (Or.inl ⟨by rfl, ?_⟩) (by assumption) ?_; rotate_left 1; (focus (intro w hSw; (try dsimp only at hSw); go_simp; (try with_reducible rfl))); (try simp only [List.getElem_toArray, List.getElem_cons_zero, List.getElem_cons_succ, Act.put, List.setIfInBounds_toArray, List.set_cons_zero, List.set_cons_succ])); (refine wpAnyH_take (i := 7) (v := ?_) rfl (by kernel_rfl) (by kernel_rfl) (by kernel_rfl) (fun _ _ _ h => h) (Or.inl ⟨by rfl, ?_⟩) (by assumption) ?_; rotate_left 1; (focus (intro w hSw; (try dsimp only at hSw); go_simp; (try with_reducible rfl))); (try simp only [List.getElem_toArray, List.getElem_cons_zero, List.getElem_cons_succ, Act.put, List.setIfInBounds_toArray, List.set_cons_zero, List.set_cons_succ])); (refine wpAnyH_ready (rs := [8]) (by kernel_rfl) (by simp) ?_; refine AllReadyH.cons rfl (fun K hK => ?_) AllReadyH.nil; go_simp; (have gf2 := (Row.cellk ((H.out.same ((Chg.refl [] wr).drew.trans' hc2)).rowAt (i := 0) rfl)).2.1; go_simp); (refine hK.out _ _ (by exact trivial) (fun hHeld => ?_); clear hK K; (try simp only [List.getElem_toArray, List.getElem_cons_zero, List.getElem_cons_succ, Act.put, List.setIfInBounds_toArray, List.set_cons_zero, List.set_cons_succ]))); refine wpAnyH_done (by kernel_rfl) ?_ _)))
            all_goals
              have hf := (H.out.same ((Chg.refl [] wr).drew.trans' hc2)).putf strC_len 0 rfl (i := i) (by rw [m2_len]; exact hic) (lblS decS t.code i) (j := 0) (by omega) (u := .string (s ++ decS K)) (by unfold lblS; rw [HS.out.2.1, ← HS.out.1]; rfl) rfl
              simp only [List.set_cons_zero] at hf
              rw [m2_set t.code hic HS.out.2.2, Nat.mul_one] at hf
              have HF := hid hf
              have hlk : lblN t.code (i + 1) = K + 1 := by rw [lblN_succ, HS.out.2.1, if_pos HS.out.2.2]
              have HLK := hid hlk
              clear hf hlk
              go_wp2_with fail
              go_roundg (gk - 1)
              case measure => omega
              case rel => exact ⟨i + 1, by omega, by go_num, by rw [HLK.out]; go_num, HF⟩
          · rw [if_neg ht] at g1
            obtain ⟨s, hs⟩ : ∃ s, eS = s := ⟨_, rfl⟩
            rw [hs] at g1
            have g0 : wr.cell? ⟨bm, i, none⟩ = some (.string s) := g1
            have t1 : s.toList.isEmpty = true := by rw [isEmpty_size, ← hs]; rfl
            have t2 : s.toList = [] := by simpa using t1
            have hm := m2_no t.code ht
            have hlk : lblN t.code (i + 1) = lblN t.code i := by rw [lblN_succ, if_neg ht]; rfl
            have HLK := hid (And.intro hm hlk)
            clear g1 hs ht hm hlk
            go_wp2_with fail
            go_roundg (gk - 1)
            case measure => omega
            case rel => exact ⟨i + 1, by omega, by go_num, by rw [HLK.out.2], hid (by rw [HLK.out.1]; exact H.out)⟩
        · obtain rfl : i = j := by omega
          obtain ⟨n, hnn⟩ : ∃ n, n = i := ⟨_, rfl⟩
          subst hnn
          have hp0 := H.out.box (.cells #[.string t.name, .slice none 0 0, .int .i64 0, .int .i64 0] 56)
          have t0 := H.out.cell (i := 2) rfl 0
          have t1 := H.out.cell (i := 2) rfl 1
          have t1' := hp0.cell (i := 3) rfl 1
          simp only [List.getElem?_toArray, List.getElem?_cons_zero, List.getElem?_cons_succ] at t0 t1 t1'
          have HP0 := hid (hp0.nil 82 10)
          clear hp0
          go_upto_region 20 with fail
          obtain ⟨wB, hwB⟩ : ∃ wB, wr.alloc (.cells #[.string t.name, .slice none 0 0, .int .i64 0, .int .i64 0] 56) = wB := ⟨_, rfl⟩
          obtain ⟨bb, hbb⟩ : ∃ bb, wr.heap.size = bb := ⟨_, rfl⟩
          rw [hwB, hbb] at HP0
          rw [hwB, hbb]
          clear hwB hbb t0 t1 t1'
          go_loopg [76] n (fun gk vi wr => ∃ (q len : Nat) (ao : Option Addr) (cap : Nat) (r : Option Nat) (its : List ItD), gk + q = n ∧ vi = .int .i64 q ∧ len ≤ 2 * q ∧ Hid (its.length = len ∧ (itemsGo decS p t.code q (t.code.drop q)).map (fun l => (⟨t.name, its ++ l, 0, 0⟩ : BkD)) = E) ∧
            Hid (Hp [] w wr (.row 82 10 (.slice ao len cap) r len (its.flatMap itC) :: .box bb (.cells #[.string t.name, .slice ao len cap, .int .i64 0, .int .i64 0] 56) :: .row 9 1 (.slice (some ⟨bm, 0, none⟩) n n) (some bm) n ((m2 t.code t.code.length).flatMap strC) :: .box (w.heap.size + 1 + 1) (.cells #[.string ⟨#[]⟩, .slice none 0 0, .int .i64 0, .int .i64 0] 56) :: .box (w.heap.size + 1) (.cells #[.string t.name, .slice ac n cc, .slice apl np cpl] 50) :: .box w.heap.size (.cells #[.slice x0 n0 c0, .slice x1 n1 c1, .slice x2 n2 c2, .slice x3 n3 c3, .slice x4 n4 c4] 32) :: [])))
          case atStart => exact ⟨0, 0, none, 0, none, [], by omega, rfl, by omega, hid ⟨rfl, HE2.out⟩, hid (by
            have h9 := HP0.out
            have e9 : m2 t.code n = m2 t.code t.code.length := by rw [HN.out]
            rw [e9] at h9
            exact h9)⟩
          case round =>
            obtain ⟨q, len, ao, cap, r, its, hgq, rfl, hlen2, HI, H⟩ := hrel
            by_cases hq : q < n
            · have hqc : q < t.code.length := by rw [HN.out]; exact hq
              obtain ⟨x, hx⟩ : ∃ x, t.code[q]'hqc = x := ⟨_, rfl⟩
              have hcl := HCODE.out wr H.out.chg
              rw [show (.slice ac n cc : Value) = .slice ac t.code.length cc from by rw [HN.out]] at hcl
              obtain ⟨b1, o1, e1, q1⟩ := hcl.at insC_len hqc (by omega)
              rw [hx] at q1
              have c0' : wr.cell? ⟨b1, o1 + q * 5, none⟩ = some (.int .i64 x.op) := q1 0 (by omega)
              have c1' : wr.cell? ⟨b1, o1 + q * 5 + 1, none⟩ = some (.int .i64 x.a) := q1 1 (by omega)
              have c2' : wr.cell? ⟨b1, o1 + q * 5 + 2, none⟩ = some (.int .i64 x.b) := q1 2 (by omega)
              have c3' : wr.cell? ⟨b1, o1 + q * 5 + 3, none⟩ = some (.int .i64 x.c) := q1 3 (by omega)
              have c4' : wr.cell? ⟨b1, o1 + q * 5 + 4, none⟩ = some (.int .i64 x.n) := q1 4 (by omega)
              have hxm : x ∈ t.code := by rw [← hx]; exact List.getElem_mem _
              have HX := hid (And.intro hx hxm)
              have hE3 : (match itemD decS p t.code x with | none => none | some y => match itemsGo decS p t.code (q + 1) (t.code.drop (q + 1)) with | none => none | some l => some ((if isTgt t.code q = true then [labI (lblS decS t.code q), y] else [y]) ++ l)).map (fun l => (⟨t.name, its ++ l, 0, 0⟩ : BkD)) = E := by
                have h1 := HI.out.2
                rw [List.drop_eq_getElem_cons hqc, hx] at h1
                unfold itemsGo at h1
                exact h1
              have HE3 := hid hE3
              have hH1 := H.out.box (.cells #[.int .i64 x.op, .int .i64 x.a, .int .i64 x.b, .int .i64 x.c, .int .i64 x.n] 64)
              have g1 := Row.atf strC_len (hH1.rowAt (i := 3) rfl) (by rw [m2_len, HN.out]) (i := q) (by rw [m2_len]; exact hqc) (j := 0) (by omega)
              rw [m2_all t.code hqc, Nat.mul_one] at g1
              obtain ⟨s, hs⟩ : ∃ s, (if isTgt t.code q = true then lblS decS t.code q else eS) = s := ⟨_, rfl⟩
              rw [hs] at g1
              have g0 : (wr.alloc (.cells #[.int .i64 x.op, .int .i64 x.a, .int .i64 x.b, .int .i64 x.c, .int .i64 x.n] 64)).cell? ⟨bm, q, none⟩ = some (.string s) := g1
              have HH1 := hid hH1
              have HS := hid hs
              subst e1
              clear q1 hcl hx hxm hE3 g1 hs hH1
              go_upto_region 22 with fail
              obtain ⟨w1, hw1⟩ : ∃ w1, wr.alloc (.cells #[.int .i64 x.op, .int .i64 x.a, .int .i64 x.b, .int .i64 x.c, .int .i64 x.n] 64) = w1 := ⟨_, rfl⟩
              obtain ⟨bx, hbx⟩ : ∃ bx, wr.heap.size = bx := ⟨_, rfl⟩
              rw [hw1, hbx] at HH1
              rw [hw1] at g0
              rw [hw1, hbx]
              clear hw1 hbx c0' c1' c2' c3' c4'
              go_cut [85] (fun v wx => v = .bool (isTgt t.code q) ∧ w1 = wx)
              case first =>
                cases ht : isTgt t.code q with
                | true =>
                  have t1 : s.toList.isEmpty = false := by rw [isEmpty_size, ← HS.out, if_pos ht]; exact decide_eq_false (lbl_ne t.code q)
                  have t2 : ¬ s.toList = [] := by intro e; rw [e] at t1; simp at t1
                  go_wp2_with fail
                  go_meet
                  exact ⟨by rw [ht], rfl⟩
                | false =>
                  have t1 : s.toList.isEmpty = true := by rw [isEmpty_size, ← HS.out, if_neg (by rw [ht]; simp)]; rfl
                  have t2 : s.toList = [] := by simpa using t1
                  go_wp2_with fail
                  go_meet
                  exact ⟨by rw [ht], rfl⟩
              case rest =>
                obtain ⟨rfl, rfl⟩ := hcut
                go_upto_if 85 with fail
                go_cut [13] (fun v wx => ∃ (len' : Nat) (ao' : Option Addr) (cap' : Nat) (r' : Option Nat) (its' : List ItD), v = .int .i64 q ∧ len' ≤ 2 * q + 1 ∧ Hid (its' = its ++ (if isTgt t.code q = true then [labI (lblS decS t.code q)] else []) ∧ its'.length = len') ∧
                  Hid (Hp [] w wx (.box bx (.cells #[.int .i64 x.op, .int .i64 x.a, .int .i64 x.b, .int .i64 x.c, .int .i64 x.n] 64) :: .row 82 10 (.slice ao' len' cap') r' len' (its'.flatMap itC) :: .box bb (.cells #[.string t.name, .slice ao' len' cap', .int .i64 0, .int .i64 0] 56) :: .row 9 1 (.slice (some ⟨bm, 0, none⟩) n n) (some bm) n ((m2 t.code t.code.length).flatMap strC) :: .box (w.heap.size + 1 + 1) (.cells #[.string ⟨#[]⟩, .slice none 0 0, .int .i64 0, .int .i64 0] 56) :: .box (w.heap.size + 1) (.cells #[.string t.name, .slice (some ⟨b1, o1, none⟩) n cc, .slice apl np cpl] 50) :: .box w.heap.size (.cells #[.slice x0 n0 c0, .slice x1 n1 c1, .slice x2 n2 c2, .slice x3 n3 c3, .slice x4 n4 c4] 32) :: [])))
                case first =>
                  cases ht : isTgt t.code q with
                  | true =>
                    have hs : lblS decS t.code q = s := by rw [← HS.out, if_pos ht]
                    have HS2 := hid hs
                    have v1 := HH1.out.cell (i := 2) rfl 1
                    simp only [List.getElem?_toArray, List.getElem?_cons_zero, List.getElem?_cons_succ] at v1
                    have hrow := HH1.out.rowAt (i := 1) rfl
                    have hbmr : bm ∉ r.toList := fun hm => HH1.out.ne (i := 3) (j := 1) rfl rfl (by decide) rfl (by simpa [It.blk] using hm)
                    have hbmb : bm ≠ bb := fun e => HH1.out.ne (i := 3) (j := 2) rfl rfl (by decide) rfl (by rw [e]; rfl)
                    have v1a : ∀ o, (w1.alloc o).cell? ⟨bb, 1, none⟩ = some (.slice ao len cap) := fun o => ((Chg.refl [] w1).alloc o).cell v1 (by simp)
                    clear hs
                    go_upto_region 23 with fail
                    (refine wp_region_held_drew (S := (fun w' => w'.cell? ⟨bm, q, none⟩ = some (.string s))) (by kernel_rfl) (by exact g0) (fun hHeld => ?_); (refine wpAnyH_take (i := 0) (v := ?_) rfl (by kernel_rfl) (by kernel_rfl) (by kernel_rfl) (fun _ _ _ h => h) (Or.inl ⟨by rfl, ?_⟩) (by assumption) ?_; rotate_left 1; (focus (intro w hSw; (try dsimp only at hSw); go_simp; (try with_reducible rfl))); (try simp only [List.getElem_toArray, List.getElem_cons_zero, List.getElem_cons_succ, Act.put, List.setIfInBounds_toArray, List.set_cons_zero, List.set_cons_succ])); (refine wpAnyH_take (i := 2) (v := ?_) rfl (by kernel_rfl) (by kernel_rfl) (by kernel_rfl) (fun _ _ _ h => h) (Or.inl ⟨by rfl, ?_⟩) (by assumption) ?_; rotate_left 1; (focus (intro w hSw; (try dsimp only at hSw); go_simp; (try with_reducible rfl))); (try simp only [List.getElem_toArray, List.getElem_cons_zero, List.getElem_cons_succ, Act.put, List.setIfInBounds_toArray, List.set_cons_zero, List.set_cons_succ])); (refine wpAnyH_take (i := 3) (v := ?_) rfl (by kernel_rfl) (by kernel_rfl) (by kernel_rfl) (fun _ _ _ h => h) (Or.inl ⟨by rfl, ?_⟩) (by assumption) ?_; rotate_left 1; (focus (intro w hSw; (try dsimp only at hSw); go_simp; (try with_reducible rfl))); (try simp only [List.getElem_toArray, List.getElem_cons_zero, List.getElem_cons_succ, Act.put, List.setIfInBounds_toArray, List.set_cons_zero, List.set_cons_succ])); (refine wpAnyH_take (i := 4) (v := ?_) rfl (by kernel_rfl) (by kernel_rfl) (by kernel_rfl) (fun _ _ _ h => h) (Or.inl ⟨by rfl, ?_⟩) (by assumption) ?_; rotate_left 1; (focus (intro w hSw; (try dsimp only at hSw); go_simp; (try with_reducible rfl))); (try simp only [List.getElem_toArray, List.getElem_cons_zero, List.getElem_cons_succ, Act.put, List.setIfInBounds_toArray, List.set_cons_zero, List.set_cons_succ])); (refine wpAnyH_take (i := 5) (v := ?_) rfl (by kernel_rfl) (by kernel_rfl) (by kernel_rfl) (fun _ _ _ h => h) (Or.inl ⟨by rfl, ?_⟩) (by assumption) ?_; rotate_left 1; (focus (intro w hSw; (try dsimp only at hSw); go_simp; (try with_reducible rfl))); (try simp only [List.getElem_toArray, List.getElem_cons_zero, List.getElem_cons_succ, Act.put, List.setIfInBounds_toArray, List.set_cons_zero, List.set_cons_succ])); (refine wpAnyH_take (i := 6) (v := ?_) rfl (by kernel_rfl) (by kernel_rfl) (by kernel_rfl) (fun _ _ _ h => h) (Or.inl ⟨by rfl, ?_⟩) (by assumption) ?_; rotate_left 1; (focus (intro w hSw; (try dsimp only at hSw); go_simp; (try with_reducible rfl))); (try simp only [List.getElem_toArray, List.getElem_cons_zero, List.getElem_cons_succ, Act.put, List.setIfInBounds_toArray, List.set_cons_zero, List.set_cons_succ])); (refine wpAnyH_ready (rs := [1, 7]) (by kernel_rfl) (by simp) ?_; refine AllReadyH.cons rfl (fun K hK => ?_) (AllReadyH.cons rfl (fun K hK => ?_) AllReadyH.nil)); (focus (go_simp; (refine hK.out _ _ (by exact hHeld) (fun hHeld => ?_); clear hK K; (try simp only [List.getElem_toArray, List.getElem_cons_zero, List.getElem_cons_succ, Act.put, List.setIfInBounds_toArray, List.set_cons_zero, List.set_cons_succ])); (refine wpAnyH_ready (rs := [7]) (by kernel_rfl) (by simp) ?_; refine AllReadyH.cons rfl (fun K hK => ?_) AllReadyH.nil; go_simp; (refine hK.out _ _ (by exact (((Chg.refl [] _).alloc _).cell hHeld (by simp))) (fun hHeld => ?_); clear hK K; (try simp only [List.getElem_toArray, List.getElem_cons_zero, List.getElem_cons_succ, Act.put, List.setIfInBounds_toArray, List.set_cons_zero, List.set_cons_succ]))))); rotate_left 1; (focus (go_simp; (refine hK.out _ _ (by exact (((Chg.refl [] _).alloc _).cell hHeld (by simp))) (fun hHeld => ?_); clear hK K; (try simp only [List.getElem_toArray, List.getElem_cons_zero, List.getElem_cons_succ, Act.put, List.setIfInBounds_toArray, List.set_cons_zero, List.set_cons_succ])); (refine wpAnyH_ready (rs := [1]) (by kernel_rfl) (by simp) ?_; refine AllReadyH.cons rfl (fun K hK => ?_) AllReadyH.nil; go_simp; (refine hK.out _ _ (by exact hHeld) (fun hHeld => ?_); clear hK K; (try simp only [List.getElem_toArray, List.getElem_cons_zero, List.getElem_cons_succ, Act.put, List.setIfInBounds_toArray, List.set_cons_zero, List.set_cons_succ]))))); (all_goals ((refine wpAnyH_ready (rs := [8]) (by kernel_rfl) (by simp) ?_; refine AllReadyH.cons rfl (fun K hK => ?_) AllReadyH.nil; refine step_grew rfl _ _ 54 rfl elem_itm rfl (hrow.keep (((Chg.refl [] w1).drew).alloc _) (by simp)) rfl (View.structAt w1.drew [.int .i64 0, .int .i64 0, .int .i64 0, .int .i64 0, .int .i64 0, .string s, .int .i64 0, .int .i64 0, .int .i64 0, .int .i64 0] 82 rfl rfl) (by simp [Value.oneCell']) (by unfold maxLen; omega) (by omega) (fun ao5 cap5 r5 w5 hr5 hg5 => ?_); (refine hK.out _ _ (by exact (hg5.chg.cell hHeld hbmr)) (fun hHeld => ?_); clear hK K; (try simp only [List.getElem_toArray, List.getElem_cons_zero, List.getElem_cons_succ, Act.put, List.setIfInBounds_toArray, List.set_cons_zero, List.set_cons_succ]))); (refine wpAnyH_take (i := 9) (v := ?_) rfl (by kernel_rfl) (by kernel_rfl) (by kernel_rfl) (fun _ _ _ h => h) (Or.inl ⟨by rfl, ?_⟩) (by assumption) ?_; rotate_left 1; (focus (intro w hSw; (try dsimp only at hSw); go_simp; (try with_reducible rfl))); (try simp only [List.getElem_toArray, List.getElem_cons_zero, List.getElem_cons_succ, Act.put, List.setIfInBounds_toArray, List.set_cons_zero, List.set_cons_succ])); (refine wpAnyH_ready (rs := [10]) (by kernel_rfl) (by simp) ?_; refine AllReadyH.cons rfl (fun K hK => ?_) AllReadyH.nil; go_simp; (have hH5 := (HH1.out.same (Chg.refl [] w1).drew).grow 1 rfl ((Chg.refl [] _).alloc _) hr5 hg5.chg hg5.fresh rfl; have v5 := hH5.cell (i := 2) rfl 1; have f5 := hH5.free (i := 2) rfl; simp only [List.set_cons_zero, List.set_cons_succ, List.getElem?_toArray, List.getElem?_cons_zero, List.getElem?_cons_succ] at v5; go_simp); (refine hK.out _ _ (by exact (((Chg.refl [bb] w5).setCell (p := ⟨bb, 1, none⟩) (.inl (by simp)) _).cell hHeld (by simpa using hbmb))) (fun hHeld => ?_); clear hK K; (try simp only [List.getElem_toArray, List.getElem_cons_zero, List.getElem_cons_succ, Act.put, List.setIfInBounds_toArray, List.set_cons_zero, List.set_cons_succ]))); refine wpAnyH_done (by kernel_rfl) ?_ _)))
                    all_goals
                      have hH5 := (HH1.out.same (Chg.refl [] w1).drew).grow 1 rfl ((Chg.refl [] _).alloc _) hr5 hg5.chg hg5.fresh rfl
                      have hP := hH5.put 2 rfl 1 (.slice ao5 (len + 1) cap5) rfl
                      simp only [List.set_cons_zero, List.set_cons_succ, List.setIfInBounds_toArray] at hP
                      have HP := hid hP
                      clear hP hH5
                      go_wp2_with fail
                      go_meet
                      refine ⟨len + 1, ao5, cap5, r5, its ++ [labI (lblS decS t.code q)], rfl, by omega, hid ⟨by rw [if_pos ht], by rw [List.length_append, HI.out.1]; rfl⟩, hid ?_⟩
                      rw [List.flatMap_append, HS2.out]
                      exact HP.out
                  | false =>
                    go_wp2_with fail
                    go_meet
                    exact ⟨len, ao, cap, r, its, rfl, by omega, hid ⟨by rw [if_neg (by rw [ht]; simp), List.append_nil], HI.out.1⟩, hid HH1.out⟩
                case rest =>
                  obtain ⟨len', ao', cap', r', its', rfl, hl', HI', H'⟩ := hcut
                  obtain ⟨F, hF⟩ : ∃ F, fitB (regsB x.op) x.a x.b x.c = F := ⟨_, rfl⟩
                  have HRG := hid (fun W => registers_calls x.op W)
                  have hft := fun W ao cap (hv : View W 1 (.slice ao 3 cap) 3 [.int .i64 x.a, .int .i64 x.b, .int .i64 x.c]) => fits_calls (regsB x.op) x.a x.b x.c W hv
                  rw [hF] at hft
                  have HFT := hid hft
                  have HVW : Hid (View ((wc.alloc (.cells #[.int .i64 x.a, .int .i64 x.b, .int .i64 x.c] 3)).drew) 1 (.slice (some ⟨wc.heap.size, 0, none⟩) 3 3) 3 [.int .i64 x.a, .int .i64 x.b, .int .i64 x.c]) := hid ((View.news wc [.int .i64 x.a, .int .i64 x.b, .int .i64 x.c] 3 (by simp [maxLen])).keep (Chg.of_drewN [] _ 1) (by simp))
                  have i0 := H'.out.cell (i := 0) rfl 0
                  have i1 := H'.out.cell (i := 0) rfl 1
                  have i2 := H'.out.cell (i := 0) rfl 2
                  have i3 := H'.out.cell (i := 0) rfl 3
                  have i4 := H'.out.cell (i := 0) rfl 4
                  simp only [List.getElem?_toArray, List.getElem?_cons_zero, List.getElem?_cons_succ] at i0 i1 i2 i3 i4
                  have HFF := hid hF
                  clear hft hF g0
                  obtain ⟨wp, hwp⟩ : ∃ y, y = wc := ⟨_, rfl⟩
                  subst hwp
                  go_upto_region 24 with fail
                  go_cut [107] (fun v wx => v = .bool (!F) ∧ (wp.alloc (.cells #[.int .i64 x.a, .int .i64 x.b, .int .i64 x.c] 3)).drew = wx)
                  case first =>
                    (refine wp_region_held_drew (S := (fun w' => w'.cell? ⟨bx, 0, none⟩ = some (.int .i64 x.op) ∧ w'.cell? ⟨bx, 1, none⟩ = some (.int .i64 x.a) ∧ w'.cell? ⟨bx, 2, none⟩ = some (.int .i64 x.b) ∧ w'.cell? ⟨bx, 3, none⟩ = some (.int .i64 x.c))) (by kernel_rfl) (by exact ⟨i0, i1, i2, i3⟩) (fun hHeld => ?_); (refine wpAnyH_take (i := 0) (v := ?_) rfl (by kernel_rfl) (by kernel_rfl) (by kernel_rfl) (fun _ _ _ h => h) (Or.inl ⟨by rfl, ?_⟩) (by assumption) ?_; rotate_left 1; (focus (intro w hSw; (try dsimp only at hSw); go_simp; (try with_reducible rfl))); (try simp only [List.getElem_toArray, List.getElem_cons_zero, List.getElem_cons_succ, Act.put, List.setIfInBounds_toArray, List.set_cons_zero, List.set_cons_succ])); (refine wpAnyH_take (i := 1) (v := ?_) rfl (by kernel_rfl) (by kernel_rfl) (by kernel_rfl) (fun _ _ _ h => h) (Or.inl ⟨by rfl, ?_⟩) (by assumption) ?_; rotate_left 1; (focus (intro w hSw; (try dsimp only at hSw); go_simp; (try with_reducible rfl))); (try simp only [List.getElem_toArray, List.getElem_cons_zero, List.getElem_cons_succ, Act.put, List.setIfInBounds_toArray, List.set_cons_zero, List.set_cons_succ])); (refine wpAnyH_take (i := 3) (v := ?_) rfl (by kernel_rfl) (by kernel_rfl) (by kernel_rfl) (fun _ _ _ h => h) (Or.inl ⟨by rfl, ?_⟩) (by assumption) ?_; rotate_left 1; (focus (intro w hSw; (try dsimp only at hSw); go_simp; (try with_reducible rfl))); (try simp only [List.getElem_toArray, List.getElem_cons_zero, List.getElem_cons_succ, Act.put, List.setIfInBounds_toArray, List.set_cons_zero, List.set_cons_succ])); (refine wpAnyH_take (i := 4) (v := ?_) rfl (by kernel_rfl) (by kernel_rfl) (by kernel_rfl) (fun _ _ _ h => h) (Or.inl ⟨by rfl, ?_⟩) (by assumption) ?_; rotate_left 1; (focus (intro w hSw; (try dsimp only at hSw); go_simp; (try with_reducible rfl))); (try simp only [List.getElem_toArray, List.getElem_cons_zero, List.getElem_cons_succ, Act.put, List.setIfInBounds_toArray, List.set_cons_zero, List.set_cons_succ])); (refine wpAnyH_take (i := 5) (v := ?_) rfl (by kernel_rfl) (by kernel_rfl) (by kernel_rfl) (fun _ _ _ h => h) (Or.inl ⟨by rfl, ?_⟩) (by assumption) ?_; rotate_left 1; (focus (intro w hSw; (try dsimp only at hSw); go_simp; (try with_reducible rfl))); (try simp only [List.getElem_toArray, List.getElem_cons_zero, List.getElem_cons_succ, Act.put, List.setIfInBounds_toArray, List.set_cons_zero, List.set_cons_succ])); (refine wpAnyH_take (i := 6) (v := ?_) rfl (by kernel_rfl) (by kernel_rfl) (by kernel_rfl) (fun _ _ _ h => h) (Or.inl ⟨by rfl, ?_⟩) (by assumption) ?_; rotate_left 1; (focus (intro w hSw; (try dsimp only at hSw); go_simp; (try with_reducible rfl))); (try simp only [List.getElem_toArray, List.getElem_cons_zero, List.getElem_cons_succ, Act.put, List.setIfInBounds_toArray, List.set_cons_zero, List.set_cons_succ])); (refine wpAnyH_take (i := 7) (v := ?_) rfl (by kernel_rfl) (by kernel_rfl) (by kernel_rfl) (fun _ _ _ h => h) (Or.inl ⟨by rfl, ?_⟩) (by assumption) ?_; rotate_left 1; (focus (intro w hSw; (try dsimp only at hSw); go_simp; (try with_reducible rfl))); (try simp only [List.getElem_toArray, List.getElem_cons_zero, List.getElem_cons_succ, Act.put, List.setIfInBounds_toArray, List.set_cons_zero, List.set_cons_succ])); (refine wpAnyH_take (i := 8) (v := ?_) rfl (by kernel_rfl) (by kernel_rfl) (by kernel_rfl) (fun _ _ _ h => h) (Or.inl ⟨by rfl, ?_⟩) (by assumption) ?_; rotate_left 1; (focus (intro w hSw; (try dsimp only at hSw); go_simp; (try with_reducible rfl))); (try simp only [List.getElem_toArray, List.getElem_cons_zero, List.getElem_cons_succ, Act.put, List.setIfInBounds_toArray, List.set_cons_zero, List.set_cons_succ])); (refine wpAnyH_ready (rs := [2, 9]) (by kernel_rfl) (by simp) ?_; refine AllReadyH.cons rfl (fun K hK => ?_) (AllReadyH.cons rfl (fun K hK => ?_) AllReadyH.nil)); (focus (go_simp; go_at_call 32; refine (HRG.out _).mono ?_; rintro e w' ⟨rfl, rfl⟩; (refine hK.out _ _ (by exact hHeld) (fun hHeld => ?_); clear hK K; (try simp only [List.getElem_toArray, List.getElem_cons_zero, List.getElem_cons_succ, Act.put, List.setIfInBounds_toArray, List.set_cons_zero, List.set_cons_succ])); (refine wpAnyH_ready (rs := [9]) (by kernel_rfl) (by simp) ?_; refine AllReadyH.cons rfl (fun K hK => ?_) AllReadyH.nil; go_simp; (refine hK.out _ _ (by exact (by exact ⟨((Chg.refl [] _).alloc _).cell hHeld.1 (by simp), ((Chg.refl [] _).alloc _).cell hHeld.2.1 (by simp), ((Chg.refl [] _).alloc _).cell hHeld.2.2.1 (by simp), ((Chg.refl [] _).alloc _).cell hHeld.2.2.2 (by simp)⟩)) (fun hHeld => ?_); clear hK K; (try simp only [List.getElem_toArray, List.getElem_cons_zero, List.getElem_cons_succ, Act.put, List.setIfInBounds_toArray, List.set_cons_zero, List.set_cons_succ]))))); rotate_left 1; (focus (go_simp; (refine hK.out _ _ (by exact (by exact ⟨((Chg.refl [] _).alloc _).cell hHeld.1 (by simp), ((Chg.refl [] _).alloc _).cell hHeld.2.1 (by simp), ((Chg.refl [] _).alloc _).cell hHeld.2.2.1 (by simp), ((Chg.refl [] _).alloc _).cell hHeld.2.2.2 (by simp)⟩)) (fun hHeld => ?_); clear hK K; (try simp only [List.getElem_toArray, List.getElem_cons_zero, List.getElem_cons_succ, Act.put, List.setIfInBounds_toArray, List.set_cons_zero, List.set_cons_succ])); (refine wpAnyH_ready (rs := [2]) (by kernel_rfl) (by simp) ?_; refine AllReadyH.cons rfl (fun K hK => ?_) AllReadyH.nil; go_simp; go_at_call 32; refine (HRG.out _).mono ?_; rintro e w' ⟨rfl, rfl⟩; (refine hK.out _ _ (by exact hHeld) (fun hHeld => ?_); clear hK K; (try simp only [List.getElem_toArray, List.getElem_cons_zero, List.getElem_cons_succ, Act.put, List.setIfInBounds_toArray, List.set_cons_zero, List.set_cons_succ]))))); (all_goals ((refine wpAnyH_ready (rs := [10]) (by kernel_rfl) (by simp) ?_; refine AllReadyH.cons rfl (fun K hK => ?_) AllReadyH.nil; go_simp; go_at_call 31; refine (HFT.out _ _ _ HVW.out).mono ?_; rintro e w' ⟨rfl, rfl⟩; (refine hK.out _ _ (by exact hHeld) (fun hHeld => ?_); clear hK K; (try simp only [List.getElem_toArray, List.getElem_cons_zero, List.getElem_cons_succ, Act.put, List.setIfInBounds_toArray, List.set_cons_zero, List.set_cons_succ]))); (refine wpAnyH_take (i := 11) (v := ?_) rfl (by kernel_rfl) (by kernel_rfl) (by kernel_rfl) (fun _ _ _ h => h) (Or.inl ⟨by rfl, ?_⟩) (by assumption) ?_; rotate_left 1; (focus (intro w hSw; (try dsimp only at hSw); go_simp; (try with_reducible rfl))); (try simp only [List.getElem_toArray, List.getElem_cons_zero, List.getElem_cons_succ, Act.put, List.setIfInBounds_toArray, List.set_cons_zero, List.set_cons_succ])); refine wpAnyH_done (by kernel_rfl) ?_ _)))
                    all_goals
                      go_wp2_with fail
                      go_meet
                      exact ⟨rfl, rfl⟩
                  case rest =>
                  obtain ⟨wQ, hwQ2⟩ : ∃ y, y = wc := ⟨_, rfl⟩
                  subst hwQ2
                  obtain ⟨rfl, hwQ⟩ := hcut
                  have hQ := H'.out.same (((Chg.refl [] wp).alloc (.cells #[.int .i64 x.a, .int .i64 x.b, .int .i64 x.c] 3)).drew)
                  rw [hwQ] at hQ
                  have HQ := hid hQ
                  clear hQ hwQ i0 i1 i2 i3 i4
                  go_upto_if 107 with fail
                  cases F with
                  | false =>
                    have HEN := hid (show E = none from by
                      have h9 := HE3.out
                      have h8 : itemD decS p t.code x = none := by unfold itemD; rw [if_pos HFF.out]
                      rw [h8] at h9
                      exact h9.symm)
                    have z0 := HQ.out.cell (i := 4) rfl 0
                    have z1 := HQ.out.cell (i := 4) rfl 1
                    have z2 := HQ.out.cell (i := 4) rfl 2
                    have z3 := HQ.out.cell (i := 4) rfl 3
                    have zf := HQ.out.free (i := 4) rfl
                    simp only [List.getElem?_toArray, List.getElem?_cons_zero, List.getElem?_cons_succ] at z0 z1 z2 z3
                    have q4 := (((HQ.out.put 4 rfl 0 (.string ⟨#[]⟩) rfl).put 4 rfl 1 (.slice none 0 0) rfl).put 4 rfl 2 (.int .i64 0) rfl).put 4 rfl 3 (.int .i64 0) rfl
                    simp only [List.set_cons_zero, List.set_cons_succ, List.setIfInBounds_toArray] at q4
                    have Q4 := hid q4
                    clear q4
                    go_wp2_with (first | (go_at_call 29; refine (touches_calls _ _).mono ?_; rintro e w' ⟨rfl, hw9⟩; rw [← hw9]; clear hw9) | (fail))
                    obtain ⟨wZ, hwZ⟩ : ∃ wZ, ((((wQ.setCell ⟨w.heap.size + 1 + 1, 0, none⟩ (.string ⟨#[]⟩)).setCell ⟨w.heap.size + 1 + 1, 1, none⟩ (.slice none 0 0)).setCell ⟨w.heap.size + 1 + 1, 2, none⟩ (.int .i64 0)).setCell ⟨w.heap.size + 1 + 1, 3, none⟩ (.int .i64 0)) = wZ := ⟨_, rfl⟩
                    rw [hwZ] at Q4
                    try rw [hwZ]
                    have d0 := Q4.out.cell (i := 4) rfl 0
                    have d1 := Q4.out.cell (i := 4) rfl 1
                    have d2 := Q4.out.cell (i := 4) rfl 2
                    have d3 := Q4.out.cell (i := 4) rfl 3
                    simp only [List.getElem?_toArray, List.getElem?_cons_zero, List.getElem?_cons_succ] at d0 d1 d2 d3
                    have hEn := HEN.out
                    subst hEn
                    exact bodyPost_ret (v := .tuple #[.agg #[.string ⟨#[]⟩, .slice none 0 0, .int .i64 0, .int .i64 0], .bool false]) (by simp [results, Tryd.results19, go_sem, d0, d1, d2, d3]) rfl (blockP_none Q4.out.chg)
                  | true =>
                    have hQ := HQ.out
                    have HC' := hid hQ
                    have hy := hQ.box (.cells #[.int .i64 x.op, .int .i64 x.a, .int .i64 x.b, .int .i64 x.c, .int .i64 0, .string ⟨#[]⟩, .int .i64 0, .int .i64 0, .int .i64 0, .int .i64 0] 82)
                    have i0 := HC'.out.cell (i := 0) rfl 0
                    have i1 := HC'.out.cell (i := 0) rfl 1
                    have i2 := HC'.out.cell (i := 0) rfl 2
                    have i3 := HC'.out.cell (i := 0) rfl 3
                    have i4 := HC'.out.cell (i := 0) rfl 4
                    simp only [List.getElem?_toArray, List.getElem?_cons_zero, List.getElem?_cons_succ] at i0 i1 i2 i3 i4
                    have HY := hid hy
                    clear hQ hy
                    go_upto_region 27 with fail
                    obtain ⟨wY, hwY⟩ : ∃ wY, wQ.alloc (.cells #[.int .i64 x.op, .int .i64 x.a, .int .i64 x.b, .int .i64 x.c, .int .i64 0, .string ⟨#[]⟩, .int .i64 0, .int .i64 0, .int .i64 0, .int .i64 0] 82) = wY := ⟨_, rfl⟩
                    obtain ⟨yb, hyb⟩ : ∃ yb, wQ.heap.size = yb := ⟨_, rfl⟩
                    rw [hwY, hyb] at HY
                    try rw [hwY]
                    try rw [hyb]
                    clear hwY hyb i0 i1 i2 i3 i4
                    have i0 := HY.out.cell (i := 1) rfl 0
                    have i1 := HY.out.cell (i := 1) rfl 1
                    have i2 := HY.out.cell (i := 1) rfl 2
                    have i3 := HY.out.cell (i := 1) rfl 3
                    have i4 := HY.out.cell (i := 1) rfl 4
                    simp only [List.getElem?_toArray, List.getElem?_cons_zero, List.getElem?_cons_succ] at i0 i1 i2 i3 i4
                    have yf := HY.out.free (i := 0) rfl
                    have y4 := HY.out.cell (i := 0) rfl 4
                    have y5 := HY.out.cell (i := 0) rfl 5
                    simp only [List.getElem?_toArray, List.getElem?_cons_zero, List.getElem?_cons_succ] at y4 y5
                    by_cases h1 : x.op = 1
                    · have e1 : (x.op == 1) = true := by simp [h1]
                      have HIT := hid (show itemD decS p t.code x = some ⟨x.op, x.a, x.b, x.c, x.n, ⟨#[]⟩, 0, 0, 0, 0⟩ from by unfold itemD; rw [if_neg (by rw [HFF.out]; simp), if_pos h1])
                      have hD := HY.out.put 0 rfl 4 (.int .i64 x.n) rfl
                      simp only [List.set_cons_zero, List.set_cons_succ, List.setIfInBounds_toArray] at hD
                      have HD := hid hD
                      clear hD h1
                      go_upto_region 38 with (go_at_call 29; refine (touches_calls _ _).mono ?_; rintro e w' ⟨rfl, hw9⟩; rw [← hw9]; clear hw9)
                      obtain ⟨wD, hwD⟩ : ∃ wD, wY.setCell ⟨yb, 4, none⟩ (.int .i64 x.n) = wD := ⟨_, rfl⟩
                      rw [hwD] at HD
                      try rw [hwD]
                      clear hwD i0 i1 i2 i3 i4 y4 y5 yf
                      have v1 := HD.out.cell (i := 3) rfl 1
                      have y0 := HD.out.cell (i := 0) rfl 0
                      have y1 := HD.out.cell (i := 0) rfl 1
                      have y2 := HD.out.cell (i := 0) rfl 2
                      have y3 := HD.out.cell (i := 0) rfl 3
                      have y4 := HD.out.cell (i := 0) rfl 4
                      have y5 := HD.out.cell (i := 0) rfl 5
                      have y6 := HD.out.cell (i := 0) rfl 6
                      have y7 := HD.out.cell (i := 0) rfl 7
                      have y8 := HD.out.cell (i := 0) rfl 8
                      have y9 := HD.out.cell (i := 0) rfl 9
                      simp only [List.getElem?_toArray, List.getElem?_cons_zero, List.getElem?_cons_succ] at v1 y0 y1 y2 y3 y4 y5 y6 y7 y8 y9
                      have hrow := HD.out.rowAt (i := 2) rfl
                      go_wp2_with (at_builtin; refine wpList_grew rfl _ _ 54 rfl elem_itm rfl (hrow.keep ((Chg.refl [] _).alloc _) (by simp)) rfl (View.structAt wD [.int .i64 x.op, .int .i64 x.a, .int .i64 x.b, .int .i64 x.c, .int .i64 x.n, .string ⟨#[]⟩, .int .i64 0, .int .i64 0, .int .i64 0, .int .i64 0] 82 rfl rfl) (by simp [Value.oneCell']) (by unfold maxLen; omega) (by omega) (fun ao8 cap8 r8 w8 hr8 hg8 => halt (fun X hX => ?_)))
                      rw [hX.out]; clear hX
                      have hH8 := HD.out.grow 2 rfl ((Chg.refl [] _).alloc _) hr8 hg8.chg hg8.fresh rfl
                      have v8 := hH8.cell (i := 3) rfl 1
                      have f8 := hH8.free (i := 3) rfl
                      simp only [List.set_cons_zero, List.set_cons_succ, List.getElem?_toArray, List.getElem?_cons_zero, List.getElem?_cons_succ] at v8
                      have hP8 := hH8.put 3 rfl 1 (.slice ao8 (len' + 1) cap8) rfl
                      simp only [List.set_cons_zero, List.set_cons_succ, List.setIfInBounds_toArray] at hP8
                      have HP8 := hid (hP8.sub (.cons _ (.cons _ (.refl _))))
                      clear hH8 hP8 hrow hr8 hg8 v1 y0 y1 y2 y3 y4 y5 y6 y7 y8 y9
                      go_wp2_with fail
                      go_roundg (gk - 1)
                      case measure => omega
                      case rel =>
                        refine ⟨q + 1, len' + 1, ao8, cap8, r8, its' ++ [⟨x.op, x.a, x.b, x.c, x.n, ⟨#[]⟩, 0, 0, 0, 0⟩], by omega, by go_num, by omega, hid ⟨by rw [List.length_append, HI'.out.2]; rfl, ?_⟩, hid ?_⟩
                        · have h9 := HE3.out
                          rw [HIT.out] at h9
                          rw [HI'.out.1, ← h9]
                          cases itemsGo decS p t.code (q + 1) (t.code.drop (q + 1)) with
                          | none => rfl
                          | some l =>
                            simp only [Option.map_some, List.append_assoc]
                            by_cases ht : isTgt t.code q = true
                            · rw [if_pos ht, if_pos ht]; rfl
                            · rw [if_neg ht, if_neg ht]; rfl
                        · rw [List.flatMap_append, List.flatMap_cons, List.flatMap_nil, List.append_nil]
                          exact HP8.out
                    · have e1 : (x.op == 1) = false := by simp [h1]
                      by_cases h6 : touchB x.op = 6
                      · have e6 : (touchB x.op == 6) = true := by simp [h6]
                        have hrg := HIR.out x HX.out.2 h6
                        rw [HN.out] at hrg
                        obtain ⟨N, hN⟩ : ∃ N : Nat, x.n = (N : Int) := ⟨x.n.toNat, by omega⟩
                        have hNn : N < n := by omega
                        have hNc : N < t.code.length := by rw [HN.out]; exact hNn
                        have htg : isTgt t.code N = true := by
                          unfold isTgt
                          rw [List.any_eq_true]
                          exact ⟨x, HX.out.2, by simp [h6, hN]⟩
                        have HIT := hid (show itemD decS p t.code x = some ⟨x.op, x.a, x.b, x.c, 0, lblS decS t.code N, 0, 0, 0, 0⟩ from by unfold itemD; rw [if_neg (by rw [HFF.out]; simp), if_neg h1, if_pos h6, hN]; rfl)
                        have g1 := Row.atf strC_len (HY.out.rowAt (i := 4) rfl) (by rw [m2_len, HN.out]) (i := N) (by rw [m2_len]; exact hNc) (j := 0) (by omega)
                        rw [m2_all t.code hNc, if_pos htg, Nat.mul_one] at g1
                        have g0 : wY.cell? ⟨bm, N, none⟩ = some (.string (lblS decS t.code N)) := g1
                        rw [hN] at i4
                        have hD := HY.out.put 0 rfl 5 (.string (lblS decS t.code N)) rfl
                        simp only [List.set_cons_zero, List.set_cons_succ, List.setIfInBounds_toArray] at hD
                        have HD := hid hD
                        have HN9 := hid hN
                        clear hD h1 h6 g1 hrg htg hN
                        go_upto_region 38 with (go_at_call 29; refine (touches_calls _ _).mono ?_; rintro e w' ⟨rfl, hw9⟩; rw [← hw9]; clear hw9)
                        obtain ⟨wD, hwD⟩ : ∃ wD, wY.setCell ⟨yb, 5, none⟩ (.string (lblS decS t.code N)) = wD := ⟨_, rfl⟩
                        rw [hwD] at HD
                        try rw [hwD]
                        clear hwD i0 i1 i2 i3 i4 y4 y5 yf g0
                        have v1 := HD.out.cell (i := 3) rfl 1
                        have y0 := HD.out.cell (i := 0) rfl 0
                        have y1 := HD.out.cell (i := 0) rfl 1
                        have y2 := HD.out.cell (i := 0) rfl 2
                        have y3 := HD.out.cell (i := 0) rfl 3
                        have y4 := HD.out.cell (i := 0) rfl 4
                        have y5 := HD.out.cell (i := 0) rfl 5
                        have y6 := HD.out.cell (i := 0) rfl 6
                        have y7 := HD.out.cell (i := 0) rfl 7
                        have y8 := HD.out.cell (i := 0) rfl 8
                        have y9 := HD.out.cell (i := 0) rfl 9
                        simp only [List.getElem?_toArray, List.getElem?_cons_zero, List.getElem?_cons_succ] at v1 y0 y1 y2 y3 y4 y5 y6 y7 y8 y9
                        have hrow := HD.out.rowAt (i := 2) rfl
                        go_wp2_with (at_builtin; refine wpList_grew rfl _ _ 54 rfl elem_itm rfl (hrow.keep ((Chg.refl [] _).alloc _) (by simp)) rfl (View.structAt wD [.int .i64 x.op, .int .i64 x.a, .int .i64 x.b, .int .i64 x.c, .int .i64 0, .string (lblS decS t.code N), .int .i64 0, .int .i64 0, .int .i64 0, .int .i64 0] 82 rfl rfl) (by simp [Value.oneCell']) (by unfold maxLen; omega) (by omega) (fun ao8 cap8 r8 w8 hr8 hg8 => halt (fun X hX => ?_)))
                        rw [hX.out]; clear hX
                        have hH8 := HD.out.grow 2 rfl ((Chg.refl [] _).alloc _) hr8 hg8.chg hg8.fresh rfl
                        have v8 := hH8.cell (i := 3) rfl 1
                        have f8 := hH8.free (i := 3) rfl
                        simp only [List.set_cons_zero, List.set_cons_succ, List.getElem?_toArray, List.getElem?_cons_zero, List.getElem?_cons_succ] at v8
                        have hP8 := hH8.put 3 rfl 1 (.slice ao8 (len' + 1) cap8) rfl
                        simp only [List.set_cons_zero, List.set_cons_succ, List.setIfInBounds_toArray] at hP8
                        have HP8 := hid (hP8.sub (.cons _ (.cons _ (.refl _))))
                        clear hH8 hP8 hrow hr8 hg8 v1 y0 y1 y2 y3 y4 y5 y6 y7 y8 y9
                        go_wp2_with fail
                        go_roundg (gk - 1)
                        case measure => omega
                        case rel =>
                          refine ⟨q + 1, len' + 1, ao8, cap8, r8, its' ++ [⟨x.op, x.a, x.b, x.c, 0, lblS decS t.code N, 0, 0, 0, 0⟩], by omega, by go_num, by omega, hid ⟨by rw [List.length_append, HI'.out.2]; rfl, ?_⟩, hid ?_⟩
                          · have h9 := HE3.out
                            rw [HIT.out] at h9
                            rw [HI'.out.1, ← h9]
                            cases itemsGo decS p t.code (q + 1) (t.code.drop (q + 1)) with
                            | none => rfl
                            | some l =>
                              simp only [Option.map_some, List.append_assoc]
                              by_cases ht : isTgt t.code q = true
                              · rw [if_pos ht, if_pos ht]; rfl
                              · rw [if_neg ht, if_neg ht]; rfl
                          · rw [List.flatMap_append, List.flatMap_cons, List.flatMap_nil, List.append_nil]
                            exact HP8.out
                      · have e6 : (touchB x.op == 6) = false := by simp [h6]
                        by_cases h0 : touchB x.op = 0
                        · have e0 : (touchB x.op != 0) = false := by simp [h0]
                          have e0' : (touchB x.op == 0) = true := by simp [h0]
                          by_cases hn0 : x.n = 0
                          · have z1 : (x.n == 0) = true := by simp [hn0]
                            have HIT := hid (show itemD decS p t.code x = some ⟨x.op, x.a, x.b, x.c, 0, ⟨#[]⟩, 0, 0, 0, 0⟩ from by unfold itemD; rw [if_neg (by rw [HFF.out]; simp), if_neg h1, if_neg h6, if_neg (by omega), if_pos hn0])
                            have HD := HY
                            clear h1 h6 h0 hn0
                            go_upto_region 38 with (go_at_call 29; refine (touches_calls _ _).mono ?_; rintro e w' ⟨rfl, hw9⟩; rw [← hw9]; clear hw9)
                            obtain ⟨wD, hwD⟩ : ∃ wD, wY = wD := ⟨_, rfl⟩
                            rw [hwD] at HD
                            rw [hwD] at i0 i1 i2 i3 i4 y4 y5 yf ⊢
                            clear hwD i0 i1 i2 i3 i4 y4 y5 yf
                            have v1 := HD.out.cell (i := 3) rfl 1
                            have y0 := HD.out.cell (i := 0) rfl 0
                            have y1 := HD.out.cell (i := 0) rfl 1
                            have y2 := HD.out.cell (i := 0) rfl 2
                            have y3 := HD.out.cell (i := 0) rfl 3
                            have y4 := HD.out.cell (i := 0) rfl 4
                            have y5 := HD.out.cell (i := 0) rfl 5
                            have y6 := HD.out.cell (i := 0) rfl 6
                            have y7 := HD.out.cell (i := 0) rfl 7
                            have y8 := HD.out.cell (i := 0) rfl 8
                            have y9 := HD.out.cell (i := 0) rfl 9
                            simp only [List.getElem?_toArray, List.getElem?_cons_zero, List.getElem?_cons_succ] at v1 y0 y1 y2 y3 y4 y5 y6 y7 y8 y9
                            have hrow := HD.out.rowAt (i := 2) rfl
                            go_wp2_with (at_builtin; refine wpList_grew rfl _ _ 54 rfl elem_itm rfl (hrow.keep ((Chg.refl [] _).alloc _) (by simp)) rfl (View.structAt wD [.int .i64 x.op, .int .i64 x.a, .int .i64 x.b, .int .i64 x.c, .int .i64 0, .string ⟨#[]⟩, .int .i64 0, .int .i64 0, .int .i64 0, .int .i64 0] 82 rfl rfl) (by simp [Value.oneCell']) (by unfold maxLen; omega) (by omega) (fun ao8 cap8 r8 w8 hr8 hg8 => halt (fun X hX => ?_)))
                            rw [hX.out]; clear hX
                            have hH8 := HD.out.grow 2 rfl ((Chg.refl [] _).alloc _) hr8 hg8.chg hg8.fresh rfl
                            have v8 := hH8.cell (i := 3) rfl 1
                            have f8 := hH8.free (i := 3) rfl
                            simp only [List.set_cons_zero, List.set_cons_succ, List.getElem?_toArray, List.getElem?_cons_zero, List.getElem?_cons_succ] at v8
                            have hP8 := hH8.put 3 rfl 1 (.slice ao8 (len' + 1) cap8) rfl
                            simp only [List.set_cons_zero, List.set_cons_succ, List.setIfInBounds_toArray] at hP8
                            have HP8 := hid (hP8.sub (.cons _ (.cons _ (.refl _))))
                            clear hH8 hP8 hrow hr8 hg8 v1 y0 y1 y2 y3 y4 y5 y6 y7 y8 y9
                            go_wp2_with fail
                            go_roundg (gk - 1)
                            case measure => omega
                            case rel =>
                              refine ⟨q + 1, len' + 1, ao8, cap8, r8, its' ++ [⟨x.op, x.a, x.b, x.c, 0, ⟨#[]⟩, 0, 0, 0, 0⟩], by omega, by go_num, by omega, hid ⟨by rw [List.length_append, HI'.out.2]; rfl, ?_⟩, hid ?_⟩
                              · have h9 := HE3.out
                                rw [HIT.out] at h9
                                rw [HI'.out.1, ← h9]
                                cases itemsGo decS p t.code (q + 1) (t.code.drop (q + 1)) with
                                | none => rfl
                                | some l =>
                                  simp only [Option.map_some, List.append_assoc]
                                  by_cases ht : isTgt t.code q = true
                                  · rw [if_pos ht, if_pos ht]; rfl
                                  · rw [if_neg ht, if_neg ht]; rfl
                              · rw [List.flatMap_append, List.flatMap_cons, List.flatMap_nil, List.append_nil]
                                exact HP8.out
                          · have z1 : (x.n == 0) = false := by simp [hn0]
                            have HEN := hid (show E = none from by
                              have h9 := HE3.out
                              rw [show itemD decS p t.code x = none from by unfold itemD; rw [if_neg (by rw [HFF.out]; simp), if_neg h1, if_neg h6, if_neg (by omega), if_neg hn0]] at h9
                              exact h9.symm)
                            clear h1 h6 h0 hn0
                            have z0 := HY.out.cell (i := 5) rfl 0
                            have z1 := HY.out.cell (i := 5) rfl 1
                            have z2 := HY.out.cell (i := 5) rfl 2
                            have z3 := HY.out.cell (i := 5) rfl 3
                            have zf := HY.out.free (i := 5) rfl
                            simp only [List.getElem?_toArray, List.getElem?_cons_zero, List.getElem?_cons_succ] at z0 z1 z2 z3
                            have q4 := (((HY.out.put 5 rfl 0 (.string ⟨#[]⟩) rfl).put 5 rfl 1 (.slice none 0 0) rfl).put 5 rfl 2 (.int .i64 0) rfl).put 5 rfl 3 (.int .i64 0) rfl
                            simp only [List.set_cons_zero, List.set_cons_succ, List.setIfInBounds_toArray] at q4
                            have Q4 := hid q4
                            clear q4
                            go_wp2_with (first | (go_at_call 29; refine (touches_calls _ _).mono ?_; rintro e w' ⟨rfl, hw9⟩; rw [← hw9]; clear hw9) | (fail))
                            obtain ⟨wZ, hwZ⟩ : ∃ wZ, ((((wY.setCell ⟨w.heap.size + 1 + 1, 0, none⟩ (.string ⟨#[]⟩)).setCell ⟨w.heap.size + 1 + 1, 1, none⟩ (.slice none 0 0)).setCell ⟨w.heap.size + 1 + 1, 2, none⟩ (.int .i64 0)).setCell ⟨w.heap.size + 1 + 1, 3, none⟩ (.int .i64 0)) = wZ := ⟨_, rfl⟩
                            rw [hwZ] at Q4
                            try rw [hwZ]
                            have d0 := Q4.out.cell (i := 5) rfl 0
                            have d1 := Q4.out.cell (i := 5) rfl 1
                            have d2 := Q4.out.cell (i := 5) rfl 2
                            have d3 := Q4.out.cell (i := 5) rfl 3
                            simp only [List.getElem?_toArray, List.getElem?_cons_zero, List.getElem?_cons_succ] at d0 d1 d2 d3
                            have hEn := HEN.out
                            subst hEn
                            exact bodyPost_ret (v := .tuple #[.agg #[.string ⟨#[]⟩, .slice none 0 0, .int .i64 0, .int .i64 0], .bool false]) (by simp [results, Tryd.results19, go_sem, d0, d1, d2, d3]) rfl (blockP_none Q4.out.chg)
                        · have e0 : (touchB x.op != 0) = true := by simp [h0]
                          have e0' : (touchB x.op == 0) = false := by simp [h0]
                          have hnc := name_calls wY (HPV.out wY HY.out.chg) HSP.out (touchB x.op) x.n
                          have p0 := HY.out.cell (i := 7) rfl 0
                          have p1 := HY.out.cell (i := 7) rfl 1
                          have p2 := HY.out.cell (i := 7) rfl 2
                          have p3 := HY.out.cell (i := 7) rfl 3
                          have p4 := HY.out.cell (i := 7) rfl 4
                          simp only [List.getElem?_toArray, List.getElem?_cons_zero, List.getElem?_cons_succ] at p0 p1 p2 p3 p4
                          cases hnm : nameD p (touchB x.op) x.n with
                          | none =>
                            rw [hnm, nameV_none] at hnc
                            have HNC := hid hnc
                            have HEN := hid (show E = none from by
                              have h9 := HE3.out
                              rw [show itemD decS p t.code x = none from by unfold itemD; rw [if_neg (by rw [HFF.out]; simp), if_neg h1, if_neg h6, if_pos h0, hnm]; rfl] at h9
                              exact h9.symm)
                            clear h1 h6 h0 hnm hnc
                            go_upto_region 35 with (go_at_call 29; refine (touches_calls _ _).mono ?_; rintro e w' ⟨rfl, hw9⟩; rw [← hw9]; clear hw9)
                            go_wp2_with (go_at_call 33; refine halt (fun X hX => ?_))
                            rw [hX.out]; clear hX
                            refine HNC.out.mono ?_
                            rintro e wN ⟨rfl, hcN⟩
                            have hQ := (HY.out.same hcN).put 0 rfl 5 (.string ⟨#[]⟩) rfl
                            simp only [List.set_cons_zero, List.set_cons_succ, List.setIfInBounds_toArray] at hQ
                            have y4 := hcN.cell y4 (by simp)
                            have y5 := hcN.cell y5 (by simp)
                            have yf := (HY.out.same hcN).free (i := 0) rfl
                            have HC9 := hid hQ
                            clear hQ
                            go_upto_region 37 with fail
                            obtain ⟨wR, hwR⟩ : ∃ wR, wN.setCell ⟨yb, 5, none⟩ (.string ⟨#[]⟩) = wR := ⟨_, rfl⟩
                            rw [hwR] at HC9
                            try rw [hwR]
                            clear hwR
                            have z0 := HC9.out.cell (i := 5) rfl 0
                            have z1 := HC9.out.cell (i := 5) rfl 1
                            have z2 := HC9.out.cell (i := 5) rfl 2
                            have z3 := HC9.out.cell (i := 5) rfl 3
                            have zf := HC9.out.free (i := 5) rfl
                            simp only [List.getElem?_toArray, List.getElem?_cons_zero, List.getElem?_cons_succ] at z0 z1 z2 z3
                            have q4 := (((HC9.out.put 5 rfl 0 (.string ⟨#[]⟩) rfl).put 5 rfl 1 (.slice none 0 0) rfl).put 5 rfl 2 (.int .i64 0) rfl).put 5 rfl 3 (.int .i64 0) rfl
                            simp only [List.set_cons_zero, List.set_cons_succ, List.setIfInBounds_toArray] at q4
                            have Q4 := hid q4
                            clear q4
                            go_wp2_with (first | (go_at_call 29; refine (touches_calls _ _).mono ?_; rintro e w' ⟨rfl, hw9⟩; rw [← hw9]; clear hw9) | (fail))
                            obtain ⟨wZ, hwZ⟩ : ∃ wZ, ((((wR.setCell ⟨w.heap.size + 1 + 1, 0, none⟩ (.string ⟨#[]⟩)).setCell ⟨w.heap.size + 1 + 1, 1, none⟩ (.slice none 0 0)).setCell ⟨w.heap.size + 1 + 1, 2, none⟩ (.int .i64 0)).setCell ⟨w.heap.size + 1 + 1, 3, none⟩ (.int .i64 0)) = wZ := ⟨_, rfl⟩
                            rw [hwZ] at Q4
                            try rw [hwZ]
                            have d0 := Q4.out.cell (i := 5) rfl 0
                            have d1 := Q4.out.cell (i := 5) rfl 1
                            have d2 := Q4.out.cell (i := 5) rfl 2
                            have d3 := Q4.out.cell (i := 5) rfl 3
                            simp only [List.getElem?_toArray, List.getElem?_cons_zero, List.getElem?_cons_succ] at d0 d1 d2 d3
                            have hEn := HEN.out
                            subst hEn
                            exact bodyPost_ret (v := .tuple #[.agg #[.string ⟨#[]⟩, .slice none 0 0, .int .i64 0, .int .i64 0], .bool false]) (by simp [results, Tryd.results19, go_sem, d0, d1, d2, d3]) rfl (blockP_none Q4.out.chg)
                          | some nm =>
                            rw [hnm, nameV_some] at hnc
                            have HNC := hid hnc
                            have HIT := hid (show itemD decS p t.code x = some ⟨x.op, x.a, x.b, x.c, 0, nm, 0, 0, 0, 0⟩ from by unfold itemD; rw [if_neg (by rw [HFF.out]; simp), if_neg h1, if_neg h6, if_pos h0, hnm]; rfl)
                            clear h1 h6 h0 hnm hnc
                            go_upto_region 35 with (go_at_call 29; refine (touches_calls _ _).mono ?_; rintro e w' ⟨rfl, hw9⟩; rw [← hw9]; clear hw9)
                            go_wp2_with (go_at_call 33; refine halt (fun X hX => ?_))
                            rw [hX.out]; clear hX
                            refine HNC.out.mono ?_
                            rintro e wN ⟨rfl, hcN⟩
                            have y4 := hcN.cell y4 (by simp)
                            have y5 := hcN.cell y5 (by simp)
                            have yf := (HY.out.same hcN).free (i := 0) rfl
                            have hD := (HY.out.same hcN).put 0 rfl 5 (.string nm) rfl
                            simp only [List.set_cons_zero, List.set_cons_succ, List.setIfInBounds_toArray] at hD
                            have HD := hid hD
                            clear hD hcN HNC
                            go_upto_region 38 with fail
                            obtain ⟨wD, hwD⟩ : ∃ wD, wN.setCell ⟨yb, 5, none⟩ (.string nm) = wD := ⟨_, rfl⟩
                            rw [hwD] at HD
                            try rw [hwD]
                            clear hwD i0 i1 i2 i3 i4 y4 y5 yf p0 p1 p2 p3 p4
                            have v1 := HD.out.cell (i := 3) rfl 1
                            have y0 := HD.out.cell (i := 0) rfl 0
                            have y1 := HD.out.cell (i := 0) rfl 1
                            have y2 := HD.out.cell (i := 0) rfl 2
                            have y3 := HD.out.cell (i := 0) rfl 3
                            have y4 := HD.out.cell (i := 0) rfl 4
                            have y5 := HD.out.cell (i := 0) rfl 5
                            have y6 := HD.out.cell (i := 0) rfl 6
                            have y7 := HD.out.cell (i := 0) rfl 7
                            have y8 := HD.out.cell (i := 0) rfl 8
                            have y9 := HD.out.cell (i := 0) rfl 9
                            simp only [List.getElem?_toArray, List.getElem?_cons_zero, List.getElem?_cons_succ] at v1 y0 y1 y2 y3 y4 y5 y6 y7 y8 y9
                            have hrow := HD.out.rowAt (i := 2) rfl
                            go_wp2_with (at_builtin; refine wpList_grew rfl _ _ 54 rfl elem_itm rfl (hrow.keep ((Chg.refl [] _).alloc _) (by simp)) rfl (View.structAt wD [.int .i64 x.op, .int .i64 x.a, .int .i64 x.b, .int .i64 x.c, .int .i64 0, .string nm, .int .i64 0, .int .i64 0, .int .i64 0, .int .i64 0] 82 rfl rfl) (by simp [Value.oneCell']) (by unfold maxLen; omega) (by omega) (fun ao8 cap8 r8 w8 hr8 hg8 => halt (fun X hX => ?_)))
                            rw [hX.out]; clear hX
                            have hH8 := HD.out.grow 2 rfl ((Chg.refl [] _).alloc _) hr8 hg8.chg hg8.fresh rfl
                            have v8 := hH8.cell (i := 3) rfl 1
                            have f8 := hH8.free (i := 3) rfl
                            simp only [List.set_cons_zero, List.set_cons_succ, List.getElem?_toArray, List.getElem?_cons_zero, List.getElem?_cons_succ] at v8
                            have hP8 := hH8.put 3 rfl 1 (.slice ao8 (len' + 1) cap8) rfl
                            simp only [List.set_cons_zero, List.set_cons_succ, List.setIfInBounds_toArray] at hP8
                            have HP8 := hid (hP8.sub (.cons _ (.cons _ (.refl _))))
                            clear hH8 hP8 hrow hr8 hg8 v1 y0 y1 y2 y3 y4 y5 y6 y7 y8 y9
                            go_wp2_with fail
                            go_roundg (gk - 1)
                            case measure => omega
                            case rel =>
                              refine ⟨q + 1, len' + 1, ao8, cap8, r8, its' ++ [⟨x.op, x.a, x.b, x.c, 0, nm, 0, 0, 0, 0⟩], by omega, by go_num, by omega, hid ⟨by rw [List.length_append, HI'.out.2]; rfl, ?_⟩, hid ?_⟩
                              · have h9 := HE3.out
                                rw [HIT.out] at h9
                                rw [HI'.out.1, ← h9]
                                cases itemsGo decS p t.code (q + 1) (t.code.drop (q + 1)) with
                                | none => rfl
                                | some l =>
                                  simp only [Option.map_some, List.append_assoc]
                                  by_cases ht : isTgt t.code q = true
                                  · rw [if_pos ht, if_pos ht]; rfl
                                  · rw [if_neg ht, if_neg ht]; rfl
                              · rw [List.flatMap_append, List.flatMap_cons, List.flatMap_nil, List.append_nil]
                                exact HP8.out
            · obtain rfl : q = n := by omega
              have hEs : some (⟨t.name, its, 0, 0⟩ : BkD) = E := by
                have h9 := HI.out.2
                rw [List.drop_of_length_le (by rw [HN.out]; exact Nat.le_refl _)] at h9
                simpa [itemsGo] using h9
              have b0 := H.out.cell (i := 1) rfl 0
              have b1 := H.out.cell (i := 1) rfl 1
              have b2 := H.out.cell (i := 1) rfl 2
              have b3 := H.out.cell (i := 1) rfl 3
              have z0 := H.out.cell (i := 3) rfl 0
              have z1 := H.out.cell (i := 3) rfl 1
              have z2 := H.out.cell (i := 3) rfl 2
              have z3 := H.out.cell (i := 3) rfl 3
              have zf := H.out.free (i := 3) rfl
              simp only [List.getElem?_toArray, List.getElem?_cons_zero, List.getElem?_cons_succ] at b0 b1 b2 b3 z0 z1 z2 z3
              have q4 := (((H.out.put 3 rfl 0 (.string t.name) rfl).put 3 rfl 1 (.slice ao len cap) rfl).put 3 rfl 2 (.int .i64 0) rfl).put 3 rfl 3 (.int .i64 0) rfl
              simp only [List.set_cons_zero, List.set_cons_succ, List.setIfInBounds_toArray] at q4
              have Q4 := hid q4
              clear q4
              go_wp2_with fail
              obtain ⟨wZ, hwZ⟩ : ∃ wZ, ((((wr.setCell ⟨w.heap.size + 1 + 1, 0, none⟩ (.string t.name)).setCell ⟨w.heap.size + 1 + 1, 1, none⟩ (.slice ao len cap)).setCell ⟨w.heap.size + 1 + 1, 2, none⟩ (.int .i64 0)).setCell ⟨w.heap.size + 1 + 1, 3, none⟩ (.int .i64 0)) = wZ := ⟨_, rfl⟩
              rw [hwZ] at Q4
              try rw [hwZ]
              have d0 := Q4.out.cell (i := 3) rfl 0
              have d1 := Q4.out.cell (i := 3) rfl 1
              have d2 := Q4.out.cell (i := 3) rfl 2
              have d3 := Q4.out.cell (i := 3) rfl 3
              simp only [List.getElem?_toArray, List.getElem?_cons_zero, List.getElem?_cons_succ] at d0 d1 d2 d3
              subst hEs
              exact bodyPost_ret (v := .tuple #[.agg #[.string t.name, .slice ao len cap, .int .i64 0, .int .i64 0], .bool true]) (by simp [results, Tryd.results19, go_sem, d0, d1, d2, d3]) rfl (blockP_some (by rw [HI.out.1]; exact Q4.out.rowAt (i := 0) rfl) Q4.out.chg (fun g hg => .inr (Q4.out.lo _ (List.mem_cons_self ..) g hg)))
end Go.Proofs.YtaknmhipaifdkaaDoor
