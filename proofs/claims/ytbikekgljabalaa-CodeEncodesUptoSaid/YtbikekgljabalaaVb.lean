/- The document's writers of a program's bytes: variables, an instruction. -/
import Derived.Test.YtbikekgljabalaaVa
import Derived.Test.YtbikekgljabalaaM05
import Derived.IntWalk
namespace Go.Proofs.Ytbikekgljabalaa
open Go.RowKit Go.AB
set_option linter.unusedSimpArgs false
set_option linter.unusedVariables false
set_option linter.unusedSectionVars false

set_option maxHeartbeats 4000000 in
set_option maxRecDepth 100000 in
theorem q_layVars (xs : List VarD) (hb : ∀ x ∈ xs, x.name.size ≤ 24 ∧ I64 x.first) (hn : xs.length ≤ 4096) {v : Value} {w0 w : World} {l : List UInt8} {ao : Option Addr} {n cap : Nat} {K : List (Nat × Obj)} (hO : On w0 w l ao n cap K) (hl : l.length ≤ 137438953472) (hv : Lst varC 2 w0 v xs) :
    Calls Try.prog 68 #[.slice ao n cap, v] w (OnPost w0 (l ++ varsL xs) K) := by
  obtain ⟨aov, capv, rfl, _⟩ := hv.len
  have HV := hid hv
  have HB := hid hb
  obtain ⟨N, hnn⟩ : ∃ n, xs.length = n := ⟨_, rfl⟩
  have HN := hid hnn
  have hsn := q_short_on hO (by omega) N (by omega)
  rw [hnn] at HV hn ⊢
  have HSN := hid hsn
  have HLL : Hid (∀ k, k ≤ N → (l ++ shortB N ++ (xs.take k).flatMap varB).length ≤ 137439953472) := hid fun k hk => by
    rw [List.length_append, List.length_append]
    have h1 := shortB_10 (n := N) (by unfold U64; omega)
    have h2 := flat_le (f := varB) (m := 44) (xs.take k) (fun x hx => varB_len (hb x (List.mem_of_mem_take hx)).1 (hb x (List.mem_of_mem_take hx)).2)
    have h3 : (xs.take k).length ≤ 4096 := by rw [List.length_take]; omega
    omega
  clear hv hb hnn hO hsn hl
  go_enter Try.func68, Try.ntmps68
  go_wp2_with (go_at_call 69; (with_reducible refine HSN.out.mono ?_); rintro e w1 ⟨ao1, n1, cap1, rfl, HO1⟩)
  go_loopw [0, 5] (fun x i wr => ∃ k ao2 n2 cap2, k ≤ N ∧ i = .int .i64 (k : Nat) ∧ x = .slice ao2 n2 cap2 ∧ Hid (On w0 wr (l ++ shortB N ++ (xs.take k).flatMap varB) ao2 n2 cap2 K)) (fun _ i _ => N - (intOf i).toNat)
  case atStart => exact ⟨0, ao1, n1, cap1, Nat.zero_le _, rfl, rfl, by show On _ _ _ _ _ _ _; simpa using HO1.out⟩
  case round =>
    obtain ⟨k, ao2, n2, cap2, hk, rfl, rfl, hw⟩ := hrel
    by_cases hlt : k < N
    · have hkl : k < xs.length := by rw [HN.out]; exact hlt
      obtain ⟨bb, off, hao, hcl⟩ := HV.out.at varC_len hkl (by omega)
      have zl : (k : Int) < (N : Int) := by omega
      have z0 : (0 : Int) ≤ (k : Int) := by omega
      have d0 : w0.cell? ⟨bb, off + k * 2, none⟩ = some (.string xs[k].name) := hcl 0 (by omega)
      have d1 : w0.cell? ⟨bb, off + k * 2 + 1, none⟩ = some (.int .i64 xs[k].first) := hcl 1 (by omega)
      have hbx := HB.out _ (List.getElem_mem hkl)
      have htk : xs.take (k + 1) = xs.take k ++ [xs[k]] := List.take_succ_eq_append_getElem hkl
      have hlen := HLL.out k hk
      have hle2 := HLL.out (k + 1) (by omega)
      rw [htk, List.flatMap_append] at hle2
      obtain ⟨X, hX⟩ : ∃ X, xs[k] = X := ⟨_, rfl⟩
      rw [hX] at d0 d1 hbx htk hle2
      obtain ⟨nm, fi⟩ := X
      simp only at d0 d1 hbx
      have ht := fun u (hu : Chg [] wr u) => q_text_on (hw.out.keep hu) (by omega) nm (by omega)
      have hs := fun (u : World) a b c (hu : On w0 u (l ++ shortB N ++ (xs.take k).flatMap varB ++ textB nm) a b c K) => q_signed_on hu (by
        have := textB_len hbx.1
        simp only [List.length_append] at hlen ⊢
        omega) fi hbx.2
      have hfin : l ++ shortB N ++ (xs.take k).flatMap varB ++ textB nm ++ shortB (zig fi) = l ++ shortB N ++ (xs.take (k + 1)).flatMap varB := by
        rw [htk, List.flatMap_append]
        simp [varB, List.append_assoc]
      rw [hfin] at hs
      have HT := hid ht
      have HS := hid hs
      have HDD := hid (And.intro d0 d1)
      have c0 := hw.out.chg.cell d0 (by simp)
      have c1 := hw.out.chg.cell d1 (by simp)
      subst hao
      clear ht hs hcl hX htk hlen hle2 hfin hw d0 d1
      go_wp2_with fail
      go_region_held3 (fun w' => w'.cell? ⟨bb, off + k * 2, none⟩ = some (.string nm) ∧ w'.cell? ⟨bb, off + k * 2 + 1, none⟩ = some (.int .i64 fi))
        (first | exact ⟨c0, c1⟩ | exact ⟨HO3.out.chg.cell HDD.out.1 (by simp), HO3.out.chg.cell HDD.out.2 (by simp)⟩ | exact ⟨HO4.out.chg.cell HDD.out.1 (by simp), HO4.out.chg.cell HDD.out.2 (by simp)⟩)
        (first
        | (go_at_call 70; (with_reducible refine (HT.out _ ?_).mono ?_); (first | exact Chg.of_drewN [] _ 1 | exact (Chg.refl [] _).drew); rintro e w3 ⟨ao3, n3, cap3, rfl, HO3⟩)
        | (go_at_call 71; (with_reducible refine (HS.out _ _ _ _ HO3.out).mono ?_); rintro e w4 ⟨ao4, n4, cap4, rfl, HO4⟩))
      go_wp2
      go_roundw
      case rel => exact ⟨k + 1, ao4, n4, cap4, by omega, by go_num, rfl, HO4⟩
      case measure => simp [intOf]; omega
    · obtain rfl : k = N := by omega
      have hf := hw.out
      rw [List.take_of_length_le (by rw [HN.out]; exact Nat.le_refl _)] at hf
      have hf2 : On w0 wr (l ++ varsL xs) ao2 n2 cap2 K := by
        unfold varsL
        rw [HN.out, ← List.append_assoc]
        exact hf
      have HF := hid hf2
      clear hf hf2 hw
      go_wp2
      go_ret
      exact ⟨ao2, n2, cap2, rfl, HF⟩

set_option maxHeartbeats 4000000 in
set_option maxRecDepth 100000 in
theorem q_ins_0000 (x0 x1 x2 x3 x4 ln pl cl : Int) (o1 : 1 ≤ x0) (o2 : x0 ≤ 20) (r1 : 0 ≤ x1) (r2 : x1 ≤ 15) (r3 : 0 ≤ x2) (r4 : x2 ≤ 15) (r5 : 0 ≤ x3) (r6 : x3 ≤ 15) (h64 : I64 x4) (hq : nA x0 = false ∧ nB x0 = false ∧ nC x0 = false ∧ nN x0 = false)
    (m1 : 0 ≤ ln) (m2 : ln ≤ 2147483647) (u1 : 0 ≤ pl) (u2 : pl ≤ 2147483647) (u3 : 0 ≤ cl) (u4 : cl ≤ 2147483647) {w0 w : World} {l : List UInt8} {ao : Option Addr} {n cap : Nat} {K : List (Nat × Obj)} (hO : On w0 w l ao n cap K) (hl : l.length ≤ 137439953472) :
    Calls Try.prog 72 #[.slice ao n cap, .agg #[.int .i64 x0, .int .i64 x1, .int .i64 x2, .int .i64 x3, .int .i64 x4], .int .i64 ln, .agg #[.int .i64 pl, .int .i64 cl]] w (OnPost w0 (l ++ insL ln ⟨x0, x1, x2, x3, x4⟩ ⟨pl, cl⟩) K) := by
  have hins : insL ln ⟨x0, x1, x2, x3, x4⟩ ⟨pl, cl⟩ = [UInt8.ofNat x0.toNat] ++ (if nA x0 then [UInt8.ofNat (x1 + 16 * x2).toNat] else []) ++ (if nC x0 then [UInt8.ofNat x3.toNat] else []) ++ (if nN x0 then shortB (zig x4) else []) ++ shortB (zig (pl - ln)) ++ shortB cl.toNat := rfl
  have hnm := r_names_calls x0
  rw [hq.1, hq.2.2.1, hq.2.2.2] at hins
  rw [hq.1, hq.2.1, hq.2.2.1, hq.2.2.2] at hnm
  have hd64 : I64 (pl - ln) := by unfold I64; omega
  have s1 := shortB_10 (zig_U64 h64)
  have s2 := shortB_10 (n := zig (pl - ln)) (zig_U64 hd64)
  have HSL := hid (And.intro s1 s2)
  have HI64 := hid (And.intro h64 hd64)
  obtain ⟨cn, rfl⟩ : ∃ cn : Nat, cl = cn := ⟨cl.toNat, by omega⟩
  have hO2 := (hO.box (.cells #[.int .i64 x0, .int .i64 x1, .int .i64 x2, .int .i64 x3, .int .i64 x4] 61)).box (.cells #[.int .i64 pl, .int .i64 (cn : Int)] 63)
  rw [World.size_alloc] at hO2
  have FA : Hid (∀ u l' a b c, On w0 u l' a b c ((w.heap.size + 1, Obj.cells #[.int .i64 pl, .int .i64 (cn : Int)] 63 (0, 0)) :: (w.heap.size, Obj.cells #[.int .i64 x0, .int .i64 x1, .int .i64 x2, .int .i64 x3, .int .i64 x4] 61 (0, 0)) :: K) →
      u.cell? ⟨w.heap.size, 0, none⟩ = some (.int .i64 x0) ∧ u.cell? ⟨w.heap.size, 1, none⟩ = some (.int .i64 x1) ∧ u.cell? ⟨w.heap.size, 2, none⟩ = some (.int .i64 x2) ∧ u.cell? ⟨w.heap.size, 3, none⟩ = some (.int .i64 x3) ∧ u.cell? ⟨w.heap.size, 4, none⟩ = some (.int .i64 x4) ∧
      u.cell? ⟨w.heap.size + 1, 0, none⟩ = some (.int .i64 pl) ∧ u.cell? ⟨w.heap.size + 1, 1, none⟩ = some (.int .i64 (cn : Int))) := hid fun u l' a b c h =>
    ⟨h.cell (List.mem_cons_of_mem _ (List.mem_cons_self ..)) 0, h.cell (List.mem_cons_of_mem _ (List.mem_cons_self ..)) 1, h.cell (List.mem_cons_of_mem _ (List.mem_cons_self ..)) 2, h.cell (List.mem_cons_of_mem _ (List.mem_cons_self ..)) 3, h.cell (List.mem_cons_of_mem _ (List.mem_cons_self ..)) 4, h.cell (List.mem_cons_self ..) 0, h.cell (List.mem_cons_self ..) 1⟩
  obtain ⟨K2, hK2⟩ : ∃ K2, (w.heap.size + 1, Obj.cells #[.int .i64 pl, .int .i64 (cn : Int)] 63 (0, 0)) :: (w.heap.size, Obj.cells #[.int .i64 x0, .int .i64 x1, .int .i64 x2, .int .i64 x3, .int .i64 x4] 61 (0, 0)) :: K = K2 := ⟨_, rfl⟩
  rw [hK2] at FA hO2
  have HKK := hid (fun q (hq : q ∈ K) => (by rw [← hK2]; exact List.mem_cons_of_mem _ (List.mem_cons_of_mem _ hq) : q ∈ K2))
  have HNM := hid hnm
  have HW := hid hO2
  have HNX := hid (congrArg (fun z => l ++ z) hins)
  have HL := hid hl
  simp only [Int.toNat_natCast] at HNX
  clear hins hnm hq hO hO2 h64 hd64 hK2 s1 s2 hl u3
  go_enter Try.func72, Try.ntmps72

  go_wp2_with (first
    | (go_at_call 23; refine (HNM.out _).mono ?_; rintro e w1 ⟨rfl, hc1⟩; have HV := hid (HW.out.keep hc1); obtain ⟨i0, i1, i2, i3, i4, k1, k2⟩ := FA.out _ _ _ _ _ HV.out; obtain ⟨r0, g1, g2, g3, g4, g5⟩ := HV.out; have HG0 := hid (And.intro g2 (And.intro g3 g5)); have HR0 := hid (fun o => g1.keep ((Chg.refl [] _).alloc o) (by simp)); have hnb : n ≤ 137439953600 := (by have := HL.out; rw [g4]; (try simp only [List.length_append, List.length_cons, List.length_nil]); omega); clear g1 g2 g3 g4 g5)
    | (at_builtin; refine wpList_app rfl _ _ 29 rfl elem_u8 rfl (HR0.out _) rfl (View.one _ _ _) (by simp [Value.oneCell']) (by unfold maxLen; omega) (by omega) (fun ao1 cap1 q1 u1 hr' hc' hf' _ => ?_); have HW1 := hid (On.step (l' := l ++ [UInt8.ofNat x0.toNat]) HG0.out.1 HG0.out.2.1 HG0.out.2.2 ((Chg.refl [] _).alloc _) hr' hc' hf' (by rw [List.map_append]; simp [B]; omega)); clear hr' hc' hf'; obtain ⟨i0, i1, i2, i3, i4, k1, k2⟩ := FA.out _ _ _ _ _ HW1.out; obtain ⟨r1, g1, g2, g3, g4, g5⟩ := HW1.out; have HG1 := hid (And.intro g2 (And.intro g3 g5)); have HR1 := hid (fun o => g1.keep ((Chg.refl [] _).alloc o) (by simp)); have hnb : n + 1 ≤ 137439953600 := (by have := HL.out; rw [g4]; (try simp only [List.length_append, List.length_cons, List.length_nil]); omega); clear g1 g2 g3 g4 g5)
    | (go_at_call 69; refine halt (fun X hX => ?_)))
  clear i0 i1 i2 i3 i4
  have HS6 := hid (fun u (hu : Chg [] _ u) => q_signed_on (HW1.out.keep hu) (by have := HL.out; have := HSL.out.1; have := HSL.out.2; (try simp only [List.length_append, List.length_cons, List.length_nil]); omega) (pl - ln) HI64.out.2)
  have HS7 := hid (fun u a b c (hu : On w0 u (l ++ [UInt8.ofNat x0.toNat] ++ shortB (zig (pl - ln))) a b c K2) => q_short_on hu (by have := HL.out; have := HSL.out.1; have := HSL.out.2; (try simp only [List.length_append, List.length_cons, List.length_nil]); omega) cn (by omega))
  have hwr : IntKind.i64.wrap (pl - ln) = pl - ln := IntWalk.i64_in _ (by omega)
  go_region_held3 (fun w' => w'.cell? ⟨w.heap.size + 1, 0, none⟩ = some (.int .i64 pl) ∧ w'.cell? ⟨w.heap.size + 1, 1, none⟩ = some (.int .i64 (cn : Int)))
    (first | exact ⟨k1, k2⟩ | exact ⟨(FA.out _ _ _ _ _ HW6.out).2.2.2.2.2.1, (FA.out _ _ _ _ _ HW6.out).2.2.2.2.2.2⟩ | exact ⟨(FA.out _ _ _ _ _ HW7.out).2.2.2.2.2.1, (FA.out _ _ _ _ _ HW7.out).2.2.2.2.2.2⟩)
    (first
    | (go_at_call 71; (with_reducible refine (HS6.out _ ?_).mono ?_); (first | exact Chg.of_drewN [] _ 1 | exact (Chg.refl [] _).drew); rintro e w6 ⟨ao6, n6, cap6, rfl, HW6⟩)
    | (go_at_call 69; (with_reducible refine (HS7.out _ _ _ _ HW6.out).mono ?_); rintro e w7 ⟨ao7, n7, cap7, rfl, HW7⟩))
  go_wp2
  go_ret
  refine ⟨ao7, n7, cap7, rfl, hid ?_⟩
  have h := HW7.out.sub HKK.out
  have hx := HNX.out
  simp only [if_true, Bool.false_eq_true, if_false, List.append_nil, List.nil_append] at hx
  rw [hx]
  simpa [List.append_assoc] using h

set_option maxHeartbeats 4000000 in
set_option maxRecDepth 100000 in
theorem q_ins_0001 (x0 x1 x2 x3 x4 ln pl cl : Int) (o1 : 1 ≤ x0) (o2 : x0 ≤ 20) (r1 : 0 ≤ x1) (r2 : x1 ≤ 15) (r3 : 0 ≤ x2) (r4 : x2 ≤ 15) (r5 : 0 ≤ x3) (r6 : x3 ≤ 15) (h64 : I64 x4) (hq : nA x0 = false ∧ nB x0 = false ∧ nC x0 = false ∧ nN x0 = true)
    (m1 : 0 ≤ ln) (m2 : ln ≤ 2147483647) (u1 : 0 ≤ pl) (u2 : pl ≤ 2147483647) (u3 : 0 ≤ cl) (u4 : cl ≤ 2147483647) {w0 w : World} {l : List UInt8} {ao : Option Addr} {n cap : Nat} {K : List (Nat × Obj)} (hO : On w0 w l ao n cap K) (hl : l.length ≤ 137439953472) :
    Calls Try.prog 72 #[.slice ao n cap, .agg #[.int .i64 x0, .int .i64 x1, .int .i64 x2, .int .i64 x3, .int .i64 x4], .int .i64 ln, .agg #[.int .i64 pl, .int .i64 cl]] w (OnPost w0 (l ++ insL ln ⟨x0, x1, x2, x3, x4⟩ ⟨pl, cl⟩) K) := by
  have hins : insL ln ⟨x0, x1, x2, x3, x4⟩ ⟨pl, cl⟩ = [UInt8.ofNat x0.toNat] ++ (if nA x0 then [UInt8.ofNat (x1 + 16 * x2).toNat] else []) ++ (if nC x0 then [UInt8.ofNat x3.toNat] else []) ++ (if nN x0 then shortB (zig x4) else []) ++ shortB (zig (pl - ln)) ++ shortB cl.toNat := rfl
  have hnm := r_names_calls x0
  rw [hq.1, hq.2.2.1, hq.2.2.2] at hins
  rw [hq.1, hq.2.1, hq.2.2.1, hq.2.2.2] at hnm
  have hd64 : I64 (pl - ln) := by unfold I64; omega
  have s1 := shortB_10 (zig_U64 h64)
  have s2 := shortB_10 (n := zig (pl - ln)) (zig_U64 hd64)
  have HSL := hid (And.intro s1 s2)
  have HI64 := hid (And.intro h64 hd64)
  obtain ⟨cn, rfl⟩ : ∃ cn : Nat, cl = cn := ⟨cl.toNat, by omega⟩
  have hO2 := (hO.box (.cells #[.int .i64 x0, .int .i64 x1, .int .i64 x2, .int .i64 x3, .int .i64 x4] 61)).box (.cells #[.int .i64 pl, .int .i64 (cn : Int)] 63)
  rw [World.size_alloc] at hO2
  have FA : Hid (∀ u l' a b c, On w0 u l' a b c ((w.heap.size + 1, Obj.cells #[.int .i64 pl, .int .i64 (cn : Int)] 63 (0, 0)) :: (w.heap.size, Obj.cells #[.int .i64 x0, .int .i64 x1, .int .i64 x2, .int .i64 x3, .int .i64 x4] 61 (0, 0)) :: K) →
      u.cell? ⟨w.heap.size, 0, none⟩ = some (.int .i64 x0) ∧ u.cell? ⟨w.heap.size, 1, none⟩ = some (.int .i64 x1) ∧ u.cell? ⟨w.heap.size, 2, none⟩ = some (.int .i64 x2) ∧ u.cell? ⟨w.heap.size, 3, none⟩ = some (.int .i64 x3) ∧ u.cell? ⟨w.heap.size, 4, none⟩ = some (.int .i64 x4) ∧
      u.cell? ⟨w.heap.size + 1, 0, none⟩ = some (.int .i64 pl) ∧ u.cell? ⟨w.heap.size + 1, 1, none⟩ = some (.int .i64 (cn : Int))) := hid fun u l' a b c h =>
    ⟨h.cell (List.mem_cons_of_mem _ (List.mem_cons_self ..)) 0, h.cell (List.mem_cons_of_mem _ (List.mem_cons_self ..)) 1, h.cell (List.mem_cons_of_mem _ (List.mem_cons_self ..)) 2, h.cell (List.mem_cons_of_mem _ (List.mem_cons_self ..)) 3, h.cell (List.mem_cons_of_mem _ (List.mem_cons_self ..)) 4, h.cell (List.mem_cons_self ..) 0, h.cell (List.mem_cons_self ..) 1⟩
  obtain ⟨K2, hK2⟩ : ∃ K2, (w.heap.size + 1, Obj.cells #[.int .i64 pl, .int .i64 (cn : Int)] 63 (0, 0)) :: (w.heap.size, Obj.cells #[.int .i64 x0, .int .i64 x1, .int .i64 x2, .int .i64 x3, .int .i64 x4] 61 (0, 0)) :: K = K2 := ⟨_, rfl⟩
  rw [hK2] at FA hO2
  have HKK := hid (fun q (hq : q ∈ K) => (by rw [← hK2]; exact List.mem_cons_of_mem _ (List.mem_cons_of_mem _ hq) : q ∈ K2))
  have HNM := hid hnm
  have HW := hid hO2
  have HNX := hid (congrArg (fun z => l ++ z) hins)
  have HL := hid hl
  simp only [Int.toNat_natCast] at HNX
  clear hins hnm hq hO hO2 h64 hd64 hK2 s1 s2 hl u3
  go_enter Try.func72, Try.ntmps72

  go_wp2_with (first
    | (go_at_call 23; refine (HNM.out _).mono ?_; rintro e w1 ⟨rfl, hc1⟩; have HV := hid (HW.out.keep hc1); obtain ⟨i0, i1, i2, i3, i4, k1, k2⟩ := FA.out _ _ _ _ _ HV.out; obtain ⟨r0, g1, g2, g3, g4, g5⟩ := HV.out; have HG0 := hid (And.intro g2 (And.intro g3 g5)); have HR0 := hid (fun o => g1.keep ((Chg.refl [] _).alloc o) (by simp)); have hnb : n ≤ 137439953600 := (by have := HL.out; rw [g4]; (try simp only [List.length_append, List.length_cons, List.length_nil]); omega); clear g1 g2 g3 g4 g5)
    | (at_builtin; refine wpList_app rfl _ _ 29 rfl elem_u8 rfl (HR0.out _) rfl (View.one _ _ _) (by simp [Value.oneCell']) (by unfold maxLen; omega) (by omega) (fun ao1 cap1 q1 u1 hr' hc' hf' _ => ?_); have HW1 := hid (On.step (l' := l ++ [UInt8.ofNat x0.toNat]) HG0.out.1 HG0.out.2.1 HG0.out.2.2 ((Chg.refl [] _).alloc _) hr' hc' hf' (by rw [List.map_append]; simp [B]; omega)); clear hr' hc' hf'; obtain ⟨i0, i1, i2, i3, i4, k1, k2⟩ := FA.out _ _ _ _ _ HW1.out; obtain ⟨r1, g1, g2, g3, g4, g5⟩ := HW1.out; have HG1 := hid (And.intro g2 (And.intro g3 g5)); have HR1 := hid (fun o => g1.keep ((Chg.refl [] _).alloc o) (by simp)); have hnb : n + 1 ≤ 137439953600 := (by have := HL.out; rw [g4]; (try simp only [List.length_append, List.length_cons, List.length_nil]); omega); clear g1 g2 g3 g4 g5)
    | (go_at_call 71; (with_reducible refine (q_signed_on HW1.out (by have := HL.out; have := HSL.out.1; have := HSL.out.2; (try simp only [List.length_append, List.length_cons, List.length_nil]); omega) x4 HI64.out.1).mono ?_); rintro e w5 ⟨ao5, n5, cap5, rfl, HW5⟩; obtain ⟨i0, i1, i2, i3, i4, k1, k2⟩ := FA.out _ _ _ _ _ HW5.out)
    | (go_at_call 69; refine halt (fun X hX => ?_)))
  clear i0 i1 i2 i3 i4
  have HS6 := hid (fun u (hu : Chg [] _ u) => q_signed_on (HW5.out.keep hu) (by have := HL.out; have := HSL.out.1; have := HSL.out.2; (try simp only [List.length_append, List.length_cons, List.length_nil]); omega) (pl - ln) HI64.out.2)
  have HS7 := hid (fun u a b c (hu : On w0 u (l ++ [UInt8.ofNat x0.toNat] ++ shortB (zig x4) ++ shortB (zig (pl - ln))) a b c K2) => q_short_on hu (by have := HL.out; have := HSL.out.1; have := HSL.out.2; (try simp only [List.length_append, List.length_cons, List.length_nil]); omega) cn (by omega))
  have hwr : IntKind.i64.wrap (pl - ln) = pl - ln := IntWalk.i64_in _ (by omega)
  go_region_held3 (fun w' => w'.cell? ⟨w.heap.size + 1, 0, none⟩ = some (.int .i64 pl) ∧ w'.cell? ⟨w.heap.size + 1, 1, none⟩ = some (.int .i64 (cn : Int)))
    (first | exact ⟨k1, k2⟩ | exact ⟨(FA.out _ _ _ _ _ HW6.out).2.2.2.2.2.1, (FA.out _ _ _ _ _ HW6.out).2.2.2.2.2.2⟩ | exact ⟨(FA.out _ _ _ _ _ HW7.out).2.2.2.2.2.1, (FA.out _ _ _ _ _ HW7.out).2.2.2.2.2.2⟩)
    (first
    | (go_at_call 71; (with_reducible refine (HS6.out _ ?_).mono ?_); (first | exact Chg.of_drewN [] _ 1 | exact (Chg.refl [] _).drew); rintro e w6 ⟨ao6, n6, cap6, rfl, HW6⟩)
    | (go_at_call 69; (with_reducible refine (HS7.out _ _ _ _ HW6.out).mono ?_); rintro e w7 ⟨ao7, n7, cap7, rfl, HW7⟩))
  go_wp2
  go_ret
  refine ⟨ao7, n7, cap7, rfl, hid ?_⟩
  have h := HW7.out.sub HKK.out
  have hx := HNX.out
  simp only [if_true, Bool.false_eq_true, if_false, List.append_nil, List.nil_append] at hx
  rw [hx]
  simpa [List.append_assoc] using h

set_option maxHeartbeats 4000000 in
set_option maxRecDepth 100000 in
theorem q_ins_0010 (x0 x1 x2 x3 x4 ln pl cl : Int) (o1 : 1 ≤ x0) (o2 : x0 ≤ 20) (r1 : 0 ≤ x1) (r2 : x1 ≤ 15) (r3 : 0 ≤ x2) (r4 : x2 ≤ 15) (r5 : 0 ≤ x3) (r6 : x3 ≤ 15) (h64 : I64 x4) (hq : nA x0 = false ∧ nB x0 = false ∧ nC x0 = true ∧ nN x0 = false)
    (m1 : 0 ≤ ln) (m2 : ln ≤ 2147483647) (u1 : 0 ≤ pl) (u2 : pl ≤ 2147483647) (u3 : 0 ≤ cl) (u4 : cl ≤ 2147483647) {w0 w : World} {l : List UInt8} {ao : Option Addr} {n cap : Nat} {K : List (Nat × Obj)} (hO : On w0 w l ao n cap K) (hl : l.length ≤ 137439953472) :
    Calls Try.prog 72 #[.slice ao n cap, .agg #[.int .i64 x0, .int .i64 x1, .int .i64 x2, .int .i64 x3, .int .i64 x4], .int .i64 ln, .agg #[.int .i64 pl, .int .i64 cl]] w (OnPost w0 (l ++ insL ln ⟨x0, x1, x2, x3, x4⟩ ⟨pl, cl⟩) K) := by
  have hins : insL ln ⟨x0, x1, x2, x3, x4⟩ ⟨pl, cl⟩ = [UInt8.ofNat x0.toNat] ++ (if nA x0 then [UInt8.ofNat (x1 + 16 * x2).toNat] else []) ++ (if nC x0 then [UInt8.ofNat x3.toNat] else []) ++ (if nN x0 then shortB (zig x4) else []) ++ shortB (zig (pl - ln)) ++ shortB cl.toNat := rfl
  have hnm := r_names_calls x0
  rw [hq.1, hq.2.2.1, hq.2.2.2] at hins
  rw [hq.1, hq.2.1, hq.2.2.1, hq.2.2.2] at hnm
  have hd64 : I64 (pl - ln) := by unfold I64; omega
  have s1 := shortB_10 (zig_U64 h64)
  have s2 := shortB_10 (n := zig (pl - ln)) (zig_U64 hd64)
  have HSL := hid (And.intro s1 s2)
  have HI64 := hid (And.intro h64 hd64)
  obtain ⟨cn, rfl⟩ : ∃ cn : Nat, cl = cn := ⟨cl.toNat, by omega⟩
  have hO2 := (hO.box (.cells #[.int .i64 x0, .int .i64 x1, .int .i64 x2, .int .i64 x3, .int .i64 x4] 61)).box (.cells #[.int .i64 pl, .int .i64 (cn : Int)] 63)
  rw [World.size_alloc] at hO2
  have FA : Hid (∀ u l' a b c, On w0 u l' a b c ((w.heap.size + 1, Obj.cells #[.int .i64 pl, .int .i64 (cn : Int)] 63 (0, 0)) :: (w.heap.size, Obj.cells #[.int .i64 x0, .int .i64 x1, .int .i64 x2, .int .i64 x3, .int .i64 x4] 61 (0, 0)) :: K) →
      u.cell? ⟨w.heap.size, 0, none⟩ = some (.int .i64 x0) ∧ u.cell? ⟨w.heap.size, 1, none⟩ = some (.int .i64 x1) ∧ u.cell? ⟨w.heap.size, 2, none⟩ = some (.int .i64 x2) ∧ u.cell? ⟨w.heap.size, 3, none⟩ = some (.int .i64 x3) ∧ u.cell? ⟨w.heap.size, 4, none⟩ = some (.int .i64 x4) ∧
      u.cell? ⟨w.heap.size + 1, 0, none⟩ = some (.int .i64 pl) ∧ u.cell? ⟨w.heap.size + 1, 1, none⟩ = some (.int .i64 (cn : Int))) := hid fun u l' a b c h =>
    ⟨h.cell (List.mem_cons_of_mem _ (List.mem_cons_self ..)) 0, h.cell (List.mem_cons_of_mem _ (List.mem_cons_self ..)) 1, h.cell (List.mem_cons_of_mem _ (List.mem_cons_self ..)) 2, h.cell (List.mem_cons_of_mem _ (List.mem_cons_self ..)) 3, h.cell (List.mem_cons_of_mem _ (List.mem_cons_self ..)) 4, h.cell (List.mem_cons_self ..) 0, h.cell (List.mem_cons_self ..) 1⟩
  obtain ⟨K2, hK2⟩ : ∃ K2, (w.heap.size + 1, Obj.cells #[.int .i64 pl, .int .i64 (cn : Int)] 63 (0, 0)) :: (w.heap.size, Obj.cells #[.int .i64 x0, .int .i64 x1, .int .i64 x2, .int .i64 x3, .int .i64 x4] 61 (0, 0)) :: K = K2 := ⟨_, rfl⟩
  rw [hK2] at FA hO2
  have HKK := hid (fun q (hq : q ∈ K) => (by rw [← hK2]; exact List.mem_cons_of_mem _ (List.mem_cons_of_mem _ hq) : q ∈ K2))
  have HNM := hid hnm
  have HW := hid hO2
  have HNX := hid (congrArg (fun z => l ++ z) hins)
  have HL := hid hl
  simp only [Int.toNat_natCast] at HNX
  clear hins hnm hq hO hO2 h64 hd64 hK2 s1 s2 hl u3
  go_enter Try.func72, Try.ntmps72

  go_wp2_with (first
    | (go_at_call 23; refine (HNM.out _).mono ?_; rintro e w1 ⟨rfl, hc1⟩; have HV := hid (HW.out.keep hc1); obtain ⟨i0, i1, i2, i3, i4, k1, k2⟩ := FA.out _ _ _ _ _ HV.out; obtain ⟨r0, g1, g2, g3, g4, g5⟩ := HV.out; have HG0 := hid (And.intro g2 (And.intro g3 g5)); have HR0 := hid (fun o => g1.keep ((Chg.refl [] _).alloc o) (by simp)); have hnb : n ≤ 137439953600 := (by have := HL.out; rw [g4]; (try simp only [List.length_append, List.length_cons, List.length_nil]); omega); clear g1 g2 g3 g4 g5)
    | (at_builtin; refine wpList_app rfl _ _ 29 rfl elem_u8 rfl (HR0.out _) rfl (View.one _ _ _) (by simp [Value.oneCell']) (by unfold maxLen; omega) (by omega) (fun ao1 cap1 q1 u1 hr' hc' hf' _ => ?_); have HW1 := hid (On.step (l' := l ++ [UInt8.ofNat x0.toNat]) HG0.out.1 HG0.out.2.1 HG0.out.2.2 ((Chg.refl [] _).alloc _) hr' hc' hf' (by rw [List.map_append]; simp [B]; omega)); clear hr' hc' hf'; obtain ⟨i0, i1, i2, i3, i4, k1, k2⟩ := FA.out _ _ _ _ _ HW1.out; obtain ⟨r1, g1, g2, g3, g4, g5⟩ := HW1.out; have HG1 := hid (And.intro g2 (And.intro g3 g5)); have HR1 := hid (fun o => g1.keep ((Chg.refl [] _).alloc o) (by simp)); have hnb : n + 1 ≤ 137439953600 := (by have := HL.out; rw [g4]; (try simp only [List.length_append, List.length_cons, List.length_nil]); omega); clear g1 g2 g3 g4 g5)
    | (at_builtin; refine wpList_app rfl _ _ 29 rfl elem_u8 rfl (HR1.out _) rfl (View.one _ _ _) (by simp [Value.oneCell']) (by unfold maxLen; omega) (by omega) (fun ao2 cap2 q2 u2 hr' hc' hf' _ => ?_); have HW2 := hid (On.step (l' := l ++ [UInt8.ofNat x0.toNat] ++ [UInt8.ofNat x3.toNat]) HG1.out.1 HG1.out.2.1 HG1.out.2.2 ((Chg.refl [] _).alloc _) hr' hc' hf' (by rw [List.map_append]; simp [B]; omega)); clear hr' hc' hf'; obtain ⟨i0, i1, i2, i3, i4, k1, k2⟩ := FA.out _ _ _ _ _ HW2.out; obtain ⟨r2, g1, g2, g3, g4, g5⟩ := HW2.out; have HG2 := hid (And.intro g2 (And.intro g3 g5)); have HR2 := hid (fun o => g1.keep ((Chg.refl [] _).alloc o) (by simp)); have hnb : n + 1 + 1 ≤ 137439953600 := (by have := HL.out; rw [g4]; (try simp only [List.length_append, List.length_cons, List.length_nil]); omega); clear g1 g2 g3 g4 g5)
    | (go_at_call 69; refine halt (fun X hX => ?_)))
  clear i0 i1 i2 i3 i4
  have HS6 := hid (fun u (hu : Chg [] _ u) => q_signed_on (HW2.out.keep hu) (by have := HL.out; have := HSL.out.1; have := HSL.out.2; (try simp only [List.length_append, List.length_cons, List.length_nil]); omega) (pl - ln) HI64.out.2)
  have HS7 := hid (fun u a b c (hu : On w0 u (l ++ [UInt8.ofNat x0.toNat] ++ [UInt8.ofNat x3.toNat] ++ shortB (zig (pl - ln))) a b c K2) => q_short_on hu (by have := HL.out; have := HSL.out.1; have := HSL.out.2; (try simp only [List.length_append, List.length_cons, List.length_nil]); omega) cn (by omega))
  have hwr : IntKind.i64.wrap (pl - ln) = pl - ln := IntWalk.i64_in _ (by omega)
  go_region_held3 (fun w' => w'.cell? ⟨w.heap.size + 1, 0, none⟩ = some (.int .i64 pl) ∧ w'.cell? ⟨w.heap.size + 1, 1, none⟩ = some (.int .i64 (cn : Int)))
    (first | exact ⟨k1, k2⟩ | exact ⟨(FA.out _ _ _ _ _ HW6.out).2.2.2.2.2.1, (FA.out _ _ _ _ _ HW6.out).2.2.2.2.2.2⟩ | exact ⟨(FA.out _ _ _ _ _ HW7.out).2.2.2.2.2.1, (FA.out _ _ _ _ _ HW7.out).2.2.2.2.2.2⟩)
    (first
    | (go_at_call 71; (with_reducible refine (HS6.out _ ?_).mono ?_); (first | exact Chg.of_drewN [] _ 1 | exact (Chg.refl [] _).drew); rintro e w6 ⟨ao6, n6, cap6, rfl, HW6⟩)
    | (go_at_call 69; (with_reducible refine (HS7.out _ _ _ _ HW6.out).mono ?_); rintro e w7 ⟨ao7, n7, cap7, rfl, HW7⟩))
  go_wp2
  go_ret
  refine ⟨ao7, n7, cap7, rfl, hid ?_⟩
  have h := HW7.out.sub HKK.out
  have hx := HNX.out
  simp only [if_true, Bool.false_eq_true, if_false, List.append_nil, List.nil_append] at hx
  rw [hx]
  simpa [List.append_assoc] using h

set_option maxHeartbeats 4000000 in
set_option maxRecDepth 100000 in
theorem q_ins_0011 (x0 x1 x2 x3 x4 ln pl cl : Int) (o1 : 1 ≤ x0) (o2 : x0 ≤ 20) (r1 : 0 ≤ x1) (r2 : x1 ≤ 15) (r3 : 0 ≤ x2) (r4 : x2 ≤ 15) (r5 : 0 ≤ x3) (r6 : x3 ≤ 15) (h64 : I64 x4) (hq : nA x0 = false ∧ nB x0 = false ∧ nC x0 = true ∧ nN x0 = true)
    (m1 : 0 ≤ ln) (m2 : ln ≤ 2147483647) (u1 : 0 ≤ pl) (u2 : pl ≤ 2147483647) (u3 : 0 ≤ cl) (u4 : cl ≤ 2147483647) {w0 w : World} {l : List UInt8} {ao : Option Addr} {n cap : Nat} {K : List (Nat × Obj)} (hO : On w0 w l ao n cap K) (hl : l.length ≤ 137439953472) :
    Calls Try.prog 72 #[.slice ao n cap, .agg #[.int .i64 x0, .int .i64 x1, .int .i64 x2, .int .i64 x3, .int .i64 x4], .int .i64 ln, .agg #[.int .i64 pl, .int .i64 cl]] w (OnPost w0 (l ++ insL ln ⟨x0, x1, x2, x3, x4⟩ ⟨pl, cl⟩) K) := by
  have hins : insL ln ⟨x0, x1, x2, x3, x4⟩ ⟨pl, cl⟩ = [UInt8.ofNat x0.toNat] ++ (if nA x0 then [UInt8.ofNat (x1 + 16 * x2).toNat] else []) ++ (if nC x0 then [UInt8.ofNat x3.toNat] else []) ++ (if nN x0 then shortB (zig x4) else []) ++ shortB (zig (pl - ln)) ++ shortB cl.toNat := rfl
  have hnm := r_names_calls x0
  rw [hq.1, hq.2.2.1, hq.2.2.2] at hins
  rw [hq.1, hq.2.1, hq.2.2.1, hq.2.2.2] at hnm
  have hd64 : I64 (pl - ln) := by unfold I64; omega
  have s1 := shortB_10 (zig_U64 h64)
  have s2 := shortB_10 (n := zig (pl - ln)) (zig_U64 hd64)
  have HSL := hid (And.intro s1 s2)
  have HI64 := hid (And.intro h64 hd64)
  obtain ⟨cn, rfl⟩ : ∃ cn : Nat, cl = cn := ⟨cl.toNat, by omega⟩
  have hO2 := (hO.box (.cells #[.int .i64 x0, .int .i64 x1, .int .i64 x2, .int .i64 x3, .int .i64 x4] 61)).box (.cells #[.int .i64 pl, .int .i64 (cn : Int)] 63)
  rw [World.size_alloc] at hO2
  have FA : Hid (∀ u l' a b c, On w0 u l' a b c ((w.heap.size + 1, Obj.cells #[.int .i64 pl, .int .i64 (cn : Int)] 63 (0, 0)) :: (w.heap.size, Obj.cells #[.int .i64 x0, .int .i64 x1, .int .i64 x2, .int .i64 x3, .int .i64 x4] 61 (0, 0)) :: K) →
      u.cell? ⟨w.heap.size, 0, none⟩ = some (.int .i64 x0) ∧ u.cell? ⟨w.heap.size, 1, none⟩ = some (.int .i64 x1) ∧ u.cell? ⟨w.heap.size, 2, none⟩ = some (.int .i64 x2) ∧ u.cell? ⟨w.heap.size, 3, none⟩ = some (.int .i64 x3) ∧ u.cell? ⟨w.heap.size, 4, none⟩ = some (.int .i64 x4) ∧
      u.cell? ⟨w.heap.size + 1, 0, none⟩ = some (.int .i64 pl) ∧ u.cell? ⟨w.heap.size + 1, 1, none⟩ = some (.int .i64 (cn : Int))) := hid fun u l' a b c h =>
    ⟨h.cell (List.mem_cons_of_mem _ (List.mem_cons_self ..)) 0, h.cell (List.mem_cons_of_mem _ (List.mem_cons_self ..)) 1, h.cell (List.mem_cons_of_mem _ (List.mem_cons_self ..)) 2, h.cell (List.mem_cons_of_mem _ (List.mem_cons_self ..)) 3, h.cell (List.mem_cons_of_mem _ (List.mem_cons_self ..)) 4, h.cell (List.mem_cons_self ..) 0, h.cell (List.mem_cons_self ..) 1⟩
  obtain ⟨K2, hK2⟩ : ∃ K2, (w.heap.size + 1, Obj.cells #[.int .i64 pl, .int .i64 (cn : Int)] 63 (0, 0)) :: (w.heap.size, Obj.cells #[.int .i64 x0, .int .i64 x1, .int .i64 x2, .int .i64 x3, .int .i64 x4] 61 (0, 0)) :: K = K2 := ⟨_, rfl⟩
  rw [hK2] at FA hO2
  have HKK := hid (fun q (hq : q ∈ K) => (by rw [← hK2]; exact List.mem_cons_of_mem _ (List.mem_cons_of_mem _ hq) : q ∈ K2))
  have HNM := hid hnm
  have HW := hid hO2
  have HNX := hid (congrArg (fun z => l ++ z) hins)
  have HL := hid hl
  simp only [Int.toNat_natCast] at HNX
  clear hins hnm hq hO hO2 h64 hd64 hK2 s1 s2 hl u3
  go_enter Try.func72, Try.ntmps72

  go_wp2_with (first
    | (go_at_call 23; refine (HNM.out _).mono ?_; rintro e w1 ⟨rfl, hc1⟩; have HV := hid (HW.out.keep hc1); obtain ⟨i0, i1, i2, i3, i4, k1, k2⟩ := FA.out _ _ _ _ _ HV.out; obtain ⟨r0, g1, g2, g3, g4, g5⟩ := HV.out; have HG0 := hid (And.intro g2 (And.intro g3 g5)); have HR0 := hid (fun o => g1.keep ((Chg.refl [] _).alloc o) (by simp)); have hnb : n ≤ 137439953600 := (by have := HL.out; rw [g4]; (try simp only [List.length_append, List.length_cons, List.length_nil]); omega); clear g1 g2 g3 g4 g5)
    | (at_builtin; refine wpList_app rfl _ _ 29 rfl elem_u8 rfl (HR0.out _) rfl (View.one _ _ _) (by simp [Value.oneCell']) (by unfold maxLen; omega) (by omega) (fun ao1 cap1 q1 u1 hr' hc' hf' _ => ?_); have HW1 := hid (On.step (l' := l ++ [UInt8.ofNat x0.toNat]) HG0.out.1 HG0.out.2.1 HG0.out.2.2 ((Chg.refl [] _).alloc _) hr' hc' hf' (by rw [List.map_append]; simp [B]; omega)); clear hr' hc' hf'; obtain ⟨i0, i1, i2, i3, i4, k1, k2⟩ := FA.out _ _ _ _ _ HW1.out; obtain ⟨r1, g1, g2, g3, g4, g5⟩ := HW1.out; have HG1 := hid (And.intro g2 (And.intro g3 g5)); have HR1 := hid (fun o => g1.keep ((Chg.refl [] _).alloc o) (by simp)); have hnb : n + 1 ≤ 137439953600 := (by have := HL.out; rw [g4]; (try simp only [List.length_append, List.length_cons, List.length_nil]); omega); clear g1 g2 g3 g4 g5)
    | (at_builtin; refine wpList_app rfl _ _ 29 rfl elem_u8 rfl (HR1.out _) rfl (View.one _ _ _) (by simp [Value.oneCell']) (by unfold maxLen; omega) (by omega) (fun ao2 cap2 q2 u2 hr' hc' hf' _ => ?_); have HW2 := hid (On.step (l' := l ++ [UInt8.ofNat x0.toNat] ++ [UInt8.ofNat x3.toNat]) HG1.out.1 HG1.out.2.1 HG1.out.2.2 ((Chg.refl [] _).alloc _) hr' hc' hf' (by rw [List.map_append]; simp [B]; omega)); clear hr' hc' hf'; obtain ⟨i0, i1, i2, i3, i4, k1, k2⟩ := FA.out _ _ _ _ _ HW2.out; obtain ⟨r2, g1, g2, g3, g4, g5⟩ := HW2.out; have HG2 := hid (And.intro g2 (And.intro g3 g5)); have HR2 := hid (fun o => g1.keep ((Chg.refl [] _).alloc o) (by simp)); have hnb : n + 1 + 1 ≤ 137439953600 := (by have := HL.out; rw [g4]; (try simp only [List.length_append, List.length_cons, List.length_nil]); omega); clear g1 g2 g3 g4 g5)
    | (go_at_call 71; (with_reducible refine (q_signed_on HW2.out (by have := HL.out; have := HSL.out.1; have := HSL.out.2; (try simp only [List.length_append, List.length_cons, List.length_nil]); omega) x4 HI64.out.1).mono ?_); rintro e w5 ⟨ao5, n5, cap5, rfl, HW5⟩; obtain ⟨i0, i1, i2, i3, i4, k1, k2⟩ := FA.out _ _ _ _ _ HW5.out)
    | (go_at_call 69; refine halt (fun X hX => ?_)))
  clear i0 i1 i2 i3 i4
  have HS6 := hid (fun u (hu : Chg [] _ u) => q_signed_on (HW5.out.keep hu) (by have := HL.out; have := HSL.out.1; have := HSL.out.2; (try simp only [List.length_append, List.length_cons, List.length_nil]); omega) (pl - ln) HI64.out.2)
  have HS7 := hid (fun u a b c (hu : On w0 u (l ++ [UInt8.ofNat x0.toNat] ++ [UInt8.ofNat x3.toNat] ++ shortB (zig x4) ++ shortB (zig (pl - ln))) a b c K2) => q_short_on hu (by have := HL.out; have := HSL.out.1; have := HSL.out.2; (try simp only [List.length_append, List.length_cons, List.length_nil]); omega) cn (by omega))
  have hwr : IntKind.i64.wrap (pl - ln) = pl - ln := IntWalk.i64_in _ (by omega)
  go_region_held3 (fun w' => w'.cell? ⟨w.heap.size + 1, 0, none⟩ = some (.int .i64 pl) ∧ w'.cell? ⟨w.heap.size + 1, 1, none⟩ = some (.int .i64 (cn : Int)))
    (first | exact ⟨k1, k2⟩ | exact ⟨(FA.out _ _ _ _ _ HW6.out).2.2.2.2.2.1, (FA.out _ _ _ _ _ HW6.out).2.2.2.2.2.2⟩ | exact ⟨(FA.out _ _ _ _ _ HW7.out).2.2.2.2.2.1, (FA.out _ _ _ _ _ HW7.out).2.2.2.2.2.2⟩)
    (first
    | (go_at_call 71; (with_reducible refine (HS6.out _ ?_).mono ?_); (first | exact Chg.of_drewN [] _ 1 | exact (Chg.refl [] _).drew); rintro e w6 ⟨ao6, n6, cap6, rfl, HW6⟩)
    | (go_at_call 69; (with_reducible refine (HS7.out _ _ _ _ HW6.out).mono ?_); rintro e w7 ⟨ao7, n7, cap7, rfl, HW7⟩))
  go_wp2
  go_ret
  refine ⟨ao7, n7, cap7, rfl, hid ?_⟩
  have h := HW7.out.sub HKK.out
  have hx := HNX.out
  simp only [if_true, Bool.false_eq_true, if_false, List.append_nil, List.nil_append] at hx
  rw [hx]
  simpa [List.append_assoc] using h

set_option maxHeartbeats 4000000 in
set_option maxRecDepth 100000 in
theorem q_ins_1000 (x0 x1 x2 x3 x4 ln pl cl : Int) (o1 : 1 ≤ x0) (o2 : x0 ≤ 20) (r1 : 0 ≤ x1) (r2 : x1 ≤ 15) (r3 : 0 ≤ x2) (r4 : x2 ≤ 15) (r5 : 0 ≤ x3) (r6 : x3 ≤ 15) (h64 : I64 x4) (hq : nA x0 = true ∧ nB x0 = false ∧ nC x0 = false ∧ nN x0 = false)
    (m1 : 0 ≤ ln) (m2 : ln ≤ 2147483647) (u1 : 0 ≤ pl) (u2 : pl ≤ 2147483647) (u3 : 0 ≤ cl) (u4 : cl ≤ 2147483647) (hx2 : x2 = 0) {w0 w : World} {l : List UInt8} {ao : Option Addr} {n cap : Nat} {K : List (Nat × Obj)} (hO : On w0 w l ao n cap K) (hl : l.length ≤ 137439953472) :
    Calls Try.prog 72 #[.slice ao n cap, .agg #[.int .i64 x0, .int .i64 x1, .int .i64 x2, .int .i64 x3, .int .i64 x4], .int .i64 ln, .agg #[.int .i64 pl, .int .i64 cl]] w (OnPost w0 (l ++ insL ln ⟨x0, x1, x2, x3, x4⟩ ⟨pl, cl⟩) K) := by
  subst hx2
  have hins : insL ln ⟨x0, x1, 0, x3, x4⟩ ⟨pl, cl⟩ = [UInt8.ofNat x0.toNat] ++ (if nA x0 then [UInt8.ofNat (x1 + 16 * 0).toNat] else []) ++ (if nC x0 then [UInt8.ofNat x3.toNat] else []) ++ (if nN x0 then shortB (zig x4) else []) ++ shortB (zig (pl - ln)) ++ shortB cl.toNat := rfl
  have hnm := r_names_calls x0
  rw [hq.1, hq.2.2.1, hq.2.2.2] at hins
  rw [hq.1, hq.2.1, hq.2.2.1, hq.2.2.2] at hnm
  have hd64 : I64 (pl - ln) := by unfold I64; omega
  have s1 := shortB_10 (zig_U64 h64)
  have s2 := shortB_10 (n := zig (pl - ln)) (zig_U64 hd64)
  have HSL := hid (And.intro s1 s2)
  have HI64 := hid (And.intro h64 hd64)
  obtain ⟨cn, rfl⟩ : ∃ cn : Nat, cl = cn := ⟨cl.toNat, by omega⟩
  have hO2 := (hO.box (.cells #[.int .i64 x0, .int .i64 x1, .int .i64 0, .int .i64 x3, .int .i64 x4] 61)).box (.cells #[.int .i64 pl, .int .i64 (cn : Int)] 63)
  rw [World.size_alloc] at hO2
  have FA : Hid (∀ u l' a b c, On w0 u l' a b c ((w.heap.size + 1, Obj.cells #[.int .i64 pl, .int .i64 (cn : Int)] 63 (0, 0)) :: (w.heap.size, Obj.cells #[.int .i64 x0, .int .i64 x1, .int .i64 0, .int .i64 x3, .int .i64 x4] 61 (0, 0)) :: K) →
      u.cell? ⟨w.heap.size, 0, none⟩ = some (.int .i64 x0) ∧ u.cell? ⟨w.heap.size, 1, none⟩ = some (.int .i64 x1) ∧ u.cell? ⟨w.heap.size, 2, none⟩ = some (.int .i64 0) ∧ u.cell? ⟨w.heap.size, 3, none⟩ = some (.int .i64 x3) ∧ u.cell? ⟨w.heap.size, 4, none⟩ = some (.int .i64 x4) ∧
      u.cell? ⟨w.heap.size + 1, 0, none⟩ = some (.int .i64 pl) ∧ u.cell? ⟨w.heap.size + 1, 1, none⟩ = some (.int .i64 (cn : Int))) := hid fun u l' a b c h =>
    ⟨h.cell (List.mem_cons_of_mem _ (List.mem_cons_self ..)) 0, h.cell (List.mem_cons_of_mem _ (List.mem_cons_self ..)) 1, h.cell (List.mem_cons_of_mem _ (List.mem_cons_self ..)) 2, h.cell (List.mem_cons_of_mem _ (List.mem_cons_self ..)) 3, h.cell (List.mem_cons_of_mem _ (List.mem_cons_self ..)) 4, h.cell (List.mem_cons_self ..) 0, h.cell (List.mem_cons_self ..) 1⟩
  obtain ⟨K2, hK2⟩ : ∃ K2, (w.heap.size + 1, Obj.cells #[.int .i64 pl, .int .i64 (cn : Int)] 63 (0, 0)) :: (w.heap.size, Obj.cells #[.int .i64 x0, .int .i64 x1, .int .i64 0, .int .i64 x3, .int .i64 x4] 61 (0, 0)) :: K = K2 := ⟨_, rfl⟩
  rw [hK2] at FA hO2
  have HKK := hid (fun q (hq : q ∈ K) => (by rw [← hK2]; exact List.mem_cons_of_mem _ (List.mem_cons_of_mem _ hq) : q ∈ K2))
  have HNM := hid hnm
  have HW := hid hO2
  have HNX := hid (congrArg (fun z => l ++ z) hins)
  have HL := hid hl
  simp only [Int.toNat_natCast] at HNX
  clear hins hnm hq hO hO2 h64 hd64 hK2 s1 s2 hl u3
  go_enter Try.func72, Try.ntmps72

  go_wp2_with (first
    | (go_at_call 23; refine (HNM.out _).mono ?_; rintro e w1 ⟨rfl, hc1⟩; have HV := hid (HW.out.keep hc1); obtain ⟨i0, i1, i2, i3, i4, k1, k2⟩ := FA.out _ _ _ _ _ HV.out; obtain ⟨r0, g1, g2, g3, g4, g5⟩ := HV.out; have HG0 := hid (And.intro g2 (And.intro g3 g5)); have HR0 := hid (fun o => g1.keep ((Chg.refl [] _).alloc o) (by simp)); have hnb : n ≤ 137439953600 := (by have := HL.out; rw [g4]; (try simp only [List.length_append, List.length_cons, List.length_nil]); omega); clear g1 g2 g3 g4 g5)
    | (at_builtin; refine wpList_app rfl _ _ 29 rfl elem_u8 rfl (HR0.out _) rfl (View.one _ _ _) (by simp [Value.oneCell']) (by unfold maxLen; omega) (by omega) (fun ao1 cap1 q1 u1 hr' hc' hf' _ => ?_); have HW1 := hid (On.step (l' := l ++ [UInt8.ofNat x0.toNat]) HG0.out.1 HG0.out.2.1 HG0.out.2.2 ((Chg.refl [] _).alloc _) hr' hc' hf' (by rw [List.map_append]; simp [B]; omega)); clear hr' hc' hf'; obtain ⟨i0, i1, i2, i3, i4, k1, k2⟩ := FA.out _ _ _ _ _ HW1.out; obtain ⟨r1, g1, g2, g3, g4, g5⟩ := HW1.out; have HG1 := hid (And.intro g2 (And.intro g3 g5)); have HR1 := hid (fun o => g1.keep ((Chg.refl [] _).alloc o) (by simp)); have hnb : n + 1 ≤ 137439953600 := (by have := HL.out; rw [g4]; (try simp only [List.length_append, List.length_cons, List.length_nil]); omega); clear g1 g2 g3 g4 g5)
    | (at_builtin; refine wpList_app rfl _ _ 29 rfl elem_u8 rfl (HR1.out _) rfl (View.one _ _ _) (by simp [Value.oneCell']) (by unfold maxLen; omega) (by omega) (fun ao2 cap2 q2 u2 hr' hc' hf' _ => ?_); have HW2 := hid (On.step (l' := l ++ [UInt8.ofNat x0.toNat] ++ [UInt8.ofNat (x1 + 16 * 0).toNat]) HG1.out.1 HG1.out.2.1 HG1.out.2.2 ((Chg.refl [] _).alloc _) hr' hc' hf' (by rw [List.map_append]; simp [B]; omega)); clear hr' hc' hf'; obtain ⟨i0, i1, i2, i3, i4, k1, k2⟩ := FA.out _ _ _ _ _ HW2.out; obtain ⟨r2, g1, g2, g3, g4, g5⟩ := HW2.out; have HG2 := hid (And.intro g2 (And.intro g3 g5)); have HR2 := hid (fun o => g1.keep ((Chg.refl [] _).alloc o) (by simp)); have hnb : n + 1 + 1 ≤ 137439953600 := (by have := HL.out; rw [g4]; (try simp only [List.length_append, List.length_cons, List.length_nil]); omega); clear g1 g2 g3 g4 g5)
    | (go_at_call 69; refine halt (fun X hX => ?_)))
  clear i0 i1 i2 i3 i4
  have HS6 := hid (fun u (hu : Chg [] _ u) => q_signed_on (HW2.out.keep hu) (by have := HL.out; have := HSL.out.1; have := HSL.out.2; (try simp only [List.length_append, List.length_cons, List.length_nil]); omega) (pl - ln) HI64.out.2)
  have HS7 := hid (fun u a b c (hu : On w0 u (l ++ [UInt8.ofNat x0.toNat] ++ [UInt8.ofNat (x1 + 16 * 0).toNat] ++ shortB (zig (pl - ln))) a b c K2) => q_short_on hu (by have := HL.out; have := HSL.out.1; have := HSL.out.2; (try simp only [List.length_append, List.length_cons, List.length_nil]); omega) cn (by omega))
  have hwr : IntKind.i64.wrap (pl - ln) = pl - ln := IntWalk.i64_in _ (by omega)
  go_region_held3 (fun w' => w'.cell? ⟨w.heap.size + 1, 0, none⟩ = some (.int .i64 pl) ∧ w'.cell? ⟨w.heap.size + 1, 1, none⟩ = some (.int .i64 (cn : Int)))
    (first | exact ⟨k1, k2⟩ | exact ⟨(FA.out _ _ _ _ _ HW6.out).2.2.2.2.2.1, (FA.out _ _ _ _ _ HW6.out).2.2.2.2.2.2⟩ | exact ⟨(FA.out _ _ _ _ _ HW7.out).2.2.2.2.2.1, (FA.out _ _ _ _ _ HW7.out).2.2.2.2.2.2⟩)
    (first
    | (go_at_call 71; (with_reducible refine (HS6.out _ ?_).mono ?_); (first | exact Chg.of_drewN [] _ 1 | exact (Chg.refl [] _).drew); rintro e w6 ⟨ao6, n6, cap6, rfl, HW6⟩)
    | (go_at_call 69; (with_reducible refine (HS7.out _ _ _ _ HW6.out).mono ?_); rintro e w7 ⟨ao7, n7, cap7, rfl, HW7⟩))
  go_wp2
  go_ret
  refine ⟨ao7, n7, cap7, rfl, hid ?_⟩
  have h := HW7.out.sub HKK.out
  have hx := HNX.out
  simp only [if_true, Bool.false_eq_true, if_false, List.append_nil, List.nil_append] at hx
  rw [hx]
  simpa [List.append_assoc] using h

set_option maxHeartbeats 4000000 in
set_option maxRecDepth 100000 in
theorem q_ins_1001 (x0 x1 x2 x3 x4 ln pl cl : Int) (o1 : 1 ≤ x0) (o2 : x0 ≤ 20) (r1 : 0 ≤ x1) (r2 : x1 ≤ 15) (r3 : 0 ≤ x2) (r4 : x2 ≤ 15) (r5 : 0 ≤ x3) (r6 : x3 ≤ 15) (h64 : I64 x4) (hq : nA x0 = true ∧ nB x0 = false ∧ nC x0 = false ∧ nN x0 = true)
    (m1 : 0 ≤ ln) (m2 : ln ≤ 2147483647) (u1 : 0 ≤ pl) (u2 : pl ≤ 2147483647) (u3 : 0 ≤ cl) (u4 : cl ≤ 2147483647) (hx2 : x2 = 0) {w0 w : World} {l : List UInt8} {ao : Option Addr} {n cap : Nat} {K : List (Nat × Obj)} (hO : On w0 w l ao n cap K) (hl : l.length ≤ 137439953472) :
    Calls Try.prog 72 #[.slice ao n cap, .agg #[.int .i64 x0, .int .i64 x1, .int .i64 x2, .int .i64 x3, .int .i64 x4], .int .i64 ln, .agg #[.int .i64 pl, .int .i64 cl]] w (OnPost w0 (l ++ insL ln ⟨x0, x1, x2, x3, x4⟩ ⟨pl, cl⟩) K) := by
  subst hx2
  have hins : insL ln ⟨x0, x1, 0, x3, x4⟩ ⟨pl, cl⟩ = [UInt8.ofNat x0.toNat] ++ (if nA x0 then [UInt8.ofNat (x1 + 16 * 0).toNat] else []) ++ (if nC x0 then [UInt8.ofNat x3.toNat] else []) ++ (if nN x0 then shortB (zig x4) else []) ++ shortB (zig (pl - ln)) ++ shortB cl.toNat := rfl
  have hnm := r_names_calls x0
  rw [hq.1, hq.2.2.1, hq.2.2.2] at hins
  rw [hq.1, hq.2.1, hq.2.2.1, hq.2.2.2] at hnm
  have hd64 : I64 (pl - ln) := by unfold I64; omega
  have s1 := shortB_10 (zig_U64 h64)
  have s2 := shortB_10 (n := zig (pl - ln)) (zig_U64 hd64)
  have HSL := hid (And.intro s1 s2)
  have HI64 := hid (And.intro h64 hd64)
  obtain ⟨cn, rfl⟩ : ∃ cn : Nat, cl = cn := ⟨cl.toNat, by omega⟩
  have hO2 := (hO.box (.cells #[.int .i64 x0, .int .i64 x1, .int .i64 0, .int .i64 x3, .int .i64 x4] 61)).box (.cells #[.int .i64 pl, .int .i64 (cn : Int)] 63)
  rw [World.size_alloc] at hO2
  have FA : Hid (∀ u l' a b c, On w0 u l' a b c ((w.heap.size + 1, Obj.cells #[.int .i64 pl, .int .i64 (cn : Int)] 63 (0, 0)) :: (w.heap.size, Obj.cells #[.int .i64 x0, .int .i64 x1, .int .i64 0, .int .i64 x3, .int .i64 x4] 61 (0, 0)) :: K) →
      u.cell? ⟨w.heap.size, 0, none⟩ = some (.int .i64 x0) ∧ u.cell? ⟨w.heap.size, 1, none⟩ = some (.int .i64 x1) ∧ u.cell? ⟨w.heap.size, 2, none⟩ = some (.int .i64 0) ∧ u.cell? ⟨w.heap.size, 3, none⟩ = some (.int .i64 x3) ∧ u.cell? ⟨w.heap.size, 4, none⟩ = some (.int .i64 x4) ∧
      u.cell? ⟨w.heap.size + 1, 0, none⟩ = some (.int .i64 pl) ∧ u.cell? ⟨w.heap.size + 1, 1, none⟩ = some (.int .i64 (cn : Int))) := hid fun u l' a b c h =>
    ⟨h.cell (List.mem_cons_of_mem _ (List.mem_cons_self ..)) 0, h.cell (List.mem_cons_of_mem _ (List.mem_cons_self ..)) 1, h.cell (List.mem_cons_of_mem _ (List.mem_cons_self ..)) 2, h.cell (List.mem_cons_of_mem _ (List.mem_cons_self ..)) 3, h.cell (List.mem_cons_of_mem _ (List.mem_cons_self ..)) 4, h.cell (List.mem_cons_self ..) 0, h.cell (List.mem_cons_self ..) 1⟩
  obtain ⟨K2, hK2⟩ : ∃ K2, (w.heap.size + 1, Obj.cells #[.int .i64 pl, .int .i64 (cn : Int)] 63 (0, 0)) :: (w.heap.size, Obj.cells #[.int .i64 x0, .int .i64 x1, .int .i64 0, .int .i64 x3, .int .i64 x4] 61 (0, 0)) :: K = K2 := ⟨_, rfl⟩
  rw [hK2] at FA hO2
  have HKK := hid (fun q (hq : q ∈ K) => (by rw [← hK2]; exact List.mem_cons_of_mem _ (List.mem_cons_of_mem _ hq) : q ∈ K2))
  have HNM := hid hnm
  have HW := hid hO2
  have HNX := hid (congrArg (fun z => l ++ z) hins)
  have HL := hid hl
  simp only [Int.toNat_natCast] at HNX
  clear hins hnm hq hO hO2 h64 hd64 hK2 s1 s2 hl u3
  go_enter Try.func72, Try.ntmps72

  go_wp2_with (first
    | (go_at_call 23; refine (HNM.out _).mono ?_; rintro e w1 ⟨rfl, hc1⟩; have HV := hid (HW.out.keep hc1); obtain ⟨i0, i1, i2, i3, i4, k1, k2⟩ := FA.out _ _ _ _ _ HV.out; obtain ⟨r0, g1, g2, g3, g4, g5⟩ := HV.out; have HG0 := hid (And.intro g2 (And.intro g3 g5)); have HR0 := hid (fun o => g1.keep ((Chg.refl [] _).alloc o) (by simp)); have hnb : n ≤ 137439953600 := (by have := HL.out; rw [g4]; (try simp only [List.length_append, List.length_cons, List.length_nil]); omega); clear g1 g2 g3 g4 g5)
    | (at_builtin; refine wpList_app rfl _ _ 29 rfl elem_u8 rfl (HR0.out _) rfl (View.one _ _ _) (by simp [Value.oneCell']) (by unfold maxLen; omega) (by omega) (fun ao1 cap1 q1 u1 hr' hc' hf' _ => ?_); have HW1 := hid (On.step (l' := l ++ [UInt8.ofNat x0.toNat]) HG0.out.1 HG0.out.2.1 HG0.out.2.2 ((Chg.refl [] _).alloc _) hr' hc' hf' (by rw [List.map_append]; simp [B]; omega)); clear hr' hc' hf'; obtain ⟨i0, i1, i2, i3, i4, k1, k2⟩ := FA.out _ _ _ _ _ HW1.out; obtain ⟨r1, g1, g2, g3, g4, g5⟩ := HW1.out; have HG1 := hid (And.intro g2 (And.intro g3 g5)); have HR1 := hid (fun o => g1.keep ((Chg.refl [] _).alloc o) (by simp)); have hnb : n + 1 ≤ 137439953600 := (by have := HL.out; rw [g4]; (try simp only [List.length_append, List.length_cons, List.length_nil]); omega); clear g1 g2 g3 g4 g5)
    | (at_builtin; refine wpList_app rfl _ _ 29 rfl elem_u8 rfl (HR1.out _) rfl (View.one _ _ _) (by simp [Value.oneCell']) (by unfold maxLen; omega) (by omega) (fun ao2 cap2 q2 u2 hr' hc' hf' _ => ?_); have HW2 := hid (On.step (l' := l ++ [UInt8.ofNat x0.toNat] ++ [UInt8.ofNat (x1 + 16 * 0).toNat]) HG1.out.1 HG1.out.2.1 HG1.out.2.2 ((Chg.refl [] _).alloc _) hr' hc' hf' (by rw [List.map_append]; simp [B]; omega)); clear hr' hc' hf'; obtain ⟨i0, i1, i2, i3, i4, k1, k2⟩ := FA.out _ _ _ _ _ HW2.out; obtain ⟨r2, g1, g2, g3, g4, g5⟩ := HW2.out; have HG2 := hid (And.intro g2 (And.intro g3 g5)); have HR2 := hid (fun o => g1.keep ((Chg.refl [] _).alloc o) (by simp)); have hnb : n + 1 + 1 ≤ 137439953600 := (by have := HL.out; rw [g4]; (try simp only [List.length_append, List.length_cons, List.length_nil]); omega); clear g1 g2 g3 g4 g5)
    | (go_at_call 71; (with_reducible refine (q_signed_on HW2.out (by have := HL.out; have := HSL.out.1; have := HSL.out.2; (try simp only [List.length_append, List.length_cons, List.length_nil]); omega) x4 HI64.out.1).mono ?_); rintro e w5 ⟨ao5, n5, cap5, rfl, HW5⟩; obtain ⟨i0, i1, i2, i3, i4, k1, k2⟩ := FA.out _ _ _ _ _ HW5.out)
    | (go_at_call 69; refine halt (fun X hX => ?_)))
  clear i0 i1 i2 i3 i4
  have HS6 := hid (fun u (hu : Chg [] _ u) => q_signed_on (HW5.out.keep hu) (by have := HL.out; have := HSL.out.1; have := HSL.out.2; (try simp only [List.length_append, List.length_cons, List.length_nil]); omega) (pl - ln) HI64.out.2)
  have HS7 := hid (fun u a b c (hu : On w0 u (l ++ [UInt8.ofNat x0.toNat] ++ [UInt8.ofNat (x1 + 16 * 0).toNat] ++ shortB (zig x4) ++ shortB (zig (pl - ln))) a b c K2) => q_short_on hu (by have := HL.out; have := HSL.out.1; have := HSL.out.2; (try simp only [List.length_append, List.length_cons, List.length_nil]); omega) cn (by omega))
  have hwr : IntKind.i64.wrap (pl - ln) = pl - ln := IntWalk.i64_in _ (by omega)
  go_region_held3 (fun w' => w'.cell? ⟨w.heap.size + 1, 0, none⟩ = some (.int .i64 pl) ∧ w'.cell? ⟨w.heap.size + 1, 1, none⟩ = some (.int .i64 (cn : Int)))
    (first | exact ⟨k1, k2⟩ | exact ⟨(FA.out _ _ _ _ _ HW6.out).2.2.2.2.2.1, (FA.out _ _ _ _ _ HW6.out).2.2.2.2.2.2⟩ | exact ⟨(FA.out _ _ _ _ _ HW7.out).2.2.2.2.2.1, (FA.out _ _ _ _ _ HW7.out).2.2.2.2.2.2⟩)
    (first
    | (go_at_call 71; (with_reducible refine (HS6.out _ ?_).mono ?_); (first | exact Chg.of_drewN [] _ 1 | exact (Chg.refl [] _).drew); rintro e w6 ⟨ao6, n6, cap6, rfl, HW6⟩)
    | (go_at_call 69; (with_reducible refine (HS7.out _ _ _ _ HW6.out).mono ?_); rintro e w7 ⟨ao7, n7, cap7, rfl, HW7⟩))
  go_wp2
  go_ret
  refine ⟨ao7, n7, cap7, rfl, hid ?_⟩
  have h := HW7.out.sub HKK.out
  have hx := HNX.out
  simp only [if_true, Bool.false_eq_true, if_false, List.append_nil, List.nil_append] at hx
  rw [hx]
  simpa [List.append_assoc] using h

set_option maxHeartbeats 4000000 in
set_option maxRecDepth 100000 in
theorem q_ins_1010 (x0 x1 x2 x3 x4 ln pl cl : Int) (o1 : 1 ≤ x0) (o2 : x0 ≤ 20) (r1 : 0 ≤ x1) (r2 : x1 ≤ 15) (r3 : 0 ≤ x2) (r4 : x2 ≤ 15) (r5 : 0 ≤ x3) (r6 : x3 ≤ 15) (h64 : I64 x4) (hq : nA x0 = true ∧ nB x0 = false ∧ nC x0 = true ∧ nN x0 = false)
    (m1 : 0 ≤ ln) (m2 : ln ≤ 2147483647) (u1 : 0 ≤ pl) (u2 : pl ≤ 2147483647) (u3 : 0 ≤ cl) (u4 : cl ≤ 2147483647) (hx2 : x2 = 0) {w0 w : World} {l : List UInt8} {ao : Option Addr} {n cap : Nat} {K : List (Nat × Obj)} (hO : On w0 w l ao n cap K) (hl : l.length ≤ 137439953472) :
    Calls Try.prog 72 #[.slice ao n cap, .agg #[.int .i64 x0, .int .i64 x1, .int .i64 x2, .int .i64 x3, .int .i64 x4], .int .i64 ln, .agg #[.int .i64 pl, .int .i64 cl]] w (OnPost w0 (l ++ insL ln ⟨x0, x1, x2, x3, x4⟩ ⟨pl, cl⟩) K) := by
  subst hx2
  have hins : insL ln ⟨x0, x1, 0, x3, x4⟩ ⟨pl, cl⟩ = [UInt8.ofNat x0.toNat] ++ (if nA x0 then [UInt8.ofNat (x1 + 16 * 0).toNat] else []) ++ (if nC x0 then [UInt8.ofNat x3.toNat] else []) ++ (if nN x0 then shortB (zig x4) else []) ++ shortB (zig (pl - ln)) ++ shortB cl.toNat := rfl
  have hnm := r_names_calls x0
  rw [hq.1, hq.2.2.1, hq.2.2.2] at hins
  rw [hq.1, hq.2.1, hq.2.2.1, hq.2.2.2] at hnm
  have hd64 : I64 (pl - ln) := by unfold I64; omega
  have s1 := shortB_10 (zig_U64 h64)
  have s2 := shortB_10 (n := zig (pl - ln)) (zig_U64 hd64)
  have HSL := hid (And.intro s1 s2)
  have HI64 := hid (And.intro h64 hd64)
  obtain ⟨cn, rfl⟩ : ∃ cn : Nat, cl = cn := ⟨cl.toNat, by omega⟩
  have hO2 := (hO.box (.cells #[.int .i64 x0, .int .i64 x1, .int .i64 0, .int .i64 x3, .int .i64 x4] 61)).box (.cells #[.int .i64 pl, .int .i64 (cn : Int)] 63)
  rw [World.size_alloc] at hO2
  have FA : Hid (∀ u l' a b c, On w0 u l' a b c ((w.heap.size + 1, Obj.cells #[.int .i64 pl, .int .i64 (cn : Int)] 63 (0, 0)) :: (w.heap.size, Obj.cells #[.int .i64 x0, .int .i64 x1, .int .i64 0, .int .i64 x3, .int .i64 x4] 61 (0, 0)) :: K) →
      u.cell? ⟨w.heap.size, 0, none⟩ = some (.int .i64 x0) ∧ u.cell? ⟨w.heap.size, 1, none⟩ = some (.int .i64 x1) ∧ u.cell? ⟨w.heap.size, 2, none⟩ = some (.int .i64 0) ∧ u.cell? ⟨w.heap.size, 3, none⟩ = some (.int .i64 x3) ∧ u.cell? ⟨w.heap.size, 4, none⟩ = some (.int .i64 x4) ∧
      u.cell? ⟨w.heap.size + 1, 0, none⟩ = some (.int .i64 pl) ∧ u.cell? ⟨w.heap.size + 1, 1, none⟩ = some (.int .i64 (cn : Int))) := hid fun u l' a b c h =>
    ⟨h.cell (List.mem_cons_of_mem _ (List.mem_cons_self ..)) 0, h.cell (List.mem_cons_of_mem _ (List.mem_cons_self ..)) 1, h.cell (List.mem_cons_of_mem _ (List.mem_cons_self ..)) 2, h.cell (List.mem_cons_of_mem _ (List.mem_cons_self ..)) 3, h.cell (List.mem_cons_of_mem _ (List.mem_cons_self ..)) 4, h.cell (List.mem_cons_self ..) 0, h.cell (List.mem_cons_self ..) 1⟩
  obtain ⟨K2, hK2⟩ : ∃ K2, (w.heap.size + 1, Obj.cells #[.int .i64 pl, .int .i64 (cn : Int)] 63 (0, 0)) :: (w.heap.size, Obj.cells #[.int .i64 x0, .int .i64 x1, .int .i64 0, .int .i64 x3, .int .i64 x4] 61 (0, 0)) :: K = K2 := ⟨_, rfl⟩
  rw [hK2] at FA hO2
  have HKK := hid (fun q (hq : q ∈ K) => (by rw [← hK2]; exact List.mem_cons_of_mem _ (List.mem_cons_of_mem _ hq) : q ∈ K2))
  have HNM := hid hnm
  have HW := hid hO2
  have HNX := hid (congrArg (fun z => l ++ z) hins)
  have HL := hid hl
  simp only [Int.toNat_natCast] at HNX
  clear hins hnm hq hO hO2 h64 hd64 hK2 s1 s2 hl u3
  go_enter Try.func72, Try.ntmps72

  go_wp2_with (first
    | (go_at_call 23; refine (HNM.out _).mono ?_; rintro e w1 ⟨rfl, hc1⟩; have HV := hid (HW.out.keep hc1); obtain ⟨i0, i1, i2, i3, i4, k1, k2⟩ := FA.out _ _ _ _ _ HV.out; obtain ⟨r0, g1, g2, g3, g4, g5⟩ := HV.out; have HG0 := hid (And.intro g2 (And.intro g3 g5)); have HR0 := hid (fun o => g1.keep ((Chg.refl [] _).alloc o) (by simp)); have hnb : n ≤ 137439953600 := (by have := HL.out; rw [g4]; (try simp only [List.length_append, List.length_cons, List.length_nil]); omega); clear g1 g2 g3 g4 g5)
    | (at_builtin; refine wpList_app rfl _ _ 29 rfl elem_u8 rfl (HR0.out _) rfl (View.one _ _ _) (by simp [Value.oneCell']) (by unfold maxLen; omega) (by omega) (fun ao1 cap1 q1 u1 hr' hc' hf' _ => ?_); have HW1 := hid (On.step (l' := l ++ [UInt8.ofNat x0.toNat]) HG0.out.1 HG0.out.2.1 HG0.out.2.2 ((Chg.refl [] _).alloc _) hr' hc' hf' (by rw [List.map_append]; simp [B]; omega)); clear hr' hc' hf'; obtain ⟨i0, i1, i2, i3, i4, k1, k2⟩ := FA.out _ _ _ _ _ HW1.out; obtain ⟨r1, g1, g2, g3, g4, g5⟩ := HW1.out; have HG1 := hid (And.intro g2 (And.intro g3 g5)); have HR1 := hid (fun o => g1.keep ((Chg.refl [] _).alloc o) (by simp)); have hnb : n + 1 ≤ 137439953600 := (by have := HL.out; rw [g4]; (try simp only [List.length_append, List.length_cons, List.length_nil]); omega); clear g1 g2 g3 g4 g5)
    | (at_builtin; refine wpList_app rfl _ _ 29 rfl elem_u8 rfl (HR1.out _) rfl (View.one _ _ _) (by simp [Value.oneCell']) (by unfold maxLen; omega) (by omega) (fun ao2 cap2 q2 u2 hr' hc' hf' _ => ?_); have HW2 := hid (On.step (l' := l ++ [UInt8.ofNat x0.toNat] ++ [UInt8.ofNat (x1 + 16 * 0).toNat]) HG1.out.1 HG1.out.2.1 HG1.out.2.2 ((Chg.refl [] _).alloc _) hr' hc' hf' (by rw [List.map_append]; simp [B]; omega)); clear hr' hc' hf'; obtain ⟨i0, i1, i2, i3, i4, k1, k2⟩ := FA.out _ _ _ _ _ HW2.out; obtain ⟨r2, g1, g2, g3, g4, g5⟩ := HW2.out; have HG2 := hid (And.intro g2 (And.intro g3 g5)); have HR2 := hid (fun o => g1.keep ((Chg.refl [] _).alloc o) (by simp)); have hnb : n + 1 + 1 ≤ 137439953600 := (by have := HL.out; rw [g4]; (try simp only [List.length_append, List.length_cons, List.length_nil]); omega); clear g1 g2 g3 g4 g5)
    | (at_builtin; refine wpList_app rfl _ _ 29 rfl elem_u8 rfl (HR2.out _) rfl (View.one _ _ _) (by simp [Value.oneCell']) (by unfold maxLen; omega) (by omega) (fun ao3 cap3 q3 u3 hr' hc' hf' _ => ?_); have HW3 := hid (On.step (l' := l ++ [UInt8.ofNat x0.toNat] ++ [UInt8.ofNat (x1 + 16 * 0).toNat] ++ [UInt8.ofNat x3.toNat]) HG2.out.1 HG2.out.2.1 HG2.out.2.2 ((Chg.refl [] _).alloc _) hr' hc' hf' (by rw [List.map_append]; simp [B]; omega)); clear hr' hc' hf'; obtain ⟨i0, i1, i2, i3, i4, k1, k2⟩ := FA.out _ _ _ _ _ HW3.out; obtain ⟨r3, g1, g2, g3, g4, g5⟩ := HW3.out; have HG3 := hid (And.intro g2 (And.intro g3 g5)); have HR3 := hid (fun o => g1.keep ((Chg.refl [] _).alloc o) (by simp)); have hnb : n + 1 + 1 + 1 ≤ 137439953600 := (by have := HL.out; rw [g4]; (try simp only [List.length_append, List.length_cons, List.length_nil]); omega); clear g1 g2 g3 g4 g5)
    | (go_at_call 69; refine halt (fun X hX => ?_)))
  clear i0 i1 i2 i3 i4
  have HS6 := hid (fun u (hu : Chg [] _ u) => q_signed_on (HW3.out.keep hu) (by have := HL.out; have := HSL.out.1; have := HSL.out.2; (try simp only [List.length_append, List.length_cons, List.length_nil]); omega) (pl - ln) HI64.out.2)
  have HS7 := hid (fun u a b c (hu : On w0 u (l ++ [UInt8.ofNat x0.toNat] ++ [UInt8.ofNat (x1 + 16 * 0).toNat] ++ [UInt8.ofNat x3.toNat] ++ shortB (zig (pl - ln))) a b c K2) => q_short_on hu (by have := HL.out; have := HSL.out.1; have := HSL.out.2; (try simp only [List.length_append, List.length_cons, List.length_nil]); omega) cn (by omega))
  have hwr : IntKind.i64.wrap (pl - ln) = pl - ln := IntWalk.i64_in _ (by omega)
  go_region_held3 (fun w' => w'.cell? ⟨w.heap.size + 1, 0, none⟩ = some (.int .i64 pl) ∧ w'.cell? ⟨w.heap.size + 1, 1, none⟩ = some (.int .i64 (cn : Int)))
    (first | exact ⟨k1, k2⟩ | exact ⟨(FA.out _ _ _ _ _ HW6.out).2.2.2.2.2.1, (FA.out _ _ _ _ _ HW6.out).2.2.2.2.2.2⟩ | exact ⟨(FA.out _ _ _ _ _ HW7.out).2.2.2.2.2.1, (FA.out _ _ _ _ _ HW7.out).2.2.2.2.2.2⟩)
    (first
    | (go_at_call 71; (with_reducible refine (HS6.out _ ?_).mono ?_); (first | exact Chg.of_drewN [] _ 1 | exact (Chg.refl [] _).drew); rintro e w6 ⟨ao6, n6, cap6, rfl, HW6⟩)
    | (go_at_call 69; (with_reducible refine (HS7.out _ _ _ _ HW6.out).mono ?_); rintro e w7 ⟨ao7, n7, cap7, rfl, HW7⟩))
  go_wp2
  go_ret
  refine ⟨ao7, n7, cap7, rfl, hid ?_⟩
  have h := HW7.out.sub HKK.out
  have hx := HNX.out
  simp only [if_true, Bool.false_eq_true, if_false, List.append_nil, List.nil_append] at hx
  rw [hx]
  simpa [List.append_assoc] using h

set_option maxHeartbeats 4000000 in
set_option maxRecDepth 100000 in
theorem q_ins_1011 (x0 x1 x2 x3 x4 ln pl cl : Int) (o1 : 1 ≤ x0) (o2 : x0 ≤ 20) (r1 : 0 ≤ x1) (r2 : x1 ≤ 15) (r3 : 0 ≤ x2) (r4 : x2 ≤ 15) (r5 : 0 ≤ x3) (r6 : x3 ≤ 15) (h64 : I64 x4) (hq : nA x0 = true ∧ nB x0 = false ∧ nC x0 = true ∧ nN x0 = true)
    (m1 : 0 ≤ ln) (m2 : ln ≤ 2147483647) (u1 : 0 ≤ pl) (u2 : pl ≤ 2147483647) (u3 : 0 ≤ cl) (u4 : cl ≤ 2147483647) (hx2 : x2 = 0) {w0 w : World} {l : List UInt8} {ao : Option Addr} {n cap : Nat} {K : List (Nat × Obj)} (hO : On w0 w l ao n cap K) (hl : l.length ≤ 137439953472) :
    Calls Try.prog 72 #[.slice ao n cap, .agg #[.int .i64 x0, .int .i64 x1, .int .i64 x2, .int .i64 x3, .int .i64 x4], .int .i64 ln, .agg #[.int .i64 pl, .int .i64 cl]] w (OnPost w0 (l ++ insL ln ⟨x0, x1, x2, x3, x4⟩ ⟨pl, cl⟩) K) := by
  subst hx2
  have hins : insL ln ⟨x0, x1, 0, x3, x4⟩ ⟨pl, cl⟩ = [UInt8.ofNat x0.toNat] ++ (if nA x0 then [UInt8.ofNat (x1 + 16 * 0).toNat] else []) ++ (if nC x0 then [UInt8.ofNat x3.toNat] else []) ++ (if nN x0 then shortB (zig x4) else []) ++ shortB (zig (pl - ln)) ++ shortB cl.toNat := rfl
  have hnm := r_names_calls x0
  rw [hq.1, hq.2.2.1, hq.2.2.2] at hins
  rw [hq.1, hq.2.1, hq.2.2.1, hq.2.2.2] at hnm
  have hd64 : I64 (pl - ln) := by unfold I64; omega
  have s1 := shortB_10 (zig_U64 h64)
  have s2 := shortB_10 (n := zig (pl - ln)) (zig_U64 hd64)
  have HSL := hid (And.intro s1 s2)
  have HI64 := hid (And.intro h64 hd64)
  obtain ⟨cn, rfl⟩ : ∃ cn : Nat, cl = cn := ⟨cl.toNat, by omega⟩
  have hO2 := (hO.box (.cells #[.int .i64 x0, .int .i64 x1, .int .i64 0, .int .i64 x3, .int .i64 x4] 61)).box (.cells #[.int .i64 pl, .int .i64 (cn : Int)] 63)
  rw [World.size_alloc] at hO2
  have FA : Hid (∀ u l' a b c, On w0 u l' a b c ((w.heap.size + 1, Obj.cells #[.int .i64 pl, .int .i64 (cn : Int)] 63 (0, 0)) :: (w.heap.size, Obj.cells #[.int .i64 x0, .int .i64 x1, .int .i64 0, .int .i64 x3, .int .i64 x4] 61 (0, 0)) :: K) →
      u.cell? ⟨w.heap.size, 0, none⟩ = some (.int .i64 x0) ∧ u.cell? ⟨w.heap.size, 1, none⟩ = some (.int .i64 x1) ∧ u.cell? ⟨w.heap.size, 2, none⟩ = some (.int .i64 0) ∧ u.cell? ⟨w.heap.size, 3, none⟩ = some (.int .i64 x3) ∧ u.cell? ⟨w.heap.size, 4, none⟩ = some (.int .i64 x4) ∧
      u.cell? ⟨w.heap.size + 1, 0, none⟩ = some (.int .i64 pl) ∧ u.cell? ⟨w.heap.size + 1, 1, none⟩ = some (.int .i64 (cn : Int))) := hid fun u l' a b c h =>
    ⟨h.cell (List.mem_cons_of_mem _ (List.mem_cons_self ..)) 0, h.cell (List.mem_cons_of_mem _ (List.mem_cons_self ..)) 1, h.cell (List.mem_cons_of_mem _ (List.mem_cons_self ..)) 2, h.cell (List.mem_cons_of_mem _ (List.mem_cons_self ..)) 3, h.cell (List.mem_cons_of_mem _ (List.mem_cons_self ..)) 4, h.cell (List.mem_cons_self ..) 0, h.cell (List.mem_cons_self ..) 1⟩
  obtain ⟨K2, hK2⟩ : ∃ K2, (w.heap.size + 1, Obj.cells #[.int .i64 pl, .int .i64 (cn : Int)] 63 (0, 0)) :: (w.heap.size, Obj.cells #[.int .i64 x0, .int .i64 x1, .int .i64 0, .int .i64 x3, .int .i64 x4] 61 (0, 0)) :: K = K2 := ⟨_, rfl⟩
  rw [hK2] at FA hO2
  have HKK := hid (fun q (hq : q ∈ K) => (by rw [← hK2]; exact List.mem_cons_of_mem _ (List.mem_cons_of_mem _ hq) : q ∈ K2))
  have HNM := hid hnm
  have HW := hid hO2
  have HNX := hid (congrArg (fun z => l ++ z) hins)
  have HL := hid hl
  simp only [Int.toNat_natCast] at HNX
  clear hins hnm hq hO hO2 h64 hd64 hK2 s1 s2 hl u3
  go_enter Try.func72, Try.ntmps72

  go_wp2_with (first
    | (go_at_call 23; refine (HNM.out _).mono ?_; rintro e w1 ⟨rfl, hc1⟩; have HV := hid (HW.out.keep hc1); obtain ⟨i0, i1, i2, i3, i4, k1, k2⟩ := FA.out _ _ _ _ _ HV.out; obtain ⟨r0, g1, g2, g3, g4, g5⟩ := HV.out; have HG0 := hid (And.intro g2 (And.intro g3 g5)); have HR0 := hid (fun o => g1.keep ((Chg.refl [] _).alloc o) (by simp)); have hnb : n ≤ 137439953600 := (by have := HL.out; rw [g4]; (try simp only [List.length_append, List.length_cons, List.length_nil]); omega); clear g1 g2 g3 g4 g5)
    | (at_builtin; refine wpList_app rfl _ _ 29 rfl elem_u8 rfl (HR0.out _) rfl (View.one _ _ _) (by simp [Value.oneCell']) (by unfold maxLen; omega) (by omega) (fun ao1 cap1 q1 u1 hr' hc' hf' _ => ?_); have HW1 := hid (On.step (l' := l ++ [UInt8.ofNat x0.toNat]) HG0.out.1 HG0.out.2.1 HG0.out.2.2 ((Chg.refl [] _).alloc _) hr' hc' hf' (by rw [List.map_append]; simp [B]; omega)); clear hr' hc' hf'; obtain ⟨i0, i1, i2, i3, i4, k1, k2⟩ := FA.out _ _ _ _ _ HW1.out; obtain ⟨r1, g1, g2, g3, g4, g5⟩ := HW1.out; have HG1 := hid (And.intro g2 (And.intro g3 g5)); have HR1 := hid (fun o => g1.keep ((Chg.refl [] _).alloc o) (by simp)); have hnb : n + 1 ≤ 137439953600 := (by have := HL.out; rw [g4]; (try simp only [List.length_append, List.length_cons, List.length_nil]); omega); clear g1 g2 g3 g4 g5)
    | (at_builtin; refine wpList_app rfl _ _ 29 rfl elem_u8 rfl (HR1.out _) rfl (View.one _ _ _) (by simp [Value.oneCell']) (by unfold maxLen; omega) (by omega) (fun ao2 cap2 q2 u2 hr' hc' hf' _ => ?_); have HW2 := hid (On.step (l' := l ++ [UInt8.ofNat x0.toNat] ++ [UInt8.ofNat (x1 + 16 * 0).toNat]) HG1.out.1 HG1.out.2.1 HG1.out.2.2 ((Chg.refl [] _).alloc _) hr' hc' hf' (by rw [List.map_append]; simp [B]; omega)); clear hr' hc' hf'; obtain ⟨i0, i1, i2, i3, i4, k1, k2⟩ := FA.out _ _ _ _ _ HW2.out; obtain ⟨r2, g1, g2, g3, g4, g5⟩ := HW2.out; have HG2 := hid (And.intro g2 (And.intro g3 g5)); have HR2 := hid (fun o => g1.keep ((Chg.refl [] _).alloc o) (by simp)); have hnb : n + 1 + 1 ≤ 137439953600 := (by have := HL.out; rw [g4]; (try simp only [List.length_append, List.length_cons, List.length_nil]); omega); clear g1 g2 g3 g4 g5)
    | (at_builtin; refine wpList_app rfl _ _ 29 rfl elem_u8 rfl (HR2.out _) rfl (View.one _ _ _) (by simp [Value.oneCell']) (by unfold maxLen; omega) (by omega) (fun ao3 cap3 q3 u3 hr' hc' hf' _ => ?_); have HW3 := hid (On.step (l' := l ++ [UInt8.ofNat x0.toNat] ++ [UInt8.ofNat (x1 + 16 * 0).toNat] ++ [UInt8.ofNat x3.toNat]) HG2.out.1 HG2.out.2.1 HG2.out.2.2 ((Chg.refl [] _).alloc _) hr' hc' hf' (by rw [List.map_append]; simp [B]; omega)); clear hr' hc' hf'; obtain ⟨i0, i1, i2, i3, i4, k1, k2⟩ := FA.out _ _ _ _ _ HW3.out; obtain ⟨r3, g1, g2, g3, g4, g5⟩ := HW3.out; have HG3 := hid (And.intro g2 (And.intro g3 g5)); have HR3 := hid (fun o => g1.keep ((Chg.refl [] _).alloc o) (by simp)); have hnb : n + 1 + 1 + 1 ≤ 137439953600 := (by have := HL.out; rw [g4]; (try simp only [List.length_append, List.length_cons, List.length_nil]); omega); clear g1 g2 g3 g4 g5)
    | (go_at_call 71; (with_reducible refine (q_signed_on HW3.out (by have := HL.out; have := HSL.out.1; have := HSL.out.2; (try simp only [List.length_append, List.length_cons, List.length_nil]); omega) x4 HI64.out.1).mono ?_); rintro e w5 ⟨ao5, n5, cap5, rfl, HW5⟩; obtain ⟨i0, i1, i2, i3, i4, k1, k2⟩ := FA.out _ _ _ _ _ HW5.out)
    | (go_at_call 69; refine halt (fun X hX => ?_)))
  clear i0 i1 i2 i3 i4
  have HS6 := hid (fun u (hu : Chg [] _ u) => q_signed_on (HW5.out.keep hu) (by have := HL.out; have := HSL.out.1; have := HSL.out.2; (try simp only [List.length_append, List.length_cons, List.length_nil]); omega) (pl - ln) HI64.out.2)
  have HS7 := hid (fun u a b c (hu : On w0 u (l ++ [UInt8.ofNat x0.toNat] ++ [UInt8.ofNat (x1 + 16 * 0).toNat] ++ [UInt8.ofNat x3.toNat] ++ shortB (zig x4) ++ shortB (zig (pl - ln))) a b c K2) => q_short_on hu (by have := HL.out; have := HSL.out.1; have := HSL.out.2; (try simp only [List.length_append, List.length_cons, List.length_nil]); omega) cn (by omega))
  have hwr : IntKind.i64.wrap (pl - ln) = pl - ln := IntWalk.i64_in _ (by omega)
  go_region_held3 (fun w' => w'.cell? ⟨w.heap.size + 1, 0, none⟩ = some (.int .i64 pl) ∧ w'.cell? ⟨w.heap.size + 1, 1, none⟩ = some (.int .i64 (cn : Int)))
    (first | exact ⟨k1, k2⟩ | exact ⟨(FA.out _ _ _ _ _ HW6.out).2.2.2.2.2.1, (FA.out _ _ _ _ _ HW6.out).2.2.2.2.2.2⟩ | exact ⟨(FA.out _ _ _ _ _ HW7.out).2.2.2.2.2.1, (FA.out _ _ _ _ _ HW7.out).2.2.2.2.2.2⟩)
    (first
    | (go_at_call 71; (with_reducible refine (HS6.out _ ?_).mono ?_); (first | exact Chg.of_drewN [] _ 1 | exact (Chg.refl [] _).drew); rintro e w6 ⟨ao6, n6, cap6, rfl, HW6⟩)
    | (go_at_call 69; (with_reducible refine (HS7.out _ _ _ _ HW6.out).mono ?_); rintro e w7 ⟨ao7, n7, cap7, rfl, HW7⟩))
  go_wp2
  go_ret
  refine ⟨ao7, n7, cap7, rfl, hid ?_⟩
  have h := HW7.out.sub HKK.out
  have hx := HNX.out
  simp only [if_true, Bool.false_eq_true, if_false, List.append_nil, List.nil_append] at hx
  rw [hx]
  simpa [List.append_assoc] using h

set_option maxHeartbeats 4000000 in
set_option maxRecDepth 100000 in
theorem q_ins_1100 (x0 x1 x2 x3 x4 ln pl cl : Int) (o1 : 1 ≤ x0) (o2 : x0 ≤ 20) (r1 : 0 ≤ x1) (r2 : x1 ≤ 15) (r3 : 0 ≤ x2) (r4 : x2 ≤ 15) (r5 : 0 ≤ x3) (r6 : x3 ≤ 15) (h64 : I64 x4) (hq : nA x0 = true ∧ nB x0 = true ∧ nC x0 = false ∧ nN x0 = false)
    (m1 : 0 ≤ ln) (m2 : ln ≤ 2147483647) (u1 : 0 ≤ pl) (u2 : pl ≤ 2147483647) (u3 : 0 ≤ cl) (u4 : cl ≤ 2147483647) {w0 w : World} {l : List UInt8} {ao : Option Addr} {n cap : Nat} {K : List (Nat × Obj)} (hO : On w0 w l ao n cap K) (hl : l.length ≤ 137439953472) :
    Calls Try.prog 72 #[.slice ao n cap, .agg #[.int .i64 x0, .int .i64 x1, .int .i64 x2, .int .i64 x3, .int .i64 x4], .int .i64 ln, .agg #[.int .i64 pl, .int .i64 cl]] w (OnPost w0 (l ++ insL ln ⟨x0, x1, x2, x3, x4⟩ ⟨pl, cl⟩) K) := by
  have hins : insL ln ⟨x0, x1, x2, x3, x4⟩ ⟨pl, cl⟩ = [UInt8.ofNat x0.toNat] ++ (if nA x0 then [UInt8.ofNat (x1 + 16 * x2).toNat] else []) ++ (if nC x0 then [UInt8.ofNat x3.toNat] else []) ++ (if nN x0 then shortB (zig x4) else []) ++ shortB (zig (pl - ln)) ++ shortB cl.toNat := rfl
  have hnm := r_names_calls x0
  rw [hq.1, hq.2.2.1, hq.2.2.2] at hins
  rw [hq.1, hq.2.1, hq.2.2.1, hq.2.2.2] at hnm
  have hd64 : I64 (pl - ln) := by unfold I64; omega
  have s1 := shortB_10 (zig_U64 h64)
  have s2 := shortB_10 (n := zig (pl - ln)) (zig_U64 hd64)
  have HSL := hid (And.intro s1 s2)
  have HI64 := hid (And.intro h64 hd64)
  obtain ⟨cn, rfl⟩ : ∃ cn : Nat, cl = cn := ⟨cl.toNat, by omega⟩
  have hO2 := (hO.box (.cells #[.int .i64 x0, .int .i64 x1, .int .i64 x2, .int .i64 x3, .int .i64 x4] 61)).box (.cells #[.int .i64 pl, .int .i64 (cn : Int)] 63)
  rw [World.size_alloc] at hO2
  have FA : Hid (∀ u l' a b c, On w0 u l' a b c ((w.heap.size + 1, Obj.cells #[.int .i64 pl, .int .i64 (cn : Int)] 63 (0, 0)) :: (w.heap.size, Obj.cells #[.int .i64 x0, .int .i64 x1, .int .i64 x2, .int .i64 x3, .int .i64 x4] 61 (0, 0)) :: K) →
      u.cell? ⟨w.heap.size, 0, none⟩ = some (.int .i64 x0) ∧ u.cell? ⟨w.heap.size, 1, none⟩ = some (.int .i64 x1) ∧ u.cell? ⟨w.heap.size, 2, none⟩ = some (.int .i64 x2) ∧ u.cell? ⟨w.heap.size, 3, none⟩ = some (.int .i64 x3) ∧ u.cell? ⟨w.heap.size, 4, none⟩ = some (.int .i64 x4) ∧
      u.cell? ⟨w.heap.size + 1, 0, none⟩ = some (.int .i64 pl) ∧ u.cell? ⟨w.heap.size + 1, 1, none⟩ = some (.int .i64 (cn : Int))) := hid fun u l' a b c h =>
    ⟨h.cell (List.mem_cons_of_mem _ (List.mem_cons_self ..)) 0, h.cell (List.mem_cons_of_mem _ (List.mem_cons_self ..)) 1, h.cell (List.mem_cons_of_mem _ (List.mem_cons_self ..)) 2, h.cell (List.mem_cons_of_mem _ (List.mem_cons_self ..)) 3, h.cell (List.mem_cons_of_mem _ (List.mem_cons_self ..)) 4, h.cell (List.mem_cons_self ..) 0, h.cell (List.mem_cons_self ..) 1⟩
  obtain ⟨K2, hK2⟩ : ∃ K2, (w.heap.size + 1, Obj.cells #[.int .i64 pl, .int .i64 (cn : Int)] 63 (0, 0)) :: (w.heap.size, Obj.cells #[.int .i64 x0, .int .i64 x1, .int .i64 x2, .int .i64 x3, .int .i64 x4] 61 (0, 0)) :: K = K2 := ⟨_, rfl⟩
  rw [hK2] at FA hO2
  have HKK := hid (fun q (hq : q ∈ K) => (by rw [← hK2]; exact List.mem_cons_of_mem _ (List.mem_cons_of_mem _ hq) : q ∈ K2))
  have HNM := hid hnm
  have HW := hid hO2
  have HNX := hid (congrArg (fun z => l ++ z) hins)
  have HL := hid hl
  simp only [Int.toNat_natCast] at HNX
  clear hins hnm hq hO hO2 h64 hd64 hK2 s1 s2 hl u3
  go_enter Try.func72, Try.ntmps72

  go_wp2_with (first
    | (go_at_call 23; refine (HNM.out _).mono ?_; rintro e w1 ⟨rfl, hc1⟩; have HV := hid (HW.out.keep hc1); obtain ⟨i0, i1, i2, i3, i4, k1, k2⟩ := FA.out _ _ _ _ _ HV.out; obtain ⟨r0, g1, g2, g3, g4, g5⟩ := HV.out; have HG0 := hid (And.intro g2 (And.intro g3 g5)); have HR0 := hid (fun o => g1.keep ((Chg.refl [] _).alloc o) (by simp)); have hnb : n ≤ 137439953600 := (by have := HL.out; rw [g4]; (try simp only [List.length_append, List.length_cons, List.length_nil]); omega); clear g1 g2 g3 g4 g5)
    | (at_builtin; refine wpList_app rfl _ _ 29 rfl elem_u8 rfl (HR0.out _) rfl (View.one _ _ _) (by simp [Value.oneCell']) (by unfold maxLen; omega) (by omega) (fun ao1 cap1 q1 u1 hr' hc' hf' _ => ?_); have HW1 := hid (On.step (l' := l ++ [UInt8.ofNat x0.toNat]) HG0.out.1 HG0.out.2.1 HG0.out.2.2 ((Chg.refl [] _).alloc _) hr' hc' hf' (by rw [List.map_append]; simp [B]; omega)); clear hr' hc' hf'; obtain ⟨i0, i1, i2, i3, i4, k1, k2⟩ := FA.out _ _ _ _ _ HW1.out; obtain ⟨r1, g1, g2, g3, g4, g5⟩ := HW1.out; have HG1 := hid (And.intro g2 (And.intro g3 g5)); have HR1 := hid (fun o => g1.keep ((Chg.refl [] _).alloc o) (by simp)); have hnb : n + 1 ≤ 137439953600 := (by have := HL.out; rw [g4]; (try simp only [List.length_append, List.length_cons, List.length_nil]); omega); clear g1 g2 g3 g4 g5)
    | (at_builtin; refine wpList_app rfl _ _ 29 rfl elem_u8 rfl (HR1.out _) rfl (View.one _ _ _) (by simp [Value.oneCell']) (by unfold maxLen; omega) (by omega) (fun ao2 cap2 q2 u2 hr' hc' hf' _ => ?_); have HW2 := hid (On.step (l' := l ++ [UInt8.ofNat x0.toNat] ++ [UInt8.ofNat (x1 + 16 * x2).toNat]) HG1.out.1 HG1.out.2.1 HG1.out.2.2 ((Chg.refl [] _).alloc _) hr' hc' hf' (by rw [List.map_append]; simp [B]; omega)); clear hr' hc' hf'; obtain ⟨i0, i1, i2, i3, i4, k1, k2⟩ := FA.out _ _ _ _ _ HW2.out; obtain ⟨r2, g1, g2, g3, g4, g5⟩ := HW2.out; have HG2 := hid (And.intro g2 (And.intro g3 g5)); have HR2 := hid (fun o => g1.keep ((Chg.refl [] _).alloc o) (by simp)); have hnb : n + 1 + 1 ≤ 137439953600 := (by have := HL.out; rw [g4]; (try simp only [List.length_append, List.length_cons, List.length_nil]); omega); clear g1 g2 g3 g4 g5)
    | (go_at_call 69; refine halt (fun X hX => ?_)))
  clear i0 i1 i2 i3 i4
  have HS6 := hid (fun u (hu : Chg [] _ u) => q_signed_on (HW2.out.keep hu) (by have := HL.out; have := HSL.out.1; have := HSL.out.2; (try simp only [List.length_append, List.length_cons, List.length_nil]); omega) (pl - ln) HI64.out.2)
  have HS7 := hid (fun u a b c (hu : On w0 u (l ++ [UInt8.ofNat x0.toNat] ++ [UInt8.ofNat (x1 + 16 * x2).toNat] ++ shortB (zig (pl - ln))) a b c K2) => q_short_on hu (by have := HL.out; have := HSL.out.1; have := HSL.out.2; (try simp only [List.length_append, List.length_cons, List.length_nil]); omega) cn (by omega))
  have hwr : IntKind.i64.wrap (pl - ln) = pl - ln := IntWalk.i64_in _ (by omega)
  go_region_held3 (fun w' => w'.cell? ⟨w.heap.size + 1, 0, none⟩ = some (.int .i64 pl) ∧ w'.cell? ⟨w.heap.size + 1, 1, none⟩ = some (.int .i64 (cn : Int)))
    (first | exact ⟨k1, k2⟩ | exact ⟨(FA.out _ _ _ _ _ HW6.out).2.2.2.2.2.1, (FA.out _ _ _ _ _ HW6.out).2.2.2.2.2.2⟩ | exact ⟨(FA.out _ _ _ _ _ HW7.out).2.2.2.2.2.1, (FA.out _ _ _ _ _ HW7.out).2.2.2.2.2.2⟩)
    (first
    | (go_at_call 71; (with_reducible refine (HS6.out _ ?_).mono ?_); (first | exact Chg.of_drewN [] _ 1 | exact (Chg.refl [] _).drew); rintro e w6 ⟨ao6, n6, cap6, rfl, HW6⟩)
    | (go_at_call 69; (with_reducible refine (HS7.out _ _ _ _ HW6.out).mono ?_); rintro e w7 ⟨ao7, n7, cap7, rfl, HW7⟩))
  go_wp2
  go_ret
  refine ⟨ao7, n7, cap7, rfl, hid ?_⟩
  have h := HW7.out.sub HKK.out
  have hx := HNX.out
  simp only [if_true, Bool.false_eq_true, if_false, List.append_nil, List.nil_append] at hx
  rw [hx]
  simpa [List.append_assoc] using h

set_option maxHeartbeats 4000000 in
set_option maxRecDepth 100000 in
theorem q_ins_1101 (x0 x1 x2 x3 x4 ln pl cl : Int) (o1 : 1 ≤ x0) (o2 : x0 ≤ 20) (r1 : 0 ≤ x1) (r2 : x1 ≤ 15) (r3 : 0 ≤ x2) (r4 : x2 ≤ 15) (r5 : 0 ≤ x3) (r6 : x3 ≤ 15) (h64 : I64 x4) (hq : nA x0 = true ∧ nB x0 = true ∧ nC x0 = false ∧ nN x0 = true)
    (m1 : 0 ≤ ln) (m2 : ln ≤ 2147483647) (u1 : 0 ≤ pl) (u2 : pl ≤ 2147483647) (u3 : 0 ≤ cl) (u4 : cl ≤ 2147483647) {w0 w : World} {l : List UInt8} {ao : Option Addr} {n cap : Nat} {K : List (Nat × Obj)} (hO : On w0 w l ao n cap K) (hl : l.length ≤ 137439953472) :
    Calls Try.prog 72 #[.slice ao n cap, .agg #[.int .i64 x0, .int .i64 x1, .int .i64 x2, .int .i64 x3, .int .i64 x4], .int .i64 ln, .agg #[.int .i64 pl, .int .i64 cl]] w (OnPost w0 (l ++ insL ln ⟨x0, x1, x2, x3, x4⟩ ⟨pl, cl⟩) K) := by
  have hins : insL ln ⟨x0, x1, x2, x3, x4⟩ ⟨pl, cl⟩ = [UInt8.ofNat x0.toNat] ++ (if nA x0 then [UInt8.ofNat (x1 + 16 * x2).toNat] else []) ++ (if nC x0 then [UInt8.ofNat x3.toNat] else []) ++ (if nN x0 then shortB (zig x4) else []) ++ shortB (zig (pl - ln)) ++ shortB cl.toNat := rfl
  have hnm := r_names_calls x0
  rw [hq.1, hq.2.2.1, hq.2.2.2] at hins
  rw [hq.1, hq.2.1, hq.2.2.1, hq.2.2.2] at hnm
  have hd64 : I64 (pl - ln) := by unfold I64; omega
  have s1 := shortB_10 (zig_U64 h64)
  have s2 := shortB_10 (n := zig (pl - ln)) (zig_U64 hd64)
  have HSL := hid (And.intro s1 s2)
  have HI64 := hid (And.intro h64 hd64)
  obtain ⟨cn, rfl⟩ : ∃ cn : Nat, cl = cn := ⟨cl.toNat, by omega⟩
  have hO2 := (hO.box (.cells #[.int .i64 x0, .int .i64 x1, .int .i64 x2, .int .i64 x3, .int .i64 x4] 61)).box (.cells #[.int .i64 pl, .int .i64 (cn : Int)] 63)
  rw [World.size_alloc] at hO2
  have FA : Hid (∀ u l' a b c, On w0 u l' a b c ((w.heap.size + 1, Obj.cells #[.int .i64 pl, .int .i64 (cn : Int)] 63 (0, 0)) :: (w.heap.size, Obj.cells #[.int .i64 x0, .int .i64 x1, .int .i64 x2, .int .i64 x3, .int .i64 x4] 61 (0, 0)) :: K) →
      u.cell? ⟨w.heap.size, 0, none⟩ = some (.int .i64 x0) ∧ u.cell? ⟨w.heap.size, 1, none⟩ = some (.int .i64 x1) ∧ u.cell? ⟨w.heap.size, 2, none⟩ = some (.int .i64 x2) ∧ u.cell? ⟨w.heap.size, 3, none⟩ = some (.int .i64 x3) ∧ u.cell? ⟨w.heap.size, 4, none⟩ = some (.int .i64 x4) ∧
      u.cell? ⟨w.heap.size + 1, 0, none⟩ = some (.int .i64 pl) ∧ u.cell? ⟨w.heap.size + 1, 1, none⟩ = some (.int .i64 (cn : Int))) := hid fun u l' a b c h =>
    ⟨h.cell (List.mem_cons_of_mem _ (List.mem_cons_self ..)) 0, h.cell (List.mem_cons_of_mem _ (List.mem_cons_self ..)) 1, h.cell (List.mem_cons_of_mem _ (List.mem_cons_self ..)) 2, h.cell (List.mem_cons_of_mem _ (List.mem_cons_self ..)) 3, h.cell (List.mem_cons_of_mem _ (List.mem_cons_self ..)) 4, h.cell (List.mem_cons_self ..) 0, h.cell (List.mem_cons_self ..) 1⟩
  obtain ⟨K2, hK2⟩ : ∃ K2, (w.heap.size + 1, Obj.cells #[.int .i64 pl, .int .i64 (cn : Int)] 63 (0, 0)) :: (w.heap.size, Obj.cells #[.int .i64 x0, .int .i64 x1, .int .i64 x2, .int .i64 x3, .int .i64 x4] 61 (0, 0)) :: K = K2 := ⟨_, rfl⟩
  rw [hK2] at FA hO2
  have HKK := hid (fun q (hq : q ∈ K) => (by rw [← hK2]; exact List.mem_cons_of_mem _ (List.mem_cons_of_mem _ hq) : q ∈ K2))
  have HNM := hid hnm
  have HW := hid hO2
  have HNX := hid (congrArg (fun z => l ++ z) hins)
  have HL := hid hl
  simp only [Int.toNat_natCast] at HNX
  clear hins hnm hq hO hO2 h64 hd64 hK2 s1 s2 hl u3
  go_enter Try.func72, Try.ntmps72

  go_wp2_with (first
    | (go_at_call 23; refine (HNM.out _).mono ?_; rintro e w1 ⟨rfl, hc1⟩; have HV := hid (HW.out.keep hc1); obtain ⟨i0, i1, i2, i3, i4, k1, k2⟩ := FA.out _ _ _ _ _ HV.out; obtain ⟨r0, g1, g2, g3, g4, g5⟩ := HV.out; have HG0 := hid (And.intro g2 (And.intro g3 g5)); have HR0 := hid (fun o => g1.keep ((Chg.refl [] _).alloc o) (by simp)); have hnb : n ≤ 137439953600 := (by have := HL.out; rw [g4]; (try simp only [List.length_append, List.length_cons, List.length_nil]); omega); clear g1 g2 g3 g4 g5)
    | (at_builtin; refine wpList_app rfl _ _ 29 rfl elem_u8 rfl (HR0.out _) rfl (View.one _ _ _) (by simp [Value.oneCell']) (by unfold maxLen; omega) (by omega) (fun ao1 cap1 q1 u1 hr' hc' hf' _ => ?_); have HW1 := hid (On.step (l' := l ++ [UInt8.ofNat x0.toNat]) HG0.out.1 HG0.out.2.1 HG0.out.2.2 ((Chg.refl [] _).alloc _) hr' hc' hf' (by rw [List.map_append]; simp [B]; omega)); clear hr' hc' hf'; obtain ⟨i0, i1, i2, i3, i4, k1, k2⟩ := FA.out _ _ _ _ _ HW1.out; obtain ⟨r1, g1, g2, g3, g4, g5⟩ := HW1.out; have HG1 := hid (And.intro g2 (And.intro g3 g5)); have HR1 := hid (fun o => g1.keep ((Chg.refl [] _).alloc o) (by simp)); have hnb : n + 1 ≤ 137439953600 := (by have := HL.out; rw [g4]; (try simp only [List.length_append, List.length_cons, List.length_nil]); omega); clear g1 g2 g3 g4 g5)
    | (at_builtin; refine wpList_app rfl _ _ 29 rfl elem_u8 rfl (HR1.out _) rfl (View.one _ _ _) (by simp [Value.oneCell']) (by unfold maxLen; omega) (by omega) (fun ao2 cap2 q2 u2 hr' hc' hf' _ => ?_); have HW2 := hid (On.step (l' := l ++ [UInt8.ofNat x0.toNat] ++ [UInt8.ofNat (x1 + 16 * x2).toNat]) HG1.out.1 HG1.out.2.1 HG1.out.2.2 ((Chg.refl [] _).alloc _) hr' hc' hf' (by rw [List.map_append]; simp [B]; omega)); clear hr' hc' hf'; obtain ⟨i0, i1, i2, i3, i4, k1, k2⟩ := FA.out _ _ _ _ _ HW2.out; obtain ⟨r2, g1, g2, g3, g4, g5⟩ := HW2.out; have HG2 := hid (And.intro g2 (And.intro g3 g5)); have HR2 := hid (fun o => g1.keep ((Chg.refl [] _).alloc o) (by simp)); have hnb : n + 1 + 1 ≤ 137439953600 := (by have := HL.out; rw [g4]; (try simp only [List.length_append, List.length_cons, List.length_nil]); omega); clear g1 g2 g3 g4 g5)
    | (go_at_call 71; (with_reducible refine (q_signed_on HW2.out (by have := HL.out; have := HSL.out.1; have := HSL.out.2; (try simp only [List.length_append, List.length_cons, List.length_nil]); omega) x4 HI64.out.1).mono ?_); rintro e w5 ⟨ao5, n5, cap5, rfl, HW5⟩; obtain ⟨i0, i1, i2, i3, i4, k1, k2⟩ := FA.out _ _ _ _ _ HW5.out)
    | (go_at_call 69; refine halt (fun X hX => ?_)))
  clear i0 i1 i2 i3 i4
  have HS6 := hid (fun u (hu : Chg [] _ u) => q_signed_on (HW5.out.keep hu) (by have := HL.out; have := HSL.out.1; have := HSL.out.2; (try simp only [List.length_append, List.length_cons, List.length_nil]); omega) (pl - ln) HI64.out.2)
  have HS7 := hid (fun u a b c (hu : On w0 u (l ++ [UInt8.ofNat x0.toNat] ++ [UInt8.ofNat (x1 + 16 * x2).toNat] ++ shortB (zig x4) ++ shortB (zig (pl - ln))) a b c K2) => q_short_on hu (by have := HL.out; have := HSL.out.1; have := HSL.out.2; (try simp only [List.length_append, List.length_cons, List.length_nil]); omega) cn (by omega))
  have hwr : IntKind.i64.wrap (pl - ln) = pl - ln := IntWalk.i64_in _ (by omega)
  go_region_held3 (fun w' => w'.cell? ⟨w.heap.size + 1, 0, none⟩ = some (.int .i64 pl) ∧ w'.cell? ⟨w.heap.size + 1, 1, none⟩ = some (.int .i64 (cn : Int)))
    (first | exact ⟨k1, k2⟩ | exact ⟨(FA.out _ _ _ _ _ HW6.out).2.2.2.2.2.1, (FA.out _ _ _ _ _ HW6.out).2.2.2.2.2.2⟩ | exact ⟨(FA.out _ _ _ _ _ HW7.out).2.2.2.2.2.1, (FA.out _ _ _ _ _ HW7.out).2.2.2.2.2.2⟩)
    (first
    | (go_at_call 71; (with_reducible refine (HS6.out _ ?_).mono ?_); (first | exact Chg.of_drewN [] _ 1 | exact (Chg.refl [] _).drew); rintro e w6 ⟨ao6, n6, cap6, rfl, HW6⟩)
    | (go_at_call 69; (with_reducible refine (HS7.out _ _ _ _ HW6.out).mono ?_); rintro e w7 ⟨ao7, n7, cap7, rfl, HW7⟩))
  go_wp2
  go_ret
  refine ⟨ao7, n7, cap7, rfl, hid ?_⟩
  have h := HW7.out.sub HKK.out
  have hx := HNX.out
  simp only [if_true, Bool.false_eq_true, if_false, List.append_nil, List.nil_append] at hx
  rw [hx]
  simpa [List.append_assoc] using h

set_option maxHeartbeats 4000000 in
set_option maxRecDepth 100000 in
theorem q_ins_1110 (x0 x1 x2 x3 x4 ln pl cl : Int) (o1 : 1 ≤ x0) (o2 : x0 ≤ 20) (r1 : 0 ≤ x1) (r2 : x1 ≤ 15) (r3 : 0 ≤ x2) (r4 : x2 ≤ 15) (r5 : 0 ≤ x3) (r6 : x3 ≤ 15) (h64 : I64 x4) (hq : nA x0 = true ∧ nB x0 = true ∧ nC x0 = true ∧ nN x0 = false)
    (m1 : 0 ≤ ln) (m2 : ln ≤ 2147483647) (u1 : 0 ≤ pl) (u2 : pl ≤ 2147483647) (u3 : 0 ≤ cl) (u4 : cl ≤ 2147483647) {w0 w : World} {l : List UInt8} {ao : Option Addr} {n cap : Nat} {K : List (Nat × Obj)} (hO : On w0 w l ao n cap K) (hl : l.length ≤ 137439953472) :
    Calls Try.prog 72 #[.slice ao n cap, .agg #[.int .i64 x0, .int .i64 x1, .int .i64 x2, .int .i64 x3, .int .i64 x4], .int .i64 ln, .agg #[.int .i64 pl, .int .i64 cl]] w (OnPost w0 (l ++ insL ln ⟨x0, x1, x2, x3, x4⟩ ⟨pl, cl⟩) K) := by
  have hins : insL ln ⟨x0, x1, x2, x3, x4⟩ ⟨pl, cl⟩ = [UInt8.ofNat x0.toNat] ++ (if nA x0 then [UInt8.ofNat (x1 + 16 * x2).toNat] else []) ++ (if nC x0 then [UInt8.ofNat x3.toNat] else []) ++ (if nN x0 then shortB (zig x4) else []) ++ shortB (zig (pl - ln)) ++ shortB cl.toNat := rfl
  have hnm := r_names_calls x0
  rw [hq.1, hq.2.2.1, hq.2.2.2] at hins
  rw [hq.1, hq.2.1, hq.2.2.1, hq.2.2.2] at hnm
  have hd64 : I64 (pl - ln) := by unfold I64; omega
  have s1 := shortB_10 (zig_U64 h64)
  have s2 := shortB_10 (n := zig (pl - ln)) (zig_U64 hd64)
  have HSL := hid (And.intro s1 s2)
  have HI64 := hid (And.intro h64 hd64)
  obtain ⟨cn, rfl⟩ : ∃ cn : Nat, cl = cn := ⟨cl.toNat, by omega⟩
  have hO2 := (hO.box (.cells #[.int .i64 x0, .int .i64 x1, .int .i64 x2, .int .i64 x3, .int .i64 x4] 61)).box (.cells #[.int .i64 pl, .int .i64 (cn : Int)] 63)
  rw [World.size_alloc] at hO2
  have FA : Hid (∀ u l' a b c, On w0 u l' a b c ((w.heap.size + 1, Obj.cells #[.int .i64 pl, .int .i64 (cn : Int)] 63 (0, 0)) :: (w.heap.size, Obj.cells #[.int .i64 x0, .int .i64 x1, .int .i64 x2, .int .i64 x3, .int .i64 x4] 61 (0, 0)) :: K) →
      u.cell? ⟨w.heap.size, 0, none⟩ = some (.int .i64 x0) ∧ u.cell? ⟨w.heap.size, 1, none⟩ = some (.int .i64 x1) ∧ u.cell? ⟨w.heap.size, 2, none⟩ = some (.int .i64 x2) ∧ u.cell? ⟨w.heap.size, 3, none⟩ = some (.int .i64 x3) ∧ u.cell? ⟨w.heap.size, 4, none⟩ = some (.int .i64 x4) ∧
      u.cell? ⟨w.heap.size + 1, 0, none⟩ = some (.int .i64 pl) ∧ u.cell? ⟨w.heap.size + 1, 1, none⟩ = some (.int .i64 (cn : Int))) := hid fun u l' a b c h =>
    ⟨h.cell (List.mem_cons_of_mem _ (List.mem_cons_self ..)) 0, h.cell (List.mem_cons_of_mem _ (List.mem_cons_self ..)) 1, h.cell (List.mem_cons_of_mem _ (List.mem_cons_self ..)) 2, h.cell (List.mem_cons_of_mem _ (List.mem_cons_self ..)) 3, h.cell (List.mem_cons_of_mem _ (List.mem_cons_self ..)) 4, h.cell (List.mem_cons_self ..) 0, h.cell (List.mem_cons_self ..) 1⟩
  obtain ⟨K2, hK2⟩ : ∃ K2, (w.heap.size + 1, Obj.cells #[.int .i64 pl, .int .i64 (cn : Int)] 63 (0, 0)) :: (w.heap.size, Obj.cells #[.int .i64 x0, .int .i64 x1, .int .i64 x2, .int .i64 x3, .int .i64 x4] 61 (0, 0)) :: K = K2 := ⟨_, rfl⟩
  rw [hK2] at FA hO2
  have HKK := hid (fun q (hq : q ∈ K) => (by rw [← hK2]; exact List.mem_cons_of_mem _ (List.mem_cons_of_mem _ hq) : q ∈ K2))
  have HNM := hid hnm
  have HW := hid hO2
  have HNX := hid (congrArg (fun z => l ++ z) hins)
  have HL := hid hl
  simp only [Int.toNat_natCast] at HNX
  clear hins hnm hq hO hO2 h64 hd64 hK2 s1 s2 hl u3
  go_enter Try.func72, Try.ntmps72

  go_wp2_with (first
    | (go_at_call 23; refine (HNM.out _).mono ?_; rintro e w1 ⟨rfl, hc1⟩; have HV := hid (HW.out.keep hc1); obtain ⟨i0, i1, i2, i3, i4, k1, k2⟩ := FA.out _ _ _ _ _ HV.out; obtain ⟨r0, g1, g2, g3, g4, g5⟩ := HV.out; have HG0 := hid (And.intro g2 (And.intro g3 g5)); have HR0 := hid (fun o => g1.keep ((Chg.refl [] _).alloc o) (by simp)); have hnb : n ≤ 137439953600 := (by have := HL.out; rw [g4]; (try simp only [List.length_append, List.length_cons, List.length_nil]); omega); clear g1 g2 g3 g4 g5)
    | (at_builtin; refine wpList_app rfl _ _ 29 rfl elem_u8 rfl (HR0.out _) rfl (View.one _ _ _) (by simp [Value.oneCell']) (by unfold maxLen; omega) (by omega) (fun ao1 cap1 q1 u1 hr' hc' hf' _ => ?_); have HW1 := hid (On.step (l' := l ++ [UInt8.ofNat x0.toNat]) HG0.out.1 HG0.out.2.1 HG0.out.2.2 ((Chg.refl [] _).alloc _) hr' hc' hf' (by rw [List.map_append]; simp [B]; omega)); clear hr' hc' hf'; obtain ⟨i0, i1, i2, i3, i4, k1, k2⟩ := FA.out _ _ _ _ _ HW1.out; obtain ⟨r1, g1, g2, g3, g4, g5⟩ := HW1.out; have HG1 := hid (And.intro g2 (And.intro g3 g5)); have HR1 := hid (fun o => g1.keep ((Chg.refl [] _).alloc o) (by simp)); have hnb : n + 1 ≤ 137439953600 := (by have := HL.out; rw [g4]; (try simp only [List.length_append, List.length_cons, List.length_nil]); omega); clear g1 g2 g3 g4 g5)
    | (at_builtin; refine wpList_app rfl _ _ 29 rfl elem_u8 rfl (HR1.out _) rfl (View.one _ _ _) (by simp [Value.oneCell']) (by unfold maxLen; omega) (by omega) (fun ao2 cap2 q2 u2 hr' hc' hf' _ => ?_); have HW2 := hid (On.step (l' := l ++ [UInt8.ofNat x0.toNat] ++ [UInt8.ofNat (x1 + 16 * x2).toNat]) HG1.out.1 HG1.out.2.1 HG1.out.2.2 ((Chg.refl [] _).alloc _) hr' hc' hf' (by rw [List.map_append]; simp [B]; omega)); clear hr' hc' hf'; obtain ⟨i0, i1, i2, i3, i4, k1, k2⟩ := FA.out _ _ _ _ _ HW2.out; obtain ⟨r2, g1, g2, g3, g4, g5⟩ := HW2.out; have HG2 := hid (And.intro g2 (And.intro g3 g5)); have HR2 := hid (fun o => g1.keep ((Chg.refl [] _).alloc o) (by simp)); have hnb : n + 1 + 1 ≤ 137439953600 := (by have := HL.out; rw [g4]; (try simp only [List.length_append, List.length_cons, List.length_nil]); omega); clear g1 g2 g3 g4 g5)
    | (at_builtin; refine wpList_app rfl _ _ 29 rfl elem_u8 rfl (HR2.out _) rfl (View.one _ _ _) (by simp [Value.oneCell']) (by unfold maxLen; omega) (by omega) (fun ao3 cap3 q3 u3 hr' hc' hf' _ => ?_); have HW3 := hid (On.step (l' := l ++ [UInt8.ofNat x0.toNat] ++ [UInt8.ofNat (x1 + 16 * x2).toNat] ++ [UInt8.ofNat x3.toNat]) HG2.out.1 HG2.out.2.1 HG2.out.2.2 ((Chg.refl [] _).alloc _) hr' hc' hf' (by rw [List.map_append]; simp [B]; omega)); clear hr' hc' hf'; obtain ⟨i0, i1, i2, i3, i4, k1, k2⟩ := FA.out _ _ _ _ _ HW3.out; obtain ⟨r3, g1, g2, g3, g4, g5⟩ := HW3.out; have HG3 := hid (And.intro g2 (And.intro g3 g5)); have HR3 := hid (fun o => g1.keep ((Chg.refl [] _).alloc o) (by simp)); have hnb : n + 1 + 1 + 1 ≤ 137439953600 := (by have := HL.out; rw [g4]; (try simp only [List.length_append, List.length_cons, List.length_nil]); omega); clear g1 g2 g3 g4 g5)
    | (go_at_call 69; refine halt (fun X hX => ?_)))
  clear i0 i1 i2 i3 i4
  have HS6 := hid (fun u (hu : Chg [] _ u) => q_signed_on (HW3.out.keep hu) (by have := HL.out; have := HSL.out.1; have := HSL.out.2; (try simp only [List.length_append, List.length_cons, List.length_nil]); omega) (pl - ln) HI64.out.2)
  have HS7 := hid (fun u a b c (hu : On w0 u (l ++ [UInt8.ofNat x0.toNat] ++ [UInt8.ofNat (x1 + 16 * x2).toNat] ++ [UInt8.ofNat x3.toNat] ++ shortB (zig (pl - ln))) a b c K2) => q_short_on hu (by have := HL.out; have := HSL.out.1; have := HSL.out.2; (try simp only [List.length_append, List.length_cons, List.length_nil]); omega) cn (by omega))
  have hwr : IntKind.i64.wrap (pl - ln) = pl - ln := IntWalk.i64_in _ (by omega)
  go_region_held3 (fun w' => w'.cell? ⟨w.heap.size + 1, 0, none⟩ = some (.int .i64 pl) ∧ w'.cell? ⟨w.heap.size + 1, 1, none⟩ = some (.int .i64 (cn : Int)))
    (first | exact ⟨k1, k2⟩ | exact ⟨(FA.out _ _ _ _ _ HW6.out).2.2.2.2.2.1, (FA.out _ _ _ _ _ HW6.out).2.2.2.2.2.2⟩ | exact ⟨(FA.out _ _ _ _ _ HW7.out).2.2.2.2.2.1, (FA.out _ _ _ _ _ HW7.out).2.2.2.2.2.2⟩)
    (first
    | (go_at_call 71; (with_reducible refine (HS6.out _ ?_).mono ?_); (first | exact Chg.of_drewN [] _ 1 | exact (Chg.refl [] _).drew); rintro e w6 ⟨ao6, n6, cap6, rfl, HW6⟩)
    | (go_at_call 69; (with_reducible refine (HS7.out _ _ _ _ HW6.out).mono ?_); rintro e w7 ⟨ao7, n7, cap7, rfl, HW7⟩))
  go_wp2
  go_ret
  refine ⟨ao7, n7, cap7, rfl, hid ?_⟩
  have h := HW7.out.sub HKK.out
  have hx := HNX.out
  simp only [if_true, Bool.false_eq_true, if_false, List.append_nil, List.nil_append] at hx
  rw [hx]
  simpa [List.append_assoc] using h

set_option maxHeartbeats 4000000 in
set_option maxRecDepth 100000 in
theorem q_ins_1111 (x0 x1 x2 x3 x4 ln pl cl : Int) (o1 : 1 ≤ x0) (o2 : x0 ≤ 20) (r1 : 0 ≤ x1) (r2 : x1 ≤ 15) (r3 : 0 ≤ x2) (r4 : x2 ≤ 15) (r5 : 0 ≤ x3) (r6 : x3 ≤ 15) (h64 : I64 x4) (hq : nA x0 = true ∧ nB x0 = true ∧ nC x0 = true ∧ nN x0 = true)
    (m1 : 0 ≤ ln) (m2 : ln ≤ 2147483647) (u1 : 0 ≤ pl) (u2 : pl ≤ 2147483647) (u3 : 0 ≤ cl) (u4 : cl ≤ 2147483647) {w0 w : World} {l : List UInt8} {ao : Option Addr} {n cap : Nat} {K : List (Nat × Obj)} (hO : On w0 w l ao n cap K) (hl : l.length ≤ 137439953472) :
    Calls Try.prog 72 #[.slice ao n cap, .agg #[.int .i64 x0, .int .i64 x1, .int .i64 x2, .int .i64 x3, .int .i64 x4], .int .i64 ln, .agg #[.int .i64 pl, .int .i64 cl]] w (OnPost w0 (l ++ insL ln ⟨x0, x1, x2, x3, x4⟩ ⟨pl, cl⟩) K) := by
  have hins : insL ln ⟨x0, x1, x2, x3, x4⟩ ⟨pl, cl⟩ = [UInt8.ofNat x0.toNat] ++ (if nA x0 then [UInt8.ofNat (x1 + 16 * x2).toNat] else []) ++ (if nC x0 then [UInt8.ofNat x3.toNat] else []) ++ (if nN x0 then shortB (zig x4) else []) ++ shortB (zig (pl - ln)) ++ shortB cl.toNat := rfl
  have hnm := r_names_calls x0
  rw [hq.1, hq.2.2.1, hq.2.2.2] at hins
  rw [hq.1, hq.2.1, hq.2.2.1, hq.2.2.2] at hnm
  have hd64 : I64 (pl - ln) := by unfold I64; omega
  have s1 := shortB_10 (zig_U64 h64)
  have s2 := shortB_10 (n := zig (pl - ln)) (zig_U64 hd64)
  have HSL := hid (And.intro s1 s2)
  have HI64 := hid (And.intro h64 hd64)
  obtain ⟨cn, rfl⟩ : ∃ cn : Nat, cl = cn := ⟨cl.toNat, by omega⟩
  have hO2 := (hO.box (.cells #[.int .i64 x0, .int .i64 x1, .int .i64 x2, .int .i64 x3, .int .i64 x4] 61)).box (.cells #[.int .i64 pl, .int .i64 (cn : Int)] 63)
  rw [World.size_alloc] at hO2
  have FA : Hid (∀ u l' a b c, On w0 u l' a b c ((w.heap.size + 1, Obj.cells #[.int .i64 pl, .int .i64 (cn : Int)] 63 (0, 0)) :: (w.heap.size, Obj.cells #[.int .i64 x0, .int .i64 x1, .int .i64 x2, .int .i64 x3, .int .i64 x4] 61 (0, 0)) :: K) →
      u.cell? ⟨w.heap.size, 0, none⟩ = some (.int .i64 x0) ∧ u.cell? ⟨w.heap.size, 1, none⟩ = some (.int .i64 x1) ∧ u.cell? ⟨w.heap.size, 2, none⟩ = some (.int .i64 x2) ∧ u.cell? ⟨w.heap.size, 3, none⟩ = some (.int .i64 x3) ∧ u.cell? ⟨w.heap.size, 4, none⟩ = some (.int .i64 x4) ∧
      u.cell? ⟨w.heap.size + 1, 0, none⟩ = some (.int .i64 pl) ∧ u.cell? ⟨w.heap.size + 1, 1, none⟩ = some (.int .i64 (cn : Int))) := hid fun u l' a b c h =>
    ⟨h.cell (List.mem_cons_of_mem _ (List.mem_cons_self ..)) 0, h.cell (List.mem_cons_of_mem _ (List.mem_cons_self ..)) 1, h.cell (List.mem_cons_of_mem _ (List.mem_cons_self ..)) 2, h.cell (List.mem_cons_of_mem _ (List.mem_cons_self ..)) 3, h.cell (List.mem_cons_of_mem _ (List.mem_cons_self ..)) 4, h.cell (List.mem_cons_self ..) 0, h.cell (List.mem_cons_self ..) 1⟩
  obtain ⟨K2, hK2⟩ : ∃ K2, (w.heap.size + 1, Obj.cells #[.int .i64 pl, .int .i64 (cn : Int)] 63 (0, 0)) :: (w.heap.size, Obj.cells #[.int .i64 x0, .int .i64 x1, .int .i64 x2, .int .i64 x3, .int .i64 x4] 61 (0, 0)) :: K = K2 := ⟨_, rfl⟩
  rw [hK2] at FA hO2
  have HKK := hid (fun q (hq : q ∈ K) => (by rw [← hK2]; exact List.mem_cons_of_mem _ (List.mem_cons_of_mem _ hq) : q ∈ K2))
  have HNM := hid hnm
  have HW := hid hO2
  have HNX := hid (congrArg (fun z => l ++ z) hins)
  have HL := hid hl
  simp only [Int.toNat_natCast] at HNX
  clear hins hnm hq hO hO2 h64 hd64 hK2 s1 s2 hl u3
  go_enter Try.func72, Try.ntmps72

  go_wp2_with (first
    | (go_at_call 23; refine (HNM.out _).mono ?_; rintro e w1 ⟨rfl, hc1⟩; have HV := hid (HW.out.keep hc1); obtain ⟨i0, i1, i2, i3, i4, k1, k2⟩ := FA.out _ _ _ _ _ HV.out; obtain ⟨r0, g1, g2, g3, g4, g5⟩ := HV.out; have HG0 := hid (And.intro g2 (And.intro g3 g5)); have HR0 := hid (fun o => g1.keep ((Chg.refl [] _).alloc o) (by simp)); have hnb : n ≤ 137439953600 := (by have := HL.out; rw [g4]; (try simp only [List.length_append, List.length_cons, List.length_nil]); omega); clear g1 g2 g3 g4 g5)
    | (at_builtin; refine wpList_app rfl _ _ 29 rfl elem_u8 rfl (HR0.out _) rfl (View.one _ _ _) (by simp [Value.oneCell']) (by unfold maxLen; omega) (by omega) (fun ao1 cap1 q1 u1 hr' hc' hf' _ => ?_); have HW1 := hid (On.step (l' := l ++ [UInt8.ofNat x0.toNat]) HG0.out.1 HG0.out.2.1 HG0.out.2.2 ((Chg.refl [] _).alloc _) hr' hc' hf' (by rw [List.map_append]; simp [B]; omega)); clear hr' hc' hf'; obtain ⟨i0, i1, i2, i3, i4, k1, k2⟩ := FA.out _ _ _ _ _ HW1.out; obtain ⟨r1, g1, g2, g3, g4, g5⟩ := HW1.out; have HG1 := hid (And.intro g2 (And.intro g3 g5)); have HR1 := hid (fun o => g1.keep ((Chg.refl [] _).alloc o) (by simp)); have hnb : n + 1 ≤ 137439953600 := (by have := HL.out; rw [g4]; (try simp only [List.length_append, List.length_cons, List.length_nil]); omega); clear g1 g2 g3 g4 g5)
    | (at_builtin; refine wpList_app rfl _ _ 29 rfl elem_u8 rfl (HR1.out _) rfl (View.one _ _ _) (by simp [Value.oneCell']) (by unfold maxLen; omega) (by omega) (fun ao2 cap2 q2 u2 hr' hc' hf' _ => ?_); have HW2 := hid (On.step (l' := l ++ [UInt8.ofNat x0.toNat] ++ [UInt8.ofNat (x1 + 16 * x2).toNat]) HG1.out.1 HG1.out.2.1 HG1.out.2.2 ((Chg.refl [] _).alloc _) hr' hc' hf' (by rw [List.map_append]; simp [B]; omega)); clear hr' hc' hf'; obtain ⟨i0, i1, i2, i3, i4, k1, k2⟩ := FA.out _ _ _ _ _ HW2.out; obtain ⟨r2, g1, g2, g3, g4, g5⟩ := HW2.out; have HG2 := hid (And.intro g2 (And.intro g3 g5)); have HR2 := hid (fun o => g1.keep ((Chg.refl [] _).alloc o) (by simp)); have hnb : n + 1 + 1 ≤ 137439953600 := (by have := HL.out; rw [g4]; (try simp only [List.length_append, List.length_cons, List.length_nil]); omega); clear g1 g2 g3 g4 g5)
    | (at_builtin; refine wpList_app rfl _ _ 29 rfl elem_u8 rfl (HR2.out _) rfl (View.one _ _ _) (by simp [Value.oneCell']) (by unfold maxLen; omega) (by omega) (fun ao3 cap3 q3 u3 hr' hc' hf' _ => ?_); have HW3 := hid (On.step (l' := l ++ [UInt8.ofNat x0.toNat] ++ [UInt8.ofNat (x1 + 16 * x2).toNat] ++ [UInt8.ofNat x3.toNat]) HG2.out.1 HG2.out.2.1 HG2.out.2.2 ((Chg.refl [] _).alloc _) hr' hc' hf' (by rw [List.map_append]; simp [B]; omega)); clear hr' hc' hf'; obtain ⟨i0, i1, i2, i3, i4, k1, k2⟩ := FA.out _ _ _ _ _ HW3.out; obtain ⟨r3, g1, g2, g3, g4, g5⟩ := HW3.out; have HG3 := hid (And.intro g2 (And.intro g3 g5)); have HR3 := hid (fun o => g1.keep ((Chg.refl [] _).alloc o) (by simp)); have hnb : n + 1 + 1 + 1 ≤ 137439953600 := (by have := HL.out; rw [g4]; (try simp only [List.length_append, List.length_cons, List.length_nil]); omega); clear g1 g2 g3 g4 g5)
    | (go_at_call 71; (with_reducible refine (q_signed_on HW3.out (by have := HL.out; have := HSL.out.1; have := HSL.out.2; (try simp only [List.length_append, List.length_cons, List.length_nil]); omega) x4 HI64.out.1).mono ?_); rintro e w5 ⟨ao5, n5, cap5, rfl, HW5⟩; obtain ⟨i0, i1, i2, i3, i4, k1, k2⟩ := FA.out _ _ _ _ _ HW5.out)
    | (go_at_call 69; refine halt (fun X hX => ?_)))
  clear i0 i1 i2 i3 i4
  have HS6 := hid (fun u (hu : Chg [] _ u) => q_signed_on (HW5.out.keep hu) (by have := HL.out; have := HSL.out.1; have := HSL.out.2; (try simp only [List.length_append, List.length_cons, List.length_nil]); omega) (pl - ln) HI64.out.2)
  have HS7 := hid (fun u a b c (hu : On w0 u (l ++ [UInt8.ofNat x0.toNat] ++ [UInt8.ofNat (x1 + 16 * x2).toNat] ++ [UInt8.ofNat x3.toNat] ++ shortB (zig x4) ++ shortB (zig (pl - ln))) a b c K2) => q_short_on hu (by have := HL.out; have := HSL.out.1; have := HSL.out.2; (try simp only [List.length_append, List.length_cons, List.length_nil]); omega) cn (by omega))
  have hwr : IntKind.i64.wrap (pl - ln) = pl - ln := IntWalk.i64_in _ (by omega)
  go_region_held3 (fun w' => w'.cell? ⟨w.heap.size + 1, 0, none⟩ = some (.int .i64 pl) ∧ w'.cell? ⟨w.heap.size + 1, 1, none⟩ = some (.int .i64 (cn : Int)))
    (first | exact ⟨k1, k2⟩ | exact ⟨(FA.out _ _ _ _ _ HW6.out).2.2.2.2.2.1, (FA.out _ _ _ _ _ HW6.out).2.2.2.2.2.2⟩ | exact ⟨(FA.out _ _ _ _ _ HW7.out).2.2.2.2.2.1, (FA.out _ _ _ _ _ HW7.out).2.2.2.2.2.2⟩)
    (first
    | (go_at_call 71; (with_reducible refine (HS6.out _ ?_).mono ?_); (first | exact Chg.of_drewN [] _ 1 | exact (Chg.refl [] _).drew); rintro e w6 ⟨ao6, n6, cap6, rfl, HW6⟩)
    | (go_at_call 69; (with_reducible refine (HS7.out _ _ _ _ HW6.out).mono ?_); rintro e w7 ⟨ao7, n7, cap7, rfl, HW7⟩))
  go_wp2
  go_ret
  refine ⟨ao7, n7, cap7, rfl, hid ?_⟩
  have h := HW7.out.sub HKK.out
  have hx := HNX.out
  simp only [if_true, Bool.false_eq_true, if_false, List.append_nil, List.nil_append] at hx
  rw [hx]
  simpa [List.append_assoc] using h
end Go.Proofs.Ytbikekgljabalaa
