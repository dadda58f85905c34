/- Walks of the code layer: a thread laid, the walk. -/
import Derived.Test.YtbikekgljabalaaM04
namespace Go.Proofs.Ytbikekgljabalaa
open Go.RowKit Go.AB
set_option linter.unusedSectionVars false
set_option linter.unusedSimpArgs false
set_option linter.unusedVariables false

theorem inssL_le : ∀ (xs : List InsD) (ps : List PlcD) (line : Int), 0 ≤ line → line ≤ 2147483647 → (∀ x ∈ xs, I64 x.n) → (∀ p ∈ ps, plcB p = true) → (inssL line xs ps).length ≤ xs.length * 33
  | [], _, _, _, _, _, _ => by simp [inssL]
  | _ :: _, [], _, _, _, _, _ => by simp [inssL]
  | x :: xs, p :: ps, line, h0, h1, h2, h3 => by
    have hp := plcB_out (h3 p (by simp))
    have a1 := insL_len (line := line) (x := x) (p := p) (h2 x (by simp)) (by unfold I64; omega) ⟨hp.2.2.1, hp.2.2.2⟩
    have a2 := inssL_le xs ps p.line hp.1 hp.2.1 (fun y hy => h2 y (by simp [hy])) (fun y hy => h3 y (by simp [hy]))
    simp only [inssL, List.length_append, List.length_cons]
    omega
theorem byte_i {w0 w : World} {b : Nat} {l : List UInt8} {K : List (Nat × Obj)} (hW : Wn w0 w b l K) (hl : l.length ≤ 274877906944) (x : Int) (h0 : 0 ≤ x) (h1 : x < 256) :
    Calls Try.prog 78 #[.pointer (some ⟨b, 0, none⟩), .slice (some ⟨w.heap.size, 0, none⟩) 1 1] (w.alloc (.cells #[.int .u8 x] 5)) fun e w' => e = .returned (.tuple #[]) ∧ Wn w0 w' b (l ++ [UInt8.ofNat x.toNat]) K := by
  have h := byte_n hW hl x.toNat (by omega)
  rwa [Int.toNat_of_nonneg h0] at h
theorem short_i {w0 w : World} {b : Nat} {l : List UInt8} {K : List (Nat × Obj)} (hW : Wn w0 w b l K) (hl : l.length ≤ 274877906944) (x : Int) (h0 : 0 ≤ x) (h1 : x ≤ 2147483647) :
    Calls Try.prog 34 #[.pointer (some ⟨b, 0, none⟩), .slice (some ⟨w.heap.size, 0, none⟩) 1 1] (w.alloc (.cells #[.int .u64 x] 76)) fun e w' => e = .returned (.tuple #[]) ∧ Wn w0 w' b (l ++ shortB x.toNat) K := by
  have h := short_n hW hl x.toNat (by unfold U64; omega)
  rwa [Int.toNat_of_nonneg h0] at h

set_option maxHeartbeats 8000000 in
set_option maxRecDepth 100000 in
theorem layThread_calls (nm : ByteArray) (code : List InsD) (places : List PlcD) (ht : thrB ⟨nm, code, places⟩ = true) (hn64 : ∀ x ∈ code, I64 x.n) {vc vp : Value} {w0 w : World} {b : Nat} {l : List UInt8} {K : List (Nat × Obj)} (hW : Wn w0 w b l K) (hl : l.length ≤ 137438953472) (hc : Lst insC 5 w0 vc code) (hp : Lst plcC 2 w0 vp places) :
    Calls Try.prog 37 #[.pointer (some ⟨b, 0, none⟩), .agg #[.string nm, vc, vp]] w fun e w' => e = .returned (.tuple #[]) ∧ Wn w0 w' b (l ++ thrL ⟨nm, code, places⟩) K := by
  obtain ⟨ac, cc, rfl, _⟩ := hc.len
  obtain ⟨ap, cp, rfl, _⟩ := hp.len
  have ht' := ht
  unfold thrB at ht'
  simp only [Bool.and_eq_true, decide_eq_true_eq, List.all_eq_true] at ht'
  obtain ⟨⟨⟨t1, t2⟩, t3⟩, t4, t5⟩ := ht'
  obtain ⟨n, hn⟩ : ∃ n, code.length = n := ⟨_, rfl⟩
  have hx := text_n (hW.box (.cells #[.string nm, .slice ac n cc, .slice ap n cp] 59)) (by omega) nm (by omega)
  have hs := fun u (hu : Wn w0 u b (l ++ textB nm) ((w.heap.size, .cells #[.string nm, .slice ac n cc, .slice ap n cp] 59 (0, 0)) :: K)) => short_n hu (by have := textB_len t1; rw [List.length_append]; omega) n (by unfold U64; omega)
  have HX := hid hx
  have HS := hid hs
  have HC := hid hc
  have HP := hid hp
  have HT := hid (And.intro t4 (And.intro t5 hn64))
  have HN := hid (And.intro hn (t3.trans hn))
  have hn2 := t3.trans hn
  rw [hn] at HC t2 ⊢
  rw [hn2] at HP ⊢
  clear hx hs hc hp t4 t5 hn64 hW ht t3 hn hn2
  go_enter Try.func37, Try.ntmps37
  go_wp2_with (first
    | (go_at_call 35; (with_reducible refine HX.out.mono ?_); rintro e w1 ⟨rfl, hw1⟩; have k1 : w1.cell? ⟨w.heap.size, 1, none⟩ = some (.slice ac n cc) := hw1.cell (List.mem_cons_self ..) 1; have HW1 := hid hw1; clear hw1)
    | (go_at_call 34; (with_reducible refine (HS.out _ HW1.out).mono ?_); rintro e w2 ⟨rfl, hw2⟩; clear k1; have k1 : w2.cell? ⟨w.heap.size, 1, none⟩ = some (.slice ac n cc) := hw2.cell (List.mem_cons_self ..) 1; have k2 : w2.cell? ⟨w.heap.size, 2, none⟩ = some (.slice ap n cp) := hw2.cell (List.mem_cons_self ..) 2; have HW2 := hid hw2; clear hw2))
  clear k1 k2
  go_loopw [4, 25] (fun vl vi wr => ∃ (k : Nat) (ln : Int), k ≤ n ∧ vl = .int .i64 ln ∧ vi = .int .i64 k ∧ 0 ≤ ln ∧ ln ≤ 2147483647 ∧ Hid (ln = (if k = 0 then 0 else (places.getD (k - 1) ⟨0, 0⟩).line) ∧ Wn w0 wr b (l ++ textB nm ++ shortB n ++ inssL 0 (code.take k) (places.take k)) ((w.heap.size, .cells #[.string nm, .slice ac n cc, .slice ap n cp] 59 (0, 0)) :: K))) (fun _ vi _ => n - (intOf vi).toNat)
  case atStart => exact ⟨0, 0, Nat.zero_le _, rfl, rfl, by omega, by omega, rfl, by simpa [inssL] using HW2.out⟩
  case round =>
    obtain ⟨k, ln, hk, rfl, rfl, l0, l1, hh⟩ := hrel
    obtain ⟨hln, hw⟩ := hh.out
    have k1 : wr.cell? ⟨w.heap.size, 1, none⟩ = some (.slice ac n cc) := hw.cell (List.mem_cons_self ..) 1
    have k2 : wr.cell? ⟨w.heap.size, 2, none⟩ = some (.slice ap n cp) := hw.cell (List.mem_cons_self ..) 2
    by_cases hlt : k < n
    · have hkc : k < code.length := by rw [HN.out.1]; exact hlt
      have hkp : k < places.length := by rw [HN.out.2]; exact hlt
      have hst := inssL_step k 0 code places hkc hkp
      rw [← hln] at hst
      have hib := insB_out (HT.out.1 _ (List.getElem_mem hkc))
      have hpb := plcB_out (HT.out.2.1 _ (List.getElem_mem hkp))
      have h64 := HT.out.2.2 _ (List.getElem_mem hkc)
      have hln2 : (if k + 1 = 0 then 0 else (places.getD (k + 1 - 1) ⟨0, 0⟩).line) = places[k].line := by simp [List.getD, hkp]
      obtain ⟨bc, oc, hac, hcc⟩ := (HC.out.keep hw.chg).at insC_len hkc (by omega)
      have hpl := fun u (hu : Chg [] w0 u) => (HP.out.keep hu).at plcC_len hkp (by omega)
      have y0 := hcc 0 (by omega)
      have y1 := hcc 1 (by omega)
      have y2 := hcc 2 (by omega)
      have y3 := hcc 3 (by omega)
      have y4 := hcc 4 (by omega)
      obtain ⟨X, hX⟩ : ∃ x, code[k] = x := ⟨_, rfl⟩
      obtain ⟨Y, hY⟩ : ∃ x, places[k] = x := ⟨_, rfl⟩
      rw [hX] at y0 y1 y2 y3 y4 hst hib h64
      rw [hY] at hst hpb hln2 hpl
      obtain ⟨x0, x1, x2, x3, x4⟩ := X
      obtain ⟨pl, cl⟩ := Y
      change wr.cell? _ = some (Value.int .i64 x0) at y0
      change wr.cell? _ = some (Value.int .i64 x1) at y1
      change wr.cell? _ = some (Value.int .i64 x2) at y2
      change wr.cell? _ = some (Value.int .i64 x3) at y3
      change wr.cell? _ = some (Value.int .i64 x4) at y4
      rw [Nat.add_zero] at y0
      simp only at hib hpb h64 hln2
      obtain ⟨L, hL⟩ : ∃ L, l ++ textB nm ++ shortB n ++ inssL 0 (code.take k) (places.take k) = L := ⟨_, rfl⟩
      have hLl : L.length ≤ 274877900000 := by
        have b1 := textB_len t1
        have b2 := shortB_10 (n := n) (by unfold U64; omega)
        have b3 := inssL_le (code.take k) (places.take k) 0 (by omega) (by omega) (fun x hx => HT.out.2.2 x (List.mem_of_mem_take hx)) (fun x hx => HT.out.2.1 x (List.mem_of_mem_take hx))
        have b4 : (code.take k).length ≤ 4096 := by rw [List.length_take]; omega
        rw [← hL]
        simp only [List.length_append]
        omega
      have hnext : l ++ textB nm ++ shortB n ++ inssL 0 (code.take (k + 1)) (places.take (k + 1)) = L ++ insL ln ⟨x0, x1, x2, x3, x4⟩ ⟨pl, cl⟩ := by rw [hst, ← hL]; simp [List.append_assoc]
      rw [hL] at hw
      have hwb := hw.box (.cells #[.int .i64 x0, .int .i64 x1, .int .i64 x2, .int .i64 x3, .int .i64 x4] 61)
      obtain ⟨N, hN⟩ : ∃ N, wr.heap.size = N := ⟨_, rfl⟩
      rw [hN] at hwb
      obtain ⟨bp, op, hap, _⟩ := hpl wr hw.chg
      have facts : ∀ u L', Wn w0 u b L' ((N, .cells #[.int .i64 x0, .int .i64 x1, .int .i64 x2, .int .i64 x3, .int .i64 x4] 61 (0, 0)) :: (w.heap.size, .cells #[.string nm, .slice ac n cc, .slice ap n cp] 59 (0, 0)) :: K) →
          (u.cell? ⟨N, 0, none⟩ = some (.int .i64 x0) ∧ u.cell? ⟨N, 1, none⟩ = some (.int .i64 x1) ∧ u.cell? ⟨N, 2, none⟩ = some (.int .i64 x2) ∧ u.cell? ⟨N, 3, none⟩ = some (.int .i64 x3) ∧ u.cell? ⟨N, 4, none⟩ = some (.int .i64 x4)) ∧
          (u.cell? ⟨w.heap.size, 1, none⟩ = some (.slice ac n cc) ∧ u.cell? ⟨w.heap.size, 2, none⟩ = some (.slice ap n cp)) ∧
          u.cell? ⟨bp, op + k * 2, none⟩ = some (.int .i64 pl) ∧ u.cell? ⟨bp, op + k * 2 + 1, none⟩ = some (.int .i64 cl) := fun u L' hu => by
        obtain ⟨bp', op', hap', hcp⟩ := hpl u hu.chg
        have hb : bp' = bp ∧ op' = op := by
          rw [hap] at hap'
          simp only [Option.some.injEq, Addr.mk.injEq, and_true] at hap'
          exact ⟨hap'.1.symm, hap'.2.symm⟩
        rw [hb.1, hb.2] at hcp
        have e0 := hcp 0 (by omega)
        have e1 := hcp 1 (by omega)
        rw [Nat.add_zero] at e0
        exact ⟨⟨hu.cell (List.mem_cons_self ..) 0, hu.cell (List.mem_cons_self ..) 1, hu.cell (List.mem_cons_self ..) 2, hu.cell (List.mem_cons_self ..) 3, hu.cell (List.mem_cons_self ..) 4⟩,
          ⟨hu.cell (List.mem_cons_of_mem _ (List.mem_cons_self ..)) 1, hu.cell (List.mem_cons_of_mem _ (List.mem_cons_self ..)) 2⟩, e0, e1⟩
      have FA := hid facts
      have HAP := hid hap
      have hins : insL ln ⟨x0, x1, x2, x3, x4⟩ ⟨pl, cl⟩ = [UInt8.ofNat x0.toNat] ++ (if nA x0 then [UInt8.ofNat (x1 + 16 * x2).toNat] else []) ++ (if nC x0 then [UInt8.ofNat x3.toNat] else []) ++ (if nN x0 then shortB (zig x4) else []) ++ shortB (zig (pl - ln)) ++ shortB cl.toNat := rfl
      have hnm := names_calls x0
      obtain ⟨qa, hqa⟩ : ∃ q, nA x0 = q := ⟨_, rfl⟩
      obtain ⟨qc, hqc⟩ : ∃ q, nC x0 = q := ⟨_, rfl⟩
      obtain ⟨qn, hqn⟩ : ∃ q, nN x0 = q := ⟨_, rfl⟩
      rw [hqa, hqc, hqn] at hins hnm
      have hor : bits .or .i64 x1 (x2 * 16) = x1 + 16 * x2 := by
        have h := or_reg ⟨x1.toNat, by omega⟩ ⟨x2.toNat, by omega⟩
        simp only [Int.toNat_of_nonneg hib.2.2.1.1, Int.toNat_of_nonneg hib.2.2.2.1.1] at h
        exact h
      obtain ⟨o1, o2, ⟨r1, r2⟩, ⟨r3, r4⟩, ⟨r5, r6⟩, _⟩ := hib
      obtain ⟨u1, u2, u3, u4⟩ := hpb
      have hput := byte_i hwb (by omega) x0 (by omega) (by omega)
      rw [show (wr.alloc (.cells #[.int .i64 x0, .int .i64 x1, .int .i64 x2, .int .i64 x3, .int .i64 x4] 61)).heap.size = wr.heap.size + 1 from by simp] at hput
      have HPUT := hid hput
      clear hput
      have HNM := hid hnm
      have HWB := hid hwb
      have HNX := hid (hnext.trans (by rw [hins]))
      have HLN := hid hln2
      have zk : (k : Int) < (n : Int) := by omega
      have s1 := shortB_10 (zig_U64 h64)
      have s2 := shortB_10 (n := zig (pl - ln)) (zig_U64 (by unfold I64; omega))
      have hd64 : I64 (pl - ln) := by unfold I64; omega
      have HSL := hid (And.intro s1 s2)
      have HI64 := hid (And.intro h64 hd64)
      subst hac hap hN
      clear hins hnm hqa hqc hqn hwb hnext hst hln hln2 hh hw hL hcc hpl facts hX hY s1 s2 h64 hd64
      rcases qa with _ | _ <;> rcases qc with _ | _ <;> rcases qn with _ | _
      · go_wp2_with (first
          | (go_at_call 22; refine (HNM.out _).mono ?_; rintro e w' ⟨rfl, rfl⟩)
          | (go_at_call 78; (with_reducible refine (HPUT.out).mono ?_); rintro e w3 ⟨rfl, hw3⟩; have HW3 := hid hw3; clear hw3; obtain ⟨⟨i0, i1, i2, i3, i4⟩, ⟨k1, k2⟩, e0, e1⟩ := FA.out _ _ HW3.out)
          | (go_at_call 36; (with_reducible refine (signed_n HW3.out (by have := HSL.out.1; have := HSL.out.2; simp only [List.length_append, List.length_cons, List.length_nil]; omega) (pl - ln) HI64.out.2).mono ?_); rintro e w4 ⟨rfl, hw4⟩; have HW4 := hid hw4; clear hw4; obtain ⟨⟨i0, i1, i2, i3, i4⟩, ⟨k1, k2⟩, e0, e1⟩ := FA.out _ _ HW4.out)
          | (go_at_call 34; (with_reducible refine (short_i HW4.out (by have := HSL.out.1; have := HSL.out.2; simp only [List.length_append, List.length_cons, List.length_nil]; omega) cl (by omega) (by omega)).mono ?_); rintro e w5 ⟨rfl, hw5⟩; have HW5 := hid hw5; clear hw5; obtain ⟨⟨i0, i1, i2, i3, i4⟩, ⟨k1, k2⟩, e0, e1⟩ := FA.out _ _ HW5.out))
        go_roundw
        case rel => exact ⟨k + 1, pl, by omega, by go_num, by go_num, u1, u2, HLN.out.symm, by rw [HNX.out]; simpa [List.append_assoc] using HW5.out.sub (fun q hq => List.mem_cons_of_mem _ hq)⟩
        case measure => simp [intOf]; omega
      · go_wp2_with (first
          | (go_at_call 22; refine (HNM.out _).mono ?_; rintro e w' ⟨rfl, rfl⟩)
          | (go_at_call 78; (with_reducible refine (HPUT.out).mono ?_); rintro e w3 ⟨rfl, hw3⟩; have HW3 := hid hw3; clear hw3; obtain ⟨⟨i0, i1, i2, i3, i4⟩, ⟨k1, k2⟩, e0, e1⟩ := FA.out _ _ HW3.out)
          | (go_at_call 36; (with_reducible refine (signed_n HW3.out (by have := HSL.out.1; have := HSL.out.2; simp only [List.length_append, List.length_cons, List.length_nil]; omega) x4 HI64.out.1).mono ?_); rintro e w4 ⟨rfl, hw4⟩; have HW4 := hid hw4; clear hw4; obtain ⟨⟨i0, i1, i2, i3, i4⟩, ⟨k1, k2⟩, e0, e1⟩ := FA.out _ _ HW4.out)
          | (go_at_call 36; (with_reducible refine (signed_n HW4.out (by have := HSL.out.1; have := HSL.out.2; simp only [List.length_append, List.length_cons, List.length_nil]; omega) (pl - ln) HI64.out.2).mono ?_); rintro e w5 ⟨rfl, hw5⟩; have HW5 := hid hw5; clear hw5; obtain ⟨⟨i0, i1, i2, i3, i4⟩, ⟨k1, k2⟩, e0, e1⟩ := FA.out _ _ HW5.out)
          | (go_at_call 34; (with_reducible refine (short_i HW5.out (by have := HSL.out.1; have := HSL.out.2; simp only [List.length_append, List.length_cons, List.length_nil]; omega) cl (by omega) (by omega)).mono ?_); rintro e w6 ⟨rfl, hw6⟩; have HW6 := hid hw6; clear hw6; obtain ⟨⟨i0, i1, i2, i3, i4⟩, ⟨k1, k2⟩, e0, e1⟩ := FA.out _ _ HW6.out))
        go_roundw
        case rel => exact ⟨k + 1, pl, by omega, by go_num, by go_num, u1, u2, HLN.out.symm, by rw [HNX.out]; simpa [List.append_assoc] using HW6.out.sub (fun q hq => List.mem_cons_of_mem _ hq)⟩
        case measure => simp [intOf]; omega
      · go_wp2_with (first
          | (go_at_call 22; refine (HNM.out _).mono ?_; rintro e w' ⟨rfl, rfl⟩)
          | (go_at_call 78; (with_reducible refine (HPUT.out).mono ?_); rintro e w3 ⟨rfl, hw3⟩; have HW3 := hid hw3; clear hw3; obtain ⟨⟨i0, i1, i2, i3, i4⟩, ⟨k1, k2⟩, e0, e1⟩ := FA.out _ _ HW3.out)
          | (go_at_call 78; (with_reducible refine (byte_i HW3.out (by have := HSL.out.1; have := HSL.out.2; simp only [List.length_append, List.length_cons, List.length_nil]; omega) x3 (by omega) (by omega)).mono ?_); rintro e w4 ⟨rfl, hw4⟩; have HW4 := hid hw4; clear hw4; obtain ⟨⟨i0, i1, i2, i3, i4⟩, ⟨k1, k2⟩, e0, e1⟩ := FA.out _ _ HW4.out)
          | (go_at_call 36; (with_reducible refine (signed_n HW4.out (by have := HSL.out.1; have := HSL.out.2; simp only [List.length_append, List.length_cons, List.length_nil]; omega) (pl - ln) HI64.out.2).mono ?_); rintro e w5 ⟨rfl, hw5⟩; have HW5 := hid hw5; clear hw5; obtain ⟨⟨i0, i1, i2, i3, i4⟩, ⟨k1, k2⟩, e0, e1⟩ := FA.out _ _ HW5.out)
          | (go_at_call 34; (with_reducible refine (short_i HW5.out (by have := HSL.out.1; have := HSL.out.2; simp only [List.length_append, List.length_cons, List.length_nil]; omega) cl (by omega) (by omega)).mono ?_); rintro e w6 ⟨rfl, hw6⟩; have HW6 := hid hw6; clear hw6; obtain ⟨⟨i0, i1, i2, i3, i4⟩, ⟨k1, k2⟩, e0, e1⟩ := FA.out _ _ HW6.out))
        go_roundw
        case rel => exact ⟨k + 1, pl, by omega, by go_num, by go_num, u1, u2, HLN.out.symm, by rw [HNX.out]; simpa [List.append_assoc] using HW6.out.sub (fun q hq => List.mem_cons_of_mem _ hq)⟩
        case measure => simp [intOf]; omega
      · go_wp2_with (first
          | (go_at_call 22; refine (HNM.out _).mono ?_; rintro e w' ⟨rfl, rfl⟩)
          | (go_at_call 78; (with_reducible refine (HPUT.out).mono ?_); rintro e w3 ⟨rfl, hw3⟩; have HW3 := hid hw3; clear hw3; obtain ⟨⟨i0, i1, i2, i3, i4⟩, ⟨k1, k2⟩, e0, e1⟩ := FA.out _ _ HW3.out)
          | (go_at_call 78; (with_reducible refine (byte_i HW3.out (by have := HSL.out.1; have := HSL.out.2; simp only [List.length_append, List.length_cons, List.length_nil]; omega) x3 (by omega) (by omega)).mono ?_); rintro e w4 ⟨rfl, hw4⟩; have HW4 := hid hw4; clear hw4; obtain ⟨⟨i0, i1, i2, i3, i4⟩, ⟨k1, k2⟩, e0, e1⟩ := FA.out _ _ HW4.out)
          | (go_at_call 36; (with_reducible refine (signed_n HW4.out (by have := HSL.out.1; have := HSL.out.2; simp only [List.length_append, List.length_cons, List.length_nil]; omega) x4 HI64.out.1).mono ?_); rintro e w5 ⟨rfl, hw5⟩; have HW5 := hid hw5; clear hw5; obtain ⟨⟨i0, i1, i2, i3, i4⟩, ⟨k1, k2⟩, e0, e1⟩ := FA.out _ _ HW5.out)
          | (go_at_call 36; (with_reducible refine (signed_n HW5.out (by have := HSL.out.1; have := HSL.out.2; simp only [List.length_append, List.length_cons, List.length_nil]; omega) (pl - ln) HI64.out.2).mono ?_); rintro e w6 ⟨rfl, hw6⟩; have HW6 := hid hw6; clear hw6; obtain ⟨⟨i0, i1, i2, i3, i4⟩, ⟨k1, k2⟩, e0, e1⟩ := FA.out _ _ HW6.out)
          | (go_at_call 34; (with_reducible refine (short_i HW6.out (by have := HSL.out.1; have := HSL.out.2; simp only [List.length_append, List.length_cons, List.length_nil]; omega) cl (by omega) (by omega)).mono ?_); rintro e w7 ⟨rfl, hw7⟩; have HW7 := hid hw7; clear hw7; obtain ⟨⟨i0, i1, i2, i3, i4⟩, ⟨k1, k2⟩, e0, e1⟩ := FA.out _ _ HW7.out))
        go_roundw
        case rel => exact ⟨k + 1, pl, by omega, by go_num, by go_num, u1, u2, HLN.out.symm, by rw [HNX.out]; simpa [List.append_assoc] using HW7.out.sub (fun q hq => List.mem_cons_of_mem _ hq)⟩
        case measure => simp [intOf]; omega
      · go_wp2_with (first
          | (go_at_call 22; refine (HNM.out _).mono ?_; rintro e w' ⟨rfl, rfl⟩)
          | (go_at_call 78; (with_reducible refine (HPUT.out).mono ?_); rintro e w3 ⟨rfl, hw3⟩; have HW3 := hid hw3; clear hw3; obtain ⟨⟨i0, i1, i2, i3, i4⟩, ⟨k1, k2⟩, e0, e1⟩ := FA.out _ _ HW3.out)
          | (go_at_call 78; (with_reducible refine (byte_i HW3.out (by have := HSL.out.1; have := HSL.out.2; simp only [List.length_append, List.length_cons, List.length_nil]; omega) (x1 + 16 * x2) (by omega) (by omega)).mono ?_); rintro e w4 ⟨rfl, hw4⟩; have HW4 := hid hw4; clear hw4; obtain ⟨⟨i0, i1, i2, i3, i4⟩, ⟨k1, k2⟩, e0, e1⟩ := FA.out _ _ HW4.out)
          | (go_at_call 36; (with_reducible refine (signed_n HW4.out (by have := HSL.out.1; have := HSL.out.2; simp only [List.length_append, List.length_cons, List.length_nil]; omega) (pl - ln) HI64.out.2).mono ?_); rintro e w5 ⟨rfl, hw5⟩; have HW5 := hid hw5; clear hw5; obtain ⟨⟨i0, i1, i2, i3, i4⟩, ⟨k1, k2⟩, e0, e1⟩ := FA.out _ _ HW5.out)
          | (go_at_call 34; (with_reducible refine (short_i HW5.out (by have := HSL.out.1; have := HSL.out.2; simp only [List.length_append, List.length_cons, List.length_nil]; omega) cl (by omega) (by omega)).mono ?_); rintro e w6 ⟨rfl, hw6⟩; have HW6 := hid hw6; clear hw6; obtain ⟨⟨i0, i1, i2, i3, i4⟩, ⟨k1, k2⟩, e0, e1⟩ := FA.out _ _ HW6.out))
        go_roundw
        case rel => exact ⟨k + 1, pl, by omega, by go_num, by go_num, u1, u2, HLN.out.symm, by rw [HNX.out]; simpa [List.append_assoc] using HW6.out.sub (fun q hq => List.mem_cons_of_mem _ hq)⟩
        case measure => simp [intOf]; omega
      · go_wp2_with (first
          | (go_at_call 22; refine (HNM.out _).mono ?_; rintro e w' ⟨rfl, rfl⟩)
          | (go_at_call 78; (with_reducible refine (HPUT.out).mono ?_); rintro e w3 ⟨rfl, hw3⟩; have HW3 := hid hw3; clear hw3; obtain ⟨⟨i0, i1, i2, i3, i4⟩, ⟨k1, k2⟩, e0, e1⟩ := FA.out _ _ HW3.out)
          | (go_at_call 78; (with_reducible refine (byte_i HW3.out (by have := HSL.out.1; have := HSL.out.2; simp only [List.length_append, List.length_cons, List.length_nil]; omega) (x1 + 16 * x2) (by omega) (by omega)).mono ?_); rintro e w4 ⟨rfl, hw4⟩; have HW4 := hid hw4; clear hw4; obtain ⟨⟨i0, i1, i2, i3, i4⟩, ⟨k1, k2⟩, e0, e1⟩ := FA.out _ _ HW4.out)
          | (go_at_call 36; (with_reducible refine (signed_n HW4.out (by have := HSL.out.1; have := HSL.out.2; simp only [List.length_append, List.length_cons, List.length_nil]; omega) x4 HI64.out.1).mono ?_); rintro e w5 ⟨rfl, hw5⟩; have HW5 := hid hw5; clear hw5; obtain ⟨⟨i0, i1, i2, i3, i4⟩, ⟨k1, k2⟩, e0, e1⟩ := FA.out _ _ HW5.out)
          | (go_at_call 36; (with_reducible refine (signed_n HW5.out (by have := HSL.out.1; have := HSL.out.2; simp only [List.length_append, List.length_cons, List.length_nil]; omega) (pl - ln) HI64.out.2).mono ?_); rintro e w6 ⟨rfl, hw6⟩; have HW6 := hid hw6; clear hw6; obtain ⟨⟨i0, i1, i2, i3, i4⟩, ⟨k1, k2⟩, e0, e1⟩ := FA.out _ _ HW6.out)
          | (go_at_call 34; (with_reducible refine (short_i HW6.out (by have := HSL.out.1; have := HSL.out.2; simp only [List.length_append, List.length_cons, List.length_nil]; omega) cl (by omega) (by omega)).mono ?_); rintro e w7 ⟨rfl, hw7⟩; have HW7 := hid hw7; clear hw7; obtain ⟨⟨i0, i1, i2, i3, i4⟩, ⟨k1, k2⟩, e0, e1⟩ := FA.out _ _ HW7.out))
        go_roundw
        case rel => exact ⟨k + 1, pl, by omega, by go_num, by go_num, u1, u2, HLN.out.symm, by rw [HNX.out]; simpa [List.append_assoc] using HW7.out.sub (fun q hq => List.mem_cons_of_mem _ hq)⟩
        case measure => simp [intOf]; omega
      · go_wp2_with (first
          | (go_at_call 22; refine (HNM.out _).mono ?_; rintro e w' ⟨rfl, rfl⟩)
          | (go_at_call 78; (with_reducible refine (HPUT.out).mono ?_); rintro e w3 ⟨rfl, hw3⟩; have HW3 := hid hw3; clear hw3; obtain ⟨⟨i0, i1, i2, i3, i4⟩, ⟨k1, k2⟩, e0, e1⟩ := FA.out _ _ HW3.out)
          | (go_at_call 78; (with_reducible refine (byte_i HW3.out (by have := HSL.out.1; have := HSL.out.2; simp only [List.length_append, List.length_cons, List.length_nil]; omega) (x1 + 16 * x2) (by omega) (by omega)).mono ?_); rintro e w4 ⟨rfl, hw4⟩; have HW4 := hid hw4; clear hw4; obtain ⟨⟨i0, i1, i2, i3, i4⟩, ⟨k1, k2⟩, e0, e1⟩ := FA.out _ _ HW4.out)
          | (go_at_call 78; (with_reducible refine (byte_i HW4.out (by have := HSL.out.1; have := HSL.out.2; simp only [List.length_append, List.length_cons, List.length_nil]; omega) x3 (by omega) (by omega)).mono ?_); rintro e w5 ⟨rfl, hw5⟩; have HW5 := hid hw5; clear hw5; obtain ⟨⟨i0, i1, i2, i3, i4⟩, ⟨k1, k2⟩, e0, e1⟩ := FA.out _ _ HW5.out)
          | (go_at_call 36; (with_reducible refine (signed_n HW5.out (by have := HSL.out.1; have := HSL.out.2; simp only [List.length_append, List.length_cons, List.length_nil]; omega) (pl - ln) HI64.out.2).mono ?_); rintro e w6 ⟨rfl, hw6⟩; have HW6 := hid hw6; clear hw6; obtain ⟨⟨i0, i1, i2, i3, i4⟩, ⟨k1, k2⟩, e0, e1⟩ := FA.out _ _ HW6.out)
          | (go_at_call 34; (with_reducible refine (short_i HW6.out (by have := HSL.out.1; have := HSL.out.2; simp only [List.length_append, List.length_cons, List.length_nil]; omega) cl (by omega) (by omega)).mono ?_); rintro e w7 ⟨rfl, hw7⟩; have HW7 := hid hw7; clear hw7; obtain ⟨⟨i0, i1, i2, i3, i4⟩, ⟨k1, k2⟩, e0, e1⟩ := FA.out _ _ HW7.out))
        go_roundw
        case rel => exact ⟨k + 1, pl, by omega, by go_num, by go_num, u1, u2, HLN.out.symm, by rw [HNX.out]; simpa [List.append_assoc] using HW7.out.sub (fun q hq => List.mem_cons_of_mem _ hq)⟩
        case measure => simp [intOf]; omega
      · go_wp2_with (first
          | (go_at_call 22; refine (HNM.out _).mono ?_; rintro e w' ⟨rfl, rfl⟩)
          | (go_at_call 78; (with_reducible refine (HPUT.out).mono ?_); rintro e w3 ⟨rfl, hw3⟩; have HW3 := hid hw3; clear hw3; obtain ⟨⟨i0, i1, i2, i3, i4⟩, ⟨k1, k2⟩, e0, e1⟩ := FA.out _ _ HW3.out)
          | (go_at_call 78; (with_reducible refine (byte_i HW3.out (by have := HSL.out.1; have := HSL.out.2; simp only [List.length_append, List.length_cons, List.length_nil]; omega) (x1 + 16 * x2) (by omega) (by omega)).mono ?_); rintro e w4 ⟨rfl, hw4⟩; have HW4 := hid hw4; clear hw4; obtain ⟨⟨i0, i1, i2, i3, i4⟩, ⟨k1, k2⟩, e0, e1⟩ := FA.out _ _ HW4.out)
          | (go_at_call 78; (with_reducible refine (byte_i HW4.out (by have := HSL.out.1; have := HSL.out.2; simp only [List.length_append, List.length_cons, List.length_nil]; omega) x3 (by omega) (by omega)).mono ?_); rintro e w5 ⟨rfl, hw5⟩; have HW5 := hid hw5; clear hw5; obtain ⟨⟨i0, i1, i2, i3, i4⟩, ⟨k1, k2⟩, e0, e1⟩ := FA.out _ _ HW5.out)
          | (go_at_call 36; (with_reducible refine (signed_n HW5.out (by have := HSL.out.1; have := HSL.out.2; simp only [List.length_append, List.length_cons, List.length_nil]; omega) x4 HI64.out.1).mono ?_); rintro e w6 ⟨rfl, hw6⟩; have HW6 := hid hw6; clear hw6; obtain ⟨⟨i0, i1, i2, i3, i4⟩, ⟨k1, k2⟩, e0, e1⟩ := FA.out _ _ HW6.out)
          | (go_at_call 36; (with_reducible refine (signed_n HW6.out (by have := HSL.out.1; have := HSL.out.2; simp only [List.length_append, List.length_cons, List.length_nil]; omega) (pl - ln) HI64.out.2).mono ?_); rintro e w7 ⟨rfl, hw7⟩; have HW7 := hid hw7; clear hw7; obtain ⟨⟨i0, i1, i2, i3, i4⟩, ⟨k1, k2⟩, e0, e1⟩ := FA.out _ _ HW7.out)
          | (go_at_call 34; (with_reducible refine (short_i HW7.out (by have := HSL.out.1; have := HSL.out.2; simp only [List.length_append, List.length_cons, List.length_nil]; omega) cl (by omega) (by omega)).mono ?_); rintro e w8 ⟨rfl, hw8⟩; have HW8 := hid hw8; clear hw8; obtain ⟨⟨i0, i1, i2, i3, i4⟩, ⟨k1, k2⟩, e0, e1⟩ := FA.out _ _ HW8.out))
        go_roundw
        case rel => exact ⟨k + 1, pl, by omega, by go_num, by go_num, u1, u2, HLN.out.symm, by rw [HNX.out]; simpa [List.append_assoc] using HW8.out.sub (fun q hq => List.mem_cons_of_mem _ hq)⟩
        case measure => simp [intOf]; omega
    · obtain rfl : k = n := by omega
      have hf : Wn w0 wr b (l ++ thrL ⟨nm, code, places⟩) K := by
        have h := hw.sub (K' := K) (fun q hq => List.mem_cons_of_mem _ hq)
        rw [List.take_of_length_le (by rw [HN.out.1]; exact Nat.le_refl _), List.take_of_length_le (by rw [HN.out.2]; exact Nat.le_refl _)] at h
        unfold thrL
        simp only
        rw [HN.out.1]
        simpa [List.append_assoc] using h
      have HF := hid hf
      clear hh hw hf hln
      go_wp2
      go_end0
      exact ⟨rfl, HF.out⟩
end Go.Proofs.Ytbikekgljabalaa
