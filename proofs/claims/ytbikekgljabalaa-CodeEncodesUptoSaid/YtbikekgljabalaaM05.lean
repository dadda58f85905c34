/- Several texts of this seat, one behind the other: Gk, Gl, Gm, Gn, Ua, Ha, Hb, Hd, He, Hf. -/
import Derived.Test.YtbikekgljabalaaGj
import Derived.Test.YtbikekgljabalaaFe
import Derived.Test.YtbikekgljabalaaSd
import Derived.Test.YtbikekgljabalaaM01
import Derived.Test.YtbikekgljabalaaM02
import Derived.Test.YtbikekgljabalaaM03
/- The length of a plain program's bytes, plain. -/
namespace Go.Proofs.Ytbikekgljabalaa
open Go.RowKit Go.AB
set_option linter.unusedSectionVars false
set_option linter.unusedVariables false

theorem varsL_len {xs : List VarD} (h : varsB xs = true) (h2 : ∀ x ∈ xs, I64 x.first) : (varsL xs).length ≤ 180234 := by
  unfold varsB at h
  simp only [Bool.and_eq_true, decide_eq_true_eq, List.all_eq_true] at h
  unfold varsL
  rw [List.length_append]
  have h3 := flat_le (f := varB) (m := 44) xs (fun x hx => varB_len (h.2 x hx) (h2 x hx))
  have h4 := shortB_10 (n := xs.length) (by unfold U64; omega)
  omega
theorem thrL_len {t : ThrD} (h : thrB t = true) (h2 : ∀ x ∈ t.code, I64 x.n) : (thrL t).length ≤ 44 + t.code.length * 33 := by
  unfold thrB at h
  simp only [Bool.and_eq_true, decide_eq_true_eq, List.all_eq_true] at h
  obtain ⟨⟨⟨t1, t2⟩, t3⟩, t4, t5⟩ := h
  unfold thrL
  rw [List.length_append, List.length_append]
  have a1 := textB_len t1
  have a2 := shortB_10 (n := t.code.length) (by unfold U64; omega)
  have a3 := inssL_le t.code t.places 0 (by omega) (by omega) h2 t5
  omega
theorem thrs_len : ∀ (ts : List ThrD), (∀ t ∈ ts, thrB t = true) → (∀ t ∈ ts, ∀ x ∈ t.code, I64 x.n) → (ts.flatMap thrL).length ≤ ts.length * 44 + codeSum ts * 33
  | [], _, _ => by simp
  | t :: ts, h, h2 => by
    have a := thrL_len (h t (by simp)) (h2 t (by simp))
    have b := thrs_len ts (fun y hy => h y (by simp [hy])) (fun y hy => h2 y (by simp [hy]))
    rw [List.flatMap_cons, List.length_append, List.length_cons, codeSum_cons]
    omega
/-- What numbers a program's fields are. -/
structure Wf64 (p : PrgD) : Prop where
  vars : ∀ x ∈ p.vars, I64 x.first
  vols : ∀ x ∈ p.vols, I64 x.first
  bars : ∀ x ∈ p.bars, I64 x.first
  thrs : ∀ t ∈ p.thrs, ∀ x ∈ t.code, I64 x.n
theorem bodyL_len {p : PrgD} (h : prgB p = true) (hw : Wf64 p) : (bodyL p).length ≤ 16777216 := by
  unfold prgB at h
  simp only [Bool.and_eq_true, decide_eq_true_eq, List.all_eq_true] at h
  obtain ⟨⟨⟨⟨⟨h1, h2⟩, h3⟩, h4⟩, h5⟩, h6, h7⟩ := h
  have a1 := varsL_len h1 hw.vars
  have a2 := varsL_len h2 hw.vols
  have a3 := varsL_len h4 hw.bars
  have a4 := thrs_len p.thrs h6 hw.thrs
  unfold locksB at h3
  simp only [Bool.and_eq_true, decide_eq_true_eq, List.all_eq_true] at h3
  have a5 := flat_le (f := textB) (m := 34) p.locks (fun x hx => textB_len (h3.2 x hx))
  have a6 := shortB_10 (n := p.locks.length) (by unfold U64; omega)
  have a7 := shortB_10 (n := p.thrs.length) (by unfold U64; omega)
  unfold bodyL
  simp only [List.length_append]
  omega
end Go.Proofs.Ytbikekgljabalaa

/- Walks of the code layer: a program laid down. -/
namespace Go.Proofs.Ytbikekgljabalaa
open Go.RowKit Go.AB
set_option linter.unusedSectionVars false
set_option linter.unusedSimpArgs false
set_option linter.unusedVariables false

/-- A new writer. -/
theorem Wn.new (w : World) : Wn w (w.alloc (.cells #[.slice none 0 0] 73)) w.heap.size [] [] :=
  ⟨none, none, 0, ⟨heap_alloc_new w _, Row.nil _ _ _, by simp⟩, (Chg.refl [] w).alloc _, Nat.le_refl _, Fresh.refl _ _, fun q hq => by cases hq⟩
set_option maxHeartbeats 8000000 in
set_option maxRecDepth 100000 in
theorem encode_bad (p : PrgD) (hs : SmallP p) (hb : prgB p = false) {v : Value} (w : World) (hv : PrgV w v p) :
    Calls Try.prog 13 #[v] w fun e w' => e = .returned (.tuple #[.slice none 0 0, .int .i64 4]) ∧ Chg [] w w' := by
  have hp := fun u (hu : Chg [] w u) => plain_calls p hs u (hv.keep hu)
  rw [hb] at hp
  obtain ⟨a, b, c, d, e, ts, rfl, _⟩ := hv.mk'
  have HP := hid hp
  clear hp hv hb
  go_enter Try.func13, Try.ntmps13
  go_wp2_with (go_at_call 12; refine (HP.out _ ((Chg.refl _ _).alloc _)).mono ?_; rintro e w1 ⟨rfl, hc1⟩)
  go_ret2
  exact ⟨rfl, ((Chg.refl _ _).alloc _).trans' hc1⟩
end Go.Proofs.Ytbikekgljabalaa

/- Walks of the code layer: a plain program laid down. -/
namespace Go.Proofs.Ytbikekgljabalaa
open Go.RowKit Go.AB
set_option linter.unusedSectionVars false
set_option linter.unusedSimpArgs false
set_option linter.unusedVariables false

theorem Wn.start {w w1 : World} {o : Obj} (hc : Chg [] (w.alloc o) w1) : Wn w (w1.alloc (.cells #[.slice none 0 0] 73)) w1.heap.size [] [(w.heap.size, o)] := by
  have hs := hc.size
  simp only [World.size_alloc] at hs
  refine ⟨none, none, 0, ⟨heap_alloc_new w1 _, Row.nil _ _ _, by simp⟩, ((((Chg.refl [] w).alloc o).trans' hc).alloc _), by omega, Fresh.refl _ _, fun q hq => ?_⟩
  simp only [List.mem_singleton] at hq
  subst hq
  refine ⟨?_, by simp only; omega, by simp⟩
  exact ((Chg.refl [] w1).alloc _).heap (hc.heap (heap_alloc_new w o) (by simp)) (by simp)
end Go.Proofs.Ytbikekgljabalaa

/- Walks of the code layer: a plain program laid down, the walk. -/
namespace Go.Proofs.Ytbikekgljabalaa
open Go.RowKit Go.AB
set_option linter.unusedSectionVars false
set_option linter.unusedSimpArgs false
set_option linter.unusedVariables false

theorem thr_code {t : ThrD} (h : thrB t = true) : t.code.length ≤ 4096 := by
  unfold thrB at h
  simp only [Bool.and_eq_true, decide_eq_true_eq] at h
  exact h.1.1.2
set_option maxHeartbeats 8000000 in
set_option maxRecDepth 100000 in
theorem encode_good (p : PrgD) (hs : SmallP p) (hw64 : Wf64 p) (hg : prgB p = true) {v : Value} (w : World) (hv : PrgV w v p) :
    Calls Try.prog 13 #[v] w (NewB2 5 w (frameB 1 (bodyL p)) 0) := by
  have hp := fun u (hu : Chg [] w u) => plain_calls p hs u (hv.keep hu)
  rw [hg] at hp
  obtain ⟨a, b, c, d, e, ts, rfl, h1, h2, h3, h4, h5, h6, h7⟩ := hv
  have htl : ts.length = p.thrs.length := by rw [← h6, List.length_map]
  obtain ⟨a1, c1, rfl, _⟩ := h1.len
  obtain ⟨a2, c2, rfl, _⟩ := h2.len
  obtain ⟨a3, c3, rfl, _⟩ := h3.len
  obtain ⟨a4, c4, rfl, _⟩ := h4.len
  obtain ⟨a5, c5, rfl, _⟩ := h5.len
  have hlen := bodyL_len hg hw64
  have hg' := hg
  unfold prgB at hg'
  simp only [Bool.and_eq_true, decide_eq_true_eq, List.all_eq_true] at hg'
  obtain ⟨⟨⟨⟨⟨g1, g2⟩, g3⟩, g4⟩, g5⟩, g6, g7⟩ := hg'
  have vb : ∀ xs : List VarD, varsB xs = true → xs.length ≤ 4096 ∧ ∀ x ∈ xs, x.name.size ≤ 24 := fun xs h => by
    unfold varsB at h
    simpa only [Bool.and_eq_true, decide_eq_true_eq, List.all_eq_true] using h
  have lv1 := fun u b l K (hu : Wn w u b l K) (hl : l.length ≤ 137438953472) => layVars_calls p.vars (fun x hx => ⟨(vb _ g1).2 x hx, hw64.vars x hx⟩) (vb _ g1).1 hu hl h1
  have lv2 := fun u b l K (hu : Wn w u b l K) (hl : l.length ≤ 137438953472) => layVars_calls p.vols (fun x hx => ⟨(vb _ g2).2 x hx, hw64.vols x hx⟩) (vb _ g2).1 hu hl h2
  have hl1 := varsL_len g1 hw64.vars
  have hl2 := varsL_len g2 hw64.vols
  have lb : p.locks.length ≤ 4096 ∧ ∀ x ∈ p.locks, x.size ≤ 24 := by
    unfold locksB at g3
    simpa only [Bool.and_eq_true, decide_eq_true_eq, List.all_eq_true] using g3
  have bb := vb _ g4
  have body : bodyL p = varsL p.vars ++ varsL p.vols ++ (shortB p.locks.length ++ p.locks.flatMap textB) ++ varsL p.bars ++ (shortB p.thrs.length ++ p.thrs.flatMap thrL) := rfl
  obtain ⟨n1, hn1⟩ : ∃ n, p.vars.length = n := ⟨_, rfl⟩
  obtain ⟨n2, hn2⟩ : ∃ n, p.vols.length = n := ⟨_, rfl⟩
  obtain ⟨n3, hn3⟩ : ∃ n, p.locks.length = n := ⟨_, rfl⟩
  obtain ⟨n4, hn4⟩ : ∃ n, p.bars.length = n := ⟨_, rfl⟩
  obtain ⟨n5, hn5⟩ : ∃ n, p.thrs.length = n := ⟨_, rfl⟩
  rw [hn5] at htl
  rw [htl] at h5 hp ⊢
  rw [hn1] at lv1 hp ⊢
  rw [hn2] at lv2 hp ⊢
  rw [hn3] at lb h3 hp ⊢
  rw [hn4] at bb h4 hp ⊢
  have HP := hid hp
  have LV1 := hid lv1
  have LV2 := hid lv2
  have HB := hid body
  have HLEN := hid hlen
  have V3 := hid h3
  have V4 := hid h4
  have V5 := hid h5
  have HN := hid (And.intro hn3 (And.intro hn4 hn5))
  have HQ := hid (And.intro lb.2 (And.intro bb.2 (And.intro g6 (And.intro hw64.bars hw64.thrs))))
  have HT := hid (And.intro h6 h7)
  have b3 := lb.1
  have b4 := bb.1
  have b5 : n5 ≤ 65535 := by rw [← hn5]; exact g5
  have HL12 := hid (And.intro hl1 hl2)
  obtain ⟨A1, hA1⟩ : ∃ x, varsL p.vars = x := ⟨_, rfl⟩
  obtain ⟨A2, hA2⟩ : ∃ x, varsL p.vols = x := ⟨_, rfl⟩
  rw [hA1] at LV1 HB HL12
  rw [hA2] at LV2 HB HL12
  clear h1 h2 h3 h4 h5 h6 h7 hp lv1 lv2 vb lb bb g1 g2 g3 g4 g6 g7 hl1 hl2 hn1 hn2 hn3 hn4 hn5 hlen body hg hA1 hA2 htl hs hw64
  have hL0' : A1.length ≤ 180234 ∧ A2.length ≤ 180234 := HL12.out
  go_enter Try.func13, Try.ntmps13
  go_wp2_with (first
    | (go_at_call 12; refine (HP.out _ ((Chg.refl _ _).alloc _)).mono ?_; rintro e w1 ⟨rfl, hc1⟩; have hst := Wn.start hc1; have m0 : (w1.alloc (.cells #[.slice none 0 0] 73)).cell? ⟨w.heap.size, 0, none⟩ = some (.slice a1 n1 c1) := hst.cell (List.mem_singleton_self _) 0; have HST := hid hst; clear hst)
    | (go_at_call 33; (with_reducible refine (LV1.out _ _ _ _ HST.out (by simp)).mono ?_); rintro e w2 ⟨rfl, hw2⟩; rw [List.nil_append] at hw2; have m1 : w2.cell? ⟨w.heap.size, 1, none⟩ = some (.slice a2 n2 c2) := hw2.cell (List.mem_singleton_self _) 1; have HW2 := hid hw2; clear hw2)
    | (go_at_call 33; (with_reducible refine (LV2.out _ _ _ _ HW2.out (by omega)).mono ?_); rintro e w3 ⟨rfl, hw3⟩; have m2 : w3.cell? ⟨w.heap.size, 2, none⟩ = some (.slice a3 n3 c3) := hw3.cell (List.mem_singleton_self _) 2; have HW3 := hid hw3; clear hw3)
    | (go_at_call 34; (with_reducible refine (short_n HW3.out (by rw [List.length_append]; omega) n3 (by unfold U64; omega)).mono ?_); rintro e w4 ⟨rfl, hw4⟩; have m3 : w4.cell? ⟨w.heap.size, 2, none⟩ = some (.slice a3 n3 c3) := hw4.cell (List.mem_singleton_self _) 2; have HW4 := hid hw4; clear hw4))
  clear m0 m1 m2 m3
  obtain ⟨wb, hwb⟩ : ∃ x, w1.heap.size = x := ⟨_, rfl⟩
  rw [hwb] at HW4 ⊢
  clear HST HW2 HW3 LV1 LV2 HP
  obtain ⟨L0, hL0⟩ : ∃ x, A1 ++ A2 ++ shortB n3 = x := ⟨_, rfl⟩
  have hL0l : L0.length ≤ 400000 := by
    have h1 := shortB_10 (n := n3) (by unfold U64; omega)
    rw [← hL0]
    simp only [List.length_append]
    omega
  rw [hL0] at HW4
  have HE0 := hid hL0
  clear hL0 hwb hL0' 
  go_loopw [34] (fun vi wr => ∃ k : Nat, k ≤ n3 ∧ vi = .int .i64 k ∧ Hid (Wn w wr wb (L0 ++ (p.locks.take k).flatMap textB) [(w.heap.size, (.cells #[.slice a1 n1 c1, .slice a2 n2 c2, .slice a3 n3 c3, .slice a4 n4 c4, .slice a5 n5 c5] 28 (0, 0) : Obj))])) (fun vi _ => n3 - (intOf vi).toNat)
  case atStart => exact ⟨0, Nat.zero_le _, rfl, by show Wn _ _ _ _ _; simpa using HW4.out⟩
  case round =>
    obtain ⟨k, hk, rfl, hw⟩ := hrel
    have hle : ((p.locks.take k).flatMap textB).length ≤ 140000 := by
      have h2 := flat_le (f := textB) (m := 34) (p.locks.take k) (fun x hx => textB_len (HQ.out.1 x (List.mem_of_mem_take hx)))
      have h3 : (p.locks.take k).length ≤ 4096 := by rw [List.length_take]; omega
      omega
    by_cases hlt : k < n3
    · have hkl : k < p.locks.length := by rw [HN.out.1]; exact hlt
      obtain ⟨bb, off, hao, hcl⟩ := (V3.out.keep hw.out.chg).at strC_len hkl (by omega)
      have zl : (k : Int) < (n3 : Int) := by omega
      have c0 : wr.cell? ⟨bb, off + k, none⟩ = some (.string p.locks[k]) := by have := hcl 0 (by omega); simpa [strC] using this
      have hbx := HQ.out.1 _ (List.getElem_mem hkl)
      have htk : p.locks.take (k + 1) = p.locks.take k ++ [p.locks[k]] := List.take_succ_eq_append_getElem hkl
      obtain ⟨nm, hX⟩ : ∃ X, p.locks[k] = X := ⟨_, rfl⟩
      rw [hX] at c0 hbx htk
      have ht := text_n hw.out (by rw [List.length_append]; omega) nm (by omega)
      have hfin : L0 ++ (p.locks.take k).flatMap textB ++ textB nm = L0 ++ (p.locks.take (k + 1)).flatMap textB := by
        rw [htk, List.flatMap_append]
        simp [List.append_assoc]
      rw [hfin] at ht
      have HT1 := hid ht
      subst hao
      clear ht hcl hw hX htk hfin hle
      go_wp2_with (go_at_call 35; (with_reducible refine HT1.out.mono ?_); rintro e w2 ⟨rfl, hw2⟩; have HWR := hid hw2; clear hw2)
      go_roundw
      case rel => exact ⟨k + 1, by omega, by go_num, HWR⟩
      case measure => simp [intOf]; omega
    · obtain rfl : n3 = k := by omega
      have hf := hw.out
      rw [List.take_of_length_le (by rw [HN.out.1]; exact Nat.le_refl _)] at hf hle
      obtain ⟨wo, hwo⟩ : ∃ x : World, x = wr := ⟨_, rfl⟩
      rw [← hwo] at hf ⊢
      obtain ⟨L1, hL1⟩ : ∃ x, L0 ++ p.locks.flatMap textB = x := ⟨_, rfl⟩
      have hL1l : L1.length ≤ 540000 := by rw [← hL1, List.length_append]; omega
      rw [hL1] at hf
      have HE1 := hid hL1
      have HF := hid hf
      have hsh := short_n hf (by omega) n4 (by unfold U64; omega)
      have m3 : wo.cell? ⟨w.heap.size, 3, none⟩ = some (.slice a4 n4 c4) := hf.cell (List.mem_singleton_self _) 3
      have HSH := hid hsh
      clear hw hf hL1 hle hwo hsh
      go_wp2_with (go_at_call 34; (with_reducible refine HSH.out.mono ?_); rintro e w5 ⟨rfl, hw5⟩; have m4 : w5.cell? ⟨w.heap.size, 3, none⟩ = some (.slice a4 n4 c4) := hw5.cell (List.mem_singleton_self _) 3; have HW5 := hid hw5; clear hw5)
      clear m3 m4
      obtain ⟨L2, hL2⟩ : ∃ x, L1 ++ shortB n4 = x := ⟨_, rfl⟩
      have hL2l : L2.length ≤ 550000 := by
        have h1 := shortB_10 (n := n4) (by unfold U64; omega)
        rw [← hL2, List.length_append]
        omega
      rw [hL2] at HW5
      have HE2 := hid hL2
      clear hL2 HSH HF HW4
      go_loopw [52] (fun vi wr => ∃ k : Nat, k ≤ n4 ∧ vi = .int .i64 k ∧ Hid (Wn w wr wb (L2 ++ (p.bars.take k).flatMap varB) [(w.heap.size, (.cells #[.slice a1 n1 c1, .slice a2 n2 c2, .slice a3 n3 c3, .slice a4 n4 c4, .slice a5 n5 c5] 28 (0, 0) : Obj))])) (fun vi _ => n4 - (intOf vi).toNat)
      case atStart => exact ⟨0, Nat.zero_le _, rfl, by show Wn _ _ _ _ _; simpa using HW5.out⟩
      case round =>
        obtain ⟨k, hk, rfl, hw⟩ := hrel
        have hle : ((p.bars.take k).flatMap varB).length ≤ 182000 := by
          have h2 := flat_le (f := varB) (m := 44) (p.bars.take k) (fun x hx => varB_len (HQ.out.2.1 x (List.mem_of_mem_take hx)) (HQ.out.2.2.2.1 x (List.mem_of_mem_take hx)))
          have h3 : (p.bars.take k).length ≤ 4096 := by rw [List.length_take]; omega
          omega
        by_cases hlt : k < n4
        · have hkl : k < p.bars.length := by rw [HN.out.2.1]; exact hlt
          obtain ⟨bb, off, hao, hcl⟩ := (V4.out.keep hw.out.chg).at varC_len hkl (by omega)
          have zl : (k : Int) < (n4 : Int) := by omega
          have c0 : wr.cell? ⟨bb, off + k * 2, none⟩ = some (.string p.bars[k].name) := hcl 0 (by omega)
          have c1' : wr.cell? ⟨bb, off + k * 2 + 1, none⟩ = some (.int .i64 p.bars[k].first) := hcl 1 (by omega)
          have hbx := HQ.out.2.1 _ (List.getElem_mem hkl)
          have hby := HQ.out.2.2.2.1 _ (List.getElem_mem hkl)
          have htk : p.bars.take (k + 1) = p.bars.take k ++ [p.bars[k]] := List.take_succ_eq_append_getElem hkl
          obtain ⟨X, hX⟩ : ∃ X, p.bars[k] = X := ⟨_, rfl⟩
          rw [hX] at c0 c1' hbx htk hby
          obtain ⟨nm, fi⟩ := X
          simp only at c0 c1' hbx hby
          have ht := text_n (hw.out.box (.cells #[.string nm, .int .i64 fi] 55)) (by rw [List.length_append]; omega) nm (by omega)
          have hs := fun (u : World) (hu : Wn w u wb (L2 ++ (p.bars.take k).flatMap varB ++ textB nm) ((wr.heap.size, .cells #[.string nm, .int .i64 fi] 55 (0, 0)) :: [(w.heap.size, (.cells #[.slice a1 n1 c1, .slice a2 n2 c2, .slice a3 n3 c3, .slice a4 n4 c4, .slice a5 n5 c5] 28 (0, 0) : Obj))])) => signed_n hu (by
            have := textB_len hbx
            simp only [List.length_append]
            omega) fi hby
          have hfin : L2 ++ (p.bars.take k).flatMap varB ++ textB nm ++ shortB (zig fi) = L2 ++ (p.bars.take (k + 1)).flatMap varB := by
            rw [htk, List.flatMap_append]
            simp [varB, List.append_assoc]
          rw [hfin] at hs
          have HT2 := hid ht
          have HS2 := hid hs
          subst hao
          clear ht hs hcl hw hX htk hfin hle
          go_wp2_with (first
            | (go_at_call 35; (with_reducible refine HT2.out.mono ?_); rintro e w6 ⟨rfl, hw6⟩; have k1 := hw6.cell (List.mem_cons_self ..) 1; have HW6 := hid hw6; clear hw6)
            | (go_at_call 36; (with_reducible refine (HS2.out _ HW6.out).mono ?_); rintro e w7 ⟨rfl, hw7⟩; have HW7 := hid hw7; clear hw7))
          go_roundw
          case rel => exact ⟨k + 1, by omega, by go_num, HW7.out.sub (fun q hq => List.mem_cons_of_mem _ hq)⟩
          case measure => simp [intOf]; omega
        · obtain rfl : n4 = k := by omega
          have hf := hw.out
          rw [List.take_of_length_le (by rw [HN.out.2.1]; exact Nat.le_refl _)] at hf hle
          obtain ⟨wp, hwp⟩ : ∃ x : World, x = wr := ⟨_, rfl⟩
          rw [← hwp] at hf ⊢
          obtain ⟨L3, hL3⟩ : ∃ x, L2 ++ p.bars.flatMap varB = x := ⟨_, rfl⟩
          have hL3l : L3.length ≤ 740000 := by rw [← hL3, List.length_append]; omega
          rw [hL3] at hf
          have HE3 := hid hL3
          have hsh := short_n hf (by omega) n5 (by unfold U64; omega)
          have m3 : wp.cell? ⟨w.heap.size, 4, none⟩ = some (.slice a5 n5 c5) := hf.cell (List.mem_singleton_self _) 4
          have HSH := hid hsh
          clear hw hf hL3 hle hwp hsh
          go_wp2_with (go_at_call 34; (with_reducible refine HSH.out.mono ?_); rintro e w8 ⟨rfl, hw8⟩; have m4 : w8.cell? ⟨w.heap.size, 4, none⟩ = some (.slice a5 n5 c5) := hw8.cell (List.mem_singleton_self _) 4; have HW8 := hid hw8; clear hw8)
          clear m3 m4
          obtain ⟨L4, hL4⟩ : ∃ x, L3 ++ shortB n5 = x := ⟨_, rfl⟩
          have hL4l : L4.length ≤ 750000 := by
            have h1 := shortB_10 (n := n5) (by unfold U64; omega)
            rw [← hL4, List.length_append]
            omega
          rw [hL4] at HW8
          have HE4 := hid hL4
          clear hL4 HSH HW5
          go_loopw [76] (fun vi wr => ∃ k : Nat, k ≤ n5 ∧ vi = .int .i64 k ∧ Hid (Wn w wr wb (L4 ++ (p.thrs.take k).flatMap thrL) [(w.heap.size, (.cells #[.slice a1 n1 c1, .slice a2 n2 c2, .slice a3 n3 c3, .slice a4 n4 c4, .slice a5 n5 c5] 28 (0, 0) : Obj))])) (fun vi _ => n5 - (intOf vi).toNat)
          case atStart => exact ⟨0, Nat.zero_le _, rfl, by show Wn _ _ _ _ _; simpa using HW8.out⟩
          case round =>
            obtain ⟨k, hk, rfl, hw⟩ := hrel
            have hle : ((p.thrs.take k).flatMap thrL).length ≤ 10000000000 := by
              have h2 := flat_le (f := thrL) (m := 140000) (p.thrs.take k) (fun x hx => by
                have hm := List.mem_of_mem_take hx
                have h1 := thrL_len (HQ.out.2.2.1 x hm) (HQ.out.2.2.2.2 x hm)
                have h2 := thr_code (HQ.out.2.2.1 x hm)
                omega)
              have h3 : (p.thrs.take k).length ≤ 65535 := by rw [List.length_take]; omega
              omega
            by_cases hlt : k < n5
            · have hts : ts.length = n5 := by have h := congrArg List.length HT.out.1; rw [List.length_map, HN.out.2.2] at h; exact h
              have hkt : k < ts.length := by omega
              have hkl : k < p.thrs.length := by rw [HN.out.2.2]; exact hlt
              have hge : p.thrs[k] = ts[k].t := by
                have h := List.getElem_of_eq HT.out.1.symm hkl
                rw [h, List.getElem_map]
              obtain ⟨bb, off, hao, hcl⟩ := (V5.out.keep hw.out.chg).at thrC_len hkt (by omega)
              have zl : (k : Int) < (n5 : Int) := by omega
              have c0 : wr.cell? ⟨bb, off + k * 3, none⟩ = some (.string ts[k].t.name) := hcl 0 (by omega)
              have c1' : wr.cell? ⟨bb, off + k * 3 + 1, none⟩ = some ts[k].code := hcl 1 (by omega)
              have c2' : wr.cell? ⟨bb, off + k * 3 + 2, none⟩ = some ts[k].places := hcl 2 (by omega)
              have hbx := HQ.out.2.2.1 _ (List.getElem_mem hkl)
              have hby := HQ.out.2.2.2.2 _ (List.getElem_mem hkl)
              have hvv := HT.out.2 _ (List.getElem_mem hkt)
              have htk : p.thrs.take (k + 1) = p.thrs.take k ++ [p.thrs[k]] := List.take_succ_eq_append_getElem hkl
              rw [hge] at hbx hby htk
              obtain ⟨X, hX⟩ : ∃ X, ts[k] = X := ⟨_, rfl⟩
              rw [hX] at c0 c1' c2' hbx htk hby hvv
              obtain ⟨⟨nm, code, places⟩, vc, vp⟩ := X
              simp only at c0 c1' c2' hbx hby hvv htk
              have ht := layThread_calls nm code places hbx hby (hw.out.box (.cells #[.string nm, vc, vp] 59)) (by rw [List.length_append]; omega) hvv.1 hvv.2
              have hfin : L4 ++ (p.thrs.take k).flatMap thrL ++ thrL ⟨nm, code, places⟩ = L4 ++ (p.thrs.take (k + 1)).flatMap thrL := by
                rw [htk, List.flatMap_append]
                simp [List.append_assoc]
              rw [hfin] at ht
              have HT3 := hid ht
              obtain ⟨aq, cq, rfl, _⟩ := hvv.1.len
              obtain ⟨ap, cp, rfl, _⟩ := hvv.2.len
              subst hao
              clear ht hcl hw hX htk hfin hle hge hts hvv hbx hby
              go_wp2_with (go_at_call 37; (with_reducible refine HT3.out.mono ?_); rintro e w9 ⟨rfl, hw9⟩; have HW9 := hid hw9; clear hw9)
              go_roundw
              case rel => exact ⟨k + 1, by omega, by go_num, HW9.out.sub (fun q hq => List.mem_cons_of_mem _ hq)⟩
              case measure => simp [intOf]; omega
            · obtain rfl : n5 = k := by omega
              have hf := hw.out
              rw [List.take_of_length_le (by rw [HN.out.2.2]; exact Nat.le_refl _)] at hf
              have hbody : L4 ++ p.thrs.flatMap thrL = bodyL p := by
                rw [HB.out, ← HE4.out, ← HE3.out, ← HE2.out, ← HE1.out, ← HE0.out]
                simp [varsL, List.append_assoc, HN.out.1, HN.out.2.1, HN.out.2.2]
              rw [hbody] at hf
              obtain ⟨r, ao, cap, q1, q2, q3, q4, _⟩ := hf
              have HBY := hid (bytes_calls _ _ _ _ _ _ q1 (by have := HLEN.out; omega))
              have HC := hid q2
              clear hw hle hbody q1 q2 q3 q4
              go_wp2_with (first
                | (go_at_call 39; refine HBY.out.mono ?_; rintro e w10 ⟨l10, ao10, cap10, r10, rfl, hr10, hf10, hc10, HL10⟩)
                | (go_at_call 38; refine (frame_calls 1 _ l10 w10 hr10.view (by have := HLEN.out; rw [HL10.out]; omega)).mono ?_; rintro e w11 ⟨l11, ao11, cap11, r11, rfl, hr11, hf11, hc11, HL11⟩))
              go_ret2
              exact ⟨l11, ao11, cap11, r11, rfl, hr11, hf11.mono ((HC.out.trans' hc10).size), (HC.out.trans' hc10).trans' hc11, hid (by rw [HL11.out, HL10.out])⟩
end Go.Proofs.Ytbikekgljabalaa

/- Walks of the code layer's laws: the program that is known. -/
namespace Go.Proofs.Ytbikekgljabalaa
open Go.RowKit Go.AB
set_option linter.unusedSectionVars false
set_option linter.unusedSimpArgs false
set_option linter.unusedVariables false

/-- The known program. -/
def kP : PrgD := ⟨[⟨⟨#[120]⟩, -1⟩], [], [], [], [⟨⟨#[116]⟩, [⟨11, 2, 0, 0, 0⟩, ⟨20, 0, 0, 0, 0⟩], [⟨3, 5⟩, ⟨3, 9⟩]⟩]⟩
theorem kP_plain : prgB kP = true := by decide +kernel
theorem kP_body : bodyL kP = [1, 1, 120, 1, 0, 0, 0, 1, 1, 116, 2, 11, 2, 0, 6, 5, 20, 0, 9] := by
  have s : ∀ n, n < 128 → shortB n = [UInt8.ofNat n] := fun n h => shortB_lt h
  have e1 : (ByteArray.mk #[120]).size = 1 := rfl
  have e2 : (ByteArray.mk #[116]).size = 1 := rfl
  simp [e1, e2, bodyL, kP, varsL, varB, thrL, inssL, insL, textB, s, zig, nA, nB, nC, nN, namedI, namedL, hasB]
theorem kP_wf : Wf64 kP := by
  have i0 : I64 0 := by unfold I64; omega
  have i1 : I64 (-1) := by unfold I64; omega
  have i2 : I64 2 := by unfold I64; omega
  refine ⟨fun x hx => ?_, fun x hx => ?_, fun x hx => ?_, fun t ht x hx => ?_⟩
  · simp only [kP, List.mem_singleton] at hx; subst hx; exact i1
  · simp [kP] at hx
  · simp [kP] at hx
  · simp only [kP, List.mem_singleton] at ht; subst ht; simp only [List.mem_cons, List.not_mem_nil, or_false] at hx; rcases hx with rfl | rfl <;> exact i0
theorem kP_small : SmallP kP := by
  constructor
  all_goals first
    | (show (1 : Nat) ≤ 1048576; omega)
    | (show (0 : Nat) ≤ 1048576; omega)
    | (intro x hx; simp only [kP, List.mem_singleton] at hx; subst hx; show (1 : Nat) ≤ 1048576; omega)
    | (intro x hx; simp only [kP, List.not_mem_nil] at hx; done)
    | (intro t ht; simp only [kP, List.mem_singleton] at ht; subst ht; exact ⟨by show (1 : Nat) ≤ 1048576; omega, by show (2 : Nat) ≤ 1048576; omega, by show (2 : Nat) ≤ 1048576; omega⟩)
/-- New cells, as a slice of n elements of k cells. -/
theorem View.many (w : World) (k n : Nat) (xs : List Value) (t : TypeId) (h : xs.length = n * k) (hn : n ≤ 1048576 := by omega) : View (w.alloc (.cells xs.toArray t)) k (.slice (some ⟨w.heap.size, 0, none⟩) n n) n xs := by
  refine ⟨h, by unfold maxLen; omega, _, _, rfl, Nat.le_refl _, by unfold maxLen; omega, (fun h => by cases h), fun h0 => ⟨_, _, rfl, fun j hj => ?_⟩⟩
  have hj' : j < xs.length := by omega
  rw [blk_cell (blk_alloc_new w _)]
  simp [List.getD, hj']
/-- The known program in memory. -/
theorem kP_view (w : World) : PrgV ((((w.alloc (.cells #[.string ⟨#[120]⟩, .int .i64 (-1)] 53)).alloc (.cells #[.int .i64 11, .int .i64 2, .int .i64 0, .int .i64 0, .int .i64 0, .int .i64 20, .int .i64 0, .int .i64 0, .int .i64 0, .int .i64 0] 61)).alloc (.cells #[.int .i64 3, .int .i64 5, .int .i64 3, .int .i64 9] 63)).alloc (.cells #[.string ⟨#[116]⟩, .slice (some ⟨w.heap.size + 1, 0, none⟩) 2 2, .slice (some ⟨w.heap.size + 2, 0, none⟩) 2 2] 59))
    (.agg #[.slice (some ⟨w.heap.size, 0, none⟩) 1 1, .slice none 0 0, .slice none 0 0, .slice none 0 0, .slice (some ⟨w.heap.size + 3, 0, none⟩) 1 1]) kP := by
  have n0 : ∀ {α : Type} (f : α → List Value) (k : Nat) (u : World), Lst f k u (.slice none 0 0) [] := fun f k u => (Row.nil u 0 k).view
  have v0 := View.many w 2 1 [.string ⟨#[120]⟩, .int .i64 (-1)] 53 rfl
  obtain ⟨w1, hw1⟩ : ∃ x : World, w.alloc (.cells #[.string ⟨#[120]⟩, .int .i64 (-1)] 53) = x := ⟨_, rfl⟩
  have s1 : w1.heap.size = w.heap.size + 1 := by rw [← hw1]; simp
  have v0' : View w1 2 (.slice (some ⟨w.heap.size, 0, none⟩) 1 1) 1 [.string ⟨#[120]⟩, .int .i64 (-1)] := by rw [← hw1]; exact v0
  have v1 := View.many w1 5 2 [.int .i64 11, .int .i64 2, .int .i64 0, .int .i64 0, .int .i64 0, .int .i64 20, .int .i64 0, .int .i64 0, .int .i64 0, .int .i64 0] 61 rfl
  rw [s1] at v1
  rw [hw1]
  obtain ⟨w2, hw2⟩ : ∃ x : World, w1.alloc (.cells #[.int .i64 11, .int .i64 2, .int .i64 0, .int .i64 0, .int .i64 0, .int .i64 20, .int .i64 0, .int .i64 0, .int .i64 0, .int .i64 0] 61) = x := ⟨_, rfl⟩
  have s2 : w2.heap.size = w.heap.size + 2 := by rw [← hw2]; simp [s1]
  have c2 : Chg [] w1 w2 := by rw [← hw2]; exact (Chg.refl [] w1).alloc _
  have v1' : View w2 5 (.slice (some ⟨w.heap.size + 1, 0, none⟩) 2 2) 2 [.int .i64 11, .int .i64 2, .int .i64 0, .int .i64 0, .int .i64 0, .int .i64 20, .int .i64 0, .int .i64 0, .int .i64 0, .int .i64 0] := by rw [← hw2]; exact v1
  have v2 := View.many w2 2 2 [.int .i64 3, .int .i64 5, .int .i64 3, .int .i64 9] 63 rfl
  rw [s2] at v2
  rw [hw2]
  obtain ⟨w3, hw3⟩ : ∃ x : World, w2.alloc (.cells #[.int .i64 3, .int .i64 5, .int .i64 3, .int .i64 9] 63) = x := ⟨_, rfl⟩
  have s3 : w3.heap.size = w.heap.size + 3 := by rw [← hw3]; simp [s2]
  have c3 : Chg [] w2 w3 := by rw [← hw3]; exact (Chg.refl [] w2).alloc _
  have v2' : View w3 2 (.slice (some ⟨w.heap.size + 2, 0, none⟩) 2 2) 2 [.int .i64 3, .int .i64 5, .int .i64 3, .int .i64 9] := by rw [← hw3]; exact v2
  have v3 := View.many w3 3 1 [.string ⟨#[116]⟩, .slice (some ⟨w.heap.size + 1, 0, none⟩) 2 2, .slice (some ⟨w.heap.size + 2, 0, none⟩) 2 2] 59 rfl
  rw [s3] at v3
  rw [hw3]
  have c4 : Chg [] w3 (w3.alloc (.cells #[.string ⟨#[116]⟩, .slice (some ⟨w.heap.size + 1, 0, none⟩) 2 2, .slice (some ⟨w.heap.size + 2, 0, none⟩) 2 2] 59)) := (Chg.refl [] w3).alloc _
  refine ⟨_, _, _, _, _, [⟨⟨⟨#[116]⟩, [⟨11, 2, 0, 0, 0⟩, ⟨20, 0, 0, 0, 0⟩], [⟨3, 5⟩, ⟨3, 9⟩]⟩, .slice (some ⟨w.heap.size + 1, 0, none⟩) 2 2, .slice (some ⟨w.heap.size + 2, 0, none⟩) 2 2⟩], rfl, ((v0'.keep c2 (by simp)).keep c3 (by simp)).keep c4 (by simp), n0 _ _ _, n0 _ _ _, n0 _ _ _, v3, rfl, fun x hx => ?_⟩
  rw [List.mem_singleton] at hx
  subst hx
  exact ⟨(v1'.keep c3 (by simp)).keep c4 (by simp), v2'.keep c4 (by simp)⟩
end Go.Proofs.Ytbikekgljabalaa

/- Programs read out of bytes, plain: parsers, and the bytes that they take. No program in sight. -/
namespace Go.AB
open Go.RowKit
set_option linter.unusedSectionVars false
set_option linter.unusedVariables false

/-- A parser at a place; none: given up. -/
def Ps (α : Type) : Type := Nat → Option (α × Nat)
/-- What a parser takes is just what is laid so. -/
structure Codec {α : Type} (L : List UInt8) (d : Ps α) (enc : α → List UInt8) (ok : α → Prop) : Prop where
  fwd : ∀ p x q, p ≤ L.length → d p = some (x, q) → ok x ∧ q ≤ L.length ∧ L.take q = L.take p ++ enc x
  bwd : ∀ p x rest, ok x → L.drop p = enc x ++ rest → d p = some (x, p + (enc x).length)
/-- A step of a reader whose fault stays. -/
structure Prim {α : Type} (L : List UInt8) (f : RS → α × RS) (enc : α → List UInt8) (ok : α → Prop) : Prop where
  stick : ∀ s, s.bad ≠ 0 → (f s).2.bad ≠ 0
  fwd : ∀ s, s.ok L → (f s).2.bad = 0 → (f s).2.wh = s.wh ∧ (f s).2.ok L ∧ L.take (f s).2.pos = L.take s.pos ++ enc (f s).1 ∧ ok (f s).1
  bwd : ∀ p wh x rest, ok x → L.drop p = enc x ++ rest → f ⟨p, wh, 0⟩ = (x, ⟨p + (enc x).length, wh, 0⟩)
theorem Prim.bad0 {α : Type} {L : List UInt8} {f : RS → α × RS} {enc : α → List UInt8} {ok : α → Prop} (h : Prim L f enc ok) {s : RS} (hb : (f s).2.bad = 0) : s.bad = 0 := by
  by_cases h0 : s.bad = 0
  · exact h0
  · exact absurd hb (h.stick s h0)
theorem drop_app {L x rest : List UInt8} {p : Nat} (h : L.drop p = x ++ rest) : L.drop (p + x.length) = rest := by rw [← List.drop_drop, h, List.drop_left]
theorem Prim.pair {α β : Type} {L : List UInt8} {f : RS → α × RS} {g : α → RS → β × RS} {e1 : α → List UInt8} {e2 : α → β → List UInt8} {ok1 : α → Prop} {ok2 : α → β → Prop}
    (h1 : Prim L f e1 ok1) (h2 : ∀ x, Prim L (g x) (e2 x) (ok2 x)) :
    Prim L (fun s => (((f s).1, (g (f s).1 (f s).2).1), (g (f s).1 (f s).2).2)) (fun x => e1 x.1 ++ e2 x.1 x.2) (fun x => ok1 x.1 ∧ ok2 x.1 x.2) := by
  refine ⟨fun s hs => (h2 _).stick _ (h1.stick s hs), fun s hs hb => ?_, fun p wh x rest ho hd => ?_⟩
  · simp only at hb ⊢
    obtain ⟨a2, a3, a4, a5⟩ := h1.fwd s hs ((h2 _).bad0 hb)
    obtain ⟨b2, b3, b4, b5⟩ := (h2 (f s).1).fwd (f s).2 a3 hb
    exact ⟨b2.trans a2, b3, by rw [b4, a4, List.append_assoc], a5, b5⟩
  · obtain ⟨x, y⟩ := x
    simp only at ho hd ⊢
    rw [List.append_assoc] at hd
    have a := h1.bwd p wh x _ ho.1 hd
    have b := (h2 x).bwd (p + (e1 x).length) wh y rest ho.2 (drop_app hd)
    simp only [a, b, List.length_append, Nat.add_assoc]
/-- Where a thing is named it is read, else it is as given. -/
theorem Prim.opt {α : Type} {L : List UInt8} {f : RS → α × RS} {enc : α → List UInt8} {ok : α → Prop} (h : Prim L f enc ok) (b : Bool) (z : α) :
    Prim L (fun s => if b then f s else (z, s)) (fun x => if b then enc x else []) (fun x => if b then ok x else x = z) := by
  cases b
  · exact ⟨fun s hs => hs, fun s hs hb => ⟨rfl, hs, by simp, rfl⟩, fun p wh x rest ho hd => by simp only [Bool.false_eq_true, if_false] at ho; subst ho; simp⟩
  · simpa using h
/-- With a fault or where the test fails it is given up. -/
def sureP {α : Type} (f : RS → α × RS) (c : α → Bool) : Ps α := fun p => if (f ⟨p, 0, 0⟩).2.bad = 0 ∧ c (f ⟨p, 0, 0⟩).1 = true then some ((f ⟨p, 0, 0⟩).1, (f ⟨p, 0, 0⟩).2.pos) else none
theorem Prim.sure {α : Type} {L : List UInt8} {f : RS → α × RS} {enc : α → List UInt8} {ok : α → Prop} (h : Prim L f enc ok) (c : α → Bool) : Codec L (sureP f c) enc (fun x => ok x ∧ c x = true) := by
  refine ⟨fun p x q hp hd => ?_, fun p x rest ho hd => ?_⟩
  · unfold sureP at hd
    split at hd
    · rename_i hc
      simp only [Option.some.injEq, Prod.mk.injEq] at hd
      obtain ⟨rfl, rfl⟩ := hd
      obtain ⟨_, a2, a3, a4⟩ := h.fwd ⟨p, 0, 0⟩ hp hc.1
      exact ⟨⟨a4, hc.2⟩, a2, a3⟩
    · cases hd
  · unfold sureP
    rw [h.bwd p 0 x rest ho.1 hd]
    simp [ho.2]
theorem Codec.pair {α β : Type} {L : List UInt8} {d1 : Ps α} {d2 : α → Ps β} {e1 : α → List UInt8} {e2 : α → β → List UInt8} {ok1 : α → Prop} {ok2 : α → β → Prop}
    (h1 : Codec L d1 e1 ok1) (h2 : ∀ x, ok1 x → Codec L (d2 x) (e2 x) (ok2 x)) :
    Codec L (fun p => (d1 p).bind fun r => (d2 r.1 r.2).map fun t => ((r.1, t.1), t.2)) (fun x => e1 x.1 ++ e2 x.1 x.2) (fun x => ok1 x.1 ∧ ok2 x.1 x.2) := by
  refine ⟨fun p x q hp hd => ?_, fun p x rest ho hd => ?_⟩
  · rcases h : d1 p with _ | ⟨a, r⟩
    · simp [h] at hd
    · rcases k : d2 a r with _ | ⟨b, t⟩
      · simp [h, k] at hd
      · simp only [h, k, Option.bind_some, Option.map_some, Option.some.injEq, Prod.mk.injEq] at hd
        obtain ⟨rfl, rfl⟩ := hd
        obtain ⟨a1, a2, a3⟩ := h1.fwd p a r hp h
        obtain ⟨b1, b2, b3⟩ := (h2 a a1).fwd r b t a2 k
        exact ⟨⟨a1, b1⟩, b2, by rw [b3, a3, List.append_assoc]⟩
  · obtain ⟨x, y⟩ := x
    simp only at ho hd ⊢
    rw [List.append_assoc] at hd
    rw [h1.bwd p x _ ho.1 hd]
    simp only [Option.bind_some]
    rw [(h2 x ho.1).bwd _ y rest ho.2 (drop_app hd)]
    simp [Nat.add_assoc]
/-- The same under other names. -/
theorem Codec.to {α β : Type} {L : List UInt8} {d : Ps α} {enc : α → List UInt8} {ok : α → Prop} (h : Codec L d enc ok) (f : α → β) {enc' : β → List UInt8} {ok' : β → Prop}
    (h1 : ∀ x, ok x → ok' (f x) ∧ enc' (f x) = enc x) (h2 : ∀ y, ok' y → ∃ x, ok x ∧ f x = y) : Codec L (fun p => (d p).map fun r => (f r.1, r.2)) enc' ok' := by
  refine ⟨fun p x q hp hd => ?_, fun p y rest ho hd => ?_⟩
  · rcases k : d p with _ | ⟨a, r⟩
    · simp [k] at hd
    · simp only [k, Option.map_some, Option.some.injEq, Prod.mk.injEq] at hd
      obtain ⟨rfl, rfl⟩ := hd
      obtain ⟨a1, a2, a3⟩ := h.fwd p a r hp k
      exact ⟨(h1 a a1).1, a2, by rw [(h1 a a1).2, a3]⟩
  · obtain ⟨x, hx, rfl⟩ := h2 y ho
    rw [(h1 x hx).2] at hd ⊢
    rw [h.bwd p x rest hx hd]
    rfl
/-- So many, one behind the other; each is told what the one ahead of it was. -/
def rep {α σ : Type} (d : σ → Ps α) (nx : α → σ) : Nat → σ → Ps (List α)
  | 0, _ => fun p => some ([], p)
  | n + 1, s => fun p => (d s p).bind fun r => (rep d nx n (nx r.1) r.2).map fun t => (r.1 :: t.1, t.2)
def encs {α σ : Type} (enc : σ → α → List UInt8) (nx : α → σ) : σ → List α → List UInt8
  | _, [] => []
  | s, x :: xs => enc s x ++ encs enc nx (nx x) xs
theorem rep_codec {α σ : Type} {L : List UInt8} {d : σ → Ps α} {nx : α → σ} {enc : σ → α → List UInt8} {ok : α → Prop} {V : σ → Prop} (h : ∀ s, V s → Codec L (d s) (enc s) ok) (hn : ∀ x, ok x → V (nx x)) :
    ∀ n s, V s → Codec L (rep d nx n s) (encs enc nx s) (fun xs => xs.length = n ∧ ∀ x ∈ xs, ok x)
  | 0, s, _ => ⟨fun p x q hp hd => by simp only [rep, Option.some.injEq, Prod.mk.injEq] at hd; obtain ⟨rfl, rfl⟩ := hd; simp [encs]; exact hp,
      fun p x rest ho hd => by obtain rfl := List.eq_nil_of_length_eq_zero ho.1; simp [rep, encs]⟩
  | n + 1, s, hV => by
    refine ⟨fun p x q hp hd => ?_, fun p x rest ho hd => ?_⟩
    · rcases k : d s p with _ | ⟨a, r⟩
      · simp [rep, k] at hd
      · rcases k2 : rep d nx n (nx a) r with _ | ⟨b, t⟩
        · simp [rep, k, k2] at hd
        · simp only [rep, k, k2, Option.bind_some, Option.map_some, Option.some.injEq, Prod.mk.injEq] at hd
          obtain ⟨rfl, rfl⟩ := hd
          obtain ⟨a1, a2, a3⟩ := (h s hV).fwd p a r hp k
          obtain ⟨b1, b2, b3⟩ := (rep_codec h hn n (nx a) (hn a a1)).fwd r b t a2 k2
          refine ⟨⟨by simp [b1.1], fun y hy => ?_⟩, b2, by rw [b3, a3]; simp [encs, List.append_assoc]⟩
          rcases List.mem_cons.1 hy with rfl | hy
          · exact a1
          · exact b1.2 y hy
    · rcases x with _ | ⟨y, ys⟩
      · simp at ho
      · simp only [encs, List.append_assoc] at hd
        have hy := ho.2 y (by simp)
        have a := (h s hV).bwd p y _ hy hd
        have b := (rep_codec h hn n (nx y) (hn y hy)).bwd _ ys rest ⟨by have := ho.1; simp at this; omega, fun z hz => ho.2 z (by simp [hz])⟩ (drop_app hd)
        simp only [rep, a, b, Option.bind_some, Option.map_some, encs, List.length_append, Nat.add_assoc]
theorem encs_flat {α : Type} (enc : α → List UInt8) (xs : List α) : encs (fun _ : Unit => enc) (fun _ => ()) () xs = xs.flatMap enc := by
  induction xs with
  | nil => rfl
  | cons x xs ih => simp [encs, ih]
end Go.AB

/- Programs read out of bytes, plain: the program's parser and the program's bytes. -/
namespace Go.Proofs.Ytbikekgljabalaa
open Go.RowKit Go.AB
set_option linter.unusedSectionVars false
set_option linter.unusedVariables false

section
variable {L : List UInt8}
theorem rShort_wh {m : Nat} {s : RS} (h : (rShort m L s).2.bad = 0) : (rShort m L s).2.wh = s.wh ∧ s.bad = 0 ∧ (rShort m L s).1 ≤ m := by
  revert h
  unfold rShort
  repeat' split
  all_goals (intro h; simp_all [RS.fails])
theorem rFixed_wh {m : Nat} {s : RS} (h : (rFixed m L s).2.bad = 0) : (rFixed m L s).2.wh = s.wh ∧ s.bad = 0 := by
  revert h
  unfold rFixed
  repeat' split
  all_goals (intro h; simp_all [RS.fails])
theorem rText_wh {m : Int} {s : RS} (h : (rText m L s).2.bad = 0) : (rText m L s).2.wh = s.wh ∧ s.bad = 0 ∧ (rText m L s).1.length ≤ m.toNat := by
  revert h
  unfold rText
  repeat' split
  all_goals (intro h; simp_all [RS.fails])
theorem p_short (m : Nat) : Prim L (rShort m L) shortB (fun v => v ≤ m ∧ U64 v) :=
  ⟨fun s hs => by unfold rShort; rw [if_pos hs]; exact hs,
   fun s hs hb => ⟨(rShort_wh hb).1, rShort_ok hs, ((step_short L m s hs).keep hb).2, (rShort_wh hb).2.2, rShort_U64 m L s⟩,
   fun p wh x rest ho hd => back_short ho.2 ho.1 hd⟩
theorem p_signed : Prim L (rSigned L) (fun x => shortB (zig x)) I64 :=
  ⟨fun s hs => by unfold rSigned rShort; rw [if_pos hs]; exact hs,
   fun s hs hb => ⟨(rShort_wh hb).1, rShort_ok hs, ((step_signed L s hs).keep hb).2, unzig_I64 (rShort_U64 _ L s)⟩,
   fun p wh x rest ho hd => back_signed ho hd⟩
theorem p_byte : Prim L (rFixed 1 L) (fun v => [UInt8.ofNat v]) (fun v => v < 256) :=
  ⟨fun s hs => by unfold rFixed; rw [if_pos hs]; exact hs,
   fun s hs hb => ⟨(rFixed_wh hb).1, rFixed_ok hs, by simpa [fixedB] using ((step_fixed L 1 (by omega) s hs).keep hb).2, by have := rFixed_lt 1 L s; omega⟩,
   fun p wh x rest ho hd => by
    have h := back_fixed (n := 1) (m := x) (wh := wh) (rest := rest) (by simpa [fixedB] using hd)
    rw [h]
    simp only [List.length_cons, List.length_nil, Nat.zero_add, Nat.pow_one]
    rw [Nat.mod_eq_of_lt ho]⟩
theorem p_text (hL : L.length < 18446744073709551616) : Prim L (rText 24 L) (fun s => shortB s.length ++ s) (fun s => s.length ≤ 24) :=
  ⟨fun s hs => by unfold rText; rw [if_pos hs]; exact hs,
   fun s hs hb => ⟨(rText_wh hb).1, rText_ok hs, ((step_text L hL 24 s hs).keep hb).2, (rText_wh hb).2.2⟩,
   fun p wh x rest ho hd => back_text (by unfold U64; omega) ho hd⟩
end

/-! the parsers -/
def pVar (L : List UInt8) (s : RS) : (List UInt8 × Int) × RS := (((rText 24 L s).1, (rSigned L (rText 24 L s).2).1), (rSigned L (rText 24 L s).2).2)
def dVar (L : List UInt8) : Ps VarD := fun p => (sureP (pVar L) (fun _ => true) p).map fun r => (⟨⟨r.1.1.toArray⟩, r.1.2⟩, r.2)
def dLock (L : List UInt8) : Ps ByteArray := fun p => (sureP (rText 24 L) (fun _ => true) p).map fun r => (⟨r.1.toArray⟩, r.2)
def dCnt (m : Nat) (L : List UInt8) : Ps Nat := sureP (rShort m L) (fun _ => true)
def pIns (L : List UInt8) (s : RS) : (Nat × Nat × Nat × Int) × RS :=
  let o := rFixed 1 L s
  let v := (fun t => if nA o.1 then rFixed 1 L t else (0, t)) o.2
  let c := (fun t => if nC o.1 then rFixed 1 L t else (0, t)) v.2
  let n := (fun t => if nN o.1 then rSigned L t else (0, t)) c.2
  ((o.1, v.1, c.1, n.1), n.2)
def insOf (r : Nat × Nat × Nat × Int) : InsD := ⟨r.1, if nB r.1 then ((r.2.1 % 16 : Nat) : Int) else r.2.1, if nB r.1 then ((r.2.1 / 16 : Nat) : Int) else 0, r.2.2.1, r.2.2.2⟩
def dIns (L : List UInt8) : Ps InsD := fun p => (sureP (pIns L) (fun r => insB (insOf r)) p).map fun r => (insOf r.1, r.2)
def plcOk (line d : Int) : Bool := decide (-2147483647 ≤ d) && decide (d ≤ 2147483647) && decide (0 ≤ line + d) && decide (line + d ≤ 2147483647)
def dPlc (L : List UInt8) (line : Int) : Ps PlcD := fun p =>
  (((sureP (rSigned L) (plcOk line)) p).bind fun r => ((sureP (rShort 2147483647 L) (fun _ => true)) r.2).map fun t => ((r.1, t.1), t.2)).map fun r => (⟨line + r.1.1, (r.1.2 : Nat)⟩, r.2)
def dIP (L : List UInt8) (line : Int) : Ps (InsD × PlcD) := fun p => (dIns L p).bind fun r => (dPlc L line r.2).map fun t => ((r.1, t.1), t.2)
def nxIP (x : InsD × PlcD) : Int := x.2.line
def pHead (L : List UInt8) (s : RS) : (List UInt8 × Nat) × RS := (((rText 24 L s).1, (rShort 4096 L (rText 24 L s).2).1), (rShort 4096 L (rText 24 L s).2).2)
def dThr (L : List UInt8) : Ps ThrD := fun p =>
  ((sureP (pHead L) (fun _ => true) p).bind fun r => (rep (dIP L) nxIP r.1.2 0 r.2).map fun t => ((r.1, t.1), t.2)).map fun r => (⟨⟨r.1.1.1.toArray⟩, r.1.2.map Prod.fst, r.1.2.map Prod.snd⟩, r.2)
def dList {α : Type} (m : Nat) (L : List UInt8) (d : Ps α) : Ps (List α) := fun p =>
  ((dCnt m L p).bind fun r => (rep (fun _ : Unit => d) (fun _ => ()) r.1 () r.2).map fun t => ((r.1, t.1), t.2)).map fun r => (r.1.2, r.2)
def dPrg (L : List UInt8) : Ps PrgD := fun p =>
  (dList 4096 L (dVar L) p).bind fun a => (dList 4096 L (dVar L) a.2).bind fun b => (dList 4096 L (dLock L) b.2).bind fun c => (dList 4096 L (dVar L) c.2).bind fun d =>
    (dList 65535 L (dThr L) d.2).map fun e => (⟨a.1, b.1, c.1, d.1, e.1⟩, e.2)
/-- A body as a program; none: it is none. -/
def dBody (L : List UInt8) : Option PrgD := (dPrg L 0).bind fun r => if r.2 = L.length ∧ prgB r.1 = true then some r.1 else none

/-! what they take -/
theorem toArray_size (l : List UInt8) : (ByteArray.mk l.toArray).size = l.length := by simp [ByteArray.size]
theorem textB_of (l : List UInt8) : textB ⟨l.toArray⟩ = shortB l.length ++ l := by unfold textB; rw [toArray_size]
theorem arr_ex (b : ByteArray) : ∃ l : List UInt8, (⟨l.toArray⟩ : ByteArray) = b ∧ l.length = b.size := ⟨b.data.toList, by simp, by rw [Array.length_toList]; rfl⟩
section
variable {L : List UInt8} (hL : L.length < 18446744073709551616)
include hL
set_option maxRecDepth 10000 in
theorem c_var : Codec L (dVar L) varB (fun v => v.name.size ≤ 24 ∧ I64 v.first) := by
  refine (((p_text hL).pair (fun _ => p_signed)).sure (fun _ => true)).to (enc' := varB) (ok' := fun v => v.name.size ≤ 24 ∧ I64 v.first) (fun r => ⟨⟨r.1.toArray⟩, r.2⟩) (fun x hx => ⟨⟨by rw [toArray_size]; exact hx.1.1, hx.1.2⟩, by unfold varB; rw [textB_of]⟩) (fun y hy => ?_)
  obtain ⟨l, h1, h2⟩ := arr_ex y.name
  exact ⟨(l, y.first), ⟨⟨by rw [h2]; exact hy.1, hy.2⟩, rfl⟩, by rw [h1]⟩
theorem c_lock : Codec L (dLock L) textB (fun v => v.size ≤ 24) := by
  refine ((p_text hL).sure (fun _ => true)).to (enc' := textB) (ok' := fun v => v.size ≤ 24) (fun r => ⟨r.toArray⟩) (fun x hx => ⟨by rw [toArray_size]; exact hx.1, textB_of x⟩) (fun y hy => ?_)
  obtain ⟨l, h1, h2⟩ := arr_ex y
  exact ⟨l, ⟨by rw [h2]; exact hy, rfl⟩, h1⟩
end
section
variable {L : List UInt8}
theorem c_cnt (m : Nat) : Codec L (dCnt m L) shortB (fun v => (v ≤ m ∧ U64 v) ∧ true = true) := (p_short m).sure _
/-- An instruction's bytes; a place's. -/
def insH (x : InsD) : List UInt8 := [UInt8.ofNat x.op.toNat] ++ ((if nA x.op then [UInt8.ofNat (x.a + 16 * x.b).toNat] else []) ++ ((if nC x.op then [UInt8.ofNat x.c.toNat] else []) ++ (if nN x.op then shortB (zig x.n) else [])))
def plcL (line : Int) (p : PlcD) : List UInt8 := shortB (zig (p.line - line)) ++ shortB p.col.toNat
theorem insL_eq (line : Int) (x : InsD) (p : PlcD) : insL line x p = insH x ++ plcL line p := by unfold insL insH plcL; simp [List.append_assoc]
theorem nB_nA (op : Int) (h : nB op = true) : nA op = true := by
  by_cases h1 : op < 1 ∨ 20 ≤ op
  · unfold nB at h; rw [namedI_out h1] at h; cases h
  · obtain ⟨k, rfl⟩ : ∃ k : Nat, op = k := ⟨op.toNat, by omega⟩
    have hk : k < 20 := by omega
    revert h
    have := (by decide : ∀ k : Fin 20, nB ((k : Nat) : Int) = true → nA ((k : Nat) : Int) = true) ⟨k, hk⟩
    exact this
theorem regB_out {v : Int} {q : Bool} (h : regB v q = true) : (q = true → 0 ≤ v ∧ v ≤ 15) ∧ (q = false → v = 0) := by
  unfold regB at h
  cases q
  · exact ⟨(fun h => by cases h), fun _ => by simpa using h⟩
  · simp at h; exact ⟨fun _ => h, (fun h => by cases h)⟩
theorem c_ins : Codec L (dIns L) insH (fun x => insB x = true ∧ I64 x.n) := by
  have hp := (p_byte (L := L)).pair (fun op => ((p_byte (L := L)).opt (nA op) 0).pair (fun _ => ((p_byte (L := L)).opt (nC op) 0).pair (fun _ => (p_signed (L := L)).opt (nN op) 0)))
  refine (hp.sure (fun r => insB (insOf r))).to (enc' := insH) (ok' := fun x => insB x = true ∧ I64 x.n) insOf (fun x hx => ?_) (fun y hy => ?_)
  · obtain ⟨op, v, c, n⟩ := x
    obtain ⟨⟨h0, h1, h2, h3⟩, h4⟩ := hx
    simp only at h0 h1 h2 h3 h4 ⊢
    refine ⟨⟨h4, ?_⟩, ?_⟩
    · show I64 n
      cases hn : nN op
      · rw [hn] at h3; simp at h3; subst h3; unfold I64; omega
      · rw [hn] at h3; simpa using h3
    · have e : (if nB (op : Int) then ((v % 16 : Nat) : Int) else (v : Int)) + 16 * (if nB (op : Int) then ((v / 16 : Nat) : Int) else 0) = v := by
        cases nB (op : Int) <;> simp <;> omega
      simp only [insH, insOf, e, Int.toNat_natCast]
  · obtain ⟨op, a, b, c, n⟩ := y
    obtain ⟨hy, hn⟩ := hy
    have hy' := hy
    unfold insB at hy'
    simp only [Bool.and_eq_true, decide_eq_true_eq, Bool.or_eq_true, beq_iff_eq] at hy' hn
    obtain ⟨⟨⟨⟨⟨o1, o2⟩, ra⟩, rb⟩, rc⟩, rn⟩ := hy'
    have qa := regB_out ra
    have qb := regB_out rb
    have qc := regB_out rc
    have hba := nB_nA op
    obtain ⟨k, rfl⟩ : ∃ k : Nat, op = k := ⟨op.toNat, by omega⟩
    have hof : insOf (k, (if nA (k : Int) then (a + 16 * b).toNat else 0), (if nC (k : Int) then c.toNat else 0), (if nN (k : Int) then n else 0)) = ⟨k, a, b, c, n⟩ := by
      simp only [insOf, InsD.mk.injEq, true_and]
      refine ⟨?_, ?_, ?_, ?_⟩
      · cases hA : nA (k : Int) <;> cases hB : nB (k : Int) <;> simp [hA, hB] at qa qb hba ⊢ <;> omega
      · cases hA : nA (k : Int) <;> cases hB : nB (k : Int) <;> simp [hA, hB] at qa qb hba ⊢ <;> omega
      · cases hC : nC (k : Int) <;> simp [hC] at qc ⊢ <;> omega
      · cases hN : nN (k : Int) <;> simp [hN] at rn ⊢ <;> omega
    refine ⟨(k, (if nA (k : Int) then (a + 16 * b).toNat else 0), (if nC (k : Int) then c.toNat else 0), (if nN (k : Int) then n else 0)), ⟨⟨by simp only; omega, ?_, ?_, ?_⟩, ?_⟩, hof⟩
    · simp only
      cases hA : nA (k : Int) <;> cases hB : nB (k : Int) <;> simp [hA, hB] at qa qb hba ⊢ <;> omega
    · simp only
      cases hC : nC (k : Int) <;> simp [hC] at qc ⊢ <;> omega
    · simp only
      cases hN : nN (k : Int) <;> simp [hN] at rn ⊢
      exact hn
    · rw [hof]; exact hy
theorem c_plc (line : Int) (hl : 0 ≤ line ∧ line ≤ 2147483647) : Codec L (dPlc L line) (plcL line) (fun p => plcB p = true) := by
  refine (Codec.pair ((p_signed (L := L)).sure (plcOk line)) (fun _ _ => (p_short (L := L) 2147483647).sure (fun _ => true))).to (enc' := plcL line) (ok' := fun p => plcB p = true) (fun r => ⟨line + r.1, (r.2 : Nat)⟩) (fun x hx => ?_) (fun y hy => ?_)
  · obtain ⟨d, c⟩ := x
    obtain ⟨⟨h1, h2⟩, ⟨h3, h4⟩, _⟩ := hx
    simp only at h1 h2 h3 h4 ⊢
    unfold plcOk at h2
    simp only [Bool.and_eq_true, decide_eq_true_eq] at h2
    refine ⟨?_, ?_⟩
    · simp only [plcB, Bool.and_eq_true, decide_eq_true_eq]; omega
    · simp only [plcL, Int.toNat_natCast]
      rw [show line + d - line = d from by omega]
  · obtain ⟨ln, c⟩ := y
    simp only [plcB, Bool.and_eq_true, decide_eq_true_eq] at hy
    refine ⟨(ln - line, c.toNat), ⟨⟨by unfold I64; simp only; omega, ?_⟩, ⟨by simp only; omega, by unfold U64; simp only; omega⟩, rfl⟩, ?_⟩
    · simp only [plcOk, Bool.and_eq_true, decide_eq_true_eq]; omega
    · simp only [PlcD.mk.injEq]; omega
end
end Go.Proofs.Ytbikekgljabalaa

/- Walks of the code layer: what gives a body up; numbers and names taken off. -/
namespace Go.Proofs.Ytbikekgljabalaa
open Go.RowKit Go.AB
set_option linter.unusedSimpArgs false
set_option linter.unusedVariables false
set_option linter.unusedSectionVars false

/-- Given up. -/
def gaveUp : Ending := .panicked [{ v := .iface 138 (.agg #[]), recovered := false }]
/-- A reader that is right stands at pos. -/
structure Ok (w : World) (b : Nat) (l : List UInt8) (ao : Option Addr) (cap pos : Nat) : Prop where
  rd : Rd 133 w b l ao cap pos 0 0
  lt : ∀ g, (Value.slice ao l.length cap).ownBlock = some g → g < w.heap.size
theorem Ok.keep {w w' : World} {b : Nat} {l : List UInt8} {ao : Option Addr} {cap pos : Nat} (h : Ok w b l ao cap pos) (hc : Chg [] w w') : Ok w' b l ao cap pos :=
  ⟨h.rd.keep hc (by simp) (by simp), fun g hg => Nat.lt_of_lt_of_le (h.lt g hg) hc.size⟩
theorem Ok.next {w w' : World} {b : Nat} {l : List UInt8} {ao : Option Addr} {cap pos q : Nat} {S : List Nat} (h : Ok w b l ao cap pos) (hc : Chg S w w') (hr : Rd 133 w' b l ao cap q 0 0) : Ok w' b l ao cap q :=
  ⟨hr, fun g hg => Nat.lt_of_lt_of_le (h.lt g hg) hc.size⟩
section
variable {w : World} {b : Nat} {l : List UInt8} {ao : Option Addr} {cap pos wh bad : Nat}
set_option maxHeartbeats 1000000 in
theorem sure_ok (hR : Rd 133 w b l ao cap pos wh 0) : Calls Try.prog 48 #[.agg #[.pointer (some ⟨b, 0, none⟩)], .bool true] w fun e w' => e = .returned (.tuple #[]) ∧ Chg [] w w' := by
  have hca := (Chg.refl [] w).alloc (.cells #[.pointer (some ⟨b, 0, none⟩)] 89)
  have hR' := hR.keep hca (by simp) (by simp)
  go_enter Try.func48, Try.ntmps48
  go_wp2_with (go_at_call 86; refine (fault_calls hR').mono ?_; rintro e w1 ⟨rfl, hd⟩)
  go_end0
  exact ⟨rfl, hca.trans' hd.chg⟩
set_option maxHeartbeats 1000000 in
theorem sure_no (hR : Rd 133 w b l ao cap pos wh 0) : Calls Try.prog 48 #[.agg #[.pointer (some ⟨b, 0, none⟩)], .bool false] w fun e w' => e = gaveUp ∧ Chg [] w w' := by
  have hca := (Chg.refl [] w).alloc (.cells #[.pointer (some ⟨b, 0, none⟩)] 89)
  have hR' := hR.keep hca (by simp) (by simp)
  go_enter Try.func48, Try.ntmps48
  go_wp2_with (go_at_call 86; refine (fault_calls hR').mono ?_; rintro e w1 ⟨rfl, hd⟩)
  exact ⟨rfl, rfl, hca.trans' hd.chg⟩
set_option maxHeartbeats 1000000 in
theorem sure_bad (hR : Rd 133 w b l ao cap pos wh bad) (hb : bad ≠ 0) (ok : Bool) : Calls Try.prog 48 #[.agg #[.pointer (some ⟨b, 0, none⟩)], .bool ok] w fun e w' => e = gaveUp ∧ Chg [] w w' := by
  have hca := (Chg.refl [] w).alloc (.cells #[.pointer (some ⟨b, 0, none⟩)] 89)
  have hR' := hR.keep hca (by simp) (by simp)
  go_enter Try.func48, Try.ntmps48
  go_wp2_with (go_at_call 86; refine (fault_calls hR').mono ?_; rintro e w1 ⟨rfl, hd⟩)
  exact ⟨rfl, rfl, hca.trans' hd.chg⟩
/-- In one: a fault or a test that fails gives up. -/
theorem sure_gone (hR : Rd 133 w b l ao cap pos wh bad) (ok : Bool) (h : bad ≠ 0 ∨ ok = false) : Calls Try.prog 48 #[.agg #[.pointer (some ⟨b, 0, none⟩)], .bool ok] w fun e w' => e = gaveUp ∧ Chg [] w w' := by
  by_cases hb : bad = 0
  · subst hb
    obtain rfl := h.resolve_left (by simp)
    exact sure_no hR
  · exact sure_bad hR hb ok
end
theorem sureP_some {α : Type} {L : List UInt8} {f : RS → α × RS} {enc : α → List UInt8} {ok : α → Prop} (hf : Prim L f enc ok) {c : α → Bool} {p q : Nat} {x : α} (hp : p ≤ L.length) (h : sureP f c p = some (x, q)) : f ⟨p, 0, 0⟩ = (x, ⟨q, 0, 0⟩) ∧ c x = true := by
  unfold sureP at h
  split at h
  · rename_i hc
    simp only [Option.some.injEq, Prod.mk.injEq] at h
    obtain ⟨a1, _⟩ := hf.fwd ⟨p, 0, 0⟩ hp hc.1
    obtain ⟨rfl, rfl⟩ := h
    refine ⟨?_, hc.2⟩
    rcases hr : f ⟨p, 0, 0⟩ with ⟨x, pos, wh, bad⟩
    rw [hr] at hc a1
    simp only at hc a1
    rw [a1, hc.1]
  · cases h
theorem sureP_none {α : Type} {f : RS → α × RS} {c : α → Bool} {p : Nat} (h : sureP f c p = none) : (f ⟨p, 0, 0⟩).2.bad ≠ 0 ∨ c (f ⟨p, 0, 0⟩).1 = false := by
  unfold sureP at h
  split at h
  · cases h
  · rename_i hc
    by_cases hb : (f ⟨p, 0, 0⟩).2.bad = 0
    · exact .inr (by simpa using fun h => hc ⟨hb, h⟩)
    · exact .inl hb
section
variable {w : World} {b : Nat} {l : List UInt8} {ao : Option Addr} {cap pos wh bad : Nat}
set_option maxHeartbeats 1000000 in
theorem count_ok (m : Nat) (hm : m ≤ 65535) (hR : Ok w b l ao cap pos) (hl : l.length ≤ 16777216) {v q : Nat} (h : dCnt m l pos = some (v, q)) :
    Calls Try.prog 46 #[.agg #[.pointer (some ⟨b, 0, none⟩)], .int .i64 m] w fun e w' => e = .returned (.int .i64 v) ∧ Ok w' b l ao cap q ∧ Chg [b] w w' := by
  have hO := hR
  replace hR := hR.rd
  obtain ⟨h1, _⟩ := sureP_some (p_short m) hR.ok h
  have hv : v ≤ m := by have := (rShort_wh (m := m) (L := l) (s := ⟨pos, 0, 0⟩) (by rw [h1])).2.2; rw [h1] at this; exact this
  have hca := (Chg.refl [] w).alloc (.cells #[.pointer (some ⟨b, 0, none⟩)] 89)
  have hR' := hR.keep hca (by simp) (by simp)
  have hs := rshort_calls hR' (by omega) m
  rw [h1] at hs
  have HS := hid hs
  have z1 : IntKind.u64.wrap (m : Int) = (m : Int) := by rw [IntKind.wrap_u64]; omega
  have z2 : wrap64 (v : Int) = (v : Int) := IntWalk.wrap64_in _ (by omega)
  clear hs h1 h hR'
  go_enter Try.func46, Try.ntmps46
  go_wp2_with (first
    | (go_at_call 84; refine (HS.out).mono ?_; rintro e w1 ⟨rfl, hR2, hc2⟩; have h8 := hc2.cell (p := ⟨w.heap.size, 0, none⟩) (v := .pointer (some ⟨b, 0, none⟩)) (by simp) (by have := blk_lt hR.blk; simp; omega))
    | (go_at_call 48; refine (sure_ok hR2).mono ?_; rintro e w2 ⟨rfl, hc3⟩))
  go_ret
  exact ⟨rfl, hO.next ((hca.nil.trans' hc2).trans' hc3.nil) (hR2.keep hc3 (by simp) (by simp)), (hca.nil.trans' hc2).trans' hc3.nil⟩
set_option maxHeartbeats 1000000 in
theorem count_bad (m : Nat) (hm : m ≤ 65535) (hR : Ok w b l ao cap pos) (hl : l.length ≤ 16777216) (h : dCnt m l pos = none) :
    Calls Try.prog 46 #[.agg #[.pointer (some ⟨b, 0, none⟩)], .int .i64 m] w fun e w' => e = gaveUp ∧ Chg [b] w w' := by
  replace hR := hR.rd
  have h1 := (sureP_none h).resolve_right (by simp)
  rcases hr : rShort m l ⟨pos, 0, 0⟩ with ⟨v, ⟨p2, wh2, bad2⟩⟩
  rw [hr] at h1
  have hca := (Chg.refl [] w).alloc (.cells #[.pointer (some ⟨b, 0, none⟩)] 89)
  have hR' := hR.keep hca (by simp) (by simp)
  have hs := rshort_calls hR' (by omega) m
  rw [hr] at hs
  have HS := hid hs
  have z1 : IntKind.u64.wrap (m : Int) = (m : Int) := by rw [IntKind.wrap_u64]; omega
  clear hs h hR' hr
  go_enter Try.func46, Try.ntmps46
  go_wp2_with (first
    | (go_at_call 84; refine (HS.out).mono ?_; rintro e w1 ⟨rfl, hR2, hc2⟩; have h8 := hc2.cell (p := ⟨w.heap.size, 0, none⟩) (v := .pointer (some ⟨b, 0, none⟩)) (by simp) (by have := blk_lt hR.blk; simp; omega))
    | (go_at_call 48; refine (sure_bad hR2 h1 _).mono ?_; rintro e w2 ⟨rfl, hc3⟩; unfold gaveUp))
  exact ⟨rfl, rfl, (hca.nil.trans' hc2).trans' hc3.nil⟩
set_option maxHeartbeats 1000000 in
theorem name_calls (hR : Rd 133 w b l ao cap pos wh bad) (hl : l.length ≤ 16777216) :
    Calls Try.prog 47 #[.agg #[.pointer (some ⟨b, 0, none⟩)]] w (RdPost 133 w b l ao cap (strB (rText 24 l ⟨pos, wh, bad⟩).1) (rText 24 l ⟨pos, wh, bad⟩).2) := by
  have hca := (Chg.refl [] w).alloc (.cells #[.pointer (some ⟨b, 0, none⟩)] 89)
  have hR' := hR.keep hca (by simp) (by simp)
  have HS := hid (rtext_calls hR' (by omega) 24 (by unfold I64; omega))
  go_enter Try.func47, Try.ntmps47
  go_wp2_with (go_at_call 85; refine (HS.out).mono ?_; rintro e w1 ⟨rfl, hR2, hc2⟩)
  go_ret
  exact ⟨rfl, hR2, hca.nil.trans' hc2⟩
end
end Go.Proofs.Ytbikekgljabalaa

/- Walks of the code layer: variables taken off. -/
namespace Go.Proofs.Ytbikekgljabalaa
open Go.RowKit Go.AB
set_option linter.unusedSimpArgs false
set_option linter.unusedVariables false
set_option linter.unusedSectionVars false

/-- A list taken off, in new memory; or given up. -/
def DL {α : Type} (f : α → List Value) (k T : Nat) (w : World) (b : Nat) (l : List UInt8) (ao : Option Addr) (cap : Nat) (R : Option (List α × Nat)) (e : Ending) (w' : World) : Prop :=
  (∃ xs q ao' cap' r, R = some (xs, q) ∧ e = .returned (.slice ao' xs.length cap') ∧ Row w' T k (.slice ao' xs.length cap') r xs.length (xs.flatMap f) ∧ Fresh w none r ∧ Ok w' b l ao cap q ∧ Chg [b] w w') ∨
  (R = none ∧ e = gaveUp ∧ Chg [b] w w')
variable {pos : Nat}
/-- What holds between the rounds of a loop that takes a list. -/
structure LT {α : Type} (f : α → List Value) (k T : Nat) (d : Ps α) (w : World) (b : Nat) (l : List UInt8) (ao : Option Addr) (cap n p0 : Nat) (j q : Nat) (xs : List α) (v : Value) (r : Option Nat) (wr : World) : Prop where
  len : xs.length = j
  row : Row wr T k v r j (xs.flatMap f)
  fr : Fresh w none r
  rd : Ok wr b l ao cap q
  chg : Chg [b] w wr
  eq : rep (fun _ : Unit => d) (fun _ => ()) n () p0 = (rep (fun _ : Unit => d) (fun _ => ()) (n - j) () q).map fun t => (xs ++ t.1, t.2)
theorem LT.mid {α : Type} {f : α → List Value} {k T : Nat} {d : Ps α} {w : World} {b : Nat} {l : List UInt8} {ao : Option Addr} {cap n p0 j q : Nat} {xs : List α} {v : Value} {r : Option Nat} {wr wA w5 : World} {p2 wh bad : Nat}
    (h : LT f k T d w b l ao cap n p0 j q xs v r wr) (hw : Ok w b l ao cap pos) (hA : Chg [b] wr wA) (hR : Rd 133 wA b l ao cap p2 wh bad) (hc5 : Chg r.toList wA w5) : Rd 133 w5 b l ao cap p2 wh bad ∧ Chg [b] w w5 := by
  have hf : ∀ g, g ∈ r.toList → w.heap.size ≤ g := fun g hg => (h.fr g (by simpa using hg)).resolve_left (by simp)
  refine ⟨hR.keep hc5 (fun hm => ?_) (fun g hg hm => ?_), (h.chg.trans' hA).trans hc5 (fun x hx => .inr (hf x hx))⟩
  · have := hf b hm
    have := blk_lt hw.rd.blk
    omega
  · have := hf g hm
    have := hw.lt g hg
    omega
theorem rep_step {α : Type} {d : Ps α} {n j q q2 p0 : Nat} {xs : List α} {x : α} (hj : j < n) (h : d q = some (x, q2))
    (he : rep (fun _ : Unit => d) (fun _ => ()) n () p0 = (rep (fun _ : Unit => d) (fun _ => ()) (n - j) () q).map fun t => (xs ++ t.1, t.2)) :
    rep (fun _ : Unit => d) (fun _ => ()) n () p0 = (rep (fun _ : Unit => d) (fun _ => ()) (n - (j + 1)) () q2).map fun t => ((xs ++ [x]) ++ t.1, t.2) := by
  rw [he, show n - j = (n - (j + 1)) + 1 from by omega]
  simp only [rep, h, Option.bind_some, Option.map_map]
  congr 1
  funext t
  simp
theorem rep_stop {α : Type} {d : Ps α} {n j q p0 : Nat} {xs : List α} (hj : j < n) (h : d q = none)
    (he : rep (fun _ : Unit => d) (fun _ => ()) n () p0 = (rep (fun _ : Unit => d) (fun _ => ()) (n - j) () q).map fun t => (xs ++ t.1, t.2)) :
    rep (fun _ : Unit => d) (fun _ => ()) n () p0 = none := by
  rw [he, show n - j = (n - (j + 1)) + 1 from by omega]
  simp only [rep, h, Option.bind_none, Option.map_none]
theorem rep_done {α : Type} {d : Ps α} {n q p0 : Nat} {xs : List α}
    (he : rep (fun _ : Unit => d) (fun _ => ()) n () p0 = (rep (fun _ : Unit => d) (fun _ => ()) (n - n) () q).map fun t => (xs ++ t.1, t.2)) :
    rep (fun _ : Unit => d) (fun _ => ()) n () p0 = some (xs, q) := by
  rw [he, Nat.sub_self]
  simp [rep]
theorem dList_some {α : Type} {m : Nat} {L : List UInt8} {d : Ps α} {p n p0 : Nat} (h : dCnt m L p = some (n, p0)) : dList m L d p = rep (fun _ : Unit => d) (fun _ => ()) n () p0 := by
  unfold dList
  simp only [h, Option.bind_some, Option.map_map]
  rcases rep (fun _ : Unit => d) (fun _ => ()) n () p0 with _ | ⟨a, c⟩ <;> rfl
theorem dList_none {α : Type} {m : Nat} {L : List UInt8} {d : Ps α} {p : Nat} (h : dCnt m L p = none) : dList m L d p = none := by
  unfold dList
  simp only [h, Option.bind_none, Option.map_none]
theorem LT.next {α : Type} {f : α → List Value} {k T : Nat} {d : Ps α} {w : World} {b : Nat} {l : List UInt8} {ao : Option Addr} {cap n p0 j q : Nat} {xs : List α} {v v' : Value} {r r' : Option Nat} {wr wA w5 w6 : World} {p2 : Nat} {x : α} {cs : List Value}
    (h : LT f k T d w b l ao cap n p0 j q xs v r wr) (hw : Ok w b l ao cap pos) (hj : j < n) (hA : Chg [b] wr wA) (hR : Rd 133 wA b l ao cap p2 0 0) (hr5 : Row w5 T k v' r' (j + 1) (xs.flatMap f ++ cs)) (hx : cs = f x) (hc5 : Chg r.toList wA w5) (hf5 : Fresh wA r r')
    (hd : d q = some (x, p2)) (h6 : Chg [] w5 w6) : LT f k T d w b l ao cap n p0 (j + 1) p2 (xs ++ [x]) v' r' w6 := by
  obtain ⟨m1, m2⟩ := h.mid hw hA hR hc5
  subst hx
  refine ⟨by simp [h.len], ?_, h.fr.trans (Nat.le_trans h.chg.size hA.size) hf5, ?_, m2.trans' h6.nil, rep_step hj hd h.eq⟩
  · rw [List.flatMap_append]
    simp only [List.flatMap_cons, List.flatMap_nil, List.append_nil]
    exact hr5.keep h6 (by simp)
  · exact ⟨m1.keep h6 (by simp) (by simp), fun g hg => Nat.lt_of_lt_of_le (hw.lt g hg) (m2.trans' h6.nil).size⟩
theorem LT.fin {α : Type} {f : α → List Value} {k T : Nat} {d : Ps α} {w w0 : World} {b : Nat} {l : List UInt8} {ao : Option Addr} {cap n p0 q : Nat} {xs : List α} {av : Option Addr} {cv : Nat} {r : Option Nat} {wr : World}
    (h : LT f k T d w0 b l ao cap n p0 n q xs (.slice av n cv) r wr) (hc : Chg [] w w0) : DL f k T w b l ao cap (rep (fun _ : Unit => d) (fun _ => ()) n () p0) (.returned (.slice av n cv)) wr := by
  obtain ⟨h1, h2, h3, h4, h5, h6⟩ := h
  subst h1
  exact .inl ⟨xs, q, av, cv, r, rep_done h6, rfl, h2, h3.mono hc.size, h4, hc.nil.trans' h5⟩
theorem info_var : (Try.prog.info? 53).map (fun i => (i.zero, i.size, i.bytes)) = some (some (.agg #[.string ⟨#[]⟩, .int .i64 0]), 2, 24) := by kernel_rfl
theorem elem_var : ElemOk Try.prog 23 53 2 24 := .of Try.underlying23 info_var rfl (by decide)
theorem View.struct (w : World) (cs : List Value) (t : TypeId) {k : Nat} (hk : cs.length = k) : View (w.alloc (.cells cs.toArray t)) k (.slice (some ⟨w.heap.size, 0, none⟩) 1 1) 1 cs := by
  subst hk
  refine ⟨by simp, by simp [maxLen], _, _, rfl, Nat.le_refl _, by simp [maxLen], (fun h => by cases h), fun _ => ⟨_, _, rfl, fun j hj => ?_⟩⟩
  have hj' : j < cs.length := by omega
  rw [blk_cell (blk_alloc_new w _)]
  simp [List.getD, hj']

section
variable {w : World} {b : Nat} {l : List UInt8} {ao : Option Addr} {cap pos : Nat}
set_option maxHeartbeats 4000000 in
set_option maxRecDepth 100000 in
theorem vars_calls (hR : Ok w b l ao cap pos) (hl : l.length ≤ 16777216) :
    Calls Try.prog 45 #[.agg #[.pointer (some ⟨b, 0, none⟩)]] w (DL varC 2 53 w b l ao cap (dList 4096 l (dVar l) pos)) := by
  have hca := (Chg.refl [] w).alloc (.cells #[.pointer (some ⟨b, 0, none⟩)] 89)
  have hbl := blk_lt hR.rd.blk
  have hR' : Ok (w.alloc (.cells #[.pointer (some ⟨b, 0, none⟩)] 89)) b l ao cap pos := hR.keep hca
  rcases hn : dCnt 4096 l pos with _ | ⟨n, p0⟩
  · have HC := hid (count_bad 4096 (by omega) hR' hl hn)
    rw [dList_none hn]
    clear hn
    go_enter Try.func45, Try.ntmps45
    go_wp2_with (go_at_call 46; refine (HC.out).mono ?_; rintro e w1 ⟨rfl, hc1⟩; unfold gaveUp)
    exact ⟨rfl, .inr ⟨rfl, rfl, hca.nil.trans' hc1⟩⟩
  · have HC := hid (count_ok 4096 (by omega) hR' hl hn)
    have hn2 : n ≤ 4096 := by
      have h1 := sureP_some (p_short 4096) hR.rd.ok hn
      have := (rShort_wh (m := 4096) (L := l) (s := ⟨pos, 0, 0⟩) (by rw [h1.1])).2.2
      rw [h1.1] at this
      exact this
    rw [dList_some hn]
    have HW0 := hid hR'
    clear hn hR'
    go_enter Try.func45, Try.ntmps45
    go_wp2_with (go_at_call 46; refine (HC.out).mono ?_; rintro e w1 ⟨rfl, hR1, hc1⟩)
    have hst : LT varC 2 53 (dVar l) (w.alloc (.cells #[.pointer (some ⟨b, 0, none⟩)] 89)) b l ao cap n p0 0 p0 [] (.slice none 0 0) none w1 :=
      ⟨rfl, Row.nil _ _ _, Fresh.refl _ _, hR1, hc1, by simp⟩
    have HST := hid hst
    clear hst hR1 hc1 HC
    go_loopw [3, 6] (fun vl vi wr => ∃ (j q : Nat) (xs : List VarD) (r : Option Nat) (av : Option Addr) (cv : Nat), j ≤ n ∧ vi = .int .i64 j ∧ vl = .slice av j cv ∧ Hid (LT varC 2 53 (dVar l) (w.alloc (.cells #[.pointer (some ⟨b, 0, none⟩)] 89)) b l ao cap n p0 j q xs (.slice av j cv) r wr)) (fun _ vi _ => n - (intOf vi).toNat)
    case atStart => exact ⟨0, p0, [], none, none, 0, Nat.zero_le _, rfl, rfl, HST⟩
    case round =>
      obtain ⟨j, q, xs, r, av, cv, hj, rfl, rfl, hI⟩ := hrel
      have hbox : wr.cell? ⟨w.heap.size, 0, none⟩ = some (.pointer (some ⟨b, 0, none⟩)) := hI.out.chg.cell (p := ⟨w.heap.size, 0, none⟩) (v := .pointer (some ⟨b, 0, none⟩)) (by simp) (by simp; omega)
      by_cases hlt : j < n
      · have zl : (j : Int) < (n : Int) := by omega
        obtain ⟨nm, p1, w1', b1, hT⟩ : ∃ nm p1 w1 b1, rText 24 l ⟨q, 0, 0⟩ = (nm, ⟨p1, w1, b1⟩) := ⟨_, _, _, _, rfl⟩
        obtain ⟨fi, p2, w2', b2, hS⟩ : ∃ fi p2 w2 b2, rSigned l ⟨p1, w1', b1⟩ = (fi, ⟨p2, w2, b2⟩) := ⟨_, _, _, _, rfl⟩
        have hP : pVar l ⟨q, 0, 0⟩ = ((nm, fi), ⟨p2, w2', b2⟩) := by unfold pVar; rw [hT]; simp only [hS]
        have HNM := hid (fun k => name_calls ((hI.out.rd.keep (Chg.of_drewN [] wr k)).rd) hl)
        rw [hT] at HNM
        have HB := hid hbox
        have hbw : b < (w.alloc (.cells #[.pointer (some ⟨b, 0, none⟩)] 89)).heap.size := by simp; omega
        have HRW := hid (fun u (hu : Chg [b] wr u) => hI.out.row.keep hu (fun g hg e => by
          have := hI.out.fr g hg
          simp at e
          subst e
          simp at this
          omega))
        have hjb : j ≤ 4096 := by omega
        go_wp2_with fail
        go_region_law (first
          | (refine step_app rfl _ _ 23 rfl elem_var rfl (HRW.out _ (hA3.alloc _)) rfl (View.struct _ [.string ⟨nm.toArray⟩, .int .i64 fi] 53 rfl) (by simp [Value.oneCell']) (by unfold maxLen; omega) (by omega) (fun ao' cap' r' w5 hr5 hc5 hf5 => ?_))
          | (go_simp; go_at_call 47; refine (HNM.out _).mono ?_; rintro e w2 ⟨rfl, hR2, hc2⟩; unfold strB; have hbox2 := hc2.cell (p := ⟨w.heap.size, 0, none⟩) (v := .pointer (some ⟨b, 0, none⟩)) HB.out (by simp; omega))
          | (go_simp; go_at_call 49; refine (rsigned_calls hR2 (by omega)).mono ?_; rw [hS]; rintro e w3 ⟨rfl, hR3, hc3⟩; have hbox3 := hc3.cell (p := ⟨w.heap.size, 0, none⟩) (v := .pointer (some ⟨b, 0, none⟩)) hbox2 (by simp; omega); have hA3 := ((Chg.of_drewN [b] wr _).trans' hc2).trans' hc3))
        all_goals
          have hmid := hI.out.mid HW0.out (hA3.alloc _) (hR3.keep ((Chg.refl [] _).alloc _) (by simp) (by simp)) hc5
          have hbox5 := hmid.2.cell (p := ⟨w.heap.size, 0, none⟩) (v := .pointer (some ⟨b, 0, none⟩)) (by simp) (by simp; omega)
          have HM := hid hmid
          have HC5 := hid (And.intro hA3 (And.intro hc5 (And.intro hr5 (And.intro hf5 hR3))))
          clear hmid hA3 hc5 hr5 hf5 hR3 hR2 hc2 hc3 hbox2 hbox3 HNM
          by_cases hb2 : b2 = 0
          · subst hb2
            have hd : dVar l q = some (⟨⟨nm.toArray⟩, fi⟩, p2) ∧ w2' = 0 := by
              have hw := (((p_text (L := l) (by omega)).pair (fun _ => p_signed)).fwd ⟨q, 0, 0⟩ hI.out.rd.rd.ok (by show (pVar l ⟨q, 0, 0⟩).2.bad = 0; rw [hP])).1
              replace hw : (pVar l ⟨q, 0, 0⟩).2.wh = 0 := hw
              rw [hP] at hw
              exact ⟨by unfold dVar sureP; rw [hP]; rfl, hw⟩
            obtain ⟨hd, rfl⟩ := hd
            have HD := hid hd
            clear hd hP hT hS
            go_wp2_with (go_at_call 48; refine (sure_ok HM.out.1).mono ?_; rintro e w6 ⟨rfl, hc6⟩)
            go_roundw
            case rel => exact ⟨j + 1, p2, xs ++ [⟨⟨nm.toArray⟩, fi⟩], r', ao', cap', by omega, by go_num, by go_num, hI.out.next HW0.out hlt (HC5.out.1.alloc _) (HC5.out.2.2.2.2.keep ((Chg.refl [] _).alloc _) (by simp) (by simp)) HC5.out.2.2.1 rfl HC5.out.2.1 HC5.out.2.2.2.1 HD.out hc6⟩
            case measure => simp [intOf]; omega
          · have hd : dVar l q = none := by
              unfold dVar sureP
              rw [hP, if_neg (fun h => hb2 h.1)]
              rfl
            have HD := hid (rep_stop hlt hd hI.out.eq)
            clear hd hP hT hS
            go_wp2_with (go_at_call 48; refine (sure_bad HM.out.1 hb2 _).mono ?_; rintro e w6 ⟨rfl, hc6⟩; unfold gaveUp)
            exact ⟨rfl, .inr ⟨HD.out, rfl, (hca.nil.trans' HM.out.2).trans' hc6.nil⟩⟩
      · have hj2 : j = n := by omega
        subst hj2
        go_wp2
        go_ret
        exact hI.out.fin hca
end
end Go.Proofs.Ytbikekgljabalaa

/- Walks of the code layer: an instruction taken off. -/
namespace Go.Proofs.Ytbikekgljabalaa
open Go.RowKit Go.AB
set_option linter.unusedSimpArgs false
set_option linter.unusedVariables false
set_option linter.unusedSectionVars false

/-- One thing taken off; or given up. -/
def DV {α : Type} (f : α → Value) (w : World) (b : Nat) (l : List UInt8) (ao : Option Addr) (cap : Nat) (R : Option (α × Nat)) (e : Ending) (w' : World) : Prop :=
  (∃ x q, R = some (x, q) ∧ e = .returned (f x) ∧ Ok w' b l ao cap q ∧ Chg [b] w w') ∨ (R = none ∧ e = gaveUp ∧ Chg [b] w w')
/-- While an instruction is taken: the reader, the taker's box, the result's cells, the instruction's cells. -/
structure IS (w u : World) (b : Nat) (l : List UInt8) (ao : Option Addr) (cap p h bd xb : Nat) (c0 c1 c2 c3 c4 : Value) : Prop where
  rd : Rd 133 u b l ao cap p h bd
  lt : ∀ g, (Value.slice ao l.length cap).ownBlock = some g → g < w.heap.size
  bl : b < w.heap.size
  chg : Chg [b] w u
  box : u.heap[w.heap.size]? = some (.cells #[.pointer (some ⟨b, 0, none⟩)] 89 (0, 0))
  res : u.heap[w.heap.size + 1]? = some (.cells #[.int .i64 0, .int .i64 0, .int .i64 0, .int .i64 0, .int .i64 0] 61 (0, 0))
  x : u.heap[xb]? = some (.cells #[c0, c1, c2, c3, c4] 61 (0, 0))
  xb : w.heap.size + 2 ≤ xb
section
variable {w u u' : World} {b : Nat} {l : List UInt8} {ao : Option Addr} {cap p h bd xb p' h' bd' : Nat} {c0 c1 c2 c3 c4 : Value}
theorem IS.facts (k : IS w u b l ao cap p h bd xb c0 c1 c2 c3 c4) : u.cell? ⟨w.heap.size, 0, none⟩ = some (.pointer (some ⟨b, 0, none⟩)) ∧
    u.cell? ⟨xb, 0, none⟩ = some c0 ∧ u.cell? ⟨xb, 1, none⟩ = some c1 ∧ u.cell? ⟨xb, 2, none⟩ = some c2 ∧ u.cell? ⟨xb, 3, none⟩ = some c3 ∧ u.cell? ⟨xb, 4, none⟩ = some c4 ∧
    u.frozen? ⟨xb, 1, none⟩ = false ∧ u.frozen? ⟨xb, 2, none⟩ = false ∧ u.frozen? ⟨xb, 3, none⟩ = false ∧ u.frozen? ⟨xb, 4, none⟩ = false ∧ w.heap.size ≠ xb ∧ xb ≠ w.heap.size := by
  have := k.xb
  exact ⟨blk_cell k.box 0, blk_cell k.x 0, blk_cell k.x 1, blk_cell k.x 2, blk_cell k.x 3, blk_cell k.x 4, blk_free k.x 1, blk_free k.x 2, blk_free k.x 3, blk_free k.x 4, by omega, by omega⟩
theorem IS.outs (k : IS w u b l ao cap p h bd xb c0 c1 c2 c3 c4) :
    u.cell? ⟨xb, 0, none⟩ = some c0 ∧ u.cell? ⟨xb, 1, none⟩ = some c1 ∧ u.cell? ⟨xb, 2, none⟩ = some c2 ∧ u.cell? ⟨xb, 3, none⟩ = some c3 ∧ u.cell? ⟨xb, 4, none⟩ = some c4 ∧
    u.cell? ⟨w.heap.size + 1, 0, none⟩ = some (.int .i64 0) ∧ u.cell? ⟨w.heap.size + 1, 1, none⟩ = some (.int .i64 0) ∧ u.cell? ⟨w.heap.size + 1, 2, none⟩ = some (.int .i64 0) ∧ u.cell? ⟨w.heap.size + 1, 3, none⟩ = some (.int .i64 0) ∧ u.cell? ⟨w.heap.size + 1, 4, none⟩ = some (.int .i64 0) ∧
    u.frozen? ⟨w.heap.size + 1, 0, none⟩ = false ∧ u.frozen? ⟨w.heap.size + 1, 1, none⟩ = false ∧ u.frozen? ⟨w.heap.size + 1, 2, none⟩ = false ∧ u.frozen? ⟨w.heap.size + 1, 3, none⟩ = false ∧ u.frozen? ⟨w.heap.size + 1, 4, none⟩ = false :=
  ⟨blk_cell k.x 0, blk_cell k.x 1, blk_cell k.x 2, blk_cell k.x 3, blk_cell k.x 4, blk_cell k.res 0, blk_cell k.res 1, blk_cell k.res 2, blk_cell k.res 3, blk_cell k.res 4, blk_free k.res 0, blk_free k.res 1, blk_free k.res 2, blk_free k.res 3, blk_free k.res 4⟩
theorem IS.setx (k : IS w u b l ao cap p h bd xb c0 c1 c2 c3 c4) (j : Nat) (v : Value) {cs : Array Value} (hcs : (#[c0, c1, c2, c3, c4] : Array Value).setIfInBounds j v = cs) :
    Rd 133 (u.setCell ⟨xb, j, none⟩ v) b l ao cap p h bd ∧ Chg [b] w (u.setCell ⟨xb, j, none⟩ v) ∧ (u.setCell ⟨xb, j, none⟩ v).heap[w.heap.size]? = u.heap[w.heap.size]? ∧ (u.setCell ⟨xb, j, none⟩ v).heap[w.heap.size + 1]? = u.heap[w.heap.size + 1]? ∧
      (u.setCell ⟨xb, j, none⟩ v).heap[xb]? = some (.cells cs 61 (0, 0)) := by
  have hx := k.xb
  have hb := k.bl
  have hc : Chg [xb] u (u.setCell ⟨xb, j, none⟩ v) := (Chg.refl [xb] u).setCell (p := ⟨xb, j, none⟩) (.inl (by simp)) _
  refine ⟨k.rd.keep hc (by simp; omega) (fun g hg => by have := k.lt g hg; simp; omega), k.chg.trans hc (fun y hy => .inr (by simp at hy; subst hy; omega)), blk_set_other (by omega) _ _, blk_set_other (by omega) _ _, ?_⟩
  rw [blk_set k.x, hcs]
theorem IS.set1 (k : IS w u b l ao cap p h bd xb c0 c1 c2 c3 c4) (v : Value) : IS w (u.setCell ⟨xb, 1, none⟩ v) b l ao cap p h bd xb c0 v c2 c3 c4 := by
  obtain ⟨a1, a2, a3, a4, a5⟩ := k.setx 1 v (cs := #[c0, v, c2, c3, c4]) rfl
  exact ⟨a1, k.lt, k.bl, a2, a3.trans k.box, a4.trans k.res, a5, k.xb⟩
theorem IS.set2 (k : IS w u b l ao cap p h bd xb c0 c1 c2 c3 c4) (v : Value) : IS w (u.setCell ⟨xb, 2, none⟩ v) b l ao cap p h bd xb c0 c1 v c3 c4 := by
  obtain ⟨a1, a2, a3, a4, a5⟩ := k.setx 2 v (cs := #[c0, c1, v, c3, c4]) rfl
  exact ⟨a1, k.lt, k.bl, a2, a3.trans k.box, a4.trans k.res, a5, k.xb⟩
theorem IS.set3 (k : IS w u b l ao cap p h bd xb c0 c1 c2 c3 c4) (v : Value) : IS w (u.setCell ⟨xb, 3, none⟩ v) b l ao cap p h bd xb c0 c1 c2 v c4 := by
  obtain ⟨a1, a2, a3, a4, a5⟩ := k.setx 3 v (cs := #[c0, c1, c2, v, c4]) rfl
  exact ⟨a1, k.lt, k.bl, a2, a3.trans k.box, a4.trans k.res, a5, k.xb⟩
theorem IS.set4 (k : IS w u b l ao cap p h bd xb c0 c1 c2 c3 c4) (v : Value) : IS w (u.setCell ⟨xb, 4, none⟩ v) b l ao cap p h bd xb c0 c1 c2 c3 v := by
  obtain ⟨a1, a2, a3, a4, a5⟩ := k.setx 4 v (cs := #[c0, c1, c2, c3, v]) rfl
  exact ⟨a1, k.lt, k.bl, a2, a3.trans k.box, a4.trans k.res, a5, k.xb⟩
theorem IS.take (k : IS w u b l ao cap p h bd xb c0 c1 c2 c3 c4) (hc : Chg [b] u u') (hr : Rd 133 u' b l ao cap p' h' bd') : IS w u' b l ao cap p' h' bd' xb c0 c1 c2 c3 c4 := by
  have hx := k.xb
  have hb := k.bl
  exact ⟨hr, k.lt, k.bl, k.chg.trans' hc, hc.heap k.box (by simp; omega), hc.heap k.res (by simp; omega), hc.heap k.x (by simp; omega), k.xb⟩
theorem IS.same (k : IS w u b l ao cap p h bd xb c0 c1 c2 c3 c4) (hc : Chg [] u u') : IS w u' b l ao cap p h bd xb c0 c1 c2 c3 c4 :=
  ⟨k.rd.keep hc (by simp) (by simp), k.lt, k.bl, k.chg.trans' hc.nil, hc.heap k.box (by simp), hc.heap k.res (by simp), hc.heap k.x (by simp), k.xb⟩
theorem IS.start {q : Nat} (hO : Ok w b l ao cap q) (hc : Chg [b] ((w.alloc (.cells #[.pointer (some ⟨b, 0, none⟩)] 89)).alloc (.cells #[.int .i64 0, .int .i64 0, .int .i64 0, .int .i64 0, .int .i64 0] 61)) u) (hr : Rd 133 u b l ao cap p h bd) (v : Value) :
    IS w (u.alloc (.cells #[v, .int .i64 0, .int .i64 0, .int .i64 0, .int .i64 0] 61)) b l ao cap p h bd u.heap.size v (.int .i64 0) (.int .i64 0) (.int .i64 0) (.int .i64 0) := by
  have hbl := blk_lt hO.rd.blk
  have hs := hc.size
  simp only [World.size_alloc] at hs
  have h1 : ((w.alloc (.cells #[.pointer (some ⟨b, 0, none⟩)] 89)).alloc (.cells #[.int .i64 0, .int .i64 0, .int .i64 0, .int .i64 0, .int .i64 0] 61)).heap[w.heap.size]? = some (.cells #[.pointer (some ⟨b, 0, none⟩)] 89 (0, 0)) := blk_alloc_old (heap_alloc_new w _) _
  have h2 := heap_alloc_new (w.alloc (.cells #[.pointer (some ⟨b, 0, none⟩)] 89)) (.cells #[.int .i64 0, .int .i64 0, .int .i64 0, .int .i64 0, .int .i64 0] 61)
  rw [World.size_alloc] at h2
  exact ⟨hr.keep ((Chg.refl [] u).alloc _) (by simp) (by simp), hO.lt, hbl, ((((Chg.refl [b] w).alloc _).alloc _).trans' hc).alloc _,
    blk_alloc_old (hc.heap h1 (by simp; omega)) _, blk_alloc_old (hc.heap h2 (by simp; omega)) _, heap_alloc_new u _, by omega⟩
theorem IS.done {q : Nat} {X : InsD} {V a0 a1 a2 a3 a4 : Value} (k : IS w u b l ao cap p h 0 xb c0 c1 c2 c3 c4) (hg : dIns l q = some (X, p) ∧ h = 0) (hV : insV X = V) :
    DV insV w b l ao cap (dIns l q) (.returned V) (((((u.setCell ⟨w.heap.size + 1, 0, none⟩ a0).setCell ⟨w.heap.size + 1, 1, none⟩ a1).setCell ⟨w.heap.size + 1, 2, none⟩ a2).setCell ⟨w.heap.size + 1, 3, none⟩ a3).setCell ⟨w.heap.size + 1, 4, none⟩ a4) := by
  obtain ⟨hd, rfl⟩ := hg
  have hb := k.bl
  have hc := (((((Chg.refl [w.heap.size + 1] u).setCell (p := ⟨w.heap.size + 1, 0, none⟩) (.inl (by simp)) a0).setCell (p := ⟨w.heap.size + 1, 1, none⟩) (.inl (by simp)) a1).setCell (p := ⟨w.heap.size + 1, 2, none⟩) (.inl (by simp)) a2).setCell (p := ⟨w.heap.size + 1, 3, none⟩) (.inl (by simp)) a3).setCell (p := ⟨w.heap.size + 1, 4, none⟩) (.inl (by simp)) a4
  have hr := k.rd.keep hc (by simp; omega) (fun g hg => by have := k.lt g hg; simp; omega)
  have hC := k.chg.trans hc (fun y hy => .inr (by simp at hy; subst hy; omega))
  exact .inl ⟨X, p, hd, by rw [hV], ⟨hr, fun g hg => Nat.lt_of_lt_of_le (k.lt g hg) hC.size⟩, hC⟩
end
theorem and15 (v : Nat) (hv : v < 256) : bits .and .i64 (v : Int) 15 = (v : Int) % 16 :=
  (by decide +kernel : ∀ k : Fin 256, bits .and .i64 ((k : Nat) : Int) 15 = ((k : Nat) : Int) % 16) ⟨v, hv⟩
section
variable {w : World} {b : Nat} {l : List UInt8} {ao : Option Addr} {cap q op v c p1 h1 b1 p2 h2 b2 p3 h3 b3 p4 h4 b4 : Nat} {n : Int} {ib : Bool}
structure DIn (w : World) (b : Nat) (l : List UInt8) (ao : Option Addr) (cap q op v c : Nat) (n : Int) (p1 h1 b1 p2 h2 b2 p3 h3 b3 p4 h4 b4 : Nat) (ib qa qb qc qn : Bool) : Prop where
  hO : Ok w b l ao cap q
  hl : l.length ≤ 16777216
  ho : op < 256
  hv : v < 256
  hc : c < 256
  hT1 : rFixed 1 l ⟨q, 0, 0⟩ = (op, ⟨p1, h1, b1⟩)
  hT2 : (if qa then rFixed 1 l ⟨p1, h1, b1⟩ else (0, ⟨p1, h1, b1⟩)) = (v, ⟨p2, h2, b2⟩)
  hT3 : (if qc then rFixed 1 l ⟨p2, h2, b2⟩ else (0, ⟨p2, h2, b2⟩)) = (c, ⟨p3, h3, b3⟩)
  hT4 : (if qn then rSigned l ⟨p3, h3, b3⟩ else (0, ⟨p3, h3, b3⟩)) = (n, ⟨p4, h4, b4⟩)
  hX' : (⟨op, if qb then ((v : Int) % 16) else v, if qb then ((v : Int) / 16) else 0, c, n⟩ : InsD) = insOf (op, v, c, n)
  HI : Hid (∀ u, Calls Try.prog 32 #[insV (insOf (op, v, c, n))] u fun e w' => e = .returned (.bool ib) ∧ Chg [] u w')
  HN : Hid (∀ u, Calls Try.prog 22 #[.int .i64 op] u fun e w' => e = .returned (.tuple #[.bool qa, .bool qb, .bool qc, .bool qn]) ∧ u = w')
  HG : Hid (b4 = 0 → ib = true → dIns l q = some (insOf (op, v, c, n), p4) ∧ h4 = 0)
  HGN : Hid (b4 ≠ 0 ∨ ib = false → dIns l q = none)
  hgood : (b4 = 0 ∧ ib = true) ∨ (b4 ≠ 0 ∨ ib = false)
end
end Go.Proofs.Ytbikekgljabalaa
