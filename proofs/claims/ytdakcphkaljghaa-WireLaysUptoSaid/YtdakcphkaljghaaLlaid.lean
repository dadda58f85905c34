/- Walks of the law's own: what the document lays for one step of a script. -/
import Derived.Test.YtdakcphkaljghaaRh
import Derived.Test.YtdakcphkaljghaaLadds
import Derived.Deep.RegionLaw
namespace Go.Proofs.Ytdakcphkaljghaa
open Go.RowKit Go.AB
set_option linter.unusedSectionVars false

/-- append as a step of a region that draws its order. -/
theorem step_app {P : Program} {w : World} {ops : Array Oper} {o : Oper} {a : Act} {K : Act → World → Prop} {Q : Exit → Act → World → Prop} {E0 : Prop} (hgd : o.guard = none) (s x : Operand) (t : TypeId)
    (ho : o.op = .call { callee := .builtin .append, args := #[s, x], argTypes := #[t, t] }) {e k bytes : Nat} (E : ElemOk P t e k bytes)
    {v : Value} {r : Option Nat} {n : Nat} {xs : List Value} (hs : a.eval s = v) (hrow : Row w e k v r n xs)
    {y : Value} {m : Nat} {ys : List Value} (hx : a.eval x = y) (hy : View w k y m ys) (h1 : ∀ u ∈ ys, u.oneCell' = true) (h63 : n + m ≤ maxLen) (hbytes : (n + m) * bytes ≤ 140737488355328)
    (h : ∀ ao' cap' r' w', Row w' e k (.slice ao' (n + m) cap') r' (n + m) (xs ++ ys) → Chg r.toList w w' → Fresh w r r' → K (a.put o.dst (.slice ao' (n + m) cap')) w') :
    if Region.wanted o (yielded ops a.tmps) = true then Oper.wp P o a w K Q else E0 := by
  have hw : Region.wanted o (yielded ops a.tmps) = true := by simp [Region.wanted, hgd]
  rw [if_pos hw]
  obtain ⟨i, z, hi, hz, hs', hb, hzs⟩ := E.info
  have hlen : (Builtin.lenOf y).run P w = .ok m w := by obtain ⟨_, _, ao, cap, rfl, _⟩ := hy; rfl
  obtain ⟨v', w', r', hr, h2, h3, h4, h5⟩ := run_append_gen (P := P) w t t o.type e _ i z k bytes E.und E.und (.inl ⟨_, rfl⟩) hi hz hs' hb hzs E.pos v r n xs hrow y m ys hy.1 hlen (firstCells_view hy) h1 h63 hbytes
  unfold Oper.wp execOp
  simp only [ho, resolve, invoke, builtin, Sem.run_bind, Sem.run_pure, Result.andThen_ok, List.map_toArray, List.map_cons, List.map_nil, hs, hx, hr]
  obtain ⟨ao', cap', rfl⟩ := h2.shape
  exact h ao' cap' r' w' h2 h3 h4

theorem size_all (k : Int) (w : World) : Calls Try.prog 47 #[.int .i64 k] w fun e w' => e = .returned (.int .i64 (sizeI k)) ∧ Chg [] w w' := by
  by_cases h : 0 ≤ k ∧ k < 8
  · exact sizeI_calls h w
  · have hz : sizeI k = 0 := by unfold sizeI; rw [if_neg h]
    rw [hz]
    exact size_out k (by omega) w
theorem sizeI_le8 (k : Int) : sizeI k ≤ 8 := sizeI_le k

section
variable {w : World} {many : List Nat} {v : Value} {width : Int} {text : ByteArray} (hv : View w 1 v many.length (many.map cU)) (hm : ∀ m ∈ many, U64 m) (hn : many.length ≤ 16777216)
include hv hm hn

set_option maxHeartbeats 2000000 in
set_option maxRecDepth 100000 in
theorem laid_2 : Calls Try.prog 13 #[.agg #[.int .i64 2, .int .i64 width, v, .string text]] w (NewB 5 w (many.flatMap shortB)) := by
  obtain ⟨_, _, aom, capm, rfl, _, _, _, hcells⟩ := hv
  have hca := (Chg.refl [] w).alloc (.cells #[.int .i64 2, .int .i64 width, .slice aom many.length capm, .string text] 35)
  go_enter Try.func13, Try.ntmps13
  go_wp2_with fail
  go_loopw [3, 4] (fun x i wr => ∃ k l1 r1 ao1 cap1, k ≤ many.length ∧ i = .int .i64 (k : Nat) ∧ x = .slice ao1 l1.length cap1 ∧ Row wr 5 1 (.slice ao1 l1.length cap1) r1 l1.length (l1.map B) ∧ Hid (l1 = (many.take k).flatMap shortB) ∧ Chg [] (w.alloc (.cells #[.int .i64 2, .int .i64 width, .slice aom many.length capm, .string text] 35)) wr ∧ Fresh (w.alloc (.cells #[.int .i64 2, .int .i64 width, .slice aom many.length capm, .string text] 35)) none r1)
    (fun _ i _ => many.length - (intOf i).toNat)
  case atStart => exact ⟨0, [], none, none, 0, by omega, rfl, rfl, Row.nil _ _ _, hid (by simp), Chg.refl _ _, Fresh.refl _ _⟩
  case round =>
    obtain ⟨k, l1, r1, ao1, cap1, hk, rfl, rfl, hr1, HL, hch, hfr⟩ := hrel
    have hlen : l1.length ≤ 167772160 := by
      have := flat_len_le 10 (many.take k) shortB (fun m hx => shortB_len10 (hm m (List.mem_of_mem_take hx)))
      rw [HL.out]; rw [List.length_take] at this; omega
    have y0 : wr.cell? ⟨w.heap.size, 0, none⟩ = some (.int .i64 2) := hch.cell (by simp) (by simp)
    have y1 : wr.cell? ⟨w.heap.size, 1, none⟩ = some (.int .i64 width) := hch.cell (by simp) (by simp)
    have y2 : wr.cell? ⟨w.heap.size, 2, none⟩ = some (.slice aom many.length capm) := hch.cell (by simp) (by simp)
    by_cases hlt : k < many.length
    · obtain ⟨bm, off, rfl, hc⟩ := hcells (by omega)
      have hc0 := (hc k (by omega)).trans (show some ((many.map cU).getD k undef) = some (.int .u64 ((many[k] : Nat) : Int)) by simp [List.getD, hlt, cU])
      have hbm : bm < w.heap.size := World.block_lt_of_cell? w _ hc0
      have y3 : wr.cell? ⟨bm, off + k, none⟩ = some (.int .u64 ((many[k] : Nat) : Int)) := hch.cell (((Chg.refl [] w).alloc _).cell hc0 (by simp)) (by simp)
      have hmk := hm _ (List.getElem_mem hlt)
      have HSN := hid (take_snoc many k hlt)
      clear hc hcells hc0
      go_wp2_with (first
        | (go_at_call 48; refine (ref_short_calls many[k] hmk _).mono ?_; rintro e wA ⟨l2, ao2, cap2, rA, rfl, hrowA, hfrA, hchA, HL2⟩; have hrw := hr1.keep hchA (by simp); have hl2 : l2.length ≤ 10 := (by rw [HL2.out]; exact shortB_len10 hmk))
        | (at_builtin; refine wpList_app rfl _ _ 25 rfl elem_u8 rfl (hrw) rfl (hrowA.view) (B_one _) (by unfold maxLen; omega) (by omega) (fun ao' cap' r' w2 hr2 hc2 hf2 hnil2 => halt (fun X hX => ?_))))
      rw [hX.out]; clear hX
      clear hnil2
      go_wp2
      go_roundw
      case rel => exact ⟨k + 1, l1 ++ l2, r', ao', cap', by omega, by go_num, by rw [List.length_append], (by rw [List.map_append, List.length_append]; exact hr2), hid (by rw [HL.out, HL2.out, HSN.out, List.flatMap_append]; simp), own_step hch hfr hchA hc2, fresh_step hch hfr hchA hf2⟩
      case measure => simp [intOf]; omega
    · go_wp2
      go_ret
      exact NewB.mk' hr1 (by rw [HL.out, List.take_of_length_le (by omega)]) ((Fresh.refl w none).trans hca.size hfr) (hca.trans' hch)

set_option maxHeartbeats 2000000 in
set_option maxRecDepth 100000 in
theorem laid_3 : Calls Try.prog 13 #[.agg #[.int .i64 3, .int .i64 width, v, .string text]] w (NewB 5 w (many.flatMap (fun m => shortB (zig (cv_i64 m))))) := by
  obtain ⟨_, _, aom, capm, rfl, _, _, _, hcells⟩ := hv
  have hca := (Chg.refl [] w).alloc (.cells #[.int .i64 3, .int .i64 width, .slice aom many.length capm, .string text] 35)
  go_enter Try.func13, Try.ntmps13
  go_wp2_with fail
  go_loopw [3, 4] (fun x i wr => ∃ k l1 r1 ao1 cap1, k ≤ many.length ∧ i = .int .i64 (k : Nat) ∧ x = .slice ao1 l1.length cap1 ∧ Row wr 5 1 (.slice ao1 l1.length cap1) r1 l1.length (l1.map B) ∧ Hid (l1 = (many.take k).flatMap (fun m => shortB (zig (cv_i64 m)))) ∧ Chg [] (w.alloc (.cells #[.int .i64 3, .int .i64 width, .slice aom many.length capm, .string text] 35)) wr ∧ Fresh (w.alloc (.cells #[.int .i64 3, .int .i64 width, .slice aom many.length capm, .string text] 35)) none r1)
    (fun _ i _ => many.length - (intOf i).toNat)
  case atStart => exact ⟨0, [], none, none, 0, by omega, rfl, rfl, Row.nil _ _ _, hid (by simp), Chg.refl _ _, Fresh.refl _ _⟩
  case round =>
    obtain ⟨k, l1, r1, ao1, cap1, hk, rfl, rfl, hr1, HL, hch, hfr⟩ := hrel
    have hlen : l1.length ≤ 167772160 := by
      have := flat_len_le 10 (many.take k) (fun m => shortB (zig (cv_i64 m))) (fun m _ => shortB_len10 (zig_U64 (cv_i64_I64 m)))
      rw [HL.out]; rw [List.length_take] at this; omega
    have y0 : wr.cell? ⟨w.heap.size, 0, none⟩ = some (.int .i64 3) := hch.cell (by simp) (by simp)
    have y1 : wr.cell? ⟨w.heap.size, 1, none⟩ = some (.int .i64 width) := hch.cell (by simp) (by simp)
    have y2 : wr.cell? ⟨w.heap.size, 2, none⟩ = some (.slice aom many.length capm) := hch.cell (by simp) (by simp)
    by_cases hlt : k < many.length
    · obtain ⟨bm, off, rfl, hc⟩ := hcells (by omega)
      have hc0 := (hc k (by omega)).trans (show some ((many.map cU).getD k undef) = some (.int .u64 ((many[k] : Nat) : Int)) by simp [List.getD, hlt, cU])
      have hbm : bm < w.heap.size := World.block_lt_of_cell? w _ hc0
      have y3 : wr.cell? ⟨bm, off + k, none⟩ = some (.int .u64 ((many[k] : Nat) : Int)) := hch.cell (((Chg.refl [] w).alloc _).cell hc0 (by simp)) (by simp)
      have hmk := hm _ (List.getElem_mem hlt)
      have HSN := hid (take_snoc many k hlt)
      clear hc hcells hc0
      have hcv := cv_i64_eq many[k]
      go_wp2_with (first
        | (go_at_call 49; refine (ref_signed_calls (cv_i64 many[k]) (cv_i64_I64 _) _).mono ?_; rintro e wA ⟨l2, ao2, cap2, rA, rfl, hrowA, hfrA, hchA, HL2⟩; have hrw := hr1.keep hchA (by simp); have hl2 : l2.length ≤ 10 := (by rw [HL2.out]; exact shortB_len10 (zig_U64 (cv_i64_I64 _))))
        | (at_builtin; refine wpList_app rfl _ _ 25 rfl elem_u8 rfl (hrw) rfl (hrowA.view) (B_one _) (by unfold maxLen; omega) (by omega) (fun ao' cap' r' w2 hr2 hc2 hf2 hnil2 => halt (fun X hX => ?_))))
      rw [hX.out]; clear hX
      clear hnil2
      go_wp2
      go_roundw
      case rel => exact ⟨k + 1, l1 ++ l2, r', ao', cap', by omega, by go_num, by rw [List.length_append], (by rw [List.map_append, List.length_append]; exact hr2), hid (by rw [HL.out, HL2.out, HSN.out, List.flatMap_append]; simp), own_step hch hfr hchA hc2, fresh_step hch hfr hchA hf2⟩
      case measure => simp [intOf]; omega
    · go_wp2
      go_ret
      exact NewB.mk' hr1 (by rw [HL.out, List.take_of_length_le (by omega)]) ((Fresh.refl w none).trans hca.size hfr) (hca.trans' hch)

set_option maxHeartbeats 2000000 in
set_option maxRecDepth 100000 in
theorem laid_1 : Calls Try.prog 13 #[.agg #[.int .i64 1, .int .i64 width, v, .string text]] w (NewB 5 w (many.flatMap (fixedB (sizeI width)))) := by
  obtain ⟨_, _, aom, capm, rfl, _, _, _, hcells⟩ := hv
  have hca := (Chg.refl [] w).alloc (.cells #[.int .i64 1, .int .i64 width, .slice aom many.length capm, .string text] 35)
  go_enter Try.func13, Try.ntmps13
  go_wp2_with fail
  go_loopw [3, 4] (fun x i wr => ∃ k l1 r1 ao1 cap1, k ≤ many.length ∧ i = .int .i64 (k : Nat) ∧ x = .slice ao1 l1.length cap1 ∧ Row wr 5 1 (.slice ao1 l1.length cap1) r1 l1.length (l1.map B) ∧ Hid (l1 = (many.take k).flatMap (fixedB (sizeI width))) ∧ Chg [] (w.alloc (.cells #[.int .i64 1, .int .i64 width, .slice aom many.length capm, .string text] 35)) wr ∧ Fresh (w.alloc (.cells #[.int .i64 1, .int .i64 width, .slice aom many.length capm, .string text] 35)) none r1)
    (fun _ i _ => many.length - (intOf i).toNat)
  case atStart => exact ⟨0, [], none, none, 0, by omega, rfl, rfl, Row.nil _ _ _, hid (by simp), Chg.refl _ _, Fresh.refl _ _⟩
  case round =>
    obtain ⟨k, l1, r1, ao1, cap1, hk, rfl, rfl, hr1, HL, hch, hfr⟩ := hrel
    have hlen : l1.length ≤ 167772160 := by
      have := flat_len_le 10 (many.take k) (fixedB (sizeI width)) (fun m _ => fixedI_len _ m)
      rw [HL.out]; rw [List.length_take] at this; omega
    have y0 : wr.cell? ⟨w.heap.size, 0, none⟩ = some (.int .i64 1) := hch.cell (by simp) (by simp)
    have y1 : wr.cell? ⟨w.heap.size, 1, none⟩ = some (.int .i64 width) := hch.cell (by simp) (by simp)
    have y2 : wr.cell? ⟨w.heap.size, 2, none⟩ = some (.slice aom many.length capm) := hch.cell (by simp) (by simp)
    by_cases hlt : k < many.length
    · obtain ⟨bm, off, rfl, hc⟩ := hcells (by omega)
      have hc0 := (hc k (by omega)).trans (show some ((many.map cU).getD k undef) = some (.int .u64 ((many[k] : Nat) : Int)) by simp [List.getD, hlt, cU])
      have hbm : bm < w.heap.size := World.block_lt_of_cell? w _ hc0
      have y3 : wr.cell? ⟨bm, off + k, none⟩ = some (.int .u64 ((many[k] : Nat) : Int)) := hch.cell (((Chg.refl [] w).alloc _).cell hc0 (by simp)) (by simp)
      have hmk := hm _ (List.getElem_mem hlt)
      have HSN := hid (take_snoc many k hlt)
      clear hc hcells hc0
      have z1 : (0 : Int) ≤ (k : Int) := by omega
      have z2 : (k : Int) < (many.length : Int) := by omega
      go_wp2_with fail
      go_region_law (first
        | (refine step_app rfl _ _ 25 rfl elem_u8 rfl hrw rfl hrowA.view (B_one _) (by unfold maxLen; omega) (by omega) (fun ao' cap' r' w2 hr2 hc2 hf2 => ?_))
        | (go_simp; go_at_call 47; refine (size_all width _).mono ?_; rintro e wS ⟨rfl, hcS⟩; have s1 := hcS.cell y1 (by simp); have s2 := hcS.cell y2 (by simp); have s3 := hcS.cell y3 (by simp))
        | (go_simp; go_at_call 46; refine (ref_fixed_calls many[k] hmk (sizeI width) (sizeI_le8 _) _).mono ?_; rintro e wA ⟨l2, ao2, cap2, rA, rfl, hrowA, hfrA, hchA0, HL2⟩; have hchA := ((Chg.of_drewN [] wr 1).trans' hcS).trans' hchA0; have hrw := hr1.keep hchA (by simp); have hl2 : l2.length ≤ 10 := (by rw [HL2.out]; exact fixedI_len _ _)))
      all_goals
        go_wp2
        go_roundw
        case rel => exact ⟨k + 1, l1 ++ l2, r', ao', cap', by omega, by go_num, by rw [List.length_append], (by rw [List.map_append, List.length_append]; exact hr2), hid (by rw [HL.out, HL2.out, HSN.out, List.flatMap_append]; simp), own_step hch hfr hchA hc2, fresh_step hch hfr hchA hf2⟩
        case measure => simp [intOf]; omega
    · go_wp2
      go_ret
      exact NewB.mk' hr1 (by rw [HL.out, List.take_of_length_le (by omega)]) ((Fresh.refl w none).trans hca.size hfr) (hca.trans' hch)

set_option maxHeartbeats 2000000 in
set_option maxRecDepth 100000 in
theorem laid_4 : Calls Try.prog 13 #[.agg #[.int .i64 4, .int .i64 width, v, .string text]] w (NewB 5 w ([if 0 < many.length then 1 else 0])) := by
  obtain ⟨_, _, aom, capm, rfl, _, _, _, hcells⟩ := hv
  have hca := (Chg.refl [] w).alloc (.cells #[.int .i64 4, .int .i64 width, .slice aom many.length capm, .string text] 35)
  obtain ⟨bb, hbb⟩ : ∃ bb : List UInt8, [if 0 < many.length then 1 else 0] = bb := ⟨_, rfl⟩
  rw [hbb]
  have HBB := hid hbb
  clear hbb
  go_enter Try.func13, Try.ntmps13
  go_wp2_with fail
  go_loopw [3, 4] (fun x i wr => ∃ (k : Nat) (s : Value), k ≤ many.length ∧ i = .int .i64 (k : Nat) ∧ x = s ∧ s = .slice none 0 0 ∧ Chg [] (w.alloc (.cells #[.int .i64 4, .int .i64 width, .slice aom many.length capm, .string text] 35)) wr)
    (fun _ i _ => many.length - (intOf i).toNat)
  case atStart => exact ⟨0, _, by omega, rfl, rfl, rfl, Chg.refl _ _⟩
  case round =>
    obtain ⟨k, s, hk, rfl, rfl, rfl, hch⟩ := hrel
    have y0 : wr.cell? ⟨w.heap.size, 0, none⟩ = some (.int .i64 4) := hch.cell (by simp) (by simp)
    have y1 : wr.cell? ⟨w.heap.size, 1, none⟩ = some (.int .i64 width) := hch.cell (by simp) (by simp)
    have y2 : wr.cell? ⟨w.heap.size, 2, none⟩ = some (.slice aom many.length capm) := hch.cell (by simp) (by simp)
    have y3 : wr.cell? ⟨w.heap.size, 3, none⟩ = some (.string text) := hch.cell (by simp) (by simp)
    by_cases hlt : k < many.length
    · go_wp2
      go_roundw
      case rel => exact ⟨k + 1, _, by omega, by go_num, rfl, rfl, hch⟩
      case measure => simp [intOf]; omega
    · have hc0 := hca.trans' hch
      go_wp2_with (go_at_call 50; refine (ref_flag_calls (decide (0 < many.length)) _).mono ?_; rintro e wA ⟨l2, ao2, cap2, rA, rfl, hrowA, hfrA, hchA, HL2⟩)
      go_ret
      exact NewB.mk' hrowA (by rw [HL2.out, ← HBB.out]; simp) ((Fresh.refl w none).trans hc0.size hfrA) (hc0.trans' hchA)
set_option maxHeartbeats 2000000 in
set_option maxRecDepth 100000 in
theorem laid_5 (ht : text.size ≤ 1073741824) : Calls Try.prog 13 #[.agg #[.int .i64 5, .int .i64 width, v, .string text]] w (NewB 5 w (shortB text.size ++ text.data.toList)) := by
  obtain ⟨_, _, aom, capm, rfl, _, _, _, hcells⟩ := hv
  have hca := (Chg.refl [] w).alloc (.cells #[.int .i64 5, .int .i64 width, .slice aom many.length capm, .string text] 35)
  go_enter Try.func13, Try.ntmps13
  go_wp2_with fail
  go_loopw [3, 4] (fun x i wr => ∃ (k : Nat) (s : Value), k ≤ many.length ∧ i = .int .i64 (k : Nat) ∧ x = s ∧ s = .slice none 0 0 ∧ Chg [] (w.alloc (.cells #[.int .i64 5, .int .i64 width, .slice aom many.length capm, .string text] 35)) wr)
    (fun _ i _ => many.length - (intOf i).toNat)
  case atStart => exact ⟨0, _, by omega, rfl, rfl, rfl, Chg.refl _ _⟩
  case round =>
    obtain ⟨k, s, hk, rfl, rfl, rfl, hch⟩ := hrel
    have y0 : wr.cell? ⟨w.heap.size, 0, none⟩ = some (.int .i64 5) := hch.cell (by simp) (by simp)
    have y1 : wr.cell? ⟨w.heap.size, 1, none⟩ = some (.int .i64 width) := hch.cell (by simp) (by simp)
    have y2 : wr.cell? ⟨w.heap.size, 2, none⟩ = some (.slice aom many.length capm) := hch.cell (by simp) (by simp)
    have y3 : wr.cell? ⟨w.heap.size, 3, none⟩ = some (.string text) := hch.cell (by simp) (by simp)
    by_cases hlt : k < many.length
    · go_wp2
      go_roundw
      case rel => exact ⟨k + 1, _, by omega, by go_num, rfl, rfl, hch⟩
      case measure => simp [intOf]; omega
    · have hc0 := hca.trans' hch
      go_wp2_with (go_at_call 51; refine (ref_text_calls text (by omega) _).mono ?_; rintro e wA ⟨l2, ao2, cap2, rA, rfl, hrowA, hfrA, hchA, HL2⟩)
      go_ret
      exact NewB.mk' hrowA (by rw [HL2.out]) ((Fresh.refl w none).trans hc0.size hfrA) (hc0.trans' hchA)
set_option maxHeartbeats 2000000 in
set_option maxRecDepth 100000 in
theorem laid_none {kind : Int} (h1 : kind ≠ 1) (h2 : kind ≠ 2) (h3 : kind ≠ 3) (h4 : kind ≠ 4) (h5 : kind ≠ 5) : Calls Try.prog 13 #[.agg #[.int .i64 kind, .int .i64 width, v, .string text]] w (NewB 5 w ([])) := by
  obtain ⟨_, _, aom, capm, rfl, _, _, _, hcells⟩ := hv
  have hca := (Chg.refl [] w).alloc (.cells #[.int .i64 kind, .int .i64 width, .slice aom many.length capm, .string text] 35)
  go_enter Try.func13, Try.ntmps13
  go_wp2_with fail
  go_loopw [3, 4] (fun x i wr => ∃ (k : Nat) (s : Value), k ≤ many.length ∧ i = .int .i64 (k : Nat) ∧ x = s ∧ s = .slice none 0 0 ∧ Chg [] (w.alloc (.cells #[.int .i64 kind, .int .i64 width, .slice aom many.length capm, .string text] 35)) wr)
    (fun _ i _ => many.length - (intOf i).toNat)
  case atStart => exact ⟨0, _, by omega, rfl, rfl, rfl, Chg.refl _ _⟩
  case round =>
    obtain ⟨k, s, hk, rfl, rfl, rfl, hch⟩ := hrel
    have y0 : wr.cell? ⟨w.heap.size, 0, none⟩ = some (.int .i64 kind) := hch.cell (by simp) (by simp)
    have y1 : wr.cell? ⟨w.heap.size, 1, none⟩ = some (.int .i64 width) := hch.cell (by simp) (by simp)
    have y2 : wr.cell? ⟨w.heap.size, 2, none⟩ = some (.slice aom many.length capm) := hch.cell (by simp) (by simp)
    have y3 : wr.cell? ⟨w.heap.size, 3, none⟩ = some (.string text) := hch.cell (by simp) (by simp)
    by_cases hlt : k < many.length
    · go_wp2
      go_roundw
      case rel => exact ⟨k + 1, _, by omega, by go_num, rfl, rfl, hch⟩
      case measure => simp [intOf]; omega
    · have hc0 := hca.trans' hch
      go_wp2
      go_ret
      exact NewB.mk' (Row.nil _ _ _) rfl (Fresh.refl _ _) hc0
end

theorem laid_calls {w : World} (a : AddD) {v : Value} (hv : View w 1 v a.many.length (a.many.map cU)) (hm : ∀ m ∈ a.many, U64 m) (hn : a.many.length ≤ 16777216) (ht : a.text.size ≤ 1073741824) :
    Calls Try.prog 13 #[addV a v] w (NewB 5 w (laidB a)) := by
  obtain ⟨kind, width, many, text⟩ := a
  unfold addV laidB
  simp only at hv hm hn ht ⊢
  by_cases h1 : kind = 1
  · rw [if_pos h1]; subst h1; exact laid_1 hv hm hn
  rw [if_neg h1]
  by_cases h2 : kind = 2
  · rw [if_pos h2]; subst h2; exact laid_2 hv hm hn
  rw [if_neg h2]
  by_cases h3 : kind = 3
  · rw [if_pos h3]; subst h3; exact laid_3 hv hm hn
  rw [if_neg h3]
  by_cases h4 : kind = 4
  · rw [if_pos h4]; subst h4; exact laid_4 hv hm hn
  rw [if_neg h4]
  by_cases h5 : kind = 5
  · rw [if_pos h5]; subst h5; exact laid_5 hv hm hn ht
  rw [if_neg h5]
  exact laid_none hv hm hn h1 h2 h3 h4 h5
end Go.Proofs.Ytdakcphkaljghaa
