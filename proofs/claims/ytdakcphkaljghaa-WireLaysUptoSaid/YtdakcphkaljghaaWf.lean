/- Walks of the wire layer: the law's helpers that make lists of numbers. -/
import Derived.Test.YtdakcphkaljghaaWe
namespace Go.Proofs.Ytdakcphkaljghaa
open Go.RowKit Go.AB

theorem info_i8 : (Try.prog.info? 112).map (fun i => (i.zero, i.size, i.bytes)) = some (some (.int .i8 0), 1, 1) := by kernel_rfl
theorem elem_i8 : ElemOk Try.prog 122 112 1 1 := .of Try.underlying122 info_i8 rfl (by decide)
theorem info_i16 : (Try.prog.info? 116).map (fun i => (i.zero, i.size, i.bytes)) = some (some (.int .i16 0), 1, 2) := by kernel_rfl
theorem elem_i16 : ElemOk Try.prog 124 116 1 2 := .of Try.underlying124 info_i16 rfl (by decide)
theorem info_i32 : (Try.prog.info? 21).map (fun i => (i.zero, i.size, i.bytes)) = some (some (.int .i32 0), 1, 4) := by kernel_rfl
theorem elem_i32 : ElemOk Try.prog 126 21 1 4 := .of Try.underlying126 info_i32 rfl (by decide)
theorem info_i64 : (Try.prog.info? 2).map (fun i => (i.zero, i.size, i.bytes)) = some (some (.int .i64 0), 1, 8) := by kernel_rfl
theorem elem_i64 : ElemOk Try.prog 128 2 1 8 := .of Try.underlying128 info_i64 rfl (by decide)
theorem info_u16 : (Try.prog.info? 114).map (fun i => (i.zero, i.size, i.bytes)) = some (some (.int .u16 0), 1, 2) := by kernel_rfl
theorem elem_u16 : ElemOk Try.prog 130 114 1 2 := .of Try.underlying130 info_u16 rfl (by decide)
theorem info_u32 : (Try.prog.info? 43).map (fun i => (i.zero, i.size, i.bytes)) = some (some (.int .u32 0), 1, 4) := by kernel_rfl
theorem elem_u32 : ElemOk Try.prog 132 43 1 4 := .of Try.underlying132 info_u32 rfl (by decide)
theorem info_int : (Try.prog.info? 3).map (fun i => (i.zero, i.size, i.bytes)) = some (some (.int .i64 0), 1, 8) := by kernel_rfl
theorem elem_int : ElemOk Try.prog 87 3 1 8 := .of Try.underlying87 info_int rfl (by decide)

def cU (m : Nat) : Value := .int .u64 (m : Int)

def cv_i8 (m : Nat) : Int := IntKind.i8.wrap (m : Int)
theorem cv_i8_eq (m : Nat) : IntKind.i8.wrap (m : Int) = cv_i8 m := rfl

set_option maxHeartbeats 1000000 in
set_option maxRecDepth 100000 in
theorem lawput_i8 (p : Value) (xs : List Nat) (v : Value) (w : World) (R : World → Prop) (hv : View w 1 v xs.length (xs.map cU)) (hn : xs.length ≤ 34359738000)
    (hR : ∀ W u, Chg [] w W → View W 1 u xs.length (xs.map (fun m : Nat => Value.int .i8 (cv_i8 m))) → (∀ g, u.ownBlock = some g → w.heap.size ≤ g) → Calls Try.prog 77 #[p, u] W fun e w' => e = .returned (.tuple #[]) ∧ R w') :
    Calls Try.prog 35 #[p, .int .i64 0, v] w fun e w' => e = .returned (.tuple #[]) ∧ R w'  := by
  obtain ⟨_, _, ao, cap, rfl, _, _, _, hcells⟩ := hv
  go_enter Try.func35, Try.ntmps35
  go_wp2_with fail
  go_loopw [6, 7] (fun x i wr => ∃ k r1 ao1 cap1, k ≤ xs.length ∧ i = .int .i64 (k : Nat) ∧ x = .slice ao1 k cap1 ∧ Row wr 112 1 (.slice ao1 k cap1) r1 k ((xs.take k).map (fun m : Nat => Value.int .i8 (cv_i8 m))) ∧ Chg [] w wr ∧ Fresh w none r1)
    (fun _ i _ => xs.length - (intOf i).toNat)
  case atStart => exact ⟨0, none, none, 0, by omega, rfl, rfl, Row.nil _ _ _, Chg.refl _ _, Fresh.refl _ _⟩
  case round =>
    obtain ⟨k, r1, ao1, cap1, hk, rfl, rfl, hr1, hch, hfr⟩ := hrel
    have hrow := fun o => hr1.keep ((Chg.refl [] wr).alloc o) (by simp)
    have hca := fun o => (Chg.refl [] wr).alloc o
    by_cases hlt : k < xs.length
    · obtain ⟨bb, off, rfl, hc⟩ := hcells (by omega)
      have hck : wr.cell? ⟨bb, off + k, none⟩ = some (.int .u64 ((xs[k] : Nat) : Int)) := hch.cell ((hc k (by omega)).trans (by simp [List.getD, hlt, cU])) (by simp)
      have hsn : (xs.take (k + 1)).map (fun m : Nat => Value.int .i8 (cv_i8 m)) = (xs.take k).map (fun m : Nat => Value.int .i8 (cv_i8 m)) ++ [(fun m : Nat => Value.int .i8 (cv_i8 m)) xs[k]] := by rw [take_snoc xs k hlt, List.map_append]; rfl
      have HS := hid hsn
      have hcv := cv_i8_eq xs[k]
      have hlk : k + 1 ≤ 34359738368 := by omega
      clear hc hcells hsn
      go_wp2_with (at_builtin; refine wpList_app rfl _ _ 122 rfl elem_i8 rfl (hrow _) rfl (View.one _ _ _) (by simp [Value.oneCell']) (by unfold maxLen; omega) (by omega) (fun ao' cap' r' w2 hr2 hc2 hf2 _ => halt (fun X hX => ?_)))
      rw [hX.out]; clear hX
      go_wp2
      go_roundw
      case rel => exact ⟨k + 1, r', ao', cap', by omega, by go_num, rfl, (by rw [HS.out]; exact hr2), own_step hch hfr (hca _) hc2, fresh_step hch hfr (hca _) hf2⟩
      case measure => simp [intOf]; omega
    · have he : xs.take k = xs := List.take_of_length_le (by omega)
      have hkn : k = xs.length := by omega
      rw [he] at hr1
      subst hkn
      clear hcells he hrow hca
      have hRR := hR wr _ hch hr1.view (fun g hg => (hfr g (hr1.blk.symm.trans hg)).resolve_left (by simp))
      clear hR
      go_wp2_with (go_at_call 77; refine hRR.mono ?_; rintro e w' ⟨rfl, hRw⟩)
      go_end0
      exact ⟨rfl, hRw⟩

def cv_i16 (m : Nat) : Int := IntKind.i16.wrap (m : Int)
theorem cv_i16_eq (m : Nat) : IntKind.i16.wrap (m : Int) = cv_i16 m := rfl

set_option maxHeartbeats 1000000 in
set_option maxRecDepth 100000 in
theorem lawput_i16 (p : Value) (xs : List Nat) (v : Value) (w : World) (R : World → Prop) (hv : View w 1 v xs.length (xs.map cU)) (hn : xs.length ≤ 34359738000)
    (hR : ∀ W u, Chg [] w W → View W 1 u xs.length (xs.map (fun m : Nat => Value.int .i16 (cv_i16 m))) → (∀ g, u.ownBlock = some g → w.heap.size ≤ g) → Calls Try.prog 78 #[p, u] W fun e w' => e = .returned (.tuple #[]) ∧ R w') :
    Calls Try.prog 35 #[p, .int .i64 1, v] w fun e w' => e = .returned (.tuple #[]) ∧ R w'  := by
  obtain ⟨_, _, ao, cap, rfl, _, _, _, hcells⟩ := hv
  go_enter Try.func35, Try.ntmps35
  go_wp2_with fail
  go_loopw [8, 9] (fun x i wr => ∃ k r1 ao1 cap1, k ≤ xs.length ∧ i = .int .i64 (k : Nat) ∧ x = .slice ao1 k cap1 ∧ Row wr 116 1 (.slice ao1 k cap1) r1 k ((xs.take k).map (fun m : Nat => Value.int .i16 (cv_i16 m))) ∧ Chg [] w wr ∧ Fresh w none r1)
    (fun _ i _ => xs.length - (intOf i).toNat)
  case atStart => exact ⟨0, none, none, 0, by omega, rfl, rfl, Row.nil _ _ _, Chg.refl _ _, Fresh.refl _ _⟩
  case round =>
    obtain ⟨k, r1, ao1, cap1, hk, rfl, rfl, hr1, hch, hfr⟩ := hrel
    have hrow := fun o => hr1.keep ((Chg.refl [] wr).alloc o) (by simp)
    have hca := fun o => (Chg.refl [] wr).alloc o
    by_cases hlt : k < xs.length
    · obtain ⟨bb, off, rfl, hc⟩ := hcells (by omega)
      have hck : wr.cell? ⟨bb, off + k, none⟩ = some (.int .u64 ((xs[k] : Nat) : Int)) := hch.cell ((hc k (by omega)).trans (by simp [List.getD, hlt, cU])) (by simp)
      have hsn : (xs.take (k + 1)).map (fun m : Nat => Value.int .i16 (cv_i16 m)) = (xs.take k).map (fun m : Nat => Value.int .i16 (cv_i16 m)) ++ [(fun m : Nat => Value.int .i16 (cv_i16 m)) xs[k]] := by rw [take_snoc xs k hlt, List.map_append]; rfl
      have HS := hid hsn
      have hcv := cv_i16_eq xs[k]
      have hlk : k + 1 ≤ 34359738368 := by omega
      clear hc hcells hsn
      go_wp2_with (at_builtin; refine wpList_app rfl _ _ 124 rfl elem_i16 rfl (hrow _) rfl (View.one _ _ _) (by simp [Value.oneCell']) (by unfold maxLen; omega) (by omega) (fun ao' cap' r' w2 hr2 hc2 hf2 _ => halt (fun X hX => ?_)))
      rw [hX.out]; clear hX
      go_wp2
      go_roundw
      case rel => exact ⟨k + 1, r', ao', cap', by omega, by go_num, rfl, (by rw [HS.out]; exact hr2), own_step hch hfr (hca _) hc2, fresh_step hch hfr (hca _) hf2⟩
      case measure => simp [intOf]; omega
    · have he : xs.take k = xs := List.take_of_length_le (by omega)
      have hkn : k = xs.length := by omega
      rw [he] at hr1
      subst hkn
      clear hcells he hrow hca
      have hRR := hR wr _ hch hr1.view (fun g hg => (hfr g (hr1.blk.symm.trans hg)).resolve_left (by simp))
      clear hR
      go_wp2_with (go_at_call 78; refine hRR.mono ?_; rintro e w' ⟨rfl, hRw⟩)
      go_end0
      exact ⟨rfl, hRw⟩

def cv_i32 (m : Nat) : Int := wrap32 (m : Int)
theorem cv_i32_eq (m : Nat) : wrap32 (m : Int) = cv_i32 m := rfl

set_option maxHeartbeats 1000000 in
set_option maxRecDepth 100000 in
theorem lawput_i32 (p : Value) (xs : List Nat) (v : Value) (w : World) (R : World → Prop) (hv : View w 1 v xs.length (xs.map cU)) (hn : xs.length ≤ 34359738000)
    (hR : ∀ W u, Chg [] w W → View W 1 u xs.length (xs.map (fun m : Nat => Value.int .i32 (cv_i32 m))) → (∀ g, u.ownBlock = some g → w.heap.size ≤ g) → Calls Try.prog 79 #[p, u] W fun e w' => e = .returned (.tuple #[]) ∧ R w') :
    Calls Try.prog 35 #[p, .int .i64 2, v] w fun e w' => e = .returned (.tuple #[]) ∧ R w'  := by
  obtain ⟨_, _, ao, cap, rfl, _, _, _, hcells⟩ := hv
  go_enter Try.func35, Try.ntmps35
  go_wp2_with fail
  go_loopw [10, 11] (fun x i wr => ∃ k r1 ao1 cap1, k ≤ xs.length ∧ i = .int .i64 (k : Nat) ∧ x = .slice ao1 k cap1 ∧ Row wr 21 1 (.slice ao1 k cap1) r1 k ((xs.take k).map (fun m : Nat => Value.int .i32 (cv_i32 m))) ∧ Chg [] w wr ∧ Fresh w none r1)
    (fun _ i _ => xs.length - (intOf i).toNat)
  case atStart => exact ⟨0, none, none, 0, by omega, rfl, rfl, Row.nil _ _ _, Chg.refl _ _, Fresh.refl _ _⟩
  case round =>
    obtain ⟨k, r1, ao1, cap1, hk, rfl, rfl, hr1, hch, hfr⟩ := hrel
    have hrow := fun o => hr1.keep ((Chg.refl [] wr).alloc o) (by simp)
    have hca := fun o => (Chg.refl [] wr).alloc o
    by_cases hlt : k < xs.length
    · obtain ⟨bb, off, rfl, hc⟩ := hcells (by omega)
      have hck : wr.cell? ⟨bb, off + k, none⟩ = some (.int .u64 ((xs[k] : Nat) : Int)) := hch.cell ((hc k (by omega)).trans (by simp [List.getD, hlt, cU])) (by simp)
      have hsn : (xs.take (k + 1)).map (fun m : Nat => Value.int .i32 (cv_i32 m)) = (xs.take k).map (fun m : Nat => Value.int .i32 (cv_i32 m)) ++ [(fun m : Nat => Value.int .i32 (cv_i32 m)) xs[k]] := by rw [take_snoc xs k hlt, List.map_append]; rfl
      have HS := hid hsn
      have hcv := cv_i32_eq xs[k]
      have hlk : k + 1 ≤ 34359738368 := by omega
      clear hc hcells hsn
      go_wp2_with (at_builtin; refine wpList_app rfl _ _ 126 rfl elem_i32 rfl (hrow _) rfl (View.one _ _ _) (by simp [Value.oneCell']) (by unfold maxLen; omega) (by omega) (fun ao' cap' r' w2 hr2 hc2 hf2 _ => halt (fun X hX => ?_)))
      rw [hX.out]; clear hX
      go_wp2
      go_roundw
      case rel => exact ⟨k + 1, r', ao', cap', by omega, by go_num, rfl, (by rw [HS.out]; exact hr2), own_step hch hfr (hca _) hc2, fresh_step hch hfr (hca _) hf2⟩
      case measure => simp [intOf]; omega
    · have he : xs.take k = xs := List.take_of_length_le (by omega)
      have hkn : k = xs.length := by omega
      rw [he] at hr1
      subst hkn
      clear hcells he hrow hca
      have hRR := hR wr _ hch hr1.view (fun g hg => (hfr g (hr1.blk.symm.trans hg)).resolve_left (by simp))
      clear hR
      go_wp2_with (go_at_call 79; refine hRR.mono ?_; rintro e w' ⟨rfl, hRw⟩)
      go_end0
      exact ⟨rfl, hRw⟩

def cv_i64 (m : Nat) : Int := wrap64 (m : Int)
theorem cv_i64_eq (m : Nat) : wrap64 (m : Int) = cv_i64 m := rfl

set_option maxHeartbeats 1000000 in
set_option maxRecDepth 100000 in
theorem lawput_i64 (p : Value) (xs : List Nat) (v : Value) (w : World) (R : World → Prop) (hv : View w 1 v xs.length (xs.map cU)) (hn : xs.length ≤ 34359738000)
    (hR : ∀ W u, Chg [] w W → View W 1 u xs.length (xs.map (fun m : Nat => Value.int .i64 (cv_i64 m))) → (∀ g, u.ownBlock = some g → w.heap.size ≤ g) → Calls Try.prog 80 #[p, u] W fun e w' => e = .returned (.tuple #[]) ∧ R w') :
    Calls Try.prog 35 #[p, .int .i64 3, v] w fun e w' => e = .returned (.tuple #[]) ∧ R w'  := by
  obtain ⟨_, _, ao, cap, rfl, _, _, _, hcells⟩ := hv
  go_enter Try.func35, Try.ntmps35
  go_wp2_with fail
  go_loopw [12, 13] (fun x i wr => ∃ k r1 ao1 cap1, k ≤ xs.length ∧ i = .int .i64 (k : Nat) ∧ x = .slice ao1 k cap1 ∧ Row wr 2 1 (.slice ao1 k cap1) r1 k ((xs.take k).map (fun m : Nat => Value.int .i64 (cv_i64 m))) ∧ Chg [] w wr ∧ Fresh w none r1)
    (fun _ i _ => xs.length - (intOf i).toNat)
  case atStart => exact ⟨0, none, none, 0, by omega, rfl, rfl, Row.nil _ _ _, Chg.refl _ _, Fresh.refl _ _⟩
  case round =>
    obtain ⟨k, r1, ao1, cap1, hk, rfl, rfl, hr1, hch, hfr⟩ := hrel
    have hrow := fun o => hr1.keep ((Chg.refl [] wr).alloc o) (by simp)
    have hca := fun o => (Chg.refl [] wr).alloc o
    by_cases hlt : k < xs.length
    · obtain ⟨bb, off, rfl, hc⟩ := hcells (by omega)
      have hck : wr.cell? ⟨bb, off + k, none⟩ = some (.int .u64 ((xs[k] : Nat) : Int)) := hch.cell ((hc k (by omega)).trans (by simp [List.getD, hlt, cU])) (by simp)
      have hsn : (xs.take (k + 1)).map (fun m : Nat => Value.int .i64 (cv_i64 m)) = (xs.take k).map (fun m : Nat => Value.int .i64 (cv_i64 m)) ++ [(fun m : Nat => Value.int .i64 (cv_i64 m)) xs[k]] := by rw [take_snoc xs k hlt, List.map_append]; rfl
      have HS := hid hsn
      have hcv := cv_i64_eq xs[k]
      have hlk : k + 1 ≤ 34359738368 := by omega
      clear hc hcells hsn
      go_wp2_with (at_builtin; refine wpList_app rfl _ _ 128 rfl elem_i64 rfl (hrow _) rfl (View.one _ _ _) (by simp [Value.oneCell']) (by unfold maxLen; omega) (by omega) (fun ao' cap' r' w2 hr2 hc2 hf2 _ => halt (fun X hX => ?_)))
      rw [hX.out]; clear hX
      go_wp2
      go_roundw
      case rel => exact ⟨k + 1, r', ao', cap', by omega, by go_num, rfl, (by rw [HS.out]; exact hr2), own_step hch hfr (hca _) hc2, fresh_step hch hfr (hca _) hf2⟩
      case measure => simp [intOf]; omega
    · have he : xs.take k = xs := List.take_of_length_le (by omega)
      have hkn : k = xs.length := by omega
      rw [he] at hr1
      subst hkn
      clear hcells he hrow hca
      have hRR := hR wr _ hch hr1.view (fun g hg => (hfr g (hr1.blk.symm.trans hg)).resolve_left (by simp))
      clear hR
      go_wp2_with (go_at_call 80; refine hRR.mono ?_; rintro e w' ⟨rfl, hRw⟩)
      go_end0
      exact ⟨rfl, hRw⟩

def cv_u8 (m : Nat) : Int := (m : Int) % 256
theorem cv_u8_eq (m : Nat) : (m : Int) % 256 = cv_u8 m := rfl

set_option maxHeartbeats 1000000 in
set_option maxRecDepth 100000 in
theorem lawput_u8 (p : Value) (xs : List Nat) (v : Value) (w : World) (R : World → Prop) (hv : View w 1 v xs.length (xs.map cU)) (hn : xs.length ≤ 34359738000)
    (hR : ∀ W u, Chg [] w W → View W 1 u xs.length (xs.map (fun m : Nat => Value.int .u8 (cv_u8 m))) → (∀ g, u.ownBlock = some g → w.heap.size ≤ g) → Calls Try.prog 55 #[p, u] W fun e w' => e = .returned (.tuple #[]) ∧ R w') :
    Calls Try.prog 35 #[p, .int .i64 4, v] w fun e w' => e = .returned (.tuple #[]) ∧ R w'  := by
  obtain ⟨_, _, ao, cap, rfl, _, _, _, hcells⟩ := hv
  go_enter Try.func35, Try.ntmps35
  go_wp2_with fail
  go_loopw [14, 15] (fun x i wr => ∃ k r1 ao1 cap1, k ≤ xs.length ∧ i = .int .i64 (k : Nat) ∧ x = .slice ao1 k cap1 ∧ Row wr 5 1 (.slice ao1 k cap1) r1 k ((xs.take k).map (fun m : Nat => Value.int .u8 (cv_u8 m))) ∧ Chg [] w wr ∧ Fresh w none r1)
    (fun _ i _ => xs.length - (intOf i).toNat)
  case atStart => exact ⟨0, none, none, 0, by omega, rfl, rfl, Row.nil _ _ _, Chg.refl _ _, Fresh.refl _ _⟩
  case round =>
    obtain ⟨k, r1, ao1, cap1, hk, rfl, rfl, hr1, hch, hfr⟩ := hrel
    have hrow := fun o => hr1.keep ((Chg.refl [] wr).alloc o) (by simp)
    have hca := fun o => (Chg.refl [] wr).alloc o
    by_cases hlt : k < xs.length
    · obtain ⟨bb, off, rfl, hc⟩ := hcells (by omega)
      have hck : wr.cell? ⟨bb, off + k, none⟩ = some (.int .u64 ((xs[k] : Nat) : Int)) := hch.cell ((hc k (by omega)).trans (by simp [List.getD, hlt, cU])) (by simp)
      have hsn : (xs.take (k + 1)).map (fun m : Nat => Value.int .u8 (cv_u8 m)) = (xs.take k).map (fun m : Nat => Value.int .u8 (cv_u8 m)) ++ [(fun m : Nat => Value.int .u8 (cv_u8 m)) xs[k]] := by rw [take_snoc xs k hlt, List.map_append]; rfl
      have HS := hid hsn
      have hcv := cv_u8_eq xs[k]
      have hlk : k + 1 ≤ 34359738368 := by omega
      clear hc hcells hsn
      go_wp2_with (at_builtin; refine wpList_app rfl _ _ 25 rfl elem_u8 rfl (hrow _) rfl (View.one _ _ _) (by simp [Value.oneCell']) (by unfold maxLen; omega) (by omega) (fun ao' cap' r' w2 hr2 hc2 hf2 _ => halt (fun X hX => ?_)))
      rw [hX.out]; clear hX
      go_wp2
      go_roundw
      case rel => exact ⟨k + 1, r', ao', cap', by omega, by go_num, rfl, (by rw [HS.out]; exact hr2), own_step hch hfr (hca _) hc2, fresh_step hch hfr (hca _) hf2⟩
      case measure => simp [intOf]; omega
    · have he : xs.take k = xs := List.take_of_length_le (by omega)
      have hkn : k = xs.length := by omega
      rw [he] at hr1
      subst hkn
      clear hcells he hrow hca
      have hRR := hR wr _ hch hr1.view (fun g hg => (hfr g (hr1.blk.symm.trans hg)).resolve_left (by simp))
      clear hR
      go_wp2_with (go_at_call 55; refine hRR.mono ?_; rintro e w' ⟨rfl, hRw⟩)
      go_end0
      exact ⟨rfl, hRw⟩

def cv_u16 (m : Nat) : Int := IntKind.u16.wrap (m : Int)
theorem cv_u16_eq (m : Nat) : IntKind.u16.wrap (m : Int) = cv_u16 m := rfl

set_option maxHeartbeats 1000000 in
set_option maxRecDepth 100000 in
theorem lawput_u16 (p : Value) (xs : List Nat) (v : Value) (w : World) (R : World → Prop) (hv : View w 1 v xs.length (xs.map cU)) (hn : xs.length ≤ 34359738000)
    (hR : ∀ W u, Chg [] w W → View W 1 u xs.length (xs.map (fun m : Nat => Value.int .u16 (cv_u16 m))) → (∀ g, u.ownBlock = some g → w.heap.size ≤ g) → Calls Try.prog 81 #[p, u] W fun e w' => e = .returned (.tuple #[]) ∧ R w') :
    Calls Try.prog 35 #[p, .int .i64 5, v] w fun e w' => e = .returned (.tuple #[]) ∧ R w'  := by
  obtain ⟨_, _, ao, cap, rfl, _, _, _, hcells⟩ := hv
  go_enter Try.func35, Try.ntmps35
  go_wp2_with fail
  go_loopw [16, 17] (fun x i wr => ∃ k r1 ao1 cap1, k ≤ xs.length ∧ i = .int .i64 (k : Nat) ∧ x = .slice ao1 k cap1 ∧ Row wr 114 1 (.slice ao1 k cap1) r1 k ((xs.take k).map (fun m : Nat => Value.int .u16 (cv_u16 m))) ∧ Chg [] w wr ∧ Fresh w none r1)
    (fun _ i _ => xs.length - (intOf i).toNat)
  case atStart => exact ⟨0, none, none, 0, by omega, rfl, rfl, Row.nil _ _ _, Chg.refl _ _, Fresh.refl _ _⟩
  case round =>
    obtain ⟨k, r1, ao1, cap1, hk, rfl, rfl, hr1, hch, hfr⟩ := hrel
    have hrow := fun o => hr1.keep ((Chg.refl [] wr).alloc o) (by simp)
    have hca := fun o => (Chg.refl [] wr).alloc o
    by_cases hlt : k < xs.length
    · obtain ⟨bb, off, rfl, hc⟩ := hcells (by omega)
      have hck : wr.cell? ⟨bb, off + k, none⟩ = some (.int .u64 ((xs[k] : Nat) : Int)) := hch.cell ((hc k (by omega)).trans (by simp [List.getD, hlt, cU])) (by simp)
      have hsn : (xs.take (k + 1)).map (fun m : Nat => Value.int .u16 (cv_u16 m)) = (xs.take k).map (fun m : Nat => Value.int .u16 (cv_u16 m)) ++ [(fun m : Nat => Value.int .u16 (cv_u16 m)) xs[k]] := by rw [take_snoc xs k hlt, List.map_append]; rfl
      have HS := hid hsn
      have hcv := cv_u16_eq xs[k]
      have hlk : k + 1 ≤ 34359738368 := by omega
      clear hc hcells hsn
      go_wp2_with (at_builtin; refine wpList_app rfl _ _ 130 rfl elem_u16 rfl (hrow _) rfl (View.one _ _ _) (by simp [Value.oneCell']) (by unfold maxLen; omega) (by omega) (fun ao' cap' r' w2 hr2 hc2 hf2 _ => halt (fun X hX => ?_)))
      rw [hX.out]; clear hX
      go_wp2
      go_roundw
      case rel => exact ⟨k + 1, r', ao', cap', by omega, by go_num, rfl, (by rw [HS.out]; exact hr2), own_step hch hfr (hca _) hc2, fresh_step hch hfr (hca _) hf2⟩
      case measure => simp [intOf]; omega
    · have he : xs.take k = xs := List.take_of_length_le (by omega)
      have hkn : k = xs.length := by omega
      rw [he] at hr1
      subst hkn
      clear hcells he hrow hca
      have hRR := hR wr _ hch hr1.view (fun g hg => (hfr g (hr1.blk.symm.trans hg)).resolve_left (by simp))
      clear hR
      go_wp2_with (go_at_call 81; refine hRR.mono ?_; rintro e w' ⟨rfl, hRw⟩)
      go_end0
      exact ⟨rfl, hRw⟩

def cv_u32 (m : Nat) : Int := (m : Int) % 4294967296
theorem cv_u32_eq (m : Nat) : (m : Int) % 4294967296 = cv_u32 m := rfl

set_option maxHeartbeats 1000000 in
set_option maxRecDepth 100000 in
theorem lawput_u32 (p : Value) (xs : List Nat) (v : Value) (w : World) (R : World → Prop) (hv : View w 1 v xs.length (xs.map cU)) (hn : xs.length ≤ 34359738000)
    (hR : ∀ W u, Chg [] w W → View W 1 u xs.length (xs.map (fun m : Nat => Value.int .u32 (cv_u32 m))) → (∀ g, u.ownBlock = some g → w.heap.size ≤ g) → Calls Try.prog 56 #[p, u] W fun e w' => e = .returned (.tuple #[]) ∧ R w') :
    Calls Try.prog 35 #[p, .int .i64 6, v] w fun e w' => e = .returned (.tuple #[]) ∧ R w'  := by
  obtain ⟨_, _, ao, cap, rfl, _, _, _, hcells⟩ := hv
  go_enter Try.func35, Try.ntmps35
  go_wp2_with fail
  go_loopw [18, 19] (fun x i wr => ∃ k r1 ao1 cap1, k ≤ xs.length ∧ i = .int .i64 (k : Nat) ∧ x = .slice ao1 k cap1 ∧ Row wr 43 1 (.slice ao1 k cap1) r1 k ((xs.take k).map (fun m : Nat => Value.int .u32 (cv_u32 m))) ∧ Chg [] w wr ∧ Fresh w none r1)
    (fun _ i _ => xs.length - (intOf i).toNat)
  case atStart => exact ⟨0, none, none, 0, by omega, rfl, rfl, Row.nil _ _ _, Chg.refl _ _, Fresh.refl _ _⟩
  case round =>
    obtain ⟨k, r1, ao1, cap1, hk, rfl, rfl, hr1, hch, hfr⟩ := hrel
    have hrow := fun o => hr1.keep ((Chg.refl [] wr).alloc o) (by simp)
    have hca := fun o => (Chg.refl [] wr).alloc o
    by_cases hlt : k < xs.length
    · obtain ⟨bb, off, rfl, hc⟩ := hcells (by omega)
      have hck : wr.cell? ⟨bb, off + k, none⟩ = some (.int .u64 ((xs[k] : Nat) : Int)) := hch.cell ((hc k (by omega)).trans (by simp [List.getD, hlt, cU])) (by simp)
      have hsn : (xs.take (k + 1)).map (fun m : Nat => Value.int .u32 (cv_u32 m)) = (xs.take k).map (fun m : Nat => Value.int .u32 (cv_u32 m)) ++ [(fun m : Nat => Value.int .u32 (cv_u32 m)) xs[k]] := by rw [take_snoc xs k hlt, List.map_append]; rfl
      have HS := hid hsn
      have hcv := cv_u32_eq xs[k]
      have hlk : k + 1 ≤ 34359738368 := by omega
      clear hc hcells hsn
      go_wp2_with (at_builtin; refine wpList_app rfl _ _ 132 rfl elem_u32 rfl (hrow _) rfl (View.one _ _ _) (by simp [Value.oneCell']) (by unfold maxLen; omega) (by omega) (fun ao' cap' r' w2 hr2 hc2 hf2 _ => halt (fun X hX => ?_)))
      rw [hX.out]; clear hX
      go_wp2
      go_roundw
      case rel => exact ⟨k + 1, r', ao', cap', by omega, by go_num, rfl, (by rw [HS.out]; exact hr2), own_step hch hfr (hca _) hc2, fresh_step hch hfr (hca _) hf2⟩
      case measure => simp [intOf]; omega
    · have he : xs.take k = xs := List.take_of_length_le (by omega)
      have hkn : k = xs.length := by omega
      rw [he] at hr1
      subst hkn
      clear hcells he hrow hca
      have hRR := hR wr _ hch hr1.view (fun g hg => (hfr g (hr1.blk.symm.trans hg)).resolve_left (by simp))
      clear hR
      go_wp2_with (go_at_call 56; refine hRR.mono ?_; rintro e w' ⟨rfl, hRw⟩)
      go_end0
      exact ⟨rfl, hRw⟩

set_option maxHeartbeats 400000 in
set_option maxRecDepth 100000 in
theorem lawput_u64 (p : Value) (v : Value) (w : World) (R : World → Prop)
    (hR : Calls Try.prog 82 #[p, v] w fun e w' => e = .returned (.tuple #[]) ∧ R w') :
    Calls Try.prog 35 #[p, .int .i64 7, v] w fun e w' => e = .returned (.tuple #[]) ∧ R w' := by
  go_enter Try.func35, Try.ntmps35
  go_wp2_with (go_at_call 82; refine hR.mono ?_; rintro e w' ⟨rfl, hRw⟩)
  go_end0
  exact ⟨rfl, hRw⟩
set_option maxHeartbeats 400000 in
set_option maxRecDepth 100000 in
theorem lawput_out (p : Value) (v : Value) (k : Int) (hk : k < 0 ∨ 8 ≤ k) (w : World) :
    Calls Try.prog 35 #[p, .int .i64 k, v] w fun e w' => e = .returned (.tuple #[]) ∧ w = w' := by
  rcases hk with hk | hk
  all_goals
    go_enter Try.func35, Try.ntmps35
    go_wp2
    go_end0
    exact ⟨rfl, rfl⟩

set_option maxHeartbeats 1000000 in
set_option maxRecDepth 100000 in
theorem numbers_calls (xs : List Nat) (v : Value) (w : World) (hv : View w 1 v xs.length (xs.map cU)) (hn : xs.length ≤ 34359738000) :
    Calls Try.prog 45 #[v] w fun e w' => ∃ u r, e = .returned u ∧ Row w' 3 1 u r xs.length (xs.map (fun m : Nat => Value.int .i64 (cv_i64 m))) ∧ Chg [] w w' ∧ Fresh w none r := by
  obtain ⟨_, _, ao, cap, rfl, _, _, _, hcells⟩ := hv
  go_enter Try.func45, Try.ntmps45
  go_wp2_with fail
  go_loopw [3, 4] (fun x i wr => ∃ k r1 ao1 cap1, k ≤ xs.length ∧ i = .int .i64 (k : Nat) ∧ x = .slice ao1 k cap1 ∧ Row wr 3 1 (.slice ao1 k cap1) r1 k ((xs.take k).map (fun m : Nat => Value.int .i64 (cv_i64 m))) ∧ Chg [] w wr ∧ Fresh w none r1)
    (fun _ i _ => xs.length - (intOf i).toNat)
  case atStart => exact ⟨0, none, none, 0, by omega, rfl, rfl, Row.nil _ _ _, Chg.refl _ _, Fresh.refl _ _⟩
  case round =>
    obtain ⟨k, r1, ao1, cap1, hk, rfl, rfl, hr1, hch, hfr⟩ := hrel
    have hrow := fun o => hr1.keep ((Chg.refl [] wr).alloc o) (by simp)
    have hca := fun o => (Chg.refl [] wr).alloc o
    by_cases hlt : k < xs.length
    · obtain ⟨bb, off, rfl, hc⟩ := hcells (by omega)
      have hck : wr.cell? ⟨bb, off + k, none⟩ = some (.int .u64 ((xs[k] : Nat) : Int)) := hch.cell ((hc k (by omega)).trans (by simp [List.getD, hlt, cU])) (by simp)
      have hsn : (xs.take (k + 1)).map (fun m : Nat => Value.int .i64 (cv_i64 m)) = (xs.take k).map (fun m : Nat => Value.int .i64 (cv_i64 m)) ++ [(fun m : Nat => Value.int .i64 (cv_i64 m)) xs[k]] := by rw [take_snoc xs k hlt, List.map_append]; rfl
      have HS := hid hsn
      have hcv := cv_i64_eq xs[k]
      have hlk : k + 1 ≤ 34359738368 := by omega
      clear hc hcells hsn
      go_wp2_with (at_builtin; refine wpList_app rfl _ _ 87 rfl elem_int rfl (hrow _) rfl (View.one _ _ _) (by simp [Value.oneCell']) (by unfold maxLen; omega) (by omega) (fun ao' cap' r' w2 hr2 hc2 hf2 _ => halt (fun X hX => ?_)))
      rw [hX.out]; clear hX
      go_wp2
      go_roundw
      case rel => exact ⟨k + 1, r', ao', cap', by omega, by go_num, rfl, (by rw [HS.out]; exact hr2), own_step hch hfr (hca _) hc2, fresh_step hch hfr (hca _) hf2⟩
      case measure => simp [intOf]; omega
    · have he : xs.take k = xs := List.take_of_length_le (by omega)
      have hkn : k = xs.length := by omega
      rw [he] at hr1
      subst hkn
      clear hcells he hrow hca
      go_wp2
      go_ret
      exact ⟨_, r1, rfl, hr1, hch, hfr⟩
end Go.Proofs.Ytdakcphkaljghaa
