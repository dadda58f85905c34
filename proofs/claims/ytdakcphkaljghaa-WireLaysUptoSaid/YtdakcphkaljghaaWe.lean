/- Walks of the wire layer: clones, what is laid by the document. -/
import Derived.Test.YtdakcphkaljghaaWd
namespace Go.Proofs.Ytdakcphkaljghaa
open Go.RowKit Go.AB

theorem run_eql_nil_u8 (w : World) (ao : Option Addr) (n cap : Nat) : (binOp .eql 25 (.slice ao n cap) (.slice none 0 0)).run Try.prog w = .ok (.bool ao.isNone) w :=
  Lib.run_eql_slice_nil w _ _ ao n cap 0 0 Try.underlying25

set_option maxHeartbeats 400000 in
set_option maxRecDepth 100000 in
theorem clone_calls (v : Value) (l : List UInt8) (w : World) (hv : Bytes w v l) (hl : l.length ≤ 1099511627776) :
    Calls Try.prog 52 #[v] w (NewB 5 w l) := by
  have hv' := hv
  have he := run_eql_nil_u8
  obtain ⟨_, _, ao, cap, rfl, _, _, hnone, _⟩ := hv
  cases ao with
  | none =>
    obtain ⟨h0, rfl⟩ := hnone rfl
    have hln : l = [] := List.eq_nil_of_length_eq_zero h0
    subst hln
    go_enter Try.func52, Try.ntmps52
    go_wp2
    go_ret
    exact NewB.mk' (Row.nil _ _ _) rfl (Fresh.refl _ _) (Chg.refl _ _)
  | some ad =>
    clear hnone
    go_enter Try.func52, Try.ntmps52
    have hr0 : ∀ W : World, Row (W.alloc (.cells #[] 5)) 5 1 (.slice (some ⟨W.heap.size, 0, none⟩) 0 0) (some W.heap.size) 0 [] := fun W =>
      ⟨World.ownsRow_made _ #[] 0 (Nat.zero_le _) (by simp [maxLen]) rfl, rfl⟩
    have hva := fun o => hv'.keep ((Chg.refl [] w).alloc o) (fun g _ => by simp)
    go_wp2_with (at_builtin; refine wpList_app rfl _ _ 25 rfl elem_u8 rfl (hr0 _) rfl (hva _) (B_one _) (by unfold maxLen; omega) (by omega) (fun ao' cap' r' w2 hr2 hc2 hf2 hnil2 => halt (fun X hX => ?_)))
    rw [hX.out]; clear hX
    go_wp2
    go_ret
    simp only [Nat.zero_add, List.nil_append] at hr2
    have hf : Fresh w none (some w.heap.size) := fun g hg => by simp at hg; exact .inr (by omega)
    have hca := (Chg.refl [] w).alloc (.cells #[] 5)
    exact NewB.mk' hr2 rfl (hf.trans hca.size hf2) (own_step (Chg.refl _ _) hf hca hc2)

set_option maxHeartbeats 400000 in
set_option maxRecDepth 100000 in
theorem bytes_calls (w : World) (b : Nat) (r : Option Nat) (l : List UInt8) (ao0 : Option Addr) (cap0 : Nat) (hW : Wr 27 5 w b r l ao0 cap0) (hl : l.length ≤ 1099511627776) :
    Calls Try.prog 16 #[.pointer (some ⟨b, 0, none⟩)] w (NewB 5 w l) := by
  have hc := hW.cell
  go_enter Try.func16, Try.ntmps16
  go_wp2_with (go_at_call 52; refine (clone_calls _ _ _ hW.row.view hl).mono ?_; rintro e w' ⟨l2, ao, cap, r2, rfl, hrow2, hfr2, hch2, HL2⟩)
  go_ret
  exact ⟨l2, ao, cap, r2, rfl, hrow2, hfr2, hch2, HL2⟩

theorem short_B (u : Nat) : B (UInt8.ofNat (128 + u % 128)) = .int .u8 (128 + (u : Int) % 128) := by
  unfold B
  congr 1
  simp
  omega

set_option maxHeartbeats 400000 in
set_option maxRecDepth 100000 in
theorem ref_short_calls (u0 : Nat) (hu0 : U64 u0) (w : World) : Calls Try.prog 48 #[.int .u64 u0] w (NewB 5 w (shortB u0)) := by
  have hl10 := shortB_len10 hu0
  go_enter Try.func48, Try.ntmps48
  go_wp2_with fail
  go_loopw [0, 3] (fun x s wr => ∃ u l1 r1 ao1 cap1, x = .int .u64 (u : Nat) ∧ U64 u ∧ s = .slice ao1 l1.length cap1 ∧ Row wr 5 1 (.slice ao1 l1.length cap1) r1 l1.length (l1.map B) ∧ Hid (l1 ++ shortB u = shortB u0) ∧ Chg [] w wr ∧ Fresh w none r1)
    (fun x _ _ => (intOf x).toNat)
  case atStart => exact ⟨u0, [], none, none, 0, rfl, hu0, rfl, Row.nil _ _ _, hid rfl, Chg.refl _ _, Fresh.refl _ _⟩
  case round =>
    obtain ⟨u, l1, r1, ao1, cap1, rfl, hu, rfl, hr1, HLL, hch, hfr⟩ := hrel
    have hlen : l1.length ≤ 10 := by
      have := congrArg List.length HLL.out
      simp only [List.length_append] at this
      omega
    have hrow := fun o => hr1.keep ((Chg.refl [] wr).alloc o) (by simp)
    have hca := fun o => (Chg.refl [] wr).alloc o
    by_cases h : u < 128
    · go_wp2_with (at_builtin; refine wpList_app rfl _ _ 25 rfl elem_u8 rfl (hrow _) rfl (View.one _ _ _) (by simp [Value.oneCell']) (by unfold maxLen; omega) (by omega) (fun ao' cap' r' w2 hr2 hc2 hf2 _ => halt (fun X hX => ?_)))
      rw [hX.out]; clear hX
      go_wp2
      go_ret
      exact NewB.mk' hr2 (by rw [← HLL.out, shortB_lt h, List.map_append]; simp [B, Nat.mod_eq_of_lt (show u < 256 by omega)]) (fresh_step hch hfr (hca _) hf2) (own_step hch hfr (hca _) hc2)
    · have hd : IntKind.u64.wrap ((u : Int) / 128) = ((u / 128 : Nat) : Int) := wrap_u64_div hu 128
      go_wp2_with (at_builtin; refine wpList_app rfl _ _ 25 rfl elem_u8 rfl (hrow _) rfl (View.one _ _ _) (by simp [Value.oneCell']) (by unfold maxLen; omega) (by omega) (fun ao' cap' r' w2 hr2 hc2 hf2 _ => halt (fun X hX => ?_)))
      rw [hX.out]; clear hX
      go_wp2
      go_roundw
      case rel => exact ⟨u / 128, l1 ++ [UInt8.ofNat (128 + u % 128)], r', ao', cap', rfl, hu.div 128, by simp, (by rw [List.map_append, List.map_cons, List.map_nil, short_B, List.length_append]; exact hr2), hid (by rw [List.append_assoc]; simpa [shortB_ge (Nat.le_of_not_lt h)] using HLL.out), own_step hch hfr (hca _) hc2, fresh_step hch hfr (hca _) hf2⟩
      case measure => simp [intOf]; omega

set_option maxHeartbeats 400000 in
set_option maxRecDepth 100000 in
theorem ref_fixed_calls (v0 : Nat) (hv0 : U64 v0) (n : Nat) (hn : n ≤ 8) (w : World) : Calls Try.prog 46 #[.int .u64 v0, .int .i64 n] w (NewB 5 w (fixedB n v0)) := by
  go_enter Try.func46, Try.ntmps46
  go_wp2_with fail
  go_loopw [0, 5, 6] (fun x s i wr => ∃ q u l1 r1 ao1 cap1, q ≤ n ∧ i = .int .i64 (q : Nat) ∧ x = .int .u64 (u : Nat) ∧ U64 u ∧ s = .slice ao1 l1.length cap1 ∧ Row wr 5 1 (.slice ao1 l1.length cap1) r1 l1.length (l1.map B) ∧ Hid (l1 ++ fixedB (n - q) u = fixedB n v0) ∧ Chg [] w wr ∧ Fresh w none r1)
    (fun _ _ i _ => n - (intOf i).toNat)
  case atStart => exact ⟨0, v0, [], none, none, 0, by omega, rfl, rfl, hv0, rfl, Row.nil _ _ _, hid rfl, Chg.refl _ _, Fresh.refl _ _⟩
  case round =>
    obtain ⟨q, u, l1, r1, ao1, cap1, hq, rfl, rfl, hu, rfl, hr1, HLL, hch, hfr⟩ := hrel
    have hlen : l1.length ≤ 8 := by
      have := congrArg List.length HLL.out
      simp only [List.length_append, fixedB_length] at this
      omega
    have hrow := fun o => hr1.keep ((Chg.refl [] wr).alloc o) (by simp)
    have hca := fun o => (Chg.refl [] wr).alloc o
    by_cases h : q < n
    · go_wp2_with (at_builtin; refine wpList_app rfl _ _ 25 rfl elem_u8 rfl (hrow _) rfl (View.one _ _ _) (by simp [Value.oneCell']) (by unfold maxLen; omega) (by omega) (fun ao' cap' r' w2 hr2 hc2 hf2 _ => halt (fun X hX => ?_)))
      rw [hX.out]; clear hX
      go_wp2
      go_roundw
      case rel => exact ⟨q + 1, u / 256, l1 ++ [UInt8.ofNat u], r', ao', cap', by omega, by go_num, congrArg (Value.int .u64) (wrap_u64_div hu 256), hu.div 256, by simp, (by simpa [B] using hr2), hid (by rw [List.append_assoc, ← HLL.out, show n - q = (n - (q + 1)) + 1 from by omega]; rfl), own_step hch hfr (hca _) hc2, fresh_step hch hfr (hca _) hf2⟩
      case measure => simp [intOf]; omega
    · go_wp2
      go_ret
      exact NewB.mk' hr1 (by rw [← HLL.out, show n - q = 0 from by omega]; simp [fixedB]) hfr hch

set_option maxHeartbeats 400000 in
set_option maxRecDepth 100000 in
theorem ref_text_calls (s : ByteArray) (hs : s.size ≤ 549755813888) (w : World) : Calls Try.prog 51 #[.string s] w (NewB 5 w (shortB s.size ++ s.data.toList)) := by
  have hu : U64 s.size := by unfold U64; omega
  have hl10 := shortB_len10 hu
  have hsz : s.data.toList.length = s.size := by rw [Array.length_toList]; rfl
  have HSZ := hid hsz
  clear hsz
  go_enter Try.func51, Try.ntmps51
  go_wp2_with (go_at_call 48; refine (ref_short_calls _ hu _).mono ?_; rintro e w' ⟨l2, ao, cap, r2, rfl, hrow2, hfr2, hch2, HL2⟩)
  go_loopw [3, 4] (fun x i wr => ∃ q l1 r1 ao1 cap1, q ≤ s.size ∧ i = .int .i64 (q : Nat) ∧ x = .slice ao1 l1.length cap1 ∧ Row wr 5 1 (.slice ao1 l1.length cap1) r1 l1.length (l1.map B) ∧ Hid (l1 = shortB s.size ++ s.data.toList.take q) ∧ Chg [] w wr ∧ Fresh w none r1)
    (fun _ i _ => s.size - (intOf i).toNat)
  case atStart => exact ⟨0, l2, r2, ao, cap, by omega, rfl, rfl, hrow2, hid (by simp [HL2.out]), hch2, hfr2⟩
  case round =>
    obtain ⟨q, l1, r1, ao1, cap1, hq, rfl, rfl, hr1, HLL, hch, hfr⟩ := hrel
    have hlen : l1.length ≤ 549755813898 := by
      have := congrArg List.length HLL.out
      have h2 := HSZ.out
      simp only [List.length_append, List.length_take] at this
      omega
    have hrow := fun o => hr1.keep ((Chg.refl [] wr).alloc o) (by simp)
    have hca := fun o => (Chg.refl [] wr).alloc o
    by_cases h : q < s.size
    · have hsn : s.data.toList.take (q + 1) = s.data.toList.take q ++ [s[q]] := take_snoc s.data.toList q (by rw [HSZ.out]; exact h)
      have HSN := hid hsn
      clear hsn
      go_wp2_with (at_builtin; refine wpList_app rfl _ _ 25 rfl elem_u8 rfl (hrow _) rfl (View.one _ _ _) (by simp [Value.oneCell']) (by unfold maxLen; omega) (by omega) (fun ao' cap' r' w2 hr2 hc2 hf2 _ => halt (fun X hX => ?_)))
      rw [hX.out]; clear hX
      go_wp2
      go_roundw
      case rel => exact ⟨q + 1, l1 ++ [s[q]], r', ao', cap', by omega, by go_num, by simp, (by simpa [B] using hr2), hid (by rw [HSN.out, HLL.out, List.append_assoc]), own_step hch hfr (hca _) hc2, fresh_step hch hfr (hca _) hf2⟩
      case measure => simp [intOf]; omega
    · go_wp2
      go_ret
      exact NewB.mk' hr1 (by rw [HLL.out, List.take_of_length_le (by rw [HSZ.out]; omega)]) hfr hch

set_option maxHeartbeats 400000 in
set_option maxRecDepth 100000 in
theorem turned_calls (x : Int) (hx : I64 x) (w : World) : Calls Try.prog 84 #[.int .i64 x] w fun e w' => e = .returned (.int .u64 (zig x)) ∧ w = w' := by
  by_cases h : x < 0
  · have ht := turned_neg hx h
    go_enter Try.func84, Try.ntmps84
    go_wp2
    go_ret
    exact ⟨rfl, rfl⟩
  · have ht := turned_pos hx h
    go_enter Try.func84, Try.ntmps84
    go_wp2
    go_ret
    exact ⟨rfl, rfl⟩

theorem ref_signed_calls (x : Int) (hx : I64 x) (w : World) : Calls Try.prog 49 #[.int .i64 x] w (NewB 5 w (shortB (zig x))) := by
  go_enter Try.func49, Try.ntmps49
  go_wp2_with (first | (go_at_call 84; refine (turned_calls x hx _).mono ?_; rintro e w' ⟨rfl, rfl⟩) | (go_at_call 48; refine (ref_short_calls _ (zig_U64 hx) _).mono ?_; rintro e w' ⟨l2, ao, cap, r2, rfl, hrow2, hfr2, hch2, HL2⟩))
  go_ret
  exact ⟨l2, ao, cap, r2, rfl, hrow2, hfr2, hch2, HL2⟩

theorem ref_flag_calls (t : Bool) (w : World) : Calls Try.prog 50 #[.bool t] w (NewB 5 w [if t then 1 else 0]) := by
  have hr0 : ∀ (W : World) (x : Value), Row (W.alloc (.cells #[x] 5)) 5 1 (.slice (some ⟨W.heap.size, 0, none⟩) 1 1) (some W.heap.size) 1 [x] := fun W x =>
    ⟨⟨rfl, .inr ⟨W.heap.size, 1, #[x], rfl, Nat.zero_le _, heap_alloc_new W _, Nat.le_refl _, by simp [maxLen], rfl, rfl⟩⟩, rfl⟩
  have hf : Fresh w none (some w.heap.size) := fun g hg => by simp at hg; exact .inr (by omega)
  cases t
  all_goals
    go_enter Try.func50, Try.ntmps50
    go_wp2
    go_ret
  · exact NewB.mk' (hr0 w _) rfl hf ((Chg.refl _ _).alloc _)
  · exact NewB.mk' (hr0 w _) rfl hf ((Chg.refl _ _).alloc _)

theorem size_calls (k : Nat) (hk : k < 8) (w : World) : Calls Try.prog 47 #[.int .i64 k] w fun e w' => e = .returned (.int .i64 (sizeOfW k)) ∧ Chg [] w w' := by
  match k, hk with
  | 0, _ | 1, _ | 2, _ | 3, _ | 4, _ | 5, _ | 6, _ | 7, _ =>
    go_enter Try.func47, Try.ntmps47
    go_wp2
    go_ret
    exact ⟨rfl, (Chg.refl _ _).alloc _⟩
theorem size_out (k : Int) (hk : k < 0 ∨ 8 ≤ k) (w : World) : Calls Try.prog 47 #[.int .i64 k] w fun e w' => e = .returned (.int .i64 0) ∧ Chg [] w w' := by
  rcases hk with h | h
  all_goals
    go_enter Try.func47, Try.ntmps47
    go_wp2
    go_ret
    exact ⟨rfl, (Chg.refl _ _).alloc _⟩
end Go.Proofs.Ytdakcphkaljghaa
