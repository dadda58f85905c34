/- Joined by join.py out of Ww, Wa, Wb, Wc, Wd, We, Wf, Wg, Wh, Law, Law2, Ladds. -/
import Derived.Test.YtbghkodcfedebaaGreatDoorTj2
import Derived.Test.YtbghkodcfedebaaGreatDoorRows
import Derived.Test.YtbghkodcfedebaaGreatDoorTj1
import Derived.JoinedCond
set_option linter.unusedSimpArgs false
set_option linter.unusedVariables false
set_option linter.unusedSectionVars false

/- Walks of the wire layer: the widths of the numbers. -/
namespace Go.Proofs.YtbghkodcfedebaaGreatDoor
open Go.RowKit Go.AB

set_option maxHeartbeats 400000 in
theorem width_u8 (w : World) : Calls Tryz.prog 73 #[] w fun e w' => e = .returned (.int .i64 1) ∧ w = w' := by
  go_enter Tryz.func73, Tryz.ntmps73
  go_wp2
  refine wp_loop_rounds 2 ?_
  repeat (rw [rounds_succ]; go_wp2)
  go_ret
  exact ⟨rfl, rfl⟩

set_option maxHeartbeats 400000 in
theorem width_u32 (w : World) : Calls Tryz.prog 105 #[] w fun e w' => e = .returned (.int .i64 4) ∧ w = w' := by
  go_enter Tryz.func105, Tryz.ntmps105
  go_wp2
  refine wp_loop_rounds 5 ?_
  repeat (rw [rounds_succ]; go_wp2)
  go_ret
  exact ⟨rfl, rfl⟩

end Go.Proofs.YtbghkodcfedebaaGreatDoor

/- Walks of the wire layer: the sum. -/
namespace Go.Proofs.YtbghkodcfedebaaGreatDoor
open Go.RowKit Go.AB

set_option maxHeartbeats 400000 in
theorem sum_calls (c : Nat) (hc : c < 4294967296) (v : Value) (l : List UInt8) (w : World) (hv : Bytes w v l) (hl : l.length ≤ 4611686018427387904) :
    Calls Tryz.prog 75 #[.int .u32 c, v] w fun e w' => e = .returned (.int .u32 (crcSum c l)) ∧ w = w' := by
  obtain ⟨ao, cap, rfl, _, _, _, hcells⟩ := hv.out
  clear hv
  go_enter Tryz.func75, Tryz.ntmps75
  go_wp2
  go_loop [0, 6, 9] (fun x _ i => ∃ k : Nat, k ≤ l.length ∧ i = .int .i64 k ∧ x = .int .u32 (crcSum c (l.take k))) (fun _ _ i => l.length - (intOf i).toNat)
  case atStart => exact ⟨0, Nat.zero_le _, rfl, rfl⟩
  case round =>
    obtain ⟨k, hk, rfl, rfl⟩ := hrel
    have hn := crcSum_lt (l.take k) hc
    obtain ⟨n, hne⟩ : ∃ n, crcSum c (l.take k) = n := ⟨_, rfl⟩
    rw [hne] at hn ⊢
    by_cases hlt : k < l.length
    · have hs : crcSum c (l.take (k + 1)) = crcByte n l[k] := by rw [take_snoc l k hlt, crcSum_snoc, hne]
      obtain ⟨b, off, rfl, hcell⟩ := hcells (by omega)
      have hk1 := hcell k hlt
      have hx := crcXor_u32 n hn l[k]
      have hx2 := xor_lt32 n hn l[k]
      have HS := hid hs
      clear hcells hcell hs hne
      go_wp2
      clear hx
      go_loop [0, 17] (fun c i => ∃ q : Nat, q ≤ 8 ∧ i = .int .i64 q ∧ c = .int .u32 (crcBits q (n ^^^ l[k].toNat))) (fun _ i => 8 - (intOf i).toNat)
      case atStart => exact ⟨0, by omega, rfl, rfl⟩
      case round =>
        obtain ⟨q, hq, rfl, rfl⟩ := hrel
        have hb := crcBit_u32 _ (crcBits_lt q hx2)
        go_wp2
        · go_round
          case rel => exact ⟨q + 1, by omega, by go_num, rfl⟩
          case measure => simp [intOf]; omega
        · go_round
          case rel => exact ⟨k + 1, by omega, by go_num, (by have e : q = 8 := (by omega); subst e; rw [HS.out]; rfl)⟩
          case measure => simp [intOf]; omega
    · have HN := hid hne
      clear hne
      go_wp2
      go_ret
      exact ⟨(by rw [← HN.out, List.take_of_length_le (by omega)]; rfl), rfl⟩
end Go.Proofs.YtbghkodcfedebaaGreatDoor

/- Walks of the wire layer: short numbers laid. -/
namespace Go.Proofs.YtbghkodcfedebaaGreatDoor
open Go.RowKit Go.AB

theorem info_u8 : (Tryz.prog.info? 5).map (fun i => (i.zero, i.size, i.bytes)) = some (some (.int .u8 0), 1, 1) := by kernel_rfl
theorem elem_u8 : ElemOk Tryz.prog 34 5 1 1 := .of Tryz.underlying34 info_u8 rfl (by decide)

theorem or128 (u : Nat) : bits .or .u8 ((u : Int) % 256) 128 = ((UInt8.ofNat (128 + u % 128)).toNat : Int) := by
  have e : ((u : Int) % 256) = ((u % 256 : Nat) : Int) := by omega
  rw [e, show (128 : Int) = ((128 : Nat) : Int) from rfl, u8_or_nat _ _ (by omega) (by decide)]
  congr 1
  have : ∀ x < 256, x ||| 128 = (128 + x % 128) % 256 := by decide +kernel
  rw [this _ (by omega)]
  simp

/-- Bytes are laid: the writer at block b holds l. -/
def LaidW (T U : Nat) (w : World) (b : Nat) (r : Option Nat) (l : List UInt8) (w' : World) : Prop :=
  ∃ l' r' ao' cap', Wr T U w' b r' l' ao' cap' ∧ Chg (b :: r.toList) w w' ∧ Fresh w r r' ∧ Hid (l' = l)
theorem LaidW.of {T U : Nat} {w W w' : World} {b : Nat} {r : Option Nat} {l : List UInt8} (h : LaidW T U W b r l w') (hc : Chg [] w W) : LaidW T U w b r l w' := by
  obtain ⟨l', r', ao', cap', h1, h2, h3, h4⟩ := h
  exact ⟨l', r', ao', cap', h1, hc.nil.trans' h2, h3.mono hc.size, h4⟩
theorem LaidW.to {T U : Nat} {w w' : World} {b : Nat} {r : Option Nat} {l l2 : List UInt8} (h : LaidW T U w b r l w') (he : l = l2) : LaidW T U w b r l2 w' := he ▸ h
def ShortPost (T U : Nat) (w : World) (b : Nat) (r : Option Nat) (l : List UInt8) (e : Ending) (w' : World) : Prop :=
  e = .returned (.tuple #[]) ∧ LaidW T U w b r l w'

set_option maxHeartbeats 400000 in
set_option maxRecDepth 100000 in
theorem short_calls (u0 : Nat) (hu0 : U64 u0) (w : World) (b : Nat) (r : Option Nat) (l : List UInt8) (ao0 : Option Addr) (cap0 : Nat) (hW : Wr 84 5 w b r l ao0 cap0) (hl : l.length ≤ 1099511627776) :
    Calls Tryz.prog 72 #[.pointer (some ⟨b, 0, none⟩), .int .u64 u0] w (ShortPost 84 5 w b r (l ++ shortB u0)) := by
  have hl10 := shortB_len10 hu0
  go_enter Tryz.func72, Tryz.ntmps72
  go_wp2_with fail
  go_loopw [1] (fun x wr => ∃ u r1 l1 ao1 cap1, x = .int .u64 (u : Nat) ∧ U64 u ∧ Wr 84 5 wr b r1 l1 ao1 cap1 ∧ l1 ++ shortB u = l ++ shortB u0 ∧ Chg (b :: r.toList) w wr ∧ Fresh w r r1)
    (fun x _ => (intOf x).toNat)
  case atStart => exact ⟨u0, r, l, ao0, cap0, rfl, hu0, hW, rfl, Chg.refl _ _, Fresh.refl _ _⟩
  case round =>
    obtain ⟨u, r1, l1, ao1, cap1, rfl, hu, hW1, hll, hch, hfr⟩ := hrel
    have hlen : l1.length ≤ l.length + 10 := by
      have := congrArg List.length hll
      simp only [List.length_append] at this
      omega
    have hc1 := hW1.cell
    have HLL := hid hll
    clear hll
    have hrow := fun o => hW1.row.keep ((Chg.refl [] wr).alloc o) (by simp)
    by_cases h : u < 128
    · go_wp2_with (at_builtin; refine wpList_app rfl _ _ 34 rfl elem_u8 rfl (hrow _) rfl (View.one _ _ _) (by simp [Value.oneCell']) (by unfold maxLen; omega) (by omega) (fun ao' cap' r' w2 hr2 hc2 hf2 _ => halt (fun X hX => ?_)))
      rw [hX.out]; clear hX
      obtain ⟨hcell, hfree⟩ := hW1.put_cell ((Chg.refl [] wr).alloc _) hc2
      go_wp2
      go_end0
      obtain ⟨p1, p2, p3⟩ := hW1.put (l' := l1 ++ shortB u) ((Chg.refl [] wr).alloc _) (by rw [shortB_lt h, List.map_append]; simpa [B, Nat.mod_eq_of_lt (show u < 256 by omega)] using hr2) hc2 hf2
      exact ⟨rfl, _, r', ao', cap', p1, hch.trans p2 (fun x hx => by
        rcases List.mem_cons.1 hx with h1 | h1
        · exact .inl (by simp [h1])
        · exact (hfr x (by simpa using h1)).imp (fun h2 => by simp [h2]) id), hfr.trans hch.size p3, HLL⟩
    · go_wp2_with (at_builtin; refine wpList_app rfl _ _ 34 rfl elem_u8 rfl (hrow _) rfl (View.one _ _ _) (by simp [Value.oneCell']) (by unfold maxLen; omega) (by omega) (fun ao' cap' r' w2 hr2 hc2 hf2 _ => halt (fun X hX => ?_)))
      rw [hX.out]; clear hX
      obtain ⟨hcell, hfree⟩ := hW1.put_cell ((Chg.refl [] wr).alloc _) hc2
      go_wp2
      obtain ⟨p1, p2, p3⟩ := hW1.put (l' := l1 ++ [UInt8.ofNat (128 + u % 128)]) ((Chg.refl [] wr).alloc _) (by rw [List.map_append]; simpa [B, or128] using hr2) hc2 hf2
      go_roundw
      case rel => exact ⟨u / 128, r', _, ao', cap', rfl, hu.div 128, p1, (by rw [List.append_assoc]; simpa [shortB_ge (Nat.le_of_not_lt h)] using HLL.out), hch.trans p2 (fun x hx => by
        rcases List.mem_cons.1 hx with h1 | h1
        · exact .inl (by simp [h1])
        · exact (hfr x (by simpa using h1)).imp (fun h2 => by simp [h2]) id), hfr.trans hch.size p3⟩
      case measure => simp [intOf]; omega
end Go.Proofs.YtbghkodcfedebaaGreatDoor

/- Walks of the wire layer: numbers of fixed width laid. -/
namespace Go.Proofs.YtbghkodcfedebaaGreatDoor
open Go.RowKit Go.AB

set_option maxHeartbeats 1000000 in
set_option maxRecDepth 100000 in
theorem put_u8 (xs : List Nat) (hxs : ∀ m ∈ xs, m < 256) (v : Value) (w : World) (b : Nat) (r : Option Nat) (l : List UInt8) (ao0 : Option Addr) (cap0 : Nat) (hW : Wr 84 5 w b r l ao0 cap0) (hl : l.length ≤ 1099511627776)
    (hv : View w 1 v xs.length (xs.map (fun m : Nat => Value.int .u8 (m : Int)))) (hvb : 0 < xs.length → ∀ g, v.ownBlock = some g → g ≠ b ∧ r ≠ some g) (hn : xs.length ≤ 1099511627776) :
    Calls Tryz.prog 45 #[.pointer (some ⟨b, 0, none⟩), v] w (ShortPost 84 5 w b r (l ++ xs.flatMap (fun m => fixedB 1 m))) := by
  obtain ⟨_, _, ao, cap, rfl, _, _, _, hcells⟩ := hv
  go_enter Tryz.func45, Tryz.ntmps45
  go_wp2_with fail
  go_loopw [5, 6, 11] (fun _ _ i wr => ∃ k r1 ao1 cap1, k ≤ xs.length ∧ i = .int .i64 (k : Nat) ∧ Wr 84 5 wr b r1 (l ++ (xs.take k).flatMap (fun m => fixedB 1 m)) ao1 cap1 ∧ Chg (b :: r.toList) w wr ∧ Fresh w r r1)
    (fun _ _ i _ => xs.length - (intOf i).toNat)
  case atStart => exact ⟨0, r, ao0, cap0, by omega, rfl, by simpa using hW, Chg.refl _ _, Fresh.refl _ _⟩
  case round =>
    obtain ⟨k, r1, ao1, cap1, hk, rfl, hW1, hch, hfr⟩ := hrel
    by_cases hlt : k < xs.length
    · obtain ⟨bb, off, rfl, hc⟩ := hcells (by omega)
      have hbb := hvb (by omega) bb rfl
      have hck : wr.cell? ⟨bb, off + k, none⟩ = some (.int .u8 ((xs[k] : Nat) : Int)) := hch.cell ((hc k (by omega)).trans (by simp [List.getD, hlt])) (by simp; exact ⟨hbb.1, hbb.2⟩)
      have hxk := hxs xs[k] (List.getElem_mem hlt)
      have hu0 : U64 xs[k] := (Nat.lt_of_lt_of_le (hxs _ (List.getElem_mem hlt)) (by decide))
      have hll : (l ++ (xs.take k).flatMap (fun m => fixedB 1 m)).length ≤ 17592186044416 := by
        have := flat_fixed_len 1 (xs.take k) (fun m => fixedB 1 m) (fun _ => fixedB_length _ _)
        rw [List.length_append, this, List.length_take]; omega
      have hsn : l ++ (xs.take (k + 1)).flatMap (fun m => fixedB 1 m) = (l ++ (xs.take k).flatMap (fun m => fixedB 1 m)) ++ fixedB 1 xs[k] := by
        rw [take_snoc xs k hlt, List.flatMap_append, List.append_assoc]; simp
      have HS := hid hsn
      clear hc hcells hsn hxs
      obtain ⟨l1, hl1⟩ : ∃ l1, l ++ (xs.take k).flatMap (fun m => fixedB 1 m) = l1 := ⟨_, rfl⟩
      rw [hl1] at hW1 hll HS
      clear hl1
      go_wp2_with (go_at_call 73; refine (width_u8 _).mono ?_; rintro e w' ⟨rfl, rfl⟩)
      obtain ⟨wo, rfl⟩ : ∃ wo : World, wo = wr := ⟨_, rfl⟩
      clear hck
      go_loopw [6, 18] (fun x i wr => ∃ q u r2 l2 ao2 cap2, q ≤ 1 ∧ i = .int .i64 (q : Nat) ∧ x = .int .u64 (u : Nat) ∧ U64 u ∧ Wr 84 5 wr b r2 l2 ao2 cap2 ∧ l2 ++ fixedB (1 - q) u = l1 ++ fixedB 1 xs[k] ∧ Chg (b :: r.toList) w wr ∧ Fresh w r r2)
        (fun _ i _ => 1 - (intOf i).toNat)
      case atStart => exact ⟨0, xs[k], r1, l1, ao1, cap1, by omega, rfl, rfl, hu0, hW1, rfl, hch, hfr⟩
      case round =>
        obtain ⟨q, u, r2, l2, ao2, cap2, hq, rfl, rfl, hu, hW2, hl2, hch2, hfr2⟩ := hrel
        have hlen : l2.length ≤ 17592186044516 := by
          have := congrArg List.length hl2
          simp only [List.length_append, fixedB_length] at this
          omega
        have hc2 := hW2.cell
        have hrow := fun o => hW2.row.keep ((Chg.refl [] wr).alloc o) (by simp)
        have HLL := hid hl2
        clear hl2 hch hfr hW1
        by_cases hq8 : q < 1
        · go_wp2_with (at_builtin; refine wpList_app rfl _ _ 34 rfl elem_u8 rfl (hrow _) rfl (View.one _ _ _) (by simp [Value.oneCell']) (by unfold maxLen; omega) (by omega) (fun ao' cap' r' w2 hr2 hch3 hf2 _ => halt (fun X hX => ?_)))
          rw [hX.out]; clear hX
          obtain ⟨hcell, hfree⟩ := hW2.put_cell ((Chg.refl [] wr).alloc _) hch3
          go_wp2
          obtain ⟨p1, p2, p3⟩ := hW2.put (l' := l2 ++ [UInt8.ofNat u]) ((Chg.refl [] wr).alloc _) (by rw [List.map_append]; simpa [B] using hr2) hch3 hf2
          go_roundw
          case rel => exact ⟨q + 1, u / 256, r', _, ao', cap', by omega, by go_num, rfl, hu.div 256, p1, (by rw [List.append_assoc, ← HLL.out, show 1 - q = (1 - (q + 1)) + 1 from by omega]; rfl), hch2.trans p2 (fun x hx => by
            rcases List.mem_cons.1 hx with h1 | h1
            · exact .inl (by simp [h1])
            · exact (hfr2 x (by simpa using h1)).imp (fun h2 => by simp [h2]) id), hfr2.trans hch2.size p3⟩
          case measure => simp [intOf]; omega
        · go_wp2
          go_roundw
          case rel => exact ⟨k + 1, r2, ao2, cap2, by omega, by go_num, (by
            have hq' : 1 - q = 0 := by omega
            have := HLL.out
            rw [hq'] at this
            rw [show fixedB 0 u = [] from rfl, List.append_nil] at this
            rw [HS.out, ← this]; exact hW2), hch2, hfr2⟩
          case measure => simp [intOf]; omega
    · have he : xs.take k = xs := List.take_of_length_le (by omega)
      rw [he] at hW1
      clear hcells he
      go_wp2
      go_end0
      exact ⟨rfl, _, r1, ao1, cap1, hW1, hch, hfr, hid rfl⟩

set_option maxHeartbeats 1000000 in
set_option maxRecDepth 100000 in
theorem put_u32 (xs : List Nat) (hxs : ∀ m ∈ xs, m < 4294967296) (v : Value) (w : World) (b : Nat) (r : Option Nat) (l : List UInt8) (ao0 : Option Addr) (cap0 : Nat) (hW : Wr 84 5 w b r l ao0 cap0) (hl : l.length ≤ 1099511627776)
    (hv : View w 1 v xs.length (xs.map (fun m : Nat => Value.int .u32 (m : Int)))) (hvb : 0 < xs.length → ∀ g, v.ownBlock = some g → g ≠ b ∧ r ≠ some g) (hn : xs.length ≤ 1099511627776) :
    Calls Tryz.prog 74 #[.pointer (some ⟨b, 0, none⟩), v] w (ShortPost 84 5 w b r (l ++ xs.flatMap (fun m => fixedB 4 m))) := by
  obtain ⟨_, _, ao, cap, rfl, _, _, _, hcells⟩ := hv
  go_enter Tryz.func74, Tryz.ntmps74
  go_wp2_with fail
  go_loopw [5, 6, 11] (fun _ _ i wr => ∃ k r1 ao1 cap1, k ≤ xs.length ∧ i = .int .i64 (k : Nat) ∧ Wr 84 5 wr b r1 (l ++ (xs.take k).flatMap (fun m => fixedB 4 m)) ao1 cap1 ∧ Chg (b :: r.toList) w wr ∧ Fresh w r r1)
    (fun _ _ i _ => xs.length - (intOf i).toNat)
  case atStart => exact ⟨0, r, ao0, cap0, by omega, rfl, by simpa using hW, Chg.refl _ _, Fresh.refl _ _⟩
  case round =>
    obtain ⟨k, r1, ao1, cap1, hk, rfl, hW1, hch, hfr⟩ := hrel
    by_cases hlt : k < xs.length
    · obtain ⟨bb, off, rfl, hc⟩ := hcells (by omega)
      have hbb := hvb (by omega) bb rfl
      have hck : wr.cell? ⟨bb, off + k, none⟩ = some (.int .u32 ((xs[k] : Nat) : Int)) := hch.cell ((hc k (by omega)).trans (by simp [List.getD, hlt])) (by simp; exact ⟨hbb.1, hbb.2⟩)
      have hxk := hxs xs[k] (List.getElem_mem hlt)
      have hu0 : U64 xs[k] := (Nat.lt_of_lt_of_le (hxs _ (List.getElem_mem hlt)) (by decide))
      have hll : (l ++ (xs.take k).flatMap (fun m => fixedB 4 m)).length ≤ 17592186044416 := by
        have := flat_fixed_len 4 (xs.take k) (fun m => fixedB 4 m) (fun _ => fixedB_length _ _)
        rw [List.length_append, this, List.length_take]; omega
      have hsn : l ++ (xs.take (k + 1)).flatMap (fun m => fixedB 4 m) = (l ++ (xs.take k).flatMap (fun m => fixedB 4 m)) ++ fixedB 4 xs[k] := by
        rw [take_snoc xs k hlt, List.flatMap_append, List.append_assoc]; simp
      have HS := hid hsn
      clear hc hcells hsn hxs
      obtain ⟨l1, hl1⟩ : ∃ l1, l ++ (xs.take k).flatMap (fun m => fixedB 4 m) = l1 := ⟨_, rfl⟩
      rw [hl1] at hW1 hll HS
      clear hl1
      go_wp2_with (go_at_call 105; refine (width_u32 _).mono ?_; rintro e w' ⟨rfl, rfl⟩)
      obtain ⟨wo, rfl⟩ : ∃ wo : World, wo = wr := ⟨_, rfl⟩
      clear hck
      go_loopw [6, 18] (fun x i wr => ∃ q u r2 l2 ao2 cap2, q ≤ 4 ∧ i = .int .i64 (q : Nat) ∧ x = .int .u64 (u : Nat) ∧ U64 u ∧ Wr 84 5 wr b r2 l2 ao2 cap2 ∧ l2 ++ fixedB (4 - q) u = l1 ++ fixedB 4 xs[k] ∧ Chg (b :: r.toList) w wr ∧ Fresh w r r2)
        (fun _ i _ => 4 - (intOf i).toNat)
      case atStart => exact ⟨0, xs[k], r1, l1, ao1, cap1, by omega, rfl, rfl, hu0, hW1, rfl, hch, hfr⟩
      case round =>
        obtain ⟨q, u, r2, l2, ao2, cap2, hq, rfl, rfl, hu, hW2, hl2, hch2, hfr2⟩ := hrel
        have hlen : l2.length ≤ 17592186044516 := by
          have := congrArg List.length hl2
          simp only [List.length_append, fixedB_length] at this
          omega
        have hc2 := hW2.cell
        have hrow := fun o => hW2.row.keep ((Chg.refl [] wr).alloc o) (by simp)
        have HLL := hid hl2
        clear hl2 hch hfr hW1
        by_cases hq8 : q < 4
        · go_wp2_with (at_builtin; refine wpList_app rfl _ _ 34 rfl elem_u8 rfl (hrow _) rfl (View.one _ _ _) (by simp [Value.oneCell']) (by unfold maxLen; omega) (by omega) (fun ao' cap' r' w2 hr2 hch3 hf2 _ => halt (fun X hX => ?_)))
          rw [hX.out]; clear hX
          obtain ⟨hcell, hfree⟩ := hW2.put_cell ((Chg.refl [] wr).alloc _) hch3
          go_wp2
          obtain ⟨p1, p2, p3⟩ := hW2.put (l' := l2 ++ [UInt8.ofNat u]) ((Chg.refl [] wr).alloc _) (by rw [List.map_append]; simpa [B] using hr2) hch3 hf2
          go_roundw
          case rel => exact ⟨q + 1, u / 256, r', _, ao', cap', by omega, by go_num, rfl, hu.div 256, p1, (by rw [List.append_assoc, ← HLL.out, show 4 - q = (4 - (q + 1)) + 1 from by omega]; rfl), hch2.trans p2 (fun x hx => by
            rcases List.mem_cons.1 hx with h1 | h1
            · exact .inl (by simp [h1])
            · exact (hfr2 x (by simpa using h1)).imp (fun h2 => by simp [h2]) id), hfr2.trans hch2.size p3⟩
          case measure => simp [intOf]; omega
        · go_wp2
          go_roundw
          case rel => exact ⟨k + 1, r2, ao2, cap2, by omega, by go_num, (by
            have hq' : 4 - q = 0 := by omega
            have := HLL.out
            rw [hq'] at this
            rw [show fixedB 0 u = [] from rfl, List.append_nil] at this
            rw [HS.out, ← this]; exact hW2), hch2, hfr2⟩
          case measure => simp [intOf]; omega
    · have he : xs.take k = xs := List.take_of_length_le (by omega)
      rw [he] at hW1
      clear hcells he
      go_wp2
      go_end0
      exact ⟨rfl, _, r1, ao1, cap1, hW1, hch, hfr, hid rfl⟩

end Go.Proofs.YtbghkodcfedebaaGreatDoor

/- Walks of the wire layer: the writer's other methods. -/
namespace Go.Proofs.YtbghkodcfedebaaGreatDoor
open Go.RowKit Go.AB

theorem chg_step {a w w' : World} {b : Nat} {r r1 : Option Nat} (h : Chg (b :: r.toList) a w) (hf : Fresh a r r1) (k : Chg (b :: r1.toList) w w') : Chg (b :: r.toList) a w' :=
  h.trans k (fun x hx => by
    rcases List.mem_cons.1 hx with h1 | h1
    · exact .inl (by simp [h1])
    · exact (hf x (by simpa using h1)).imp (fun h2 => by simp [h2]) id)

set_option maxHeartbeats 400000 in
theorem shorts_calls (xs : List Nat) (hxs : ∀ m ∈ xs, U64 m) (v : Value) (w : World) (b : Nat) (r : Option Nat) (l : List UInt8) (ao0 : Option Addr) (cap0 : Nat) (hW : Wr 84 5 w b r l ao0 cap0) (hl : l.length ≤ 549755813888)
    (hv : View w 1 v xs.length (xs.map (fun m : Nat => Value.int .u64 (m : Int)))) (hvb : 0 < xs.length → ∀ g, v.ownBlock = some g → g ≠ b ∧ r ≠ some g) (hn : xs.length ≤ 34359738368) :
    Calls Tryz.prog 44 #[.pointer (some ⟨b, 0, none⟩), v] w (ShortPost 84 5 w b r (l ++ xs.flatMap shortB)) := by
  obtain ⟨_, _, ao, cap, rfl, _, _, _, hcells⟩ := hv
  go_enter Tryz.func44, Tryz.ntmps44
  go_wp2_with fail
  go_loopw [5, 10] (fun _ i wr => ∃ k r1 ao1 cap1, k ≤ xs.length ∧ i = .int .i64 (k : Nat) ∧ Wr 84 5 wr b r1 (l ++ (xs.take k).flatMap shortB) ao1 cap1 ∧ Chg (b :: r.toList) w wr ∧ Fresh w r r1)
    (fun _ i _ => xs.length - (intOf i).toNat)
  case atStart => exact ⟨0, r, ao0, cap0, by omega, rfl, by simpa using hW, Chg.refl _ _, Fresh.refl _ _⟩
  case round =>
    obtain ⟨k, r1, ao1, cap1, hk, rfl, hW1, hch, hfr⟩ := hrel
    by_cases hlt : k < xs.length
    · obtain ⟨bb, off, rfl, hc⟩ := hcells (by omega)
      have hbb := hvb (by omega) bb rfl
      have hck : wr.cell? ⟨bb, off + k, none⟩ = some (.int .u64 ((xs[k] : Nat) : Int)) := hch.cell ((hc k (by omega)).trans (by simp [List.getD, hlt])) (by simp; exact ⟨hbb.1, hbb.2⟩)
      have hu0 : U64 xs[k] := hxs _ (List.getElem_mem hlt)
      have hll : (l ++ (xs.take k).flatMap shortB).length ≤ 1099511627776 := by
        have := flat_len_le 10 (xs.take k) shortB (fun x hx => shortB_len10 (hxs x (List.mem_of_mem_take hx)))
        rw [List.length_append]; rw [List.length_take] at this; omega
      have hsn : l ++ (xs.take (k + 1)).flatMap shortB = (l ++ (xs.take k).flatMap shortB) ++ shortB xs[k] := by
        rw [take_snoc xs k hlt, List.flatMap_append, List.append_assoc]; simp
      have HS := hid hsn
      clear hc hcells hsn hxs
      go_wp2_with (go_at_call 72; refine (short_calls _ hu0 _ _ _ _ _ _ hW1 hll).mono ?_; rintro e w' ⟨rfl, l2, r2, ao2, cap2, hW2, hch2, hfr2, HL2⟩)
      go_roundw
      case rel => exact ⟨k + 1, r2, ao2, cap2, by omega, by go_num, (by rw [HS.out, ← HL2.out]; exact hW2), chg_step hch hfr hch2, hfr.trans hch.size hfr2⟩
      case measure => simp [intOf]; omega
    · have he : xs.take k = xs := List.take_of_length_le (by omega)
      rw [he] at hW1
      clear hcells he
      go_wp2
      go_end0
      exact ⟨rfl, _, r1, ao1, cap1, hW1, hch, hfr, hid rfl⟩

end Go.Proofs.YtbghkodcfedebaaGreatDoor

/- Walks of the wire layer: clones, what is laid by the document. -/
namespace Go.Proofs.YtbghkodcfedebaaGreatDoor
open Go.RowKit Go.AB

theorem run_eql_nil_u8 (w : World) (ao : Option Addr) (n cap : Nat) : (binOp .eql 34 (.slice ao n cap) (.slice none 0 0)).run Tryz.prog w = .ok (.bool ao.isNone) w :=
  Lib.run_eql_slice_nil w _ _ ao n cap 0 0 Tryz.underlying34

set_option maxHeartbeats 400000 in
set_option maxRecDepth 100000 in
theorem clone_calls (v : Value) (l : List UInt8) (w : World) (hv : Bytes w v l) (hl : l.length ≤ 1099511627776) :
    Calls Tryz.prog 76 #[v] w (NewB 5 w l) := by
  have hv' := hv
  have he := run_eql_nil_u8
  obtain ⟨_, _, ao, cap, rfl, _, _, hnone, _⟩ := hv
  cases ao with
  | none =>
    obtain ⟨h0, rfl⟩ := hnone rfl
    have hln : l = [] := List.eq_nil_of_length_eq_zero h0
    subst hln
    go_enter Tryz.func76, Tryz.ntmps76
    go_wp2
    go_ret
    exact NewB.mk' (Row.nil _ _ _) rfl (Fresh.refl _ _) (Chg.refl _ _)
  | some ad =>
    clear hnone
    go_enter Tryz.func76, Tryz.ntmps76
    have hr0 : ∀ W : World, Row (W.alloc (.cells #[] 5)) 5 1 (.slice (some ⟨W.heap.size, 0, none⟩) 0 0) (some W.heap.size) 0 [] := fun W =>
      ⟨World.ownsRow_made _ #[] 0 (Nat.zero_le _) (by simp [maxLen]) rfl, rfl⟩
    have hva := fun o => hv'.keep ((Chg.refl [] w).alloc o) (fun g _ => by simp)
    go_wp2_with (at_builtin; refine wpList_app rfl _ _ 34 rfl elem_u8 rfl (hr0 _) rfl (hva _) (B_one _) (by unfold maxLen; omega) (by omega) (fun ao' cap' r' w2 hr2 hc2 hf2 hnil2 => halt (fun X hX => ?_)))
    rw [hX.out]; clear hX
    go_wp2
    go_ret
    simp only [Nat.zero_add, List.nil_append] at hr2
    have hf : Fresh w none (some w.heap.size) := fun g hg => by simp at hg; exact .inr (by omega)
    have hca := (Chg.refl [] w).alloc (.cells #[] 5)
    exact NewB.mk' hr2 rfl (hf.trans hca.size hf2) (own_step (Chg.refl _ _) hf hca hc2)

set_option maxHeartbeats 400000 in
set_option maxRecDepth 100000 in
theorem bytes_calls (w : World) (b : Nat) (r : Option Nat) (l : List UInt8) (ao0 : Option Addr) (cap0 : Nat) (hW : Wr 84 5 w b r l ao0 cap0) (hl : l.length ≤ 1099511627776) :
    Calls Tryz.prog 47 #[.pointer (some ⟨b, 0, none⟩)] w (NewB 5 w l) := by
  have hc := hW.cell
  go_enter Tryz.func47, Tryz.ntmps47
  go_wp2_with (go_at_call 76; refine (clone_calls _ _ _ hW.row.view hl).mono ?_; rintro e w' ⟨l2, ao, cap, r2, rfl, hrow2, hfr2, hch2, HL2⟩)
  go_ret
  exact ⟨l2, ao, cap, r2, rfl, hrow2, hfr2, hch2, HL2⟩

theorem short_B (u : Nat) : B (UInt8.ofNat (128 + u % 128)) = .int .u8 (128 + (u : Int) % 128) := by
  unfold B
  congr 1
  simp
  omega

set_option maxHeartbeats 400000 in
set_option maxRecDepth 100000 in
theorem ref_short_calls (u0 : Nat) (hu0 : U64 u0) (w : World) : Calls Tryz.prog 106 #[.int .u64 u0] w (NewB 5 w (shortB u0)) := by
  have hl10 := shortB_len10 hu0
  go_enter Tryz.func106, Tryz.ntmps106
  go_wp2_with fail
  go_loopw [0, 3] (fun x s wr => ∃ u l1 r1 ao1 cap1, x = .int .u64 (u : Nat) ∧ U64 u ∧ s = .slice ao1 l1.length cap1 ∧ Row wr 5 1 (.slice ao1 l1.length cap1) r1 l1.length (l1.map B) ∧ Hid (l1 ++ shortB u = shortB u0) ∧ Chg [] w wr ∧ Fresh w none r1)
    (fun x _ _ => (intOf x).toNat)
  case atStart => exact ⟨u0, [], none, none, 0, rfl, hu0, rfl, Row.nil _ _ _, hid rfl, Chg.refl _ _, Fresh.refl _ _⟩
  case round =>
    obtain ⟨u, l1, r1, ao1, cap1, rfl, hu, rfl, hr1, HLL, hch, hfr⟩ := hrel
    have hlen : l1.length ≤ 10 := by
      have := congrArg List.length HLL.out
      simp only [List.length_append] at this
      omega
    have hrow := fun o => hr1.keep ((Chg.refl [] wr).alloc o) (by simp)
    have hca := fun o => (Chg.refl [] wr).alloc o
    by_cases h : u < 128
    · go_wp2_with (at_builtin; refine wpList_app rfl _ _ 34 rfl elem_u8 rfl (hrow _) rfl (View.one _ _ _) (by simp [Value.oneCell']) (by unfold maxLen; omega) (by omega) (fun ao' cap' r' w2 hr2 hc2 hf2 _ => halt (fun X hX => ?_)))
      rw [hX.out]; clear hX
      go_wp2
      go_ret
      exact NewB.mk' hr2 (by rw [← HLL.out, shortB_lt h, List.map_append]; simp [B, Nat.mod_eq_of_lt (show u < 256 by omega)]) (fresh_step hch hfr (hca _) hf2) (own_step hch hfr (hca _) hc2)
    · have hd : IntKind.u64.wrap ((u : Int) / 128) = ((u / 128 : Nat) : Int) := wrap_u64_div hu 128
      go_wp2_with (at_builtin; refine wpList_app rfl _ _ 34 rfl elem_u8 rfl (hrow _) rfl (View.one _ _ _) (by simp [Value.oneCell']) (by unfold maxLen; omega) (by omega) (fun ao' cap' r' w2 hr2 hc2 hf2 _ => halt (fun X hX => ?_)))
      rw [hX.out]; clear hX
      go_wp2
      go_roundw
      case rel => exact ⟨u / 128, l1 ++ [UInt8.ofNat (128 + u % 128)], r', ao', cap', rfl, hu.div 128, by simp, (by rw [List.map_append, List.map_cons, List.map_nil, short_B, List.length_append]; exact hr2), hid (by rw [List.append_assoc]; simpa [shortB_ge (Nat.le_of_not_lt h)] using HLL.out), own_step hch hfr (hca _) hc2, fresh_step hch hfr (hca _) hf2⟩
      case measure => simp [intOf]; omega

set_option maxHeartbeats 400000 in
set_option maxRecDepth 100000 in
theorem ref_fixed_calls (v0 : Nat) (hv0 : U64 v0) (n : Nat) (hn : n ≤ 8) (w : World) : Calls Tryz.prog 78 #[.int .u64 v0, .int .i64 n] w (NewB 5 w (fixedB n v0)) := by
  go_enter Tryz.func78, Tryz.ntmps78
  go_wp2_with fail
  go_loopw [0, 5, 6] (fun x s i wr => ∃ q u l1 r1 ao1 cap1, q ≤ n ∧ i = .int .i64 (q : Nat) ∧ x = .int .u64 (u : Nat) ∧ U64 u ∧ s = .slice ao1 l1.length cap1 ∧ Row wr 5 1 (.slice ao1 l1.length cap1) r1 l1.length (l1.map B) ∧ Hid (l1 ++ fixedB (n - q) u = fixedB n v0) ∧ Chg [] w wr ∧ Fresh w none r1)
    (fun _ _ i _ => n - (intOf i).toNat)
  case atStart => exact ⟨0, v0, [], none, none, 0, by omega, rfl, rfl, hv0, rfl, Row.nil _ _ _, hid rfl, Chg.refl _ _, Fresh.refl _ _⟩
  case round =>
    obtain ⟨q, u, l1, r1, ao1, cap1, hq, rfl, rfl, hu, rfl, hr1, HLL, hch, hfr⟩ := hrel
    have hlen : l1.length ≤ 8 := by
      have := congrArg List.length HLL.out
      simp only [List.length_append, fixedB_length] at this
      omega
    have hrow := fun o => hr1.keep ((Chg.refl [] wr).alloc o) (by simp)
    have hca := fun o => (Chg.refl [] wr).alloc o
    by_cases h : q < n
    · go_wp2_with (at_builtin; refine wpList_app rfl _ _ 34 rfl elem_u8 rfl (hrow _) rfl (View.one _ _ _) (by simp [Value.oneCell']) (by unfold maxLen; omega) (by omega) (fun ao' cap' r' w2 hr2 hc2 hf2 _ => halt (fun X hX => ?_)))
      rw [hX.out]; clear hX
      go_wp2
      go_roundw
      case rel => exact ⟨q + 1, u / 256, l1 ++ [UInt8.ofNat u], r', ao', cap', by omega, by go_num, congrArg (Value.int .u64) (wrap_u64_div hu 256), hu.div 256, by simp, (by simpa [B] using hr2), hid (by rw [List.append_assoc, ← HLL.out, show n - q = (n - (q + 1)) + 1 from by omega]; rfl), own_step hch hfr (hca _) hc2, fresh_step hch hfr (hca _) hf2⟩
      case measure => simp [intOf]; omega
    · go_wp2
      go_ret
      exact NewB.mk' hr1 (by rw [← HLL.out, show n - q = 0 from by omega]; simp [fixedB]) hfr hch

end Go.Proofs.YtbghkodcfedebaaGreatDoor

/- Walks of the wire layer: the law's helpers that make lists of numbers. -/
namespace Go.Proofs.YtbghkodcfedebaaGreatDoor
open Go.RowKit Go.AB

theorem info_i32 : (Tryz.prog.info? 21).map (fun i => (i.zero, i.size, i.bytes)) = some (some (.int .i32 0), 1, 4) := by kernel_rfl
theorem info_i64 : (Tryz.prog.info? 2).map (fun i => (i.zero, i.size, i.bytes)) = some (some (.int .i64 0), 1, 8) := by kernel_rfl
theorem info_u16 : (Tryz.prog.info? 226).map (fun i => (i.zero, i.size, i.bytes)) = some (some (.int .u16 0), 1, 2) := by kernel_rfl
theorem info_u32 : (Tryz.prog.info? 131).map (fun i => (i.zero, i.size, i.bytes)) = some (some (.int .u32 0), 1, 4) := by kernel_rfl
theorem elem_u32 : ElemOk Tryz.prog 166 131 1 4 := .of Tryz.underlying166 info_u32 rfl (by decide)
theorem info_int : (Tryz.prog.info? 3).map (fun i => (i.zero, i.size, i.bytes)) = some (some (.int .i64 0), 1, 8) := by kernel_rfl
theorem elem_int : ElemOk Tryz.prog 54 3 1 8 := .of Tryz.underlying54 info_int rfl (by decide)

def cU (m : Nat) : Value := .int .u64 (m : Int)

def cv_i8 (m : Nat) : Int := IntKind.i8.wrap (m : Int)
theorem cv_i8_eq (m : Nat) : IntKind.i8.wrap (m : Int) = cv_i8 m := rfl

def cv_i16 (m : Nat) : Int := IntKind.i16.wrap (m : Int)
theorem cv_i16_eq (m : Nat) : IntKind.i16.wrap (m : Int) = cv_i16 m := rfl

def cv_i32 (m : Nat) : Int := wrap32 (m : Int)
theorem cv_i32_eq (m : Nat) : wrap32 (m : Int) = cv_i32 m := rfl

def cv_i64 (m : Nat) : Int := wrap64 (m : Int)
theorem cv_i64_eq (m : Nat) : wrap64 (m : Int) = cv_i64 m := rfl

def cv_u8 (m : Nat) : Int := (m : Int) % 256
theorem cv_u8_eq (m : Nat) : (m : Int) % 256 = cv_u8 m := rfl

def cv_u16 (m : Nat) : Int := IntKind.u16.wrap (m : Int)
theorem cv_u16_eq (m : Nat) : IntKind.u16.wrap (m : Int) = cv_u16 m := rfl

def cv_u32 (m : Nat) : Int := (m : Int) % 4294967296
theorem cv_u32_eq (m : Nat) : (m : Int) % 4294967296 = cv_u32 m := rfl

end Go.Proofs.YtbghkodcfedebaaGreatDoor

/- Walks of the wire layer: a step of the law's script on a writer, and what it lays by the document. -/
namespace Go.Proofs.YtbghkodcfedebaaGreatDoor
open Go.RowKit Go.AB

/-- A step of a script. -/
structure AddD where
  kind : Int
  width : Int
  many : List Nat
  text : ByteArray
def laidB (a : AddD) : List UInt8 :=
  if a.kind = 1 then a.many.flatMap (fixedB (sizeI a.width))
  else if a.kind = 2 then a.many.flatMap shortB
  else if a.kind = 3 then a.many.flatMap fun m => shortB (zig (cv_i64 m))
  else if a.kind = 4 then [if 0 < a.many.length then 1 else 0]
  else if a.kind = 5 then shortB a.text.size ++ a.text.data.toList
  else []

theorem map_view {w : World} {v : Value} {n : Nat} {xs : List Nat} {f g : Nat → Value} (h : View w 1 v n (xs.map f)) (he : ∀ x ∈ xs, f x = g x) : View w 1 v n (xs.map g) := by
  rwa [List.map_congr_left he] at h
theorem flat_congr {α : Type} (xs : List α) (f g : α → List UInt8) (he : ∀ x ∈ xs, f x = g x) : xs.flatMap f = xs.flatMap g := by
  induction xs with
  | nil => rfl
  | cons x xs ih => rw [List.flatMap_cons, List.flatMap_cons, he x (by simp), ih fun y hy => he y (by simp [hy])]

theorem cv_i64_I64 (m : Nat) : I64 (cv_i64 m) := by
  unfold I64 cv_i64
  have := IntKind.wrap_i64 (m : Int)
  simp only [wrap64]
  omega

theorem low_i8 (m : Nat) : lowU (cv_i8 m) % 256 ^ 1 = m % 256 ^ 1 := by
  show lowU (cv_i8 m) % 256 = m % 256
  have : cv_i8 m % 256 = (m : Int) % 256 := by unfold cv_i8; simp only [IntKind.wrap, IntKind.bits, IntKind.signed]; simp; split <;> omega
  unfold lowU; omega
theorem low_i16 (m : Nat) : lowU (cv_i16 m) % 256 ^ 2 = m % 256 ^ 2 := by
  show lowU (cv_i16 m) % 65536 = m % 65536
  have : cv_i16 m % 65536 = (m : Int) % 65536 := by unfold cv_i16; simp only [IntKind.wrap, IntKind.bits, IntKind.signed]; simp; split <;> omega
  unfold lowU; omega
theorem low_i32 (m : Nat) : lowU (cv_i32 m) % 256 ^ 4 = m % 256 ^ 4 := by
  show lowU (cv_i32 m) % 4294967296 = m % 4294967296
  have : cv_i32 m % 4294967296 = (m : Int) % 4294967296 := by unfold cv_i32 wrap32; omega
  unfold lowU; omega
theorem low_i64 (m : Nat) : lowU (cv_i64 m) % 256 ^ 8 = m % 256 ^ 8 := by
  show lowU (cv_i64 m) % 18446744073709551616 = m % 18446744073709551616
  have : cv_i64 m % 18446744073709551616 = (m : Int) % 18446744073709551616 := by unfold cv_i64 wrap64; omega
  unfold lowU; omega

theorem lawput_apart {T U : Nat} {w : World} {b : Nat} {r : Option Nat} {l : List UInt8} {ao0 : Option Addr} {cap0 : Nat} (hW : Wr T U w b r l ao0 cap0) (u : Value) (hu : ∀ g, u.ownBlock = some g → w.heap.size ≤ g) : ∀ g, u.ownBlock = some g → g ≠ b ∧ r ≠ some g := fun g hg => by
  have h1 := hu g hg
  have hlt := blk_lt hW.blk
  exact ⟨by omega, fun e => by have := hW.row.lt g e; omega⟩

section
variable (xs : List Nat) (hxs : ∀ m ∈ xs, U64 m) (v : Value) (w : World) (b : Nat) (r : Option Nat) (l : List UInt8) (ao0 : Option Addr) (cap0 : Nat) (hW : Wr 84 5 w b r l ao0 cap0) (hl : l.length ≤ 549755813888)
    (hv : View w 1 v xs.length (xs.map cU)) (hvb : 0 < xs.length → ∀ g, v.ownBlock = some g → g ≠ b ∧ r ≠ some g) (hn : xs.length ≤ 34359738000)
include hW hl hv hn
include hxs hvb
end

end Go.Proofs.YtbghkodcfedebaaGreatDoor

/- Walks of the wire layer: a step of the law's script on a writer. -/
namespace Go.Proofs.YtbghkodcfedebaaGreatDoor
open Go.RowKit Go.AB

/-- A step's value, its numbers in the slice v. -/
def addV (a : AddD) (v : Value) : Value := .agg #[.int .i64 a.kind, .int .i64 a.width, v, .string a.text]

section
variable (a : AddD) (ha : ∀ m ∈ a.many, U64 m) (v : Value) (w : World) (b : Nat) (r : Option Nat) (l : List UInt8) (ao0 : Option Addr) (cap0 : Nat) (hW : Wr 84 5 w b r l ao0 cap0) (hl : l.length ≤ 274877906944)
    (hv : View w 1 v a.many.length (a.many.map cU)) (hvb : 0 < a.many.length → ∀ g, v.ownBlock = some g → g ≠ b ∧ r ≠ some g) (hn : a.many.length ≤ 34359738000) (ht : a.text.size ≤ 274877906944)
include ha hW hl hv hvb hn ht

end
end Go.Proofs.YtbghkodcfedebaaGreatDoor

/- From the form of the rows to plain data: what the arguments are, what a law's end must show. -/
set_option linter.unusedSimpArgs false
set_option linter.unusedVariables false
set_option linter.unusedSectionVars false
namespace Go.Proofs.YtbghkodcfedebaaGreatDoor
open Go.RowKit Go.AB Go.ChangeShapes Go.WideShapes Go.ChangeAt

theorem own : ownKnob Tryz.prog.godebug = none := by kernel_rfl
theorem laidOut : laidOutB Tryz.prog = true := by kernel_rfl

theorem one_le {H : Type} (d : DataW H) : 1 ≤ Rows.uptoBulk d := by
  cases d with
  | lit l => cases l <;> simp [Rows.uptoBulk]
  | nil => simp [Rows.uptoBulk]
  | ptr d => simp [Rows.uptoBulk]
  | slice elems spare => simp [Rows.uptoBulk]
  | agg parts => simp [Rows.uptoBulk]
  | iface t d => simp [Rows.uptoBulk]
  | map entries => simp [Rows.uptoBulk]
  | held h => simp [Rows.uptoBulk]
theorem bulk_append {H : Type} (l r : List (DataW H)) : Rows.uptoBulkAll (l ++ r) = Rows.uptoBulkAll l + Rows.uptoBulkAll r := by
  induction l with
  | nil => simp [Rows.uptoBulkAll]
  | cons x l ih => simp only [List.cons_append, Rows.uptoBulkAll, ih]; omega

/-- ARGS at the end: each argument reads as it did. -/
theorem trodAll_below {H : Type} {enc : TypeId × Value → H} {P : Program} (hl : laidOutB P = true) {W W' : World} (hb : Below W.heap.size W W') :
    ∀ (ts : List TypeId) (vs : List Value) (ds : List (DataW H)) (ps : List MemPlace), (∀ t ∈ ts, P.readableRec t = true ∧ t < P.types.size) → DataW.TrodAll enc P W 0 (fun _ => true) true ts vs ds ps → (∀ x ∈ ps, x.block < W.heap.size) →
      DataW.TrodAll enc P W' 0 (fun b => decide (b < W.heap.size)) true ts vs ds ps
  | [], [], [], _, _, h, _ => h
  | t :: ts, v :: vs, d :: ds, ps, hr, h, hlt => by
    obtain ⟨p, q, h1, h2, rfl⟩ := h
    have ht := hr t (by simp)
    exact ⟨p, q, Below.trod hl ht.1 ht.2 h1 hb (fun x hx => hlt x (by simp [hx])), trodAll_below hl hb ts vs ds q (fun t' h' => hr t' (by simp [h'])) h2 (fun x hx => hlt x (by simp [hx])), rfl⟩
  | [], [], _ :: _, _, _, h, _ => h.elim
  | [], _ :: _, _, _, _, h, _ => h.elim
  | _ :: _, [], _, _, _, h, _ => h.elim
  | _ :: _, _ :: _, [], _, _, h, _ => h.elim

/-- A law's end: it answered true, and what was there when the call began is as it was. -/
theorem law_post {H : Type} {enc : TypeId × Value → H} {P : Program} (hl : laidOutB P = true) {f : Func} {s : ChangeSpec} (hv : s.vars = []) {tb : TypeId} (hrt : f.resultTypes = #[tb]) (htb : P.underlying tb = some .bool)
    (hr : ∀ t ∈ f.params.toList, P.readableRec t = true ∧ t < P.types.size) {W W' : World} {args : Array Value} {ds gs : List (DataW H)} {before : List MemPlace}
    (hW : DataW.Whole enc P f.params.toList s.vars false W args.toList ds gs before) (hfn : s.fn H (ds ++ gs) = { results := [.lit (.bool true)], args := ds }) (hb : Below W.heap.size W W') :
    s.post enc P f false true false false W args (.bool true) W' := by
  have hW' := hW
  obtain ⟨p, q, hA, hV, rfl, hfz, hnd⟩ := hW
  have hV' := hV
  rw [hv] at hV'
  obtain ⟨rfl, rfl⟩ := trodVars_none hV'
  refine ⟨ds, [], p ++ [], [], p, [], hW', ?_, ?_, ?_, hb.frame _, fun h => by cases h⟩
  · rw [hfn, hrt]
    exact trodAll_mk1 (shut_bool htb _)
  · rw [hfn]
    exact trodAll_below hl hb _ _ _ _ hr hA (fun x hx => by simpa using hW'.lt x (by simp [hx]))
  · rw [hfn, hv]
    exact rfl

/-- How a type's cells read as data of Lean's own: R, and what the reading weighs at least. -/
def Opens {α : Type} (w : World) (t k : Nat) (R : α → List Value → Prop) (sz : α → Nat) : Prop :=
  ∀ (H : Type) (enc : TypeId × Value → H) (base : Nat) (spare : Nat → Bool) (held : Bool) (fuel : Nat) (cs : List Value) (x : DataW H × List MemPlace),
    DataW.trod enc Tryz.prog w base spare held fuel t cs = some x → cs.length = k ∧ ∃ a, R a cs ∧ sz a ≤ Rows.uptoBulk x.1

theorem opens_int {w : World} {t : Nat} {k : IntKind} (ht : Tryz.prog.underlying t = some (.int k)) : Opens w t 1 (fun (n : Int) cs => cs = [.int k n] ∧ (Lit.int k n).wf = true) (fun _ => 1) := by
  intro H enc base spare held fuel cs x h
  obtain ⟨n, rfl, rfl, hw⟩ := DataW.trod_int ht h
  exact ⟨rfl, n, ⟨rfl, hw⟩, one_le _⟩
theorem opens_string {w : World} {t : Nat} (ht : Tryz.prog.underlying t = some .string) : Opens w t 1 (fun (s : ByteArray) cs => cs = [.string s]) (fun s => s.size + 1) := by
  intro H enc base spare held fuel cs x h
  obtain ⟨s, rfl, rfl, hw⟩ := DataW.trod_string ht h
  refine ⟨rfl, s, rfl, ?_⟩
  simp [Rows.uptoBulk]
theorem Opens.imp {α : Type} {w : World} {t k : Nat} {R R' : α → List Value → Prop} {sz : α → Nat} (h : Opens w t k R sz) (hi : ∀ a cs, R a cs → R' a cs) : Opens w t k R' sz := by
  intro H enc base spare held fuel cs x hx
  obtain ⟨h1, a, h2, h3⟩ := h H enc base spare held fuel cs x hx
  exact ⟨h1, a, hi _ _ h2, h3⟩

/-- A slice that is read, element by element. -/
structure VL {α : Type} (w : World) (k : Nat) (R : α → List Value → Prop) (v : Value) (xs : List α) : Prop where
  ex : ∃ css : List (List Value), View w k v xs.length css.flatten ∧ css.length = xs.length ∧ ∀ i (hi : i < xs.length) (hi' : i < css.length), css[i].length = k ∧ R xs[i] css[i]

theorem exists_list {α : Type} {n : Nat} {Q : Nat → α → Prop} (h : ∀ i, i < n → ∃ a, Q i a) : ∃ xs : List α, xs.length = n ∧ ∀ i (hi : i < xs.length), Q i xs[i] := by
  refine ⟨List.ofFn fun i : Fin n => Classical.choose (h i i.2), by simp, fun i hi => ?_⟩
  rw [List.getElem_ofFn]
  exact Classical.choose_spec (h i (by simpa using hi))
theorem bulk_sum {H : Type} (l : List (DataW H)) : Rows.uptoBulkAll l = (l.map Rows.uptoBulk).sum := by
  induction l with
  | nil => simp [Rows.uptoBulkAll]
  | cons x l ih => simp [Rows.uptoBulkAll, ih]
theorem sum_le_sum {α β : Type} (f : α → Nat) (g : β → Nat) : ∀ (xs : List α) (ys : List β), xs.length = ys.length → (∀ i (h1 : i < xs.length) (h2 : i < ys.length), f xs[i] ≤ g ys[i]) → (xs.map f).sum ≤ (ys.map g).sum
  | [], _, _, _ => by simp
  | x :: xs, [], h, _ => by simp at h
  | x :: xs, y :: ys, h, hi => by
    have h0 := hi 0 (by simp) (by simp)
    have h1 := sum_le_sum f g xs ys (by simpa using h) (fun i h1 h2 => hi (i + 1) (by simpa using h1) (by simpa using h2))
    simp only [List.map_cons, List.sum_cons]
    simp only [List.getElem_cons_zero] at h0
    omega
theorem flat_get {k : Nat} : ∀ (css : List (List Value)), (∀ i (h : i < css.length), css[i].length = k) → css.flatten.length = css.length * k ∧ ∀ i j (hi : i < css.length), j < k → css.flatten.getD (i * k + j) undef = css[i].getD j undef
  | [], _ => ⟨by simp, fun i j hi => by simp at hi⟩
  | c :: css, h => by
    have hc : c.length = k := h 0 (by simp)
    obtain ⟨h1, h2⟩ := flat_get css (fun i hi => h (i + 1) (by simpa using hi))
    refine ⟨by simp [h1, hc, Nat.succ_mul]; omega, fun i j hi hj => ?_⟩
    cases i with
    | zero => simp [List.getD, List.getElem?_append_left (show j < c.length by omega)]
    | succ i =>
      have := h2 i j (by simpa using hi) hj
      simp only [List.flatten_cons, List.getElem_cons_succ]
      rw [← this, Nat.succ_mul]
      simp only [List.getD]
      rw [List.getElem?_append_right (by omega)]
      congr 2
      omega

theorem opens_slice {α : Type} {w : World} {t e k : Nat} {R : α → List Value → Prop} {sz : α → Nat} (ht : Tryz.prog.underlying t = some (.slice e)) (hk : Tryz.prog.cellsOf e = k) (he : Opens w e k R sz) :
    Opens w t 1 (fun (xs : List α) cs => ∃ v, cs = [v] ∧ VL w k R v xs) (fun xs => (xs.map sz).sum + 1) := by
  intro H enc base spare held fuel cs x h
  rcases DataW.trod_slice ht h with ⟨rfl, rfl⟩ | ⟨a, len, cap, elems, rest, n, _, rfl, rfl, hb, hl, hm, hlen, hel, _, _⟩
  · refine ⟨rfl, [], ⟨_, rfl, ⟨[], ⟨by simp, by simp, none, 0, rfl, Nat.le_refl _, by simp, (fun _ => ⟨rfl, rfl⟩), fun h => by simp at h⟩, rfl, fun i hi => by simp at hi⟩⟩, by simp [Rows.uptoBulk]⟩
  · rw [hk] at hel
    have each : ∀ i, i < len → ∃ p : List Value × α, w.cells? base (a.add (i * k)) k = some p.1 ∧ p.1.length = k ∧ R p.2 p.1 ∧ sz p.2 ≤ Rows.uptoBulk ((elems.map (·.1)).getD i .nil) := by
      intro i hi
      have h1 := hel i hi
      rw [List.getElem?_eq_getElem (by omega), Option.bind_eq_some_iff] at h1
      obtain ⟨c, hc, hx⟩ := h1
      obtain ⟨h2, y, h3, h4⟩ := he H enc base spare held n c _ hx
      exact ⟨(c, y), hc, h2, h3, by simpa [List.getD, hlen, hi] using h4⟩
    obtain ⟨ps, hpl, hps⟩ := exists_list each
    refine ⟨rfl, ps.map (·.2), ⟨_, rfl, ⟨ps.map (·.1), ?_, by simp, ?_⟩⟩, ?_⟩
    · have hfl := flat_get (k := k) (ps.map (·.1)) (fun i hi => by simpa using (hps i (by simpa using hi)).2.1)
      refine ⟨by rw [hfl.1]; simp, by simp; omega, some a, cap, by simp [hpl], by simp [hpl]; exact hl, hm, (fun h => by cases h), fun h0 => ?_⟩
      have hk0 : 0 < k := by rcases Nat.eq_zero_or_pos k with h | h; subst h; simp at h0; exact h
      have hp0 : 0 < ps.length := by rcases Nat.eq_zero_or_pos ps.length with h | h; simp [h] at h0; exact h
      have hspot : a.spot = none := by
        have h1 := (World.cells?_some (hps 0 hp0).1).2.2 0 hk0
        have h2 := (hps 0 hp0).2.1
        rw [List.getElem?_eq_getElem (by omega)] at h1
        simp only [Nat.zero_mul, Addr.add, if_true] at h1
        unfold World.cell? at h1
        cases hs : a.spot with
        | none => rfl
        | some _ => split at h1 <;> simp [hs] at h1
      obtain ⟨b, off, spot⟩ := a
      simp only at hspot
      subst hspot
      refine ⟨b, off, rfl, fun j hj => ?_⟩
      have hj' : j < ps.length * k := by simpa using hj
      have hq : j / k < ps.length := Nat.div_lt_of_lt_mul (by rwa [Nat.mul_comm])
      have hr : j % k < k := Nat.mod_lt _ hk0
      have hdm : j / k * k + j % k = j := by rw [Nat.mul_comm]; exact Nat.div_add_mod j k
      have h1 := (World.cells?_some (hps (j / k) hq).1).2.2 (j % k) hr
      rw [Addr.add_lit, Addr.add_lit, Nat.add_assoc, hdm] at h1
      rw [h1]
      have h2 := hfl.2 (j / k) (j % k) (by simpa using hq) hr
      rw [hdm] at h2
      rw [h2]
      simp only [List.getElem_map, List.getD]
      rw [List.getElem?_eq_getElem (by have := (hps (j / k) hq).2.1; omega)]
      rfl
    · intro i hi hi'
      have := hps i (by simpa using hi')
      simpa using ⟨this.2.1, this.2.2.1⟩
    · simp only [Rows.uptoBulk]
      have : (List.map sz (ps.map (·.2))).sum ≤ Rows.uptoBulkAll (elems.map (·.1)) := by
        rw [bulk_sum]
        refine sum_le_sum sz Rows.uptoBulk _ _ (by simp; omega) (fun i h1 h2 => ?_)
        have h3 := (hps i (by simpa using h1)).2.2.2
        simp only [List.getElem_map] at h3 ⊢
        simpa [List.getD, show i < elems.length by simpa using h2] using h3
      omega
theorem four {α : Type} (l : List α) (h : l.length = 4) : ∃ a b c d, l = [a, b, c, d] := by
  match l, h with
  | [a, b, c, d], _ => exact ⟨a, b, c, d, rfl⟩
/-- A struct of four fields of one cell each. -/
theorem opens_struct4 {α β γ δ : Type} {w : World} {t : Nat} {f0 f1 f2 f3 : Field} (ht : Tryz.prog.underlying t = some (.struct #[f0, f1, f2, f3])) (hc : Tryz.prog.cellsOf t = 4)
    (o0 : (f0.offset, Tryz.prog.cellsOf f0.type) = (0, 1)) (o1 : (f1.offset, Tryz.prog.cellsOf f1.type) = (1, 1)) (o2 : (f2.offset, Tryz.prog.cellsOf f2.type) = (2, 1)) (o3 : (f3.offset, Tryz.prog.cellsOf f3.type) = (3, 1))
    {R0 : α → List Value → Prop} {R1 : β → List Value → Prop} {R2 : γ → List Value → Prop} {R3 : δ → List Value → Prop} {s0 : α → Nat} {s1 : β → Nat} {s2 : γ → Nat} {s3 : δ → Nat}
    (h0 : Opens w f0.type 1 R0 s0) (h1 : Opens w f1.type 1 R1 s1) (h2 : Opens w f2.type 1 R2 s2) (h3 : Opens w f3.type 1 R3 s3) :
    Opens w t 4 (fun (p : α × β × γ × δ) cs => ∃ c0 c1 c2 c3, cs = [c0, c1, c2, c3] ∧ R0 p.1 [c0] ∧ R1 p.2.1 [c1] ∧ R2 p.2.2.1 [c2] ∧ R3 p.2.2.2 [c3]) (fun p => s0 p.1 + s1 p.2.1 + s2 p.2.2.1 + s3 p.2.2.2 + 1) := by
  intro H enc base spare held fuel cs x h
  obtain ⟨xs, n, _, rfl, hl, hxl, hx⟩ := DataW.trod_struct ht h
  rw [hc] at hl
  simp only [Prod.mk.injEq] at o0 o1 o2 o3
  obtain ⟨c0, c1, c2, c3, rfl⟩ := four cs hl
  obtain ⟨x0, x1, x2, x3, rfl⟩ := four xs (by simpa using hxl)
  have e0 := hx 0 f0 rfl
  have e1 := hx 1 f1 rfl
  have e2 := hx 2 f2 rfl
  have e3 := hx 3 f3 rfl
  rw [o0.1, o0.2] at e0
  rw [o1.1, o1.2] at e1
  rw [o2.1, o2.2] at e2
  rw [o3.1, o3.2] at e3
  obtain ⟨_, a0, r0, b0⟩ := h0 H enc base spare held n [c0] x0 e0
  obtain ⟨_, a1, r1, b1⟩ := h1 H enc base spare held n [c1] x1 e1
  obtain ⟨_, a2, r2, b2⟩ := h2 H enc base spare held n [c2] x2 e2
  obtain ⟨_, a3, r3, b3⟩ := h3 H enc base spare held n [c3] x3 e3
  refine ⟨rfl, (a0, a1, a2, a3), ⟨c0, c1, c2, c3, rfl, r0, r1, r2, r3⟩, ?_⟩
  simp only [List.map_cons, List.map_nil, Rows.uptoBulk, Rows.uptoBulkAll]
  omega
/-- One argument, out of the reading of all. -/
theorem opens_arg {α : Type} {w : World} {t k : Nat} {R : α → List Value → Prop} {sz : α → Nat} (ho : Opens w t k R sz) {H : Type} {enc : TypeId × Value → H} {v : Value} {d : DataW H} {p : List MemPlace} (h : DataW.Trod enc Tryz.prog w 0 (fun _ => true) true t v d p) :
    ∃ a, R a v.cells.toList ∧ sz a ≤ Rows.uptoBulk d := by
  obtain ⟨fuel, hf⟩ := h
  obtain ⟨_, a, h1, h2⟩ := ho H enc _ _ _ fuel _ (d, p) hf
  exact ⟨a, h1, h2⟩
end Go.Proofs.YtbghkodcfedebaaGreatDoor

/- From the form of the rows to plain data, for the laws of the wire layer: bytes, and the small facts that each law's frame wants. -/
namespace Go.Proofs.YtbghkodcfedebaaGreatDoor
open Go.RowKit Go.AB Go.ChangeShapes Go.WideShapes Go.ChangeAt

theorem small_bound {H : Type} {l : List (DataW H)} (hk : Rows.uptoSmall H l = true) : Rows.uptoBulkAll l ≤ 1048576 := of_decide_eq_true hk

theorem sum_ge {α : Type} (f : α → Nat) (xs : List α) (h : ∀ x, 1 ≤ f x) : xs.length ≤ (xs.map f).sum := by
  induction xs with
  | nil => simp
  | cons x xs ih => have := h x; simp only [List.map_cons, List.sum_cons, List.length_cons]; omega
theorem cells_uint8 : Tryz.prog.cellsOf 5 = 1 := by kernel_rfl
theorem opens_bytes (w : World) : Opens w 34 1 (fun (l : List UInt8) cs => ∃ v, cs = [v] ∧ Bytes w v l) (fun l => l.length + 1) := by
  intro H enc base spare held fuel cs x h
  obtain ⟨h1, xs, ⟨v, rfl, ⟨css, hv, hl, he⟩⟩, h3⟩ := opens_slice Tryz.underlying34 cells_uint8 (opens_int Tryz.underlying5) H enc base spare held fuel cs x h
  refine ⟨h1, xs.map fun n => UInt8.ofNat n.toNat, ⟨v, rfl, ?_⟩, ?_⟩
  · have hfl : css.flatten = (xs.map fun n => UInt8.ofNat n.toNat).map B := by
      apply List.ext_getElem
      · have := (flat_get (k := 1) css (fun i hi => (he i (by omega) hi).1)).1
        rw [this]; simp [hl]
      · intro i h4 h5
        have hi : i < xs.length := by simpa using h5
        have hc := (he i hi (by omega)).2
        have hfg := (flat_get (k := 1) css (fun i hi => (he i (by omega) hi).1)).2 i 0 (by omega) (by omega)
        simp only [Nat.mul_one, Nat.add_zero] at hfg
        rw [hc.1] at hfg
        have hw := hc.2
        have hx : 0 ≤ xs[i] ∧ xs[i] ≤ 255 := by simpa [Lit.wf, IntKind.min, IntKind.max, IntKind.signed, IntKind.bits] using hw
        simp only [List.getD, List.getElem?_eq_getElem h4, Option.getD_some, List.getElem?_cons_zero] at hfg
        rw [hfg]
        simp only [List.getElem_map, B]
        congr 1
        simp
        omega
    have hn : (xs.map fun n => UInt8.ofNat n.toNat).length = xs.length := by simp
    unfold Bytes
    rw [hn, ← hfl]
    exact hv
  · have h4 := sum_ge (fun _ : Int => 1) xs (fun _ => by decide)
    have h5 : (xs.map (fun _ : Int => 1)).sum + 1 ≤ Rows.uptoBulk x.1 := h3
    simp only [List.length_map]
    omega
theorem wf_i64 {n : Int} (h : (Lit.int .i64 n).wf = true) : I64 n := by
  have h2 : -9223372036854775808 ≤ n ∧ n ≤ 9223372036854775807 := by simpa [Lit.wf, IntKind.min, IntKind.max, IntKind.signed, IntKind.bits] using h
  exact h2
theorem wf_u64 {n : Int} (h : (Lit.int .u64 n).wf = true) : 0 ≤ n ∧ n < 18446744073709551616 := by
  have h2 : 0 ≤ n ∧ n ≤ 18446744073709551615 := by simpa [Lit.wf, IntKind.min, IntKind.max, IntKind.signed, IntKind.bits] using h
  exact ⟨h2.1, by omega⟩
theorem cells_one {v : Value} {c : Value} {a : Option Addr} {n cap : Nat} (hv : v = .slice a n cap) (h : v.cells.toList = [c]) : c = v := by
  subst hv
  simpa [Value.cells] using h.symm
end Go.Proofs.YtbghkodcfedebaaGreatDoor

/- The law's scripts of adds, al they come in; what they lay is not long. -/
namespace Go.Proofs.YtbghkodcfedebaaGreatDoor
open Go.RowKit Go.AB

theorem View.own_lt {w : World} {k n : Nat} {v : Value} {xs : List Value} (h : View w k v n xs) (h0 : 0 < n * k) : ∀ g, v.ownBlock = some g → g < w.heap.size := by
  obtain ⟨_, _, ao, cap, rfl, _, _, _, hc⟩ := h
  obtain ⟨b, off, rfl, hcell⟩ := hc h0
  intro g hg
  simp only [Value.ownBlock, Option.some.injEq] at hg
  subst hg
  exact World.block_lt_of_cell? w _ (hcell 0 h0)

theorem Opens.map {α β : Type} {w : World} {t k : Nat} {R : α → List Value → Prop} {R' : β → List Value → Prop} {sz : α → Nat} {sz' : β → Nat} (f : α → β) (h : Opens w t k R sz) (hi : ∀ a cs, R a cs → R' (f a) cs ∧ sz' (f a) ≤ sz a) : Opens w t k R' sz' := by
  intro H enc base spare held fuel cs x hx
  obtain ⟨h1, a, h2, h3⟩ := h H enc base spare held fuel cs x hx
  exact ⟨h1, f a, (hi a cs h2).1, Nat.le_trans (hi a cs h2).2 h3⟩

def addR (W : World) (a : AddD) (cs : List Value) : Prop :=
  ∃ v, cs = [.int .i64 a.kind, .int .i64 a.width, v, .string a.text] ∧ View W 1 v a.many.length (a.many.map cU) ∧ ∀ m ∈ a.many, U64 m
def addSz (a : AddD) : Nat := a.many.length + a.text.size + 2

theorem opens_u64s (w : World) : Opens w 127 1 (fun (l : List Nat) cs => ∃ v, cs = [v] ∧ View w 1 v l.length (l.map cU) ∧ ∀ m ∈ l, U64 m) (fun l => l.length) := by
  intro H enc base spare held fuel cs x h
  obtain ⟨h1, xs, ⟨v, rfl, ⟨css, hv, hl, he⟩⟩, h3⟩ := opens_slice Tryz.underlying127 (by kernel_rfl) (opens_int Tryz.underlying86) H enc base spare held fuel cs x h
  have hx : ∀ i (hi : i < xs.length), 0 ≤ xs[i] ∧ xs[i] < 18446744073709551616 := fun i hi => wf_u64 (he i hi (by omega)).2.2
  refine ⟨h1, xs.map Int.toNat, ⟨v, rfl, ?_, ?_⟩, ?_⟩
  · have hfl : css.flatten = (xs.map Int.toNat).map cU := by
      apply List.ext_getElem
      · have := (flat_get (k := 1) css (fun i hi => (he i (by omega) hi).1)).1
        rw [this]; simp [hl]
      · intro i h4 h5
        have hi : i < xs.length := by simpa using h5
        have hc := (he i hi (by omega)).2
        have hfg := (flat_get (k := 1) css (fun i hi => (he i (by omega) hi).1)).2 i 0 (by omega) (by omega)
        simp only [Nat.mul_one, Nat.add_zero] at hfg
        rw [hc.1] at hfg
        have hxi := hx i hi
        simp only [List.getD, List.getElem?_eq_getElem h4, Option.getD_some, List.getElem?_cons_zero] at hfg
        rw [hfg]
        simp only [List.getElem_map, cU]
        congr 1
        omega
    rw [List.length_map, ← hfl]
    exact hv
  · intro m hm
    obtain ⟨n, hn, rfl⟩ := List.mem_map.1 hm
    obtain ⟨i, hi, rfl⟩ := List.mem_iff_getElem.1 hn
    have := hx i hi
    unfold U64; omega
  · have h4 := sum_ge (fun _ : Int => 1) xs (fun _ => by decide)
    have h5 : (xs.map (fun _ : Int => 1)).sum + 1 ≤ Rows.uptoBulk x.1 := h3
    simp only [List.length_map]
    omega
theorem fixedI_len (k : Int) (m : Nat) : (fixedB (sizeI k) m).length ≤ 10 := by
  rw [fixedB_length]
  unfold sizeI
  split
  · rename_i h
    obtain ⟨q, rfl⟩ := Int.eq_ofNat_of_zero_le h.1
    match q, h with
    | 0, _ | 1, _ | 2, _ | 3, _ | 4, _ | 5, _ | 6, _ | 7, _ => decide
    | q + 8, h => omega
  · decide
theorem laidB_len (a : AddD) (ha : ∀ m ∈ a.many, U64 m) (ht : a.text.size < 18446744073709551616) : (laidB a).length ≤ 10 * addSz a := by
  unfold laidB addSz
  split
  · have := flat_len_le 10 a.many (fixedB (sizeI a.width)) (fun m _ => fixedI_len _ m); omega
  split
  · have := flat_len_le 10 a.many shortB (fun m hm => shortB_len10 (ha m hm)); omega
  split
  · have := flat_len_le 10 a.many (fun m => shortB (zig (cv_i64 m))) (fun m _ => shortB_len10 (zig_U64 (cv_i64_I64 m))); omega
  split
  · simp; omega
  split
  · have h1 := shortB_len10 (v := a.text.size) ht
    have h2 : a.text.data.toList.length = a.text.size := by rw [Array.length_toList]; rfl
    rw [List.length_append]; omega
  · simp
theorem laidAll_len (al : List AddD) (ha : ∀ a ∈ al, (∀ m ∈ a.many, U64 m) ∧ a.text.size < 18446744073709551616) : (al.flatMap laidB).length ≤ 10 * (al.map addSz).sum := by
  induction al with
  | nil => simp
  | cons a al ih =>
    have h1 := laidB_len a (ha a (by simp)).1 (ha a (by simp)).2
    have h2 := ih fun b hb => ha b (by simp [hb])
    rw [List.flatMap_cons, List.length_append, List.map_cons, List.sum_cons]; omega
theorem mem_sum_le {α : Type} (f : α → Nat) {xs : List α} {x : α} (h : x ∈ xs) : f x ≤ (xs.map f).sum := by
  induction xs with
  | nil => cases h
  | cons y ys ih =>
    simp only [List.map_cons, List.sum_cons]
    cases List.mem_cons.1 h with
    | inl e => subst e; omega
    | inr e => have := ih e; omega

/-- What a round asks of the script: the k-th step's value where it stands, in whatever world has but new blocks more. -/
theorem add_at {W : World} {v : Value} {al : List AddD} (h : VL W 4 (addR W) v al) {ao : Option Addr} {cap : Nat} (hv : v = .slice ao al.length cap) {k : Nat} (hk : k < al.length) :
    ∃ b off u, ao = some ⟨b, off, none⟩ ∧ View W 1 u al[k].many.length (al[k].many.map cU) ∧ (∀ m ∈ al[k].many, U64 m) ∧ ∀ W', Below W.heap.size W W' →
      W'.cell? ⟨b, off + k * 4, none⟩ = some (.int .i64 al[k].kind) ∧ W'.cell? ⟨b, off + k * 4 + 1, none⟩ = some (.int .i64 al[k].width) ∧ W'.cell? ⟨b, off + k * 4 + 2, none⟩ = some u ∧ W'.cell? ⟨b, off + k * 4 + 3, none⟩ = some (.string al[k].text) := by
  obtain ⟨css, ⟨hfl, _, ao', cap', hv', _, _, _, hcells⟩, hcl, hcs⟩ := h
  rw [hv] at hv'
  simp only [Value.slice.injEq, true_and] at hv'
  obtain ⟨rfl, rfl⟩ := hv'
  obtain ⟨b, off, rfl, hcell⟩ := hcells (by omega)
  obtain ⟨hc4, u, hu, hview, hm⟩ := hcs k hk (by omega)
  have hfg := (flat_get (k := 4) css (fun i hi => (hcs i (by omega) hi).1)).2 k
  refine ⟨b, off, u, rfl, hview, hm, fun W' hb => ?_⟩
  have cj : ∀ j, j < 4 → W'.cell? ⟨b, off + k * 4 + j, none⟩ = some (css[k].getD j undef) := fun j hj => by
    have h1 := hcell (k * 4 + j) (by omega)
    rw [← hfg j (by omega) hj, Nat.add_assoc]
    exact (hb.cell (World.block_lt_of_cell? W _ h1)).trans h1
  rw [hu] at cj
  exact ⟨cj 0 (by omega), cj 1 (by omega), cj 2 (by omega), cj 3 (by omega)⟩
end Go.Proofs.YtbghkodcfedebaaGreatDoor
