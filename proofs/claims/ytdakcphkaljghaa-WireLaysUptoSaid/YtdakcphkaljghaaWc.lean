/- Walks of the wire layer: numbers of fixed width laid. -/
import Derived.Test.YtdakcphkaljghaaWb
namespace Go.Proofs.Ytdakcphkaljghaa
open Go.RowKit Go.AB

set_option maxHeartbeats 1000000 in
set_option maxRecDepth 100000 in
theorem put_u8 (xs : List Nat) (hxs : ∀ m ∈ xs, m < 256) (v : Value) (w : World) (b : Nat) (r : Option Nat) (l : List UInt8) (ao0 : Option Addr) (cap0 : Nat) (hW : Wr 27 5 w b r l ao0 cap0) (hl : l.length ≤ 1099511627776)
    (hv : View w 1 v xs.length (xs.map (fun m : Nat => Value.int .u8 (m : Int)))) (hvb : 0 < xs.length → ∀ g, v.ownBlock = some g → g ≠ b ∧ r ≠ some g) (hn : xs.length ≤ 1099511627776) :
    Calls Try.prog 55 #[.pointer (some ⟨b, 0, none⟩), v] w (ShortPost 27 5 w b r (l ++ xs.flatMap (fun m => fixedB 1 m))) := by
  obtain ⟨_, _, ao, cap, rfl, _, _, _, hcells⟩ := hv
  go_enter Try.func55, Try.ntmps55
  go_wp2_with fail
  go_loopw [5, 6, 11] (fun _ _ i wr => ∃ k r1 ao1 cap1, k ≤ xs.length ∧ i = .int .i64 (k : Nat) ∧ Wr 27 5 wr b r1 (l ++ (xs.take k).flatMap (fun m => fixedB 1 m)) ao1 cap1 ∧ Chg (b :: r.toList) w wr ∧ Fresh w r r1)
    (fun _ _ i _ => xs.length - (intOf i).toNat)
  case atStart => exact ⟨0, r, ao0, cap0, by omega, rfl, by simpa using hW, Chg.refl _ _, Fresh.refl _ _⟩
  case round =>
    obtain ⟨k, r1, ao1, cap1, hk, rfl, hW1, hch, hfr⟩ := hrel
    by_cases hlt : k < xs.length
    · obtain ⟨bb, off, rfl, hc⟩ := hcells (by omega)
      have hbb := hvb (by omega) bb rfl
      have hck : wr.cell? ⟨bb, off + k, none⟩ = some (.int .u8 ((xs[k] : Nat) : Int)) := hch.cell ((hc k (by omega)).trans (by simp [List.getD, hlt])) (by simp; exact ⟨hbb.1, hbb.2⟩)
      have hxk := hxs xs[k] (List.getElem_mem hlt)
      have hu0 : U64 xs[k] := (Nat.lt_of_lt_of_le (hxs _ (List.getElem_mem hlt)) (by decide))
      have hll : (l ++ (xs.take k).flatMap (fun m => fixedB 1 m)).length ≤ 17592186044416 := by
        have := flat_fixed_len 1 (xs.take k) (fun m => fixedB 1 m) (fun _ => fixedB_length _ _)
        rw [List.length_append, this, List.length_take]; omega
      have hsn : l ++ (xs.take (k + 1)).flatMap (fun m => fixedB 1 m) = (l ++ (xs.take k).flatMap (fun m => fixedB 1 m)) ++ fixedB 1 xs[k] := by
        rw [take_snoc xs k hlt, List.flatMap_append, List.append_assoc]; simp
      have HS := hid hsn
      clear hc hcells hsn hxs
      obtain ⟨l1, hl1⟩ : ∃ l1, l ++ (xs.take k).flatMap (fun m => fixedB 1 m) = l1 := ⟨_, rfl⟩
      rw [hl1] at hW1 hll HS
      clear hl1
      go_wp2_with (go_at_call 62; refine (width_u8 _).mono ?_; rintro e w' ⟨rfl, rfl⟩)
      obtain ⟨wo, rfl⟩ : ∃ wo : World, wo = wr := ⟨_, rfl⟩
      clear hck
      go_loopw [6, 18] (fun x i wr => ∃ q u r2 l2 ao2 cap2, q ≤ 1 ∧ i = .int .i64 (q : Nat) ∧ x = .int .u64 (u : Nat) ∧ U64 u ∧ Wr 27 5 wr b r2 l2 ao2 cap2 ∧ l2 ++ fixedB (1 - q) u = l1 ++ fixedB 1 xs[k] ∧ Chg (b :: r.toList) w wr ∧ Fresh w r r2)
        (fun _ i _ => 1 - (intOf i).toNat)
      case atStart => exact ⟨0, xs[k], r1, l1, ao1, cap1, by omega, rfl, rfl, hu0, hW1, rfl, hch, hfr⟩
      case round =>
        obtain ⟨q, u, r2, l2, ao2, cap2, hq, rfl, rfl, hu, hW2, hl2, hch2, hfr2⟩ := hrel
        have hlen : l2.length ≤ 17592186044516 := by
          have := congrArg List.length hl2
          simp only [List.length_append, fixedB_length] at this
          omega
        have hc2 := hW2.cell
        have hrow := fun o => hW2.row.keep ((Chg.refl [] wr).alloc o) (by simp)
        have HLL := hid hl2
        clear hl2 hch hfr hW1
        by_cases hq8 : q < 1
        · go_wp2_with (at_builtin; refine wpList_app rfl _ _ 25 rfl elem_u8 rfl (hrow _) rfl (View.one _ _ _) (by simp [Value.oneCell']) (by unfold maxLen; omega) (by omega) (fun ao' cap' r' w2 hr2 hch3 hf2 _ => halt (fun X hX => ?_)))
          rw [hX.out]; clear hX
          obtain ⟨hcell, hfree⟩ := hW2.put_cell ((Chg.refl [] wr).alloc _) hch3
          go_wp2
          obtain ⟨p1, p2, p3⟩ := hW2.put (l' := l2 ++ [UInt8.ofNat u]) ((Chg.refl [] wr).alloc _) (by rw [List.map_append]; simpa [B] using hr2) hch3 hf2
          go_roundw
          case rel => exact ⟨q + 1, u / 256, r', _, ao', cap', by omega, by go_num, rfl, hu.div 256, p1, (by rw [List.append_assoc, ← HLL.out, show 1 - q = (1 - (q + 1)) + 1 from by omega]; rfl), hch2.trans p2 (fun x hx => by
            rcases List.mem_cons.1 hx with h1 | h1
            · exact .inl (by simp [h1])
            · exact (hfr2 x (by simpa using h1)).imp (fun h2 => by simp [h2]) id), hfr2.trans hch2.size p3⟩
          case measure => simp [intOf]; omega
        · go_wp2
          go_roundw
          case rel => exact ⟨k + 1, r2, ao2, cap2, by omega, by go_num, (by
            have hq' : 1 - q = 0 := by omega
            have := HLL.out
            rw [hq'] at this
            rw [show fixedB 0 u = [] from rfl, List.append_nil] at this
            rw [HS.out, ← this]; exact hW2), hch2, hfr2⟩
          case measure => simp [intOf]; omega
    · have he : xs.take k = xs := List.take_of_length_le (by omega)
      rw [he] at hW1
      clear hcells he
      go_wp2
      go_end0
      exact ⟨rfl, _, r1, ao1, cap1, hW1, hch, hfr, hid rfl⟩

set_option maxHeartbeats 1000000 in
set_option maxRecDepth 100000 in
theorem put_u16 (xs : List Nat) (hxs : ∀ m ∈ xs, m < 65536) (v : Value) (w : World) (b : Nat) (r : Option Nat) (l : List UInt8) (ao0 : Option Addr) (cap0 : Nat) (hW : Wr 27 5 w b r l ao0 cap0) (hl : l.length ≤ 1099511627776)
    (hv : View w 1 v xs.length (xs.map (fun m : Nat => Value.int .u16 (m : Int)))) (hvb : 0 < xs.length → ∀ g, v.ownBlock = some g → g ≠ b ∧ r ≠ some g) (hn : xs.length ≤ 1099511627776) :
    Calls Try.prog 81 #[.pointer (some ⟨b, 0, none⟩), v] w (ShortPost 27 5 w b r (l ++ xs.flatMap (fun m => fixedB 2 m))) := by
  obtain ⟨_, _, ao, cap, rfl, _, _, _, hcells⟩ := hv
  go_enter Try.func81, Try.ntmps81
  go_wp2_with fail
  go_loopw [5, 6, 11] (fun _ _ i wr => ∃ k r1 ao1 cap1, k ≤ xs.length ∧ i = .int .i64 (k : Nat) ∧ Wr 27 5 wr b r1 (l ++ (xs.take k).flatMap (fun m => fixedB 2 m)) ao1 cap1 ∧ Chg (b :: r.toList) w wr ∧ Fresh w r r1)
    (fun _ _ i _ => xs.length - (intOf i).toNat)
  case atStart => exact ⟨0, r, ao0, cap0, by omega, rfl, by simpa using hW, Chg.refl _ _, Fresh.refl _ _⟩
  case round =>
    obtain ⟨k, r1, ao1, cap1, hk, rfl, hW1, hch, hfr⟩ := hrel
    by_cases hlt : k < xs.length
    · obtain ⟨bb, off, rfl, hc⟩ := hcells (by omega)
      have hbb := hvb (by omega) bb rfl
      have hck : wr.cell? ⟨bb, off + k, none⟩ = some (.int .u16 ((xs[k] : Nat) : Int)) := hch.cell ((hc k (by omega)).trans (by simp [List.getD, hlt])) (by simp; exact ⟨hbb.1, hbb.2⟩)
      have hxk := hxs xs[k] (List.getElem_mem hlt)
      have hu0 : U64 xs[k] := (Nat.lt_of_lt_of_le (hxs _ (List.getElem_mem hlt)) (by decide))
      have hll : (l ++ (xs.take k).flatMap (fun m => fixedB 2 m)).length ≤ 17592186044416 := by
        have := flat_fixed_len 2 (xs.take k) (fun m => fixedB 2 m) (fun _ => fixedB_length _ _)
        rw [List.length_append, this, List.length_take]; omega
      have hsn : l ++ (xs.take (k + 1)).flatMap (fun m => fixedB 2 m) = (l ++ (xs.take k).flatMap (fun m => fixedB 2 m)) ++ fixedB 2 xs[k] := by
        rw [take_snoc xs k hlt, List.flatMap_append, List.append_assoc]; simp
      have HS := hid hsn
      clear hc hcells hsn hxs
      obtain ⟨l1, hl1⟩ : ∃ l1, l ++ (xs.take k).flatMap (fun m => fixedB 2 m) = l1 := ⟨_, rfl⟩
      rw [hl1] at hW1 hll HS
      clear hl1
      go_wp2_with (go_at_call 92; refine (width_u16 _).mono ?_; rintro e w' ⟨rfl, rfl⟩)
      obtain ⟨wo, rfl⟩ : ∃ wo : World, wo = wr := ⟨_, rfl⟩
      clear hck
      go_loopw [6, 18] (fun x i wr => ∃ q u r2 l2 ao2 cap2, q ≤ 2 ∧ i = .int .i64 (q : Nat) ∧ x = .int .u64 (u : Nat) ∧ U64 u ∧ Wr 27 5 wr b r2 l2 ao2 cap2 ∧ l2 ++ fixedB (2 - q) u = l1 ++ fixedB 2 xs[k] ∧ Chg (b :: r.toList) w wr ∧ Fresh w r r2)
        (fun _ i _ => 2 - (intOf i).toNat)
      case atStart => exact ⟨0, xs[k], r1, l1, ao1, cap1, by omega, rfl, rfl, hu0, hW1, rfl, hch, hfr⟩
      case round =>
        obtain ⟨q, u, r2, l2, ao2, cap2, hq, rfl, rfl, hu, hW2, hl2, hch2, hfr2⟩ := hrel
        have hlen : l2.length ≤ 17592186044516 := by
          have := congrArg List.length hl2
          simp only [List.length_append, fixedB_length] at this
          omega
        have hc2 := hW2.cell
        have hrow := fun o => hW2.row.keep ((Chg.refl [] wr).alloc o) (by simp)
        have HLL := hid hl2
        clear hl2 hch hfr hW1
        by_cases hq8 : q < 2
        · go_wp2_with (at_builtin; refine wpList_app rfl _ _ 25 rfl elem_u8 rfl (hrow _) rfl (View.one _ _ _) (by simp [Value.oneCell']) (by unfold maxLen; omega) (by omega) (fun ao' cap' r' w2 hr2 hch3 hf2 _ => halt (fun X hX => ?_)))
          rw [hX.out]; clear hX
          obtain ⟨hcell, hfree⟩ := hW2.put_cell ((Chg.refl [] wr).alloc _) hch3
          go_wp2
          obtain ⟨p1, p2, p3⟩ := hW2.put (l' := l2 ++ [UInt8.ofNat u]) ((Chg.refl [] wr).alloc _) (by rw [List.map_append]; simpa [B] using hr2) hch3 hf2
          go_roundw
          case rel => exact ⟨q + 1, u / 256, r', _, ao', cap', by omega, by go_num, rfl, hu.div 256, p1, (by rw [List.append_assoc, ← HLL.out, show 2 - q = (2 - (q + 1)) + 1 from by omega]; rfl), hch2.trans p2 (fun x hx => by
            rcases List.mem_cons.1 hx with h1 | h1
            · exact .inl (by simp [h1])
            · exact (hfr2 x (by simpa using h1)).imp (fun h2 => by simp [h2]) id), hfr2.trans hch2.size p3⟩
          case measure => simp [intOf]; omega
        · go_wp2
          go_roundw
          case rel => exact ⟨k + 1, r2, ao2, cap2, by omega, by go_num, (by
            have hq' : 2 - q = 0 := by omega
            have := HLL.out
            rw [hq'] at this
            rw [show fixedB 0 u = [] from rfl, List.append_nil] at this
            rw [HS.out, ← this]; exact hW2), hch2, hfr2⟩
          case measure => simp [intOf]; omega
    · have he : xs.take k = xs := List.take_of_length_le (by omega)
      rw [he] at hW1
      clear hcells he
      go_wp2
      go_end0
      exact ⟨rfl, _, r1, ao1, cap1, hW1, hch, hfr, hid rfl⟩

set_option maxHeartbeats 1000000 in
set_option maxRecDepth 100000 in
theorem put_u32 (xs : List Nat) (hxs : ∀ m ∈ xs, m < 4294967296) (v : Value) (w : World) (b : Nat) (r : Option Nat) (l : List UInt8) (ao0 : Option Addr) (cap0 : Nat) (hW : Wr 27 5 w b r l ao0 cap0) (hl : l.length ≤ 1099511627776)
    (hv : View w 1 v xs.length (xs.map (fun m : Nat => Value.int .u32 (m : Int)))) (hvb : 0 < xs.length → ∀ g, v.ownBlock = some g → g ≠ b ∧ r ≠ some g) (hn : xs.length ≤ 1099511627776) :
    Calls Try.prog 56 #[.pointer (some ⟨b, 0, none⟩), v] w (ShortPost 27 5 w b r (l ++ xs.flatMap (fun m => fixedB 4 m))) := by
  obtain ⟨_, _, ao, cap, rfl, _, _, _, hcells⟩ := hv
  go_enter Try.func56, Try.ntmps56
  go_wp2_with fail
  go_loopw [5, 6, 11] (fun _ _ i wr => ∃ k r1 ao1 cap1, k ≤ xs.length ∧ i = .int .i64 (k : Nat) ∧ Wr 27 5 wr b r1 (l ++ (xs.take k).flatMap (fun m => fixedB 4 m)) ao1 cap1 ∧ Chg (b :: r.toList) w wr ∧ Fresh w r r1)
    (fun _ _ i _ => xs.length - (intOf i).toNat)
  case atStart => exact ⟨0, r, ao0, cap0, by omega, rfl, by simpa using hW, Chg.refl _ _, Fresh.refl _ _⟩
  case round =>
    obtain ⟨k, r1, ao1, cap1, hk, rfl, hW1, hch, hfr⟩ := hrel
    by_cases hlt : k < xs.length
    · obtain ⟨bb, off, rfl, hc⟩ := hcells (by omega)
      have hbb := hvb (by omega) bb rfl
      have hck : wr.cell? ⟨bb, off + k, none⟩ = some (.int .u32 ((xs[k] : Nat) : Int)) := hch.cell ((hc k (by omega)).trans (by simp [List.getD, hlt])) (by simp; exact ⟨hbb.1, hbb.2⟩)
      have hxk := hxs xs[k] (List.getElem_mem hlt)
      have hu0 : U64 xs[k] := (Nat.lt_of_lt_of_le (hxs _ (List.getElem_mem hlt)) (by decide))
      have hll : (l ++ (xs.take k).flatMap (fun m => fixedB 4 m)).length ≤ 17592186044416 := by
        have := flat_fixed_len 4 (xs.take k) (fun m => fixedB 4 m) (fun _ => fixedB_length _ _)
        rw [List.length_append, this, List.length_take]; omega
      have hsn : l ++ (xs.take (k + 1)).flatMap (fun m => fixedB 4 m) = (l ++ (xs.take k).flatMap (fun m => fixedB 4 m)) ++ fixedB 4 xs[k] := by
        rw [take_snoc xs k hlt, List.flatMap_append, List.append_assoc]; simp
      have HS := hid hsn
      clear hc hcells hsn hxs
      obtain ⟨l1, hl1⟩ : ∃ l1, l ++ (xs.take k).flatMap (fun m => fixedB 4 m) = l1 := ⟨_, rfl⟩
      rw [hl1] at hW1 hll HS
      clear hl1
      go_wp2_with (go_at_call 85; refine (width_u32 _).mono ?_; rintro e w' ⟨rfl, rfl⟩)
      obtain ⟨wo, rfl⟩ : ∃ wo : World, wo = wr := ⟨_, rfl⟩
      clear hck
      go_loopw [6, 18] (fun x i wr => ∃ q u r2 l2 ao2 cap2, q ≤ 4 ∧ i = .int .i64 (q : Nat) ∧ x = .int .u64 (u : Nat) ∧ U64 u ∧ Wr 27 5 wr b r2 l2 ao2 cap2 ∧ l2 ++ fixedB (4 - q) u = l1 ++ fixedB 4 xs[k] ∧ Chg (b :: r.toList) w wr ∧ Fresh w r r2)
        (fun _ i _ => 4 - (intOf i).toNat)
      case atStart => exact ⟨0, xs[k], r1, l1, ao1, cap1, by omega, rfl, rfl, hu0, hW1, rfl, hch, hfr⟩
      case round =>
        obtain ⟨q, u, r2, l2, ao2, cap2, hq, rfl, rfl, hu, hW2, hl2, hch2, hfr2⟩ := hrel
        have hlen : l2.length ≤ 17592186044516 := by
          have := congrArg List.length hl2
          simp only [List.length_append, fixedB_length] at this
          omega
        have hc2 := hW2.cell
        have hrow := fun o => hW2.row.keep ((Chg.refl [] wr).alloc o) (by simp)
        have HLL := hid hl2
        clear hl2 hch hfr hW1
        by_cases hq8 : q < 4
        · go_wp2_with (at_builtin; refine wpList_app rfl _ _ 25 rfl elem_u8 rfl (hrow _) rfl (View.one _ _ _) (by simp [Value.oneCell']) (by unfold maxLen; omega) (by omega) (fun ao' cap' r' w2 hr2 hch3 hf2 _ => halt (fun X hX => ?_)))
          rw [hX.out]; clear hX
          obtain ⟨hcell, hfree⟩ := hW2.put_cell ((Chg.refl [] wr).alloc _) hch3
          go_wp2
          obtain ⟨p1, p2, p3⟩ := hW2.put (l' := l2 ++ [UInt8.ofNat u]) ((Chg.refl [] wr).alloc _) (by rw [List.map_append]; simpa [B] using hr2) hch3 hf2
          go_roundw
          case rel => exact ⟨q + 1, u / 256, r', _, ao', cap', by omega, by go_num, rfl, hu.div 256, p1, (by rw [List.append_assoc, ← HLL.out, show 4 - q = (4 - (q + 1)) + 1 from by omega]; rfl), hch2.trans p2 (fun x hx => by
            rcases List.mem_cons.1 hx with h1 | h1
            · exact .inl (by simp [h1])
            · exact (hfr2 x (by simpa using h1)).imp (fun h2 => by simp [h2]) id), hfr2.trans hch2.size p3⟩
          case measure => simp [intOf]; omega
        · go_wp2
          go_roundw
          case rel => exact ⟨k + 1, r2, ao2, cap2, by omega, by go_num, (by
            have hq' : 4 - q = 0 := by omega
            have := HLL.out
            rw [hq'] at this
            rw [show fixedB 0 u = [] from rfl, List.append_nil] at this
            rw [HS.out, ← this]; exact hW2), hch2, hfr2⟩
          case measure => simp [intOf]; omega
    · have he : xs.take k = xs := List.take_of_length_le (by omega)
      rw [he] at hW1
      clear hcells he
      go_wp2
      go_end0
      exact ⟨rfl, _, r1, ao1, cap1, hW1, hch, hfr, hid rfl⟩

set_option maxHeartbeats 1000000 in
set_option maxRecDepth 100000 in
theorem put_u64 (xs : List Nat) (hxs : ∀ m ∈ xs, U64 m) (v : Value) (w : World) (b : Nat) (r : Option Nat) (l : List UInt8) (ao0 : Option Addr) (cap0 : Nat) (hW : Wr 27 5 w b r l ao0 cap0) (hl : l.length ≤ 1099511627776)
    (hv : View w 1 v xs.length (xs.map (fun m : Nat => Value.int .u64 (m : Int)))) (hvb : 0 < xs.length → ∀ g, v.ownBlock = some g → g ≠ b ∧ r ≠ some g) (hn : xs.length ≤ 1099511627776) :
    Calls Try.prog 82 #[.pointer (some ⟨b, 0, none⟩), v] w (ShortPost 27 5 w b r (l ++ xs.flatMap (fun m => fixedB 8 m))) := by
  obtain ⟨_, _, ao, cap, rfl, _, _, _, hcells⟩ := hv
  go_enter Try.func82, Try.ntmps82
  go_wp2_with fail
  go_loopw [5, 6, 11] (fun _ _ i wr => ∃ k r1 ao1 cap1, k ≤ xs.length ∧ i = .int .i64 (k : Nat) ∧ Wr 27 5 wr b r1 (l ++ (xs.take k).flatMap (fun m => fixedB 8 m)) ao1 cap1 ∧ Chg (b :: r.toList) w wr ∧ Fresh w r r1)
    (fun _ _ i _ => xs.length - (intOf i).toNat)
  case atStart => exact ⟨0, r, ao0, cap0, by omega, rfl, by simpa using hW, Chg.refl _ _, Fresh.refl _ _⟩
  case round =>
    obtain ⟨k, r1, ao1, cap1, hk, rfl, hW1, hch, hfr⟩ := hrel
    by_cases hlt : k < xs.length
    · obtain ⟨bb, off, rfl, hc⟩ := hcells (by omega)
      have hbb := hvb (by omega) bb rfl
      have hck : wr.cell? ⟨bb, off + k, none⟩ = some (.int .u64 ((xs[k] : Nat) : Int)) := hch.cell ((hc k (by omega)).trans (by simp [List.getD, hlt])) (by simp; exact ⟨hbb.1, hbb.2⟩)
      have hu0 : U64 xs[k] := hxs _ (List.getElem_mem hlt)
      have hll : (l ++ (xs.take k).flatMap (fun m => fixedB 8 m)).length ≤ 17592186044416 := by
        have := flat_fixed_len 8 (xs.take k) (fun m => fixedB 8 m) (fun _ => fixedB_length _ _)
        rw [List.length_append, this, List.length_take]; omega
      have hsn : l ++ (xs.take (k + 1)).flatMap (fun m => fixedB 8 m) = (l ++ (xs.take k).flatMap (fun m => fixedB 8 m)) ++ fixedB 8 xs[k] := by
        rw [take_snoc xs k hlt, List.flatMap_append, List.append_assoc]; simp
      have HS := hid hsn
      clear hc hcells hsn hxs
      obtain ⟨l1, hl1⟩ : ∃ l1, l ++ (xs.take k).flatMap (fun m => fixedB 8 m) = l1 := ⟨_, rfl⟩
      rw [hl1] at hW1 hll HS
      clear hl1
      go_wp2_with (go_at_call 93; refine (width_u64 _).mono ?_; rintro e w' ⟨rfl, rfl⟩)
      obtain ⟨wo, rfl⟩ : ∃ wo : World, wo = wr := ⟨_, rfl⟩
      clear hck
      go_loopw [6, 17] (fun x i wr => ∃ q u r2 l2 ao2 cap2, q ≤ 8 ∧ i = .int .i64 (q : Nat) ∧ x = .int .u64 (u : Nat) ∧ U64 u ∧ Wr 27 5 wr b r2 l2 ao2 cap2 ∧ l2 ++ fixedB (8 - q) u = l1 ++ fixedB 8 xs[k] ∧ Chg (b :: r.toList) w wr ∧ Fresh w r r2)
        (fun _ i _ => 8 - (intOf i).toNat)
      case atStart => exact ⟨0, xs[k], r1, l1, ao1, cap1, by omega, rfl, rfl, hu0, hW1, rfl, hch, hfr⟩
      case round =>
        obtain ⟨q, u, r2, l2, ao2, cap2, hq, rfl, rfl, hu, hW2, hl2, hch2, hfr2⟩ := hrel
        have hlen : l2.length ≤ 17592186044516 := by
          have := congrArg List.length hl2
          simp only [List.length_append, fixedB_length] at this
          omega
        have hc2 := hW2.cell
        have hrow := fun o => hW2.row.keep ((Chg.refl [] wr).alloc o) (by simp)
        have HLL := hid hl2
        clear hl2 hch hfr hW1
        by_cases hq8 : q < 8
        · go_wp2_with (at_builtin; refine wpList_app rfl _ _ 25 rfl elem_u8 rfl (hrow _) rfl (View.one _ _ _) (by simp [Value.oneCell']) (by unfold maxLen; omega) (by omega) (fun ao' cap' r' w2 hr2 hch3 hf2 _ => halt (fun X hX => ?_)))
          rw [hX.out]; clear hX
          obtain ⟨hcell, hfree⟩ := hW2.put_cell ((Chg.refl [] wr).alloc _) hch3
          go_wp2
          obtain ⟨p1, p2, p3⟩ := hW2.put (l' := l2 ++ [UInt8.ofNat u]) ((Chg.refl [] wr).alloc _) (by rw [List.map_append]; simpa [B] using hr2) hch3 hf2
          go_roundw
          case rel => exact ⟨q + 1, u / 256, r', _, ao', cap', by omega, by go_num, rfl, hu.div 256, p1, (by rw [List.append_assoc, ← HLL.out, show 8 - q = (8 - (q + 1)) + 1 from by omega]; rfl), hch2.trans p2 (fun x hx => by
            rcases List.mem_cons.1 hx with h1 | h1
            · exact .inl (by simp [h1])
            · exact (hfr2 x (by simpa using h1)).imp (fun h2 => by simp [h2]) id), hfr2.trans hch2.size p3⟩
          case measure => simp [intOf]; omega
        · go_wp2
          go_roundw
          case rel => exact ⟨k + 1, r2, ao2, cap2, by omega, by go_num, (by
            have hq' : 8 - q = 0 := by omega
            have := HLL.out
            rw [hq'] at this
            rw [show fixedB 0 u = [] from rfl, List.append_nil] at this
            rw [HS.out, ← this]; exact hW2), hch2, hfr2⟩
          case measure => simp [intOf]; omega
    · have he : xs.take k = xs := List.take_of_length_le (by omega)
      rw [he] at hW1
      clear hcells he
      go_wp2
      go_end0
      exact ⟨rfl, _, r1, ao1, cap1, hW1, hch, hfr, hid rfl⟩

set_option maxHeartbeats 1000000 in
set_option maxRecDepth 100000 in
theorem put_i8 (xs : List Int)  (v : Value) (w : World) (b : Nat) (r : Option Nat) (l : List UInt8) (ao0 : Option Addr) (cap0 : Nat) (hW : Wr 27 5 w b r l ao0 cap0) (hl : l.length ≤ 1099511627776)
    (hv : View w 1 v xs.length (xs.map (fun x : Int => Value.int .i8 x))) (hvb : 0 < xs.length → ∀ g, v.ownBlock = some g → g ≠ b ∧ r ≠ some g) (hn : xs.length ≤ 1099511627776) :
    Calls Try.prog 77 #[.pointer (some ⟨b, 0, none⟩), v] w (ShortPost 27 5 w b r (l ++ xs.flatMap (fun x => fixedB 1 (lowU x)))) := by
  obtain ⟨_, _, ao, cap, rfl, _, _, _, hcells⟩ := hv
  go_enter Try.func77, Try.ntmps77
  go_wp2_with fail
  go_loopw [5, 6, 11] (fun _ _ i wr => ∃ k r1 ao1 cap1, k ≤ xs.length ∧ i = .int .i64 (k : Nat) ∧ Wr 27 5 wr b r1 (l ++ (xs.take k).flatMap (fun x => fixedB 1 (lowU x))) ao1 cap1 ∧ Chg (b :: r.toList) w wr ∧ Fresh w r r1)
    (fun _ _ i _ => xs.length - (intOf i).toNat)
  case atStart => exact ⟨0, r, ao0, cap0, by omega, rfl, by simpa using hW, Chg.refl _ _, Fresh.refl _ _⟩
  case round =>
    obtain ⟨k, r1, ao1, cap1, hk, rfl, hW1, hch, hfr⟩ := hrel
    by_cases hlt : k < xs.length
    · obtain ⟨bb, off, rfl, hc⟩ := hcells (by omega)
      have hbb := hvb (by omega) bb rfl
      have hck : wr.cell? ⟨bb, off + k, none⟩ = some (.int .i8 xs[k]) := hch.cell ((hc k (by omega)).trans (by simp [List.getD, hlt])) (by simp; exact ⟨hbb.1, hbb.2⟩)
      have hwr : IntKind.u64.wrap xs[k] = (lowU xs[k] : Int) := wrap_lowU _
      have hu0 : U64 (lowU xs[k]) := lowU_U64 _
      have hll : (l ++ (xs.take k).flatMap (fun x => fixedB 1 (lowU x))).length ≤ 17592186044416 := by
        have := flat_fixed_len 1 (xs.take k) (fun x => fixedB 1 (lowU x)) (fun _ => fixedB_length _ _)
        rw [List.length_append, this, List.length_take]; omega
      have hsn : l ++ (xs.take (k + 1)).flatMap (fun x => fixedB 1 (lowU x)) = (l ++ (xs.take k).flatMap (fun x => fixedB 1 (lowU x))) ++ fixedB 1 (lowU xs[k]) := by
        rw [take_snoc xs k hlt, List.flatMap_append, List.append_assoc]; simp
      have HS := hid hsn
      clear hc hcells hsn
      obtain ⟨l1, hl1⟩ : ∃ l1, l ++ (xs.take k).flatMap (fun x => fixedB 1 (lowU x)) = l1 := ⟨_, rfl⟩
      rw [hl1] at hW1 hll HS
      clear hl1
      go_wp2_with (go_at_call 88; refine (width_i8 _).mono ?_; rintro e w' ⟨rfl, rfl⟩)
      obtain ⟨wo, rfl⟩ : ∃ wo : World, wo = wr := ⟨_, rfl⟩
      clear hck
      go_loopw [6, 18] (fun x i wr => ∃ q u r2 l2 ao2 cap2, q ≤ 1 ∧ i = .int .i64 (q : Nat) ∧ x = .int .u64 (u : Nat) ∧ U64 u ∧ Wr 27 5 wr b r2 l2 ao2 cap2 ∧ l2 ++ fixedB (1 - q) u = l1 ++ fixedB 1 (lowU xs[k]) ∧ Chg (b :: r.toList) w wr ∧ Fresh w r r2)
        (fun _ i _ => 1 - (intOf i).toNat)
      case atStart => exact ⟨0, (lowU xs[k]), r1, l1, ao1, cap1, by omega, rfl, rfl, hu0, hW1, rfl, hch, hfr⟩
      case round =>
        obtain ⟨q, u, r2, l2, ao2, cap2, hq, rfl, rfl, hu, hW2, hl2, hch2, hfr2⟩ := hrel
        have hlen : l2.length ≤ 17592186044516 := by
          have := congrArg List.length hl2
          simp only [List.length_append, fixedB_length] at this
          omega
        have hc2 := hW2.cell
        have hrow := fun o => hW2.row.keep ((Chg.refl [] wr).alloc o) (by simp)
        have HLL := hid hl2
        clear hl2 hch hfr hW1
        by_cases hq8 : q < 1
        · go_wp2_with (at_builtin; refine wpList_app rfl _ _ 25 rfl elem_u8 rfl (hrow _) rfl (View.one _ _ _) (by simp [Value.oneCell']) (by unfold maxLen; omega) (by omega) (fun ao' cap' r' w2 hr2 hch3 hf2 _ => halt (fun X hX => ?_)))
          rw [hX.out]; clear hX
          obtain ⟨hcell, hfree⟩ := hW2.put_cell ((Chg.refl [] wr).alloc _) hch3
          go_wp2
          obtain ⟨p1, p2, p3⟩ := hW2.put (l' := l2 ++ [UInt8.ofNat u]) ((Chg.refl [] wr).alloc _) (by rw [List.map_append]; simpa [B] using hr2) hch3 hf2
          go_roundw
          case rel => exact ⟨q + 1, u / 256, r', _, ao', cap', by omega, by go_num, rfl, hu.div 256, p1, (by rw [List.append_assoc, ← HLL.out, show 1 - q = (1 - (q + 1)) + 1 from by omega]; rfl), hch2.trans p2 (fun x hx => by
            rcases List.mem_cons.1 hx with h1 | h1
            · exact .inl (by simp [h1])
            · exact (hfr2 x (by simpa using h1)).imp (fun h2 => by simp [h2]) id), hfr2.trans hch2.size p3⟩
          case measure => simp [intOf]; omega
        · go_wp2
          go_roundw
          case rel => exact ⟨k + 1, r2, ao2, cap2, by omega, by go_num, (by
            have hq' : 1 - q = 0 := by omega
            have := HLL.out
            rw [hq'] at this
            rw [show fixedB 0 u = [] from rfl, List.append_nil] at this
            rw [HS.out, ← this]; exact hW2), hch2, hfr2⟩
          case measure => simp [intOf]; omega
    · have he : xs.take k = xs := List.take_of_length_le (by omega)
      rw [he] at hW1
      clear hcells he
      go_wp2
      go_end0
      exact ⟨rfl, _, r1, ao1, cap1, hW1, hch, hfr, hid rfl⟩

set_option maxHeartbeats 1000000 in
set_option maxRecDepth 100000 in
theorem put_i16 (xs : List Int)  (v : Value) (w : World) (b : Nat) (r : Option Nat) (l : List UInt8) (ao0 : Option Addr) (cap0 : Nat) (hW : Wr 27 5 w b r l ao0 cap0) (hl : l.length ≤ 1099511627776)
    (hv : View w 1 v xs.length (xs.map (fun x : Int => Value.int .i16 x))) (hvb : 0 < xs.length → ∀ g, v.ownBlock = some g → g ≠ b ∧ r ≠ some g) (hn : xs.length ≤ 1099511627776) :
    Calls Try.prog 78 #[.pointer (some ⟨b, 0, none⟩), v] w (ShortPost 27 5 w b r (l ++ xs.flatMap (fun x => fixedB 2 (lowU x)))) := by
  obtain ⟨_, _, ao, cap, rfl, _, _, _, hcells⟩ := hv
  go_enter Try.func78, Try.ntmps78
  go_wp2_with fail
  go_loopw [5, 6, 11] (fun _ _ i wr => ∃ k r1 ao1 cap1, k ≤ xs.length ∧ i = .int .i64 (k : Nat) ∧ Wr 27 5 wr b r1 (l ++ (xs.take k).flatMap (fun x => fixedB 2 (lowU x))) ao1 cap1 ∧ Chg (b :: r.toList) w wr ∧ Fresh w r r1)
    (fun _ _ i _ => xs.length - (intOf i).toNat)
  case atStart => exact ⟨0, r, ao0, cap0, by omega, rfl, by simpa using hW, Chg.refl _ _, Fresh.refl _ _⟩
  case round =>
    obtain ⟨k, r1, ao1, cap1, hk, rfl, hW1, hch, hfr⟩ := hrel
    by_cases hlt : k < xs.length
    · obtain ⟨bb, off, rfl, hc⟩ := hcells (by omega)
      have hbb := hvb (by omega) bb rfl
      have hck : wr.cell? ⟨bb, off + k, none⟩ = some (.int .i16 xs[k]) := hch.cell ((hc k (by omega)).trans (by simp [List.getD, hlt])) (by simp; exact ⟨hbb.1, hbb.2⟩)
      have hwr : IntKind.u64.wrap xs[k] = (lowU xs[k] : Int) := wrap_lowU _
      have hu0 : U64 (lowU xs[k]) := lowU_U64 _
      have hll : (l ++ (xs.take k).flatMap (fun x => fixedB 2 (lowU x))).length ≤ 17592186044416 := by
        have := flat_fixed_len 2 (xs.take k) (fun x => fixedB 2 (lowU x)) (fun _ => fixedB_length _ _)
        rw [List.length_append, this, List.length_take]; omega
      have hsn : l ++ (xs.take (k + 1)).flatMap (fun x => fixedB 2 (lowU x)) = (l ++ (xs.take k).flatMap (fun x => fixedB 2 (lowU x))) ++ fixedB 2 (lowU xs[k]) := by
        rw [take_snoc xs k hlt, List.flatMap_append, List.append_assoc]; simp
      have HS := hid hsn
      clear hc hcells hsn
      obtain ⟨l1, hl1⟩ : ∃ l1, l ++ (xs.take k).flatMap (fun x => fixedB 2 (lowU x)) = l1 := ⟨_, rfl⟩
      rw [hl1] at hW1 hll HS
      clear hl1
      go_wp2_with (go_at_call 89; refine (width_i16 _).mono ?_; rintro e w' ⟨rfl, rfl⟩)
      obtain ⟨wo, rfl⟩ : ∃ wo : World, wo = wr := ⟨_, rfl⟩
      clear hck
      go_loopw [6, 18] (fun x i wr => ∃ q u r2 l2 ao2 cap2, q ≤ 2 ∧ i = .int .i64 (q : Nat) ∧ x = .int .u64 (u : Nat) ∧ U64 u ∧ Wr 27 5 wr b r2 l2 ao2 cap2 ∧ l2 ++ fixedB (2 - q) u = l1 ++ fixedB 2 (lowU xs[k]) ∧ Chg (b :: r.toList) w wr ∧ Fresh w r r2)
        (fun _ i _ => 2 - (intOf i).toNat)
      case atStart => exact ⟨0, (lowU xs[k]), r1, l1, ao1, cap1, by omega, rfl, rfl, hu0, hW1, rfl, hch, hfr⟩
      case round =>
        obtain ⟨q, u, r2, l2, ao2, cap2, hq, rfl, rfl, hu, hW2, hl2, hch2, hfr2⟩ := hrel
        have hlen : l2.length ≤ 17592186044516 := by
          have := congrArg List.length hl2
          simp only [List.length_append, fixedB_length] at this
          omega
        have hc2 := hW2.cell
        have hrow := fun o => hW2.row.keep ((Chg.refl [] wr).alloc o) (by simp)
        have HLL := hid hl2
        clear hl2 hch hfr hW1
        by_cases hq8 : q < 2
        · go_wp2_with (at_builtin; refine wpList_app rfl _ _ 25 rfl elem_u8 rfl (hrow _) rfl (View.one _ _ _) (by simp [Value.oneCell']) (by unfold maxLen; omega) (by omega) (fun ao' cap' r' w2 hr2 hch3 hf2 _ => halt (fun X hX => ?_)))
          rw [hX.out]; clear hX
          obtain ⟨hcell, hfree⟩ := hW2.put_cell ((Chg.refl [] wr).alloc _) hch3
          go_wp2
          obtain ⟨p1, p2, p3⟩ := hW2.put (l' := l2 ++ [UInt8.ofNat u]) ((Chg.refl [] wr).alloc _) (by rw [List.map_append]; simpa [B] using hr2) hch3 hf2
          go_roundw
          case rel => exact ⟨q + 1, u / 256, r', _, ao', cap', by omega, by go_num, rfl, hu.div 256, p1, (by rw [List.append_assoc, ← HLL.out, show 2 - q = (2 - (q + 1)) + 1 from by omega]; rfl), hch2.trans p2 (fun x hx => by
            rcases List.mem_cons.1 hx with h1 | h1
            · exact .inl (by simp [h1])
            · exact (hfr2 x (by simpa using h1)).imp (fun h2 => by simp [h2]) id), hfr2.trans hch2.size p3⟩
          case measure => simp [intOf]; omega
        · go_wp2
          go_roundw
          case rel => exact ⟨k + 1, r2, ao2, cap2, by omega, by go_num, (by
            have hq' : 2 - q = 0 := by omega
            have := HLL.out
            rw [hq'] at this
            rw [show fixedB 0 u = [] from rfl, List.append_nil] at this
            rw [HS.out, ← this]; exact hW2), hch2, hfr2⟩
          case measure => simp [intOf]; omega
    · have he : xs.take k = xs := List.take_of_length_le (by omega)
      rw [he] at hW1
      clear hcells he
      go_wp2
      go_end0
      exact ⟨rfl, _, r1, ao1, cap1, hW1, hch, hfr, hid rfl⟩

set_option maxHeartbeats 1000000 in
set_option maxRecDepth 100000 in
theorem put_i32 (xs : List Int)  (v : Value) (w : World) (b : Nat) (r : Option Nat) (l : List UInt8) (ao0 : Option Addr) (cap0 : Nat) (hW : Wr 27 5 w b r l ao0 cap0) (hl : l.length ≤ 1099511627776)
    (hv : View w 1 v xs.length (xs.map (fun x : Int => Value.int .i32 x))) (hvb : 0 < xs.length → ∀ g, v.ownBlock = some g → g ≠ b ∧ r ≠ some g) (hn : xs.length ≤ 1099511627776) :
    Calls Try.prog 79 #[.pointer (some ⟨b, 0, none⟩), v] w (ShortPost 27 5 w b r (l ++ xs.flatMap (fun x => fixedB 4 (lowU x)))) := by
  obtain ⟨_, _, ao, cap, rfl, _, _, _, hcells⟩ := hv
  go_enter Try.func79, Try.ntmps79
  go_wp2_with fail
  go_loopw [5, 6, 11] (fun _ _ i wr => ∃ k r1 ao1 cap1, k ≤ xs.length ∧ i = .int .i64 (k : Nat) ∧ Wr 27 5 wr b r1 (l ++ (xs.take k).flatMap (fun x => fixedB 4 (lowU x))) ao1 cap1 ∧ Chg (b :: r.toList) w wr ∧ Fresh w r r1)
    (fun _ _ i _ => xs.length - (intOf i).toNat)
  case atStart => exact ⟨0, r, ao0, cap0, by omega, rfl, by simpa using hW, Chg.refl _ _, Fresh.refl _ _⟩
  case round =>
    obtain ⟨k, r1, ao1, cap1, hk, rfl, hW1, hch, hfr⟩ := hrel
    by_cases hlt : k < xs.length
    · obtain ⟨bb, off, rfl, hc⟩ := hcells (by omega)
      have hbb := hvb (by omega) bb rfl
      have hck : wr.cell? ⟨bb, off + k, none⟩ = some (.int .i32 xs[k]) := hch.cell ((hc k (by omega)).trans (by simp [List.getD, hlt])) (by simp; exact ⟨hbb.1, hbb.2⟩)
      have hwr : IntKind.u64.wrap xs[k] = (lowU xs[k] : Int) := wrap_lowU _
      have hu0 : U64 (lowU xs[k]) := lowU_U64 _
      have hll : (l ++ (xs.take k).flatMap (fun x => fixedB 4 (lowU x))).length ≤ 17592186044416 := by
        have := flat_fixed_len 4 (xs.take k) (fun x => fixedB 4 (lowU x)) (fun _ => fixedB_length _ _)
        rw [List.length_append, this, List.length_take]; omega
      have hsn : l ++ (xs.take (k + 1)).flatMap (fun x => fixedB 4 (lowU x)) = (l ++ (xs.take k).flatMap (fun x => fixedB 4 (lowU x))) ++ fixedB 4 (lowU xs[k]) := by
        rw [take_snoc xs k hlt, List.flatMap_append, List.append_assoc]; simp
      have HS := hid hsn
      clear hc hcells hsn
      obtain ⟨l1, hl1⟩ : ∃ l1, l ++ (xs.take k).flatMap (fun x => fixedB 4 (lowU x)) = l1 := ⟨_, rfl⟩
      rw [hl1] at hW1 hll HS
      clear hl1
      go_wp2_with (go_at_call 90; refine (width_i32 _).mono ?_; rintro e w' ⟨rfl, rfl⟩)
      obtain ⟨wo, rfl⟩ : ∃ wo : World, wo = wr := ⟨_, rfl⟩
      clear hck
      go_loopw [6, 18] (fun x i wr => ∃ q u r2 l2 ao2 cap2, q ≤ 4 ∧ i = .int .i64 (q : Nat) ∧ x = .int .u64 (u : Nat) ∧ U64 u ∧ Wr 27 5 wr b r2 l2 ao2 cap2 ∧ l2 ++ fixedB (4 - q) u = l1 ++ fixedB 4 (lowU xs[k]) ∧ Chg (b :: r.toList) w wr ∧ Fresh w r r2)
        (fun _ i _ => 4 - (intOf i).toNat)
      case atStart => exact ⟨0, (lowU xs[k]), r1, l1, ao1, cap1, by omega, rfl, rfl, hu0, hW1, rfl, hch, hfr⟩
      case round =>
        obtain ⟨q, u, r2, l2, ao2, cap2, hq, rfl, rfl, hu, hW2, hl2, hch2, hfr2⟩ := hrel
        have hlen : l2.length ≤ 17592186044516 := by
          have := congrArg List.length hl2
          simp only [List.length_append, fixedB_length] at this
          omega
        have hc2 := hW2.cell
        have hrow := fun o => hW2.row.keep ((Chg.refl [] wr).alloc o) (by simp)
        have HLL := hid hl2
        clear hl2 hch hfr hW1
        by_cases hq8 : q < 4
        · go_wp2_with (at_builtin; refine wpList_app rfl _ _ 25 rfl elem_u8 rfl (hrow _) rfl (View.one _ _ _) (by simp [Value.oneCell']) (by unfold maxLen; omega) (by omega) (fun ao' cap' r' w2 hr2 hch3 hf2 _ => halt (fun X hX => ?_)))
          rw [hX.out]; clear hX
          obtain ⟨hcell, hfree⟩ := hW2.put_cell ((Chg.refl [] wr).alloc _) hch3
          go_wp2
          obtain ⟨p1, p2, p3⟩ := hW2.put (l' := l2 ++ [UInt8.ofNat u]) ((Chg.refl [] wr).alloc _) (by rw [List.map_append]; simpa [B] using hr2) hch3 hf2
          go_roundw
          case rel => exact ⟨q + 1, u / 256, r', _, ao', cap', by omega, by go_num, rfl, hu.div 256, p1, (by rw [List.append_assoc, ← HLL.out, show 4 - q = (4 - (q + 1)) + 1 from by omega]; rfl), hch2.trans p2 (fun x hx => by
            rcases List.mem_cons.1 hx with h1 | h1
            · exact .inl (by simp [h1])
            · exact (hfr2 x (by simpa using h1)).imp (fun h2 => by simp [h2]) id), hfr2.trans hch2.size p3⟩
          case measure => simp [intOf]; omega
        · go_wp2
          go_roundw
          case rel => exact ⟨k + 1, r2, ao2, cap2, by omega, by go_num, (by
            have hq' : 4 - q = 0 := by omega
            have := HLL.out
            rw [hq'] at this
            rw [show fixedB 0 u = [] from rfl, List.append_nil] at this
            rw [HS.out, ← this]; exact hW2), hch2, hfr2⟩
          case measure => simp [intOf]; omega
    · have he : xs.take k = xs := List.take_of_length_le (by omega)
      rw [he] at hW1
      clear hcells he
      go_wp2
      go_end0
      exact ⟨rfl, _, r1, ao1, cap1, hW1, hch, hfr, hid rfl⟩

set_option maxHeartbeats 1000000 in
set_option maxRecDepth 100000 in
theorem put_i64 (xs : List Int)  (v : Value) (w : World) (b : Nat) (r : Option Nat) (l : List UInt8) (ao0 : Option Addr) (cap0 : Nat) (hW : Wr 27 5 w b r l ao0 cap0) (hl : l.length ≤ 1099511627776)
    (hv : View w 1 v xs.length (xs.map (fun x : Int => Value.int .i64 x))) (hvb : 0 < xs.length → ∀ g, v.ownBlock = some g → g ≠ b ∧ r ≠ some g) (hn : xs.length ≤ 1099511627776) :
    Calls Try.prog 80 #[.pointer (some ⟨b, 0, none⟩), v] w (ShortPost 27 5 w b r (l ++ xs.flatMap (fun x => fixedB 8 (lowU x)))) := by
  obtain ⟨_, _, ao, cap, rfl, _, _, _, hcells⟩ := hv
  go_enter Try.func80, Try.ntmps80
  go_wp2_with fail
  go_loopw [5, 6, 11] (fun _ _ i wr => ∃ k r1 ao1 cap1, k ≤ xs.length ∧ i = .int .i64 (k : Nat) ∧ Wr 27 5 wr b r1 (l ++ (xs.take k).flatMap (fun x => fixedB 8 (lowU x))) ao1 cap1 ∧ Chg (b :: r.toList) w wr ∧ Fresh w r r1)
    (fun _ _ i _ => xs.length - (intOf i).toNat)
  case atStart => exact ⟨0, r, ao0, cap0, by omega, rfl, by simpa using hW, Chg.refl _ _, Fresh.refl _ _⟩
  case round =>
    obtain ⟨k, r1, ao1, cap1, hk, rfl, hW1, hch, hfr⟩ := hrel
    by_cases hlt : k < xs.length
    · obtain ⟨bb, off, rfl, hc⟩ := hcells (by omega)
      have hbb := hvb (by omega) bb rfl
      have hck : wr.cell? ⟨bb, off + k, none⟩ = some (.int .i64 xs[k]) := hch.cell ((hc k (by omega)).trans (by simp [List.getD, hlt])) (by simp; exact ⟨hbb.1, hbb.2⟩)
      have hwr : IntKind.u64.wrap xs[k] = (lowU xs[k] : Int) := wrap_lowU _
      have hu0 : U64 (lowU xs[k]) := lowU_U64 _
      have hll : (l ++ (xs.take k).flatMap (fun x => fixedB 8 (lowU x))).length ≤ 17592186044416 := by
        have := flat_fixed_len 8 (xs.take k) (fun x => fixedB 8 (lowU x)) (fun _ => fixedB_length _ _)
        rw [List.length_append, this, List.length_take]; omega
      have hsn : l ++ (xs.take (k + 1)).flatMap (fun x => fixedB 8 (lowU x)) = (l ++ (xs.take k).flatMap (fun x => fixedB 8 (lowU x))) ++ fixedB 8 (lowU xs[k]) := by
        rw [take_snoc xs k hlt, List.flatMap_append, List.append_assoc]; simp
      have HS := hid hsn
      clear hc hcells hsn
      obtain ⟨l1, hl1⟩ : ∃ l1, l ++ (xs.take k).flatMap (fun x => fixedB 8 (lowU x)) = l1 := ⟨_, rfl⟩
      rw [hl1] at hW1 hll HS
      clear hl1
      go_wp2_with (go_at_call 91; refine (width_i64 _).mono ?_; rintro e w' ⟨rfl, rfl⟩)
      obtain ⟨wo, rfl⟩ : ∃ wo : World, wo = wr := ⟨_, rfl⟩
      clear hck
      go_loopw [6, 18] (fun x i wr => ∃ q u r2 l2 ao2 cap2, q ≤ 8 ∧ i = .int .i64 (q : Nat) ∧ x = .int .u64 (u : Nat) ∧ U64 u ∧ Wr 27 5 wr b r2 l2 ao2 cap2 ∧ l2 ++ fixedB (8 - q) u = l1 ++ fixedB 8 (lowU xs[k]) ∧ Chg (b :: r.toList) w wr ∧ Fresh w r r2)
        (fun _ i _ => 8 - (intOf i).toNat)
      case atStart => exact ⟨0, (lowU xs[k]), r1, l1, ao1, cap1, by omega, rfl, rfl, hu0, hW1, rfl, hch, hfr⟩
      case round =>
        obtain ⟨q, u, r2, l2, ao2, cap2, hq, rfl, rfl, hu, hW2, hl2, hch2, hfr2⟩ := hrel
        have hlen : l2.length ≤ 17592186044516 := by
          have := congrArg List.length hl2
          simp only [List.length_append, fixedB_length] at this
          omega
        have hc2 := hW2.cell
        have hrow := fun o => hW2.row.keep ((Chg.refl [] wr).alloc o) (by simp)
        have HLL := hid hl2
        clear hl2 hch hfr hW1
        by_cases hq8 : q < 8
        · go_wp2_with (at_builtin; refine wpList_app rfl _ _ 25 rfl elem_u8 rfl (hrow _) rfl (View.one _ _ _) (by simp [Value.oneCell']) (by unfold maxLen; omega) (by omega) (fun ao' cap' r' w2 hr2 hch3 hf2 _ => halt (fun X hX => ?_)))
          rw [hX.out]; clear hX
          obtain ⟨hcell, hfree⟩ := hW2.put_cell ((Chg.refl [] wr).alloc _) hch3
          go_wp2
          obtain ⟨p1, p2, p3⟩ := hW2.put (l' := l2 ++ [UInt8.ofNat u]) ((Chg.refl [] wr).alloc _) (by rw [List.map_append]; simpa [B] using hr2) hch3 hf2
          go_roundw
          case rel => exact ⟨q + 1, u / 256, r', _, ao', cap', by omega, by go_num, rfl, hu.div 256, p1, (by rw [List.append_assoc, ← HLL.out, show 8 - q = (8 - (q + 1)) + 1 from by omega]; rfl), hch2.trans p2 (fun x hx => by
            rcases List.mem_cons.1 hx with h1 | h1
            · exact .inl (by simp [h1])
            · exact (hfr2 x (by simpa using h1)).imp (fun h2 => by simp [h2]) id), hfr2.trans hch2.size p3⟩
          case measure => simp [intOf]; omega
        · go_wp2
          go_roundw
          case rel => exact ⟨k + 1, r2, ao2, cap2, by omega, by go_num, (by
            have hq' : 8 - q = 0 := by omega
            have := HLL.out
            rw [hq'] at this
            rw [show fixedB 0 u = [] from rfl, List.append_nil] at this
            rw [HS.out, ← this]; exact hW2), hch2, hfr2⟩
          case measure => simp [intOf]; omega
    · have he : xs.take k = xs := List.take_of_length_le (by omega)
      rw [he] at hW1
      clear hcells he
      go_wp2
      go_end0
      exact ⟨rfl, _, r1, ao1, cap1, hW1, hch, hfr, hid rfl⟩
end Go.Proofs.Ytdakcphkaljghaa
