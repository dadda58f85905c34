/- Walks of the wire layer: the writer's other methods. -/
import Derived.Test.YtdakcphkaljghaaWc
namespace Go.Proofs.Ytdakcphkaljghaa
open Go.RowKit Go.AB

theorem chg_step {a w w' : World} {b : Nat} {r r1 : Option Nat} (h : Chg (b :: r.toList) a w) (hf : Fresh a r r1) (k : Chg (b :: r1.toList) w w') : Chg (b :: r.toList) a w' :=
  h.trans k (fun x hx => by
    rcases List.mem_cons.1 hx with h1 | h1
    · exact .inl (by simp [h1])
    · exact (hf x (by simpa using h1)).imp (fun h2 => by simp [h2]) id)

set_option maxHeartbeats 400000 in
theorem shorts_calls (xs : List Nat) (hxs : ∀ m ∈ xs, U64 m) (v : Value) (w : World) (b : Nat) (r : Option Nat) (l : List UInt8) (ao0 : Option Addr) (cap0 : Nat) (hW : Wr 27 5 w b r l ao0 cap0) (hl : l.length ≤ 549755813888)
    (hv : View w 1 v xs.length (xs.map (fun m : Nat => Value.int .u64 (m : Int)))) (hvb : 0 < xs.length → ∀ g, v.ownBlock = some g → g ≠ b ∧ r ≠ some g) (hn : xs.length ≤ 34359738368) :
    Calls Try.prog 18 #[.pointer (some ⟨b, 0, none⟩), v] w (ShortPost 27 5 w b r (l ++ xs.flatMap shortB)) := by
  obtain ⟨_, _, ao, cap, rfl, _, _, _, hcells⟩ := hv
  go_enter Try.func18, Try.ntmps18
  go_wp2_with fail
  go_loopw [5, 10] (fun _ i wr => ∃ k r1 ao1 cap1, k ≤ xs.length ∧ i = .int .i64 (k : Nat) ∧ Wr 27 5 wr b r1 (l ++ (xs.take k).flatMap shortB) ao1 cap1 ∧ Chg (b :: r.toList) w wr ∧ Fresh w r r1)
    (fun _ i _ => xs.length - (intOf i).toNat)
  case atStart => exact ⟨0, r, ao0, cap0, by omega, rfl, by simpa using hW, Chg.refl _ _, Fresh.refl _ _⟩
  case round =>
    obtain ⟨k, r1, ao1, cap1, hk, rfl, hW1, hch, hfr⟩ := hrel
    by_cases hlt : k < xs.length
    · obtain ⟨bb, off, rfl, hc⟩ := hcells (by omega)
      have hbb := hvb (by omega) bb rfl
      have hck : wr.cell? ⟨bb, off + k, none⟩ = some (.int .u64 ((xs[k] : Nat) : Int)) := hch.cell ((hc k (by omega)).trans (by simp [List.getD, hlt])) (by simp; exact ⟨hbb.1, hbb.2⟩)
      have hu0 : U64 xs[k] := hxs _ (List.getElem_mem hlt)
      have hll : (l ++ (xs.take k).flatMap shortB).length ≤ 1099511627776 := by
        have := flat_len_le 10 (xs.take k) shortB (fun x hx => shortB_len10 (hxs x (List.mem_of_mem_take hx)))
        rw [List.length_append]; rw [List.length_take] at this; omega
      have hsn : l ++ (xs.take (k + 1)).flatMap shortB = (l ++ (xs.take k).flatMap shortB) ++ shortB xs[k] := by
        rw [take_snoc xs k hlt, List.flatMap_append, List.append_assoc]; simp
      have HS := hid hsn
      clear hc hcells hsn hxs
      go_wp2_with (go_at_call 54; refine (short_calls _ hu0 _ _ _ _ _ _ hW1 hll).mono ?_; rintro e w' ⟨rfl, l2, r2, ao2, cap2, hW2, hch2, hfr2, HL2⟩)
      go_roundw
      case rel => exact ⟨k + 1, r2, ao2, cap2, by omega, by go_num, (by rw [HS.out, ← HL2.out]; exact hW2), chg_step hch hfr hch2, hfr.trans hch.size hfr2⟩
      case measure => simp [intOf]; omega
    · have he : xs.take k = xs := List.take_of_length_le (by omega)
      rw [he] at hW1
      clear hcells he
      go_wp2
      go_end0
      exact ⟨rfl, _, r1, ao1, cap1, hW1, hch, hfr, hid rfl⟩

set_option maxHeartbeats 400000 in
theorem len_calls (w : World) (b : Nat) (r : Option Nat) (l : List UInt8) (ao0 : Option Addr) (cap0 : Nat) (hW : Wr 27 5 w b r l ao0 cap0) :
    Calls Try.prog 14 #[.pointer (some ⟨b, 0, none⟩)] w fun e w' => e = .returned (.int .i64 l.length) ∧ w = w' := by
  have hc := hW.cell
  go_enter Try.func14, Try.ntmps14
  go_wp2
  go_ret
  exact ⟨rfl, rfl⟩

set_option maxHeartbeats 400000 in
theorem flag_calls (t : Bool) (w : World) (b : Nat) (r : Option Nat) (l : List UInt8) (ao0 : Option Addr) (cap0 : Nat) (hW : Wr 27 5 w b r l ao0 cap0) (hl : l.length ≤ 1099511627776) :
    Calls Try.prog 26 #[.pointer (some ⟨b, 0, none⟩), .bool t] w (ShortPost 27 5 w b r (l ++ [if t then 1 else 0])) := by
  have hc := hW.cell
  have hrow := fun o => hW.row.keep ((Chg.refl [] w).alloc o) (by simp)
  go_enter Try.func26, Try.ntmps26
  cases t
  all_goals
    go_wp2_with (at_builtin; refine wpList_app rfl _ _ 25 rfl elem_u8 rfl (hrow _) rfl (View.one _ _ _) (by simp [Value.oneCell']) (by unfold maxLen; omega) (by omega) (fun ao' cap' r' w2 hr2 hch3 hf2 _ => halt (fun X hX => ?_)))
    rw [hX.out]; clear hX
    obtain ⟨hcell, hfree⟩ := hW.put_cell ((Chg.refl [] w).alloc _) hch3
    go_wp2
    go_end0
  · obtain ⟨p1, p2, p3⟩ := hW.put (l' := l ++ [0]) ((Chg.refl [] w).alloc _) (by rw [List.map_append]; exact hr2) hch3 hf2
    exact ⟨rfl, _, r', ao', cap', p1, p2, p3, hid (by simp)⟩
  · obtain ⟨p1, p2, p3⟩ := hW.put (l' := l ++ [1]) ((Chg.refl [] w).alloc _) (by rw [List.map_append]; exact hr2) hch3 hf2
    exact ⟨rfl, _, r', ao', cap', p1, p2, p3, hid (by simp)⟩

set_option maxHeartbeats 400000 in
theorem text_calls (s : ByteArray) (w : World) (b : Nat) (r : Option Nat) (l : List UInt8) (ao0 : Option Addr) (cap0 : Nat) (hW : Wr 27 5 w b r l ao0 cap0) (hl : l.length ≤ 549755813888) (hs : s.size ≤ 549755813888) :
    Calls Try.prog 39 #[.pointer (some ⟨b, 0, none⟩), .string s] w (ShortPost 27 5 w b r (l ++ (shortB s.size ++ s.data.toList))) := by
  have hu : U64 s.size := by unfold U64; omega
  have hl10 := shortB_len10 hu
  go_enter Try.func39, Try.ntmps39
  go_wp2_with (go_at_call 54; refine (short_calls _ hu _ _ _ _ _ _ hW (by omega)).mono ?_; rintro e w' ⟨rfl, l2, r2, ao2, cap2, hW2, hch2, hfr2, HL2⟩; have hc := hW2.cell; refine halt (fun X hX => ?_))
  rw [hX.out]; clear hX
  have hlen : l2.length ≤ 549755813898 := by rw [HL2.out, List.length_append]; omega
  go_wp2_with (at_builtin; refine wpList_app_string rfl _ _ 25 9 rfl elem_u8 Try.underlying9 rfl hW2.row rfl (by unfold maxLen; omega) (by omega) (fun ao' cap' r' w2 hr2 hch3 hf2 _ => halt (fun X hX => ?_)))
  rw [hX.out]; clear hX
  obtain ⟨hcell, hfree⟩ := hW2.put_cell (Chg.refl [] _) hch3
  go_wp2
  go_end0
  obtain ⟨p1, p2, p3⟩ := hW2.put (l' := l2 ++ s.data.toList) (Chg.refl [] _) (by rw [List.map_append]; exact hr2) hch3 hf2
  exact ⟨rfl, _, r', ao', cap', p1, chg_step hch2 hfr2 p2, hfr2.trans hch2.size p3, hid (by rw [HL2.out, List.append_assoc])⟩

set_option maxHeartbeats 400000 in
theorem signed_calls (xs : List Int) (hxs : ∀ m ∈ xs, I64 m) (v : Value) (w : World) (b : Nat) (r : Option Nat) (l : List UInt8) (ao0 : Option Addr) (cap0 : Nat) (hW : Wr 27 5 w b r l ao0 cap0) (hl : l.length ≤ 549755813888)
    (hv : View w 1 v xs.length (xs.map (Value.int .i64))) (hvb : 0 < xs.length → ∀ g, v.ownBlock = some g → g ≠ b ∧ r ≠ some g) (hn : xs.length ≤ 34359738368) :
    Calls Try.prog 36 #[.pointer (some ⟨b, 0, none⟩), v] w (ShortPost 27 5 w b r (l ++ xs.flatMap fun x => shortB (zig x))) := by
  obtain ⟨_, _, ao, cap, rfl, _, _, _, hcells⟩ := hv
  go_enter Try.func36, Try.ntmps36
  go_wp2_with fail
  go_loopw [5, 10] (fun _ i wr => ∃ k r1 ao1 cap1, k ≤ xs.length ∧ i = .int .i64 (k : Nat) ∧ Wr 27 5 wr b r1 (l ++ (xs.take k).flatMap fun x => shortB (zig x)) ao1 cap1 ∧ Chg (b :: r.toList) w wr ∧ Fresh w r r1)
    (fun _ i _ => xs.length - (intOf i).toNat)
  case atStart => exact ⟨0, r, ao0, cap0, by omega, rfl, by simpa using hW, Chg.refl _ _, Fresh.refl _ _⟩
  case round =>
    obtain ⟨k, r1, ao1, cap1, hk, rfl, hW1, hch, hfr⟩ := hrel
    by_cases hlt : k < xs.length
    · obtain ⟨bb, off, rfl, hc⟩ := hcells (by omega)
      have hbb := hvb (by omega) bb rfl
      have hck : wr.cell? ⟨bb, off + k, none⟩ = some (.int .i64 xs[k]) := hch.cell ((hc k (by omega)).trans (by simp [List.getD, hlt])) (by simp; exact ⟨hbb.1, hbb.2⟩)
      have hx0 : I64 xs[k] := hxs _ (List.getElem_mem hlt)
      have hll : (l ++ (xs.take k).flatMap fun x => shortB (zig x)).length ≤ 1099511627776 := by
        have := flat_len_le 10 (xs.take k) (fun x => shortB (zig x)) (fun x hx => shortB_len10 (zig_U64 (hxs x (List.mem_of_mem_take hx))))
        rw [List.length_append]; rw [List.length_take] at this; omega
      have hsn : (l ++ (xs.take (k + 1)).flatMap fun x => shortB (zig x)) = (l ++ (xs.take k).flatMap fun x => shortB (zig x)) ++ shortB (zig xs[k]) := by
        rw [take_snoc xs k hlt, List.flatMap_append, List.append_assoc]; simp
      have HS := hid hsn
      clear hc hcells hsn hxs
      go_wp2_with (go_at_call 54; rw [zig_u64 hx0]; refine (short_calls _ (zig_U64 hx0) _ _ _ _ _ _ hW1 hll).mono ?_; rintro e w' ⟨rfl, l2, r2, ao2, cap2, hW2, hch2, hfr2, HL2⟩)
      go_roundw
      case rel => exact ⟨k + 1, r2, ao2, cap2, by omega, by go_num, (by rw [HS.out, ← HL2.out]; exact hW2), chg_step hch hfr hch2, hfr.trans hch.size hfr2⟩
      case measure => simp [intOf]; omega
    · have he : xs.take k = xs := List.take_of_length_le (by omega)
      rw [he] at hW1
      clear hcells he
      go_wp2
      go_end0
      exact ⟨rfl, _, r1, ao1, cap1, hW1, hch, hfr, hid rfl⟩
end Go.Proofs.Ytdakcphkaljghaa
