/- Walks of the reference's reader: a new one. -/
import Derived.Test.YtbghkodcfedebaaGreatDoorQd
import Derived.Test.YtbghkodcfedebaaGreatDoorTj4
namespace Go.Proofs.YtbghkodcfedebaaGreatDoor
open Go.RowKit Go.AB
set_option linter.unusedSimpArgs false

/-- A reader that is being filled: its bytes are a row of its own. -/
structure Wz (T U : Nat) (w : World) (b : Nat) (r : Option Nat) (l : List UInt8) (ao : Option Addr) (cap : Nat) : Prop where
  blk : w.heap[b]? = some (.cells #[.slice ao l.length cap, .int .i64 0, .int .i64 0, .int .i64 0] T (0, 0))
  row : Row w U 1 (.slice ao l.length cap) r l.length (l.map B)
  ne : r ≠ some b
theorem Wz.keep {T U : Nat} {w w' : World} {b : Nat} {r : Option Nat} {l : List UInt8} {ao : Option Addr} {cap : Nat} {S : List Nat} (h : Wz T U w b r l ao cap) (hc : Chg S w w') (hb : b ∉ S) (hr : ∀ g, r = some g → g ∉ S) : Wz T U w' b r l ao cap :=
  ⟨hc.heap h.blk hb, h.row.keep hc hr, h.ne⟩
theorem Wz.put {T U : Nat} {w w1 w2 : World} {b : Nat} {r r' : Option Nat} {l l' : List UInt8} {ao ao' : Option Addr} {cap cap' : Nat} {n' : Nat} (h : Wz T U w b r l ao cap) (h1 : Chg [] w w1) (hrow : Row w2 U 1 (.slice ao' n' cap') r' n' (l'.map B)) (hc : Chg r.toList w1 w2) (hf : Fresh w1 r r') :
    Wz T U (w2.setCell ⟨b, 0, none⟩ (.slice ao' n' cap')) b r' l' ao' cap' ∧ Chg (b :: r.toList) w (w2.setCell ⟨b, 0, none⟩ (.slice ao' n' cap')) ∧ Fresh w r r' := by
  have hbr : b ∉ r.toList := fun hm => h.ne (by simpa using hm)
  have hb2 := hc.heap (h1.heap h.blk (by simp)) hbr
  have hne : r' ≠ some b := fun e => by
    rcases hf b e with h3 | h3
    · exact h.ne h3
    · have := blk_lt h.blk; have := h1.size; omega
  obtain rfl : n' = l'.length := by have := hrow.len; simp at this; omega
  refine ⟨⟨by rw [blk_set hb2]; rfl, hrow.keep (S := [b]) ((Chg.refl _ _).setCell (p := ⟨b, 0, none⟩) (.inl (by simp)) _) (fun g hg hm => hne (by simp at hm; rw [hg, hm])), hne⟩, ?_, hf.mono h1.size⟩
  exact ((h1.nil.trans hc (fun x hx => .inl (List.mem_cons_of_mem _ hx))).setCell (p := ⟨b, 0, none⟩) (.inl (by simp)) _)
theorem Wz.put_cell {T U : Nat} {w w1 w2 : World} {b : Nat} {r : Option Nat} {l : List UInt8} {ao : Option Addr} {cap : Nat} (h : Wz T U w b r l ao cap) (h1 : Chg [] w w1) (hc : Chg r.toList w1 w2) :
    w2.cell? ⟨b, 0, none⟩ = some (.slice ao l.length cap) ∧ w2.frozen? ⟨b, 0, none⟩ = false := by
  have hbr : b ∉ r.toList := fun hm => h.ne (by simpa using hm)
  have hb2 := hc.heap (h1.heap h.blk (by simp)) hbr
  exact ⟨by rw [blk_cell hb2]; rfl, blk_free hb2 0⟩

set_option maxHeartbeats 2000000 in
set_option maxRecDepth 100000 in
theorem q_new_calls (v : Value) (l : List UInt8) (w : World) (hv : Bytes w v l) (hl : l.length ≤ 1099511627776) :
    Calls Tryz.prog 95 #[v] w (NewRd 161 w l) := by
  obtain ⟨ao, cap, rfl, _, _, _, hcells⟩ := hv.out
  clear hv
  have hW0 : Wz 161 5 (w.alloc (.cells #[.slice none 0 0, .int .i64 0, .int .i64 0, .int .i64 0] 161)) w.heap.size none [] none 0 := ⟨heap_alloc_new w _, Row.nil _ _ _, by simp⟩
  have hc0 : Chg [] w (w.alloc (.cells #[.slice none 0 0, .int .i64 0, .int .i64 0, .int .i64 0] 161)) := (Chg.refl [] w).alloc _
  go_enter Tryz.func95, Tryz.ntmps95
  go_wp2_with fail
  go_loopw [4] (fun i wr => ∃ k r1 l1 ao1 cap1, k ≤ l.length ∧ i = .int .i64 (k : Nat) ∧ Wz 161 5 wr w.heap.size r1 l1 ao1 cap1 ∧ Hid (l1 = l.take k) ∧ Chg [w.heap.size] (w.alloc (.cells #[.slice none 0 0, .int .i64 0, .int .i64 0, .int .i64 0] 161)) wr ∧ Fresh (w.alloc (.cells #[.slice none 0 0, .int .i64 0, .int .i64 0, .int .i64 0] 161)) none r1)
    (fun i _ => l.length - (intOf i).toNat)
  case atStart => exact ⟨0, none, [], none, 0, by omega, rfl, hW0, hid (by simp), Chg.refl _ _, Fresh.refl _ _⟩
  case round =>
    obtain ⟨k, r1, l1, ao1, cap1, hk, rfl, hW1, HL, hch, hfr⟩ := hrel
    have hlen : l1.length ≤ 1099511627776 := by rw [HL.out, List.length_take]; omega
    by_cases hlt : k < l.length
    · obtain ⟨bb, off, rfl, hc⟩ := hcells (by omega)
      have hx0 := hc k hlt
      have hbb : bb < w.heap.size := World.block_lt_of_cell? w _ hx0
      have hx : wr.cell? ⟨bb, off + k, none⟩ = some (.int .u8 (l[k].toNat : Int)) := hch.cell ((hc0.cell hx0 (by simp))) (by simp; omega)
      have hS := hid (take_snoc l k hlt)
      have y0 : wr.cell? ⟨w.heap.size, 0, none⟩ = some (.slice ao1 l1.length cap1) := by rw [blk_cell hW1.blk]; rfl
      have ya : ∀ o, (wr.alloc o).cell? ⟨w.heap.size, 0, none⟩ = some (.slice ao1 l1.length cap1) := fun o => ((Chg.refl [] wr).alloc o).cell y0 (by simp)
      have z0 : (0 : Int) ≤ (k : Int) := by omega
      have z1 : (k : Int) < (l.length : Int) := by omega
      have hrow := fun o => hW1.row.keep ((Chg.of_drewN [] wr 1).alloc o) (by simp)
      have hcd := fun o => (Chg.of_drewN [] wr 1).alloc o
      clear hcells hc hx0
      go_wp2_with fail
      go_region_law (first | (refine step_app rfl _ _ 34 rfl elem_u8 rfl (hrow _) rfl (View.one _ _ _) (by simp [Value.oneCell']) (by unfold maxLen; omega) (by omega) (fun ao' cap' r' w2 hr2 hc2 hf2 => ?_); obtain ⟨hcell, hfree⟩ := hW1.put_cell (hcd _) hc2; have hp := hW1.put (l' := l1 ++ [l[k]]) (hcd _) (by rw [List.map_append]; exact hr2) hc2 hf2))
      all_goals
        obtain ⟨p1, p2, p3⟩ := hp
        go_wp2
        go_roundw
        case rel => exact ⟨k + 1, r', _, ao', cap', by omega, by go_num, p1, hid (by rw [HL.out, hS.out]), hch.trans p2 (fun x hx => by
          rcases List.mem_cons.1 hx with h1 | h1
          · exact .inl (by simp [h1])
          · exact .inr ((hfr x (by simpa using h1)).resolve_left (by simp))), hfr.trans hch.size p3⟩
        case measure => simp [intOf]; omega
    · obtain rfl : k = l.length := by omega
      rw [List.take_length] at HL
      have hl1 := HL.out
      clear HL hcells
      subst hl1
      go_wp2
      go_ret
      exact ⟨w.heap.size, l1, ao1, cap1, rfl, ⟨hW1.blk, hW1.row.view, fun g hg e => hW1.ne (by rw [← hW1.row.blk, hg, e]), Nat.zero_le _⟩, Nat.le_refl _, fun g hg => ⟨by have := (hfr g (hW1.row.blk.symm.trans hg)).resolve_left (by simp); simp at this; omega, hW1.row.lt g (hW1.row.blk.symm.trans hg)⟩, hc0.trans hch (fun x hx => .inr (by simp at hx; omega)), hid rfl⟩
end Go.Proofs.YtbghkodcfedebaaGreatDoor
