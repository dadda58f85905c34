/- Walks of the wire layer: short numbers laid. -/
import Derived.Test.YtdakcphkaljghaaWa
namespace Go.Proofs.Ytdakcphkaljghaa
open Go.RowKit Go.AB

theorem info_u8 : (Try.prog.info? 5).map (fun i => (i.zero, i.size, i.bytes)) = some (some (.int .u8 0), 1, 1) := by kernel_rfl
theorem elem_u8 : ElemOk Try.prog 25 5 1 1 := .of Try.underlying25 info_u8 rfl (by decide)

theorem or128 (u : Nat) : bits .or .u8 ((u : Int) % 256) 128 = ((UInt8.ofNat (128 + u % 128)).toNat : Int) := by
  have e : ((u : Int) % 256) = ((u % 256 : Nat) : Int) := by omega
  rw [e, show (128 : Int) = ((128 : Nat) : Int) from rfl, u8_or_nat _ _ (by omega) (by decide)]
  congr 1
  have : ∀ x < 256, x ||| 128 = (128 + x % 128) % 256 := by decide +kernel
  rw [this _ (by omega)]
  simp

/-- Bytes are laid: the writer at block b holds l. -/
def LaidW (T U : Nat) (w : World) (b : Nat) (r : Option Nat) (l : List UInt8) (w' : World) : Prop :=
  ∃ l' r' ao' cap', Wr T U w' b r' l' ao' cap' ∧ Chg (b :: r.toList) w w' ∧ Fresh w r r' ∧ Hid (l' = l)
theorem LaidW.of {T U : Nat} {w W w' : World} {b : Nat} {r : Option Nat} {l : List UInt8} (h : LaidW T U W b r l w') (hc : Chg [] w W) : LaidW T U w b r l w' := by
  obtain ⟨l', r', ao', cap', h1, h2, h3, h4⟩ := h
  exact ⟨l', r', ao', cap', h1, hc.nil.trans' h2, h3.mono hc.size, h4⟩
theorem LaidW.to {T U : Nat} {w w' : World} {b : Nat} {r : Option Nat} {l l2 : List UInt8} (h : LaidW T U w b r l w') (he : l = l2) : LaidW T U w b r l2 w' := he ▸ h
def ShortPost (T U : Nat) (w : World) (b : Nat) (r : Option Nat) (l : List UInt8) (e : Ending) (w' : World) : Prop :=
  e = .returned (.tuple #[]) ∧ LaidW T U w b r l w'

set_option maxHeartbeats 400000 in
set_option maxRecDepth 100000 in
theorem short_calls (u0 : Nat) (hu0 : U64 u0) (w : World) (b : Nat) (r : Option Nat) (l : List UInt8) (ao0 : Option Addr) (cap0 : Nat) (hW : Wr 27 5 w b r l ao0 cap0) (hl : l.length ≤ 1099511627776) :
    Calls Try.prog 54 #[.pointer (some ⟨b, 0, none⟩), .int .u64 u0] w (ShortPost 27 5 w b r (l ++ shortB u0)) := by
  have hl10 := shortB_len10 hu0
  go_enter Try.func54, Try.ntmps54
  go_wp2_with fail
  go_loopw [1] (fun x wr => ∃ u r1 l1 ao1 cap1, x = .int .u64 (u : Nat) ∧ U64 u ∧ Wr 27 5 wr b r1 l1 ao1 cap1 ∧ l1 ++ shortB u = l ++ shortB u0 ∧ Chg (b :: r.toList) w wr ∧ Fresh w r r1)
    (fun x _ => (intOf x).toNat)
  case atStart => exact ⟨u0, r, l, ao0, cap0, rfl, hu0, hW, rfl, Chg.refl _ _, Fresh.refl _ _⟩
  case round =>
    obtain ⟨u, r1, l1, ao1, cap1, rfl, hu, hW1, hll, hch, hfr⟩ := hrel
    have hlen : l1.length ≤ l.length + 10 := by
      have := congrArg List.length hll
      simp only [List.length_append] at this
      omega
    have hc1 := hW1.cell
    have HLL := hid hll
    clear hll
    have hrow := fun o => hW1.row.keep ((Chg.refl [] wr).alloc o) (by simp)
    by_cases h : u < 128
    · go_wp2_with (at_builtin; refine wpList_app rfl _ _ 25 rfl elem_u8 rfl (hrow _) rfl (View.one _ _ _) (by simp [Value.oneCell']) (by unfold maxLen; omega) (by omega) (fun ao' cap' r' w2 hr2 hc2 hf2 _ => halt (fun X hX => ?_)))
      rw [hX.out]; clear hX
      obtain ⟨hcell, hfree⟩ := hW1.put_cell ((Chg.refl [] wr).alloc _) hc2
      go_wp2
      go_end0
      obtain ⟨p1, p2, p3⟩ := hW1.put (l' := l1 ++ shortB u) ((Chg.refl [] wr).alloc _) (by rw [shortB_lt h, List.map_append]; simpa [B, Nat.mod_eq_of_lt (show u < 256 by omega)] using hr2) hc2 hf2
      exact ⟨rfl, _, r', ao', cap', p1, hch.trans p2 (fun x hx => by
        rcases List.mem_cons.1 hx with h1 | h1
        · exact .inl (by simp [h1])
        · exact (hfr x (by simpa using h1)).imp (fun h2 => by simp [h2]) id), hfr.trans hch.size p3, HLL⟩
    · go_wp2_with (at_builtin; refine wpList_app rfl _ _ 25 rfl elem_u8 rfl (hrow _) rfl (View.one _ _ _) (by simp [Value.oneCell']) (by unfold maxLen; omega) (by omega) (fun ao' cap' r' w2 hr2 hc2 hf2 _ => halt (fun X hX => ?_)))
      rw [hX.out]; clear hX
      obtain ⟨hcell, hfree⟩ := hW1.put_cell ((Chg.refl [] wr).alloc _) hc2
      go_wp2
      obtain ⟨p1, p2, p3⟩ := hW1.put (l' := l1 ++ [UInt8.ofNat (128 + u % 128)]) ((Chg.refl [] wr).alloc _) (by rw [List.map_append]; simpa [B, or128] using hr2) hc2 hf2
      go_roundw
      case rel => exact ⟨u / 128, r', _, ao', cap', rfl, hu.div 128, p1, (by rw [List.append_assoc]; simpa [shortB_ge (Nat.le_of_not_lt h)] using HLL.out), hch.trans p2 (fun x hx => by
        rcases List.mem_cons.1 hx with h1 | h1
        · exact .inl (by simp [h1])
        · exact (hfr x (by simpa using h1)).imp (fun h2 => by simp [h2]) id), hfr.trans hch.size p3⟩
      case measure => simp [intOf]; omega
end Go.Proofs.Ytdakcphkaljghaa
