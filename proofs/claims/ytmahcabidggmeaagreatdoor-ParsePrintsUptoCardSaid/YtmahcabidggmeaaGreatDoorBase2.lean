import Derived.Test.YtmahcabidggmeaaGreatDoorObj
set_option linter.unusedSimpArgs false
set_option linter.unusedVariables false
set_option linter.unusedSectionVars false
/- More on rows and slices: parts, single cells written. -/
namespace Go.AB
open Go.RowKit

/-- New cells, as a slice. -/
theorem View.news (w : World) (xs : List Value) (t : TypeId) (h : xs.length ≤ maxLen) : View (w.alloc (.cells xs.toArray t)) 1 (.slice (some ⟨w.heap.size, 0, none⟩) xs.length xs.length) xs.length xs := by
  refine ⟨by simp, h, _, _, rfl, Nat.le_refl _, h, (fun h => by cases h), fun h0 => ⟨_, _, rfl, fun j hj => ?_⟩⟩
  have hj' : j < xs.length := by omega
  rw [blk_cell (blk_alloc_new w _)]
  simp [List.getD, hj']
/-- The first elements of a slice. -/
theorem View.pre {w : World} {ao : Option Addr} {cap n : Nat} {xs : List Value} (h : View w 1 (.slice ao n cap) n xs) {m : Nat} (hm : m ≤ n) : View w 1 (.slice ao m cap) m (xs.take m) := by
  obtain ⟨h1, h2, ao', cap', hv, h3, h4, h5, h6⟩ := h
  simp only [Value.slice.injEq, true_and] at hv
  obtain ⟨rfl, rfl⟩ := hv
  refine ⟨by simp; omega, by omega, _, _, rfl, by omega, h4, fun e => ⟨by have := (h5 e).1; omega, (h5 e).2⟩, fun h0 => ?_⟩
  obtain ⟨b, off, hb, hc⟩ := h6 (by omega)
  refine ⟨b, off, hb, fun j hj => ?_⟩
  rw [hc j (by omega)]
  have : j < m := by omega
  simp [List.getD, this]
/-- A row of bytes, one of them: what stands there, and the row behind a store. -/
theorem Row.at {w : World} {U : Nat} {ao : Option Addr} {cap : Nat} {r : Option Nat} {l : List UInt8} (h : Row w U 1 (.slice ao l.length cap) r l.length (l.map B)) {k : Nat} (hk : k < l.length) :
    ∃ g, ao = some ⟨g, 0, none⟩ ∧ r = some g ∧ w.cell? ⟨g, k, none⟩ = some (.int .u8 (l[k].toNat : Nat)) ∧ w.frozen? ⟨g, k, none⟩ = false ∧
      ∀ x : UInt8, Row (w.setCell ⟨g, k, none⟩ (B x)) U 1 (.slice ao l.length cap) r l.length ((l.set k x).map B) ∧ Chg [g] w (w.setCell ⟨g, k, none⟩ (B x)) := by
  rcases h.form with ⟨_, h0, _⟩ | ⟨g, cap', cur, hv, rfl, hnc, hcm, hg, hcs, ht⟩
  · omega
  · simp only [Value.slice.injEq, true_and] at hv
    obtain ⟨rfl, rfl⟩ := hv
    have hkc : k < cur.size := by omega
    have hcell : cur[k]? = some (.int .u8 (l[k].toNat : Nat)) := by
      have h1 : (cur.toList.take (l.length * 1))[k]? = (l.map B)[k]? := by rw [ht]
      rw [List.getElem?_take] at h1
      rw [if_pos (by omega)] at h1
      simp only [Array.getElem?_toList] at h1
      rw [h1]
      simp [hk, B]
    refine ⟨g, rfl, rfl, ?_, blk_free hg k, fun x => ⟨⟨⟨by simp, .inr ⟨g, cap, _, rfl, Nat.zero_le _, blk_set hg k _, hnc, hcm, ?_, ?_⟩⟩, rfl⟩, (Chg.refl [g] w).setCell (p := ⟨g, k, none⟩) (.inl (by simp)) _⟩⟩
    · rw [blk_cell hg, hcell]
    · simp [hcs]
    · rw [Array.toList_setIfInBounds, List.map_set, ← ht, List.take_set]
theorem xor255 : ∀ x : Nat, x < 256 → bits .xor .u8 (x : Int) 255 = ((255 - x : Nat) : Int) := by decide +kernel
end Go.AB
