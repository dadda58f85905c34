/- Walks of the lexer: a token is put behind the others. -/
import Derived.Test.YtmahcabidggmeaaGreatDoorAd
import Derived.Test.YtmahcabidggmeaaGreatDoorOwn
set_option linter.unusedVariables false
set_option linter.unusedSectionVars false
set_option linter.unusedSimpArgs false
namespace Go.Proofs.YtmahcabidggmeaaGreatDoor
open Go.RowKit Go.AB
set_option linter.unusedSimpArgs false
set_option linter.unusedVariables false
set_option linter.unusedSectionVars false

theorem info_tok : (Tryz.prog.info? 63).map (fun i => (i.zero, i.size, i.bytes)) = some (some (.agg #[.int .i64 0, .string ⟨#[]⟩, .int .i64 0, .int .i64 0, .int .i64 0]), 5, 48) := by kernel_rfl
theorem elem_tok : ElemOk Tryz.prog 55 63 5 48 := .of Tryz.underlying55 info_tok rfl (by decide)
/-- One new struct, as a slice of one element. -/
theorem View.struct (w : World) (cs : List Value) (t : TypeId) {k : Nat} (hk : cs.length = k) : View (w.alloc (.cells cs.toArray t)) k (.slice (some ⟨w.heap.size, 0, none⟩) 1 1) 1 cs := by
  subst hk
  refine ⟨by simp, by simp [maxLen], _, _, rfl, Nat.le_refl _, by simp [maxLen], (fun h => by cases h), fun _ => ⟨_, _, rfl, fun j hj => ?_⟩⟩
  have hj' : j < cs.length := by omega
  rw [blk_cell (blk_alloc_new w _)]
  simp [List.getD, hj']

/-- A variable that holds a list of tokens: block c, the row r, n tokens, their cells xs. -/
structure Col (w : World) (c : Nat) (r : Option Nat) (n : Nat) (xs : List Value) (ao : Option Addr) (cap : Nat) : Prop where
  blk : w.heap[c]? = some (.cells #[.slice ao n cap] 55 (0, 0))
  row : Row w 63 5 (.slice ao n cap) r n xs
  ne : r ≠ some c
theorem Col.keep {w w' : World} {c : Nat} {r : Option Nat} {n : Nat} {xs : List Value} {ao : Option Addr} {cap : Nat} {S : List Nat} (h : Col w c r n xs ao cap) (hc : Chg S w w') (hb : c ∉ S) (hr : ∀ g, r = some g → g ∉ S) : Col w' c r n xs ao cap :=
  ⟨hc.heap h.blk hb, h.row.keep hc hr, h.ne⟩
theorem Col.cell {w : World} {c : Nat} {r : Option Nat} {n : Nat} {xs : List Value} {ao : Option Addr} {cap : Nat} (h : Col w c r n xs ao cap) : w.cell? ⟨c, 0, none⟩ = some (.slice ao n cap) := by rw [blk_cell h.blk]; rfl
theorem Col.put {w w1 w2 : World} {c : Nat} {r r' : Option Nat} {n n' : Nat} {xs xs' : List Value} {ao ao' : Option Addr} {cap cap' : Nat} (h : Col w c r n xs ao cap) (h1 : Chg [] w w1) (hrow : Row w2 63 5 (.slice ao' n' cap') r' n' xs') (hc : Chg r.toList w1 w2) (hf : Fresh w1 r r') :
    Col (w2.setCell ⟨c, 0, none⟩ (.slice ao' n' cap')) c r' n' xs' ao' cap' ∧ Chg (c :: r.toList) w (w2.setCell ⟨c, 0, none⟩ (.slice ao' n' cap')) ∧ Fresh w r r' := by
  have hbr : c ∉ r.toList := fun hm => h.ne (by simpa using hm)
  have hb2 : w2.heap[c]? = some (.cells #[.slice ao n cap] 55 (0, 0)) := hc.heap (h1.heap h.blk (by simp)) hbr
  have hne : r' ≠ some c := fun e => by
    rcases hf c e with h3 | h3
    · exact h.ne h3
    · have := blk_lt h.blk; have := h1.size; omega
  refine ⟨⟨by rw [blk_set hb2]; rfl, hrow.keep (S := [c]) ((Chg.refl _ _).setCell (p := ⟨c, 0, none⟩) (.inl (by simp)) _) (fun g hg hm => hne (by simp at hm; rw [hg, hm])), hne⟩, ?_, hf.mono h1.size⟩
  exact ((h1.nil.trans hc (fun x hx => .inl (List.mem_cons_of_mem _ hx))).setCell (p := ⟨c, 0, none⟩) (.inl (by simp)) _)
theorem Col.put_cell {w w1 w2 : World} {c : Nat} {r : Option Nat} {n : Nat} {xs : List Value} {ao : Option Addr} {cap : Nat} (h : Col w c r n xs ao cap) (h1 : Chg [] w w1) (hc : Chg r.toList w1 w2) :
    w2.cell? ⟨c, 0, none⟩ = some (.slice ao n cap) ∧ w2.frozen? ⟨c, 0, none⟩ = false := by
  have hbr : c ∉ r.toList := fun hm => h.ne (by simpa using hm)
  have hb2 : w2.heap[c]? = some (.cells #[.slice ao n cap] 55 (0, 0)) := hc.heap (h1.heap h.blk (by simp)) hbr
  exact ⟨by rw [blk_cell hb2]; rfl, blk_free hb2 0⟩

/-- Behind the put: the list is longer by one. -/
def PutPost (w : World) (c : Nat) (r : Option Nat) (n : Nat) (xs : List Value) (e : Ending) (w' : World) : Prop :=
  e = .returned (.bool true) ∧ ∃ r' ao' cap', Col w' c r' (n + 1) xs ao' cap' ∧ Chg (c :: r.toList) w w' ∧ Fresh w r r'

set_option maxHeartbeats 1000000 in
set_option maxRecDepth 100000 in
theorem put_calls {w : World} {c : Nat} {r : Option Nat} {n : Nat} {xs : List Value} {ao : Option Addr} {cap : Nat} (h : Col w c r n xs ao cap) (hn : n ≤ 16777216) (c0 c2 c3 c4 : Int) (c1 : ByteArray) :
    Calls Tryz.prog 39 #[.agg #[.int .i64 c0, .string c1, .int .i64 c2, .int .i64 c3, .int .i64 c4], .pointer (some ⟨c, 0, none⟩)] w (PutPost w c r n (xs ++ [.int .i64 c0, .string c1, .int .i64 c2, .int .i64 c3, .int .i64 c4])) := by
  have hca := (Chg.refl [] w).alloc (.cells #[.int .i64 c0, .string c1, .int .i64 c2, .int .i64 c3, .int .i64 c4] 63)
  have h0 := (h.keep hca (by simp) (by simp)).cell
  have hrow := fun o => (h.keep hca (by simp) (by simp)).row.keep ((Chg.refl [] _).alloc o) (by simp)
  have hv := View.struct (w.alloc (.cells #[.int .i64 c0, .string c1, .int .i64 c2, .int .i64 c3, .int .i64 c4] 63)) [.int .i64 c0, .string c1, .int .i64 c2, .int .i64 c3, .int .i64 c4] 63 rfl
  rw [show (w.alloc (.cells #[.int .i64 c0, .string c1, .int .i64 c2, .int .i64 c3, .int .i64 c4] 63)).heap.size = w.heap.size + 1 from by simp] at hv
  go_enter Tryz.func39, Tryz.ntmps39
  go_wp2_with (at_builtin; refine wpList_grew rfl _ _ 55 rfl elem_tok rfl (hrow _) rfl hv (by simp [Value.oneCell']) (by unfold maxLen; omega) (by omega) (fun ao' cap' r' w2 hr2 hg2 => halt (fun X hX => ?_)))
  rw [hX.out]; clear hX
  have hc1 := hca.alloc (.cells #[.int .i64 c0, .string c1, .int .i64 c2, .int .i64 c3, .int .i64 c4] 63)
  obtain ⟨p1, p2⟩ := h.put_cell hc1 hg2.chg
  have hp := h.put hc1 hr2 hg2.chg hg2.fresh
  go_wp2
  go_ret
  exact ⟨rfl, r', ao', cap', hp⟩
end Go.Proofs.YtmahcabidggmeaaGreatDoor
