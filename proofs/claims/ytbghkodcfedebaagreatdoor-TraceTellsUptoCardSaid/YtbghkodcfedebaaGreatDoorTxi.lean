/- Walks of the trace laws: a list that is lent with room behind it. -/
import Derived.Test.YtbghkodcfedebaaGreatDoorTxh
set_option linter.unusedVariables false
set_option linter.unusedSectionVars false
set_option linter.unusedSimpArgs false
namespace Go.AB
open Go.RowKit
/-- What lies behind a list that is lent. -/
def roomE (i : Nat) : List Ev := (List.range i).map fun (k : Nat) => (⟨0, 0, -100 - (k : Int)⟩ : Ev)
theorem roomE_succ (i : Nat) : roomE (i + 1) = roomE i ++ [⟨0, 0, -100 - (i : Int)⟩] := by unfold roomE; rw [List.range_succ, List.map_append]; rfl
theorem roomE_len (i : Nat) : (roomE i).length = i := by simp [roomE]
theorem Row.pre {w : World} {e k : Nat} {ao : Option Addr} {N cap : Nat} {r : Option Nat} {xs ys : List Value} (h : Row w e k (.slice ao N cap) r N (xs ++ ys)) {n : Nat} (hn : n ≤ N) (hx : xs.length = n * k) : Row w e k (.slice ao n cap) r n xs := by
  obtain ⟨⟨hl, ho⟩, hr⟩ := h
  have hr' : Value.ownBlock (.slice ao n cap) = r := by rw [← hr]; cases ao <;> rfl
  rcases ho with ⟨hv, hN⟩ | ⟨g, cap', cur, hv, hb, hg, h0, hm, hs, ht⟩
  · refine ⟨⟨hx, .inl ?_⟩, hr'⟩
    simp only [Value.slice.injEq] at hv
    obtain ⟨rfl, rfl, rfl⟩ := hv
    obtain rfl : n = 0 := by omega
    exact ⟨rfl, rfl⟩
  · refine ⟨⟨hx, .inr ⟨g, cap', cur, ?_, hb, hg, by omega, hm, hs, ?_⟩⟩, hr'⟩
    · simp only [Value.slice.injEq, true_and] at hv ⊢
      exact hv
    · have h2 : xs = (xs ++ ys).take (n * k) := by rw [← hx, List.take_left]
      rw [h2, ← ht, List.take_take, Nat.min_eq_left (Nat.mul_le_mul_right k hn)]
theorem Row.zero (w : World) (e k : Nat) : Row (w.alloc (.cells #[] e)) e k (.slice (some ⟨w.heap.size, 0, none⟩) 0 0) (some w.heap.size) 0 [] :=
  ⟨⟨by simp, .inr ⟨w.heap.size, 0, #[], rfl, by simp, heap_alloc_new w _, Nat.le_refl _, by simp [maxLen], by simp, by simp⟩⟩, rfl⟩
end Go.AB
namespace Go.Proofs.YtbghkodcfedebaaGreatDoor
open Go.RowKit Go.AB
set_option linter.unusedSimpArgs false
set_option linter.unusedVariables false
set_option linter.unusedSectionVars false
theorem one_evs (l : List Ev) : ∀ u ∈ l.flatMap evC, u.oneCell' = true := by
  intro u hu
  obtain ⟨x, _, hx⟩ := List.mem_flatMap.1 hu
  simp only [evC, List.mem_cons, List.not_mem_nil, or_false] at hx
  rcases hx with rfl | rfl | rfl <;> rfl
/-- What lent hands back: block g holds the list and the room behind it. -/
structure LentE (w w' : World) (n g cap : Nat) (l : List Ev) : Prop where
  row : Row w' 28 3 (.slice (some ⟨g, 0, none⟩) (n + 70) cap) (some g) (n + 70) ((l ++ roomE 70).flatMap evC)
  new : w.heap.size ≤ g
  chg : Chg [] w w'
set_option maxHeartbeats 4000000 in
set_option maxRecDepth 100000 in
theorem lent_calls {v : Value} (l : List Ev) (w : World) (hl : Lst evC 3 w v l) (hn : l.length ≤ 1048576) :
    Calls Tryz.prog 10 #[v] w fun e w' => ∃ n g cap, l.length = n ∧ e = .returned (.slice (some ⟨g, 0, none⟩) n cap) ∧ LentE w w' n g cap l := by
  obtain ⟨a0, c0, rfl, -⟩ := hl.len
  obtain ⟨n, hln⟩ : ∃ n, l.length = n := ⟨_, rfl⟩
  have HV : Hid (View w 3 (.slice a0 n c0) n (l.flatMap evC)) := hid (by have h : View w 3 (.slice a0 l.length c0) l.length (l.flatMap evC) := hl; rwa [hln] at h)
  rw [hln] at hl hn ⊢
  have HN := hid hln
  have hone := one_evs l
  have HON := hid hone
  clear hl hln hone
  go_enter Tryz.func10, Tryz.ntmps10
  go_wp2_with (at_builtin; refine halt (fun X hX => ?_))
  rw [hX.out]; clear hX
  refine wpList_grew rfl _ _ 22 rfl elem_ev rfl (Row.zero w 28 3) rfl (View.keep HV.out ((Chg.refl [] w).alloc (.cells #[] 28)) (by simp)) HON.out (by unfold maxLen; omega) (by omega) (fun ao1 cap1 r1 w1 hr1 hg1 => ?_)
  rw [List.nil_append] at hr1
  simp only [Nat.zero_add] at hr1 ⊢
  have hc1 : Chg [] w w1 := ((Chg.refl [] w).alloc (.cells #[] 28)).trans hg1.chg (fun x hx => .inr (by simp at hx; omega))
  have hf1 : Fresh w none r1 := fun g hg => .inr (by
    rcases hg1.fresh g hg with h | h
    · simp at h; omega
    · have : w.heap.size ≤ (w.alloc (.cells #[] 28)).heap.size := by simp
      omega)
  have HC1 := hid (And.intro hr1 (And.intro hf1 hc1))
  clear hg1 hr1 hf1 hc1
  go_wp2_with fail
  go_loopg [3, 4] 70 (fun gk v3 v4 wr => ∃ (i : Nat) (ao : Option Addr) (cap : Nat) (r : Option Nat), v3 = .slice ao (n + i) cap ∧ v4 = .int .i64 i ∧ Hid (gk + i = 70) ∧ i ≤ 70 ∧ Hid (Row wr 28 3 (.slice ao (n + i) cap) r (n + i) ((l ++ roomE i).flatMap evC) ∧ Fresh w none r ∧ Chg [] w wr))
  case atStart => exact ⟨0, _, _, _, rfl, rfl, hid (by omega), by omega, hid ⟨by simpa [roomE] using HC1.out.1, HC1.out.2.1, HC1.out.2.2⟩⟩
  case round =>
    obtain ⟨i, ao, cap, r, rfl, rfl, HG, hi7, HR⟩ := hrel
    by_cases hi : i < 70
    · have hrow := fun o => HR.out.1.keep ((Chg.refl [] wr).alloc o) (by simp)
      have e2 : IntKind.i64.wrap (-100 - (i : Int)) = -100 - (i : Int) := by rw [IntKind.wrap_i64]; omega
      have e3 : wrap64 (-100 - (i : Int)) = -100 - (i : Int) := IntWalk.wrap64_in _ (by omega)
      go_wp2_with (at_builtin; refine wpList_grew rfl _ _ 22 rfl elem_ev rfl (hrow _) rfl (View.struct wr [.int .i64 0, .int .i64 0, .int .i64 (-100 - (i : Int))] 28 rfl) (by simp [Value.oneCell']) (by unfold maxLen; omega) (by omega) (fun ao2 cap2 r2 w2 hr2 hg2 => halt (fun X hX => ?_)))
      have hca := (Chg.refl [] wr).alloc (.cells [Value.int .i64 0, .int .i64 0, .int .i64 (-100 - (i : Int))].toArray 28)
      have HN2 : Hid (Row w2 28 3 (.slice ao2 (n + (i + 1)) cap2) r2 (n + (i + 1)) ((l ++ roomE (i + 1)).flatMap evC) ∧ Fresh w none r2 ∧ Chg [] w w2) := hid ⟨by
        rw [roomE_succ, ← List.append_assoc, ← Nat.add_assoc, ← evs_snoc]
        exact hr2, fresh_step HR.out.2.2 HR.out.2.1 hca hg2.fresh, own_step HR.out.2.2 HR.out.2.1 hca hg2.chg⟩
      clear hr2 hg2 hca hrow
      rw [hX.out]; clear hX
      go_wp2_with fail
      go_roundg (gk - 1)
      case measure => have := HG.out; omega
      case rel => exact ⟨i + 1, ao2, cap2, r2, by first | rfl | (rw [Nat.add_assoc]), by go_num, hid (by have := HG.out; omega), by omega, HN2⟩
    · obtain rfl : i = 70 := by omega
      obtain ⟨g, cap', cur, hv, hrg, hnc, hcm, _⟩ := (by
        rcases HR.out.1.form with ⟨hv, h0, _⟩ | h
        · omega
        · exact h : ∃ g cap' cur, Value.slice ao (n + 70) cap = .slice (some ⟨g, 0, none⟩) (n + 70) cap' ∧ r = some g ∧ n + 70 ≤ cap' ∧ cap' ≤ maxLen ∧ wr.heap[g]? = some (.cells cur 28 (0, 0)) ∧ cur.size = cap' * 3 ∧ cur.toList.take ((n + 70) * 3) = (l ++ roomE 70).flatMap evC)
      simp only [Value.slice.injEq, true_and] at hv
      obtain ⟨rfl, rfl⟩ := hv
      subst hrg
      have hcap : n ≤ cap := by omega
      clear hi hnc
      go_wp2_with fail
      go_ret
      exact ⟨n, g, cap, rfl, rfl, HR.out.1, by simpa using HR.out.2.1 g rfl, HR.out.2.2⟩
end Go.Proofs.YtbghkodcfedebaaGreatDoor
