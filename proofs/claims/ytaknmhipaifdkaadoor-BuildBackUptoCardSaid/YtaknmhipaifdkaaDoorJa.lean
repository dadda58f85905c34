/- Walks of the builder's laws: items, lists of Items in new memory. -/
import Derived.Test.YtaknmhipaifdkaaDoorOj
set_option linter.unusedSimpArgs false
set_option linter.unusedVariables false
set_option linter.unusedSectionVars false
namespace Go.AB
open Go.RowKit
theorem Row.pre {w : World} {e k : Nat} {ao : Option Addr} {N cap : Nat} {r : Option Nat} {xs ys : List Value} (h : Row w e k (.slice ao N cap) r N (xs ++ ys)) {n : Nat} (hn : n ≤ N) (hx : xs.length = n * k) : Row w e k (.slice ao n cap) r n xs := by
  obtain ⟨⟨hl, ho⟩, hr⟩ := h
  have hr' : Value.ownBlock (.slice ao n cap) = r := by rw [← hr]; cases ao <;> rfl
  rcases ho with ⟨hv, hN⟩ | ⟨g, cap', cur, hv, hb, hg, h0, hm, hs, ht⟩
  · refine ⟨⟨hx, .inl ?_⟩, hr'⟩
    simp only [Value.slice.injEq] at hv
    obtain ⟨rfl, rfl, rfl⟩ := hv
    obtain rfl : n = 0 := by omega
    exact ⟨rfl, rfl⟩
  · refine ⟨⟨hx, .inr ⟨g, cap', cur, ?_, hb, hg, by omega, hm, hs, ?_⟩⟩, hr'⟩
    · simp only [Value.slice.injEq, true_and] at hv ⊢
      exact hv
    · have h2 : xs = (xs ++ ys).take (n * k) := by rw [← hx, List.take_left]
      rw [h2, ← ht, List.take_take, Nat.min_eq_left (Nat.mul_le_mul_right k hn)]
end Go.AB
namespace Go.Proofs.YtaknmhipaifdkaaDoor
open Go.RowKit Go.AB
set_option linter.unusedSimpArgs false
set_option linter.unusedVariables false
set_option linter.unusedSectionVars false

theorem info_itm : (Tryd.prog.info? 82).map (fun i => (i.zero, i.size, i.bytes)) = some (some (.agg #[.int .i64 0, .int .i64 0, .int .i64 0, .int .i64 0, .int .i64 0, .string ⟨#[]⟩, .int .i64 0, .int .i64 0, .int .i64 0, .int .i64 0]), 10, 88) := by kernel_rfl
theorem elem_itm : ElemOk Tryd.prog 54 82 10 88 := .of Tryd.underlying54 info_itm rfl (by decide)
theorem one_itms (l : List ItD) : ∀ u ∈ l.flatMap itC, u.oneCell' = true := by
  intro u hu
  obtain ⟨x, _, hx⟩ := List.mem_flatMap.1 hu
  simp only [itC, List.mem_cons, List.not_mem_nil, or_false] at hx
  rcases hx with rfl | rfl | rfl | rfl | rfl | rfl | rfl | rfl | rfl | rfl <;> rfl
theorem itms_len (l : List ItD) : (l.flatMap itC).length = l.length * 10 := by
  induction l with
  | nil => rfl
  | cons x l ih => simp only [List.flatMap_cons, List.length_append, ih, itC_len, List.length_cons]; omega

set_option maxHeartbeats 4000000 in
set_option maxRecDepth 100000 in
theorem items_calls {v : Value} {l : List ItD} (w : World) (hv : Lst itC 10 w v l) (hl : l.length ≤ 1048576) : Calls Tryd.prog 18 #[v] w fun e w' => ∃ v' r, e = .returned v' ∧ Row w' 82 10 v' r l.length (l.flatMap itC) ∧ Chg [] w w' ∧ Fresh w none r := by
  obtain ⟨a, c, rfl, hlc, hcm, _⟩ := hv.len
  have hv1 : View w 10 (.slice a l.length c) l.length (l.flatMap itC) := hv
  have hone := one_itms l
  have HXS := hid (itms_len l)
  obtain ⟨xs, hxs⟩ : ∃ xs, l.flatMap itC = xs := ⟨_, rfl⟩
  rw [hxs] at hv1 hone HXS ⊢
  obtain ⟨n, hn⟩ : ∃ n, l.length = n := ⟨_, rfl⟩
  rw [hn] at hv1 hlc hl HXS ⊢
  clear hxs hv hn
  go_enter Tryd.func18, Tryd.ntmps18
  go_wp2_with (at_builtin; refine wpList_grew rfl _ _ 54 rfl elem_itm rfl (Row.nil w _ 10) rfl hv1 hone (by unfold maxLen; omega) (by omega) (fun ao1 cap1 r1 w1 hr1 hg1 => halt (fun X hX => ?_)))
  rw [hX.out]; clear hX
  simp only [Nat.zero_add, List.nil_append] at hr1 ⊢
  have HC1 := hid (show Chg [] w w1 from hg1.chg)
  have HF1 := hid hg1.fresh
  have HR1 := hid hr1
  clear hg1 hr1
  go_wp2_with fail
  go_loopg [4, 3] 70 (fun gk vi vl wr => ∃ (i : Nat) (ao : Option Addr) (cap : Nat) (r : Option Nat) (ys : List Value), gk + i = 70 ∧ vi = .int .i64 i ∧ vl = .slice ao (n + i) cap ∧ Row wr 82 10 (.slice ao (n + i) cap) r (n + i) (xs ++ ys) ∧ Hid (Chg [] w wr ∧ Fresh w none r))
  case atStart => exact ⟨0, _, _, _, [], rfl, rfl, rfl, by simpa using HR1.out, hid ⟨HC1.out, HF1.out⟩⟩
  case round =>
    obtain ⟨i, ao, cap, r, ys, hgi, rfl, rfl, hr, HC⟩ := hrel
    by_cases hi : i < 70
    · go_wp2_with (at_builtin; refine wpList_grew rfl _ _ 54 rfl elem_itm rfl (hr.keep ((Chg.refl [] _).alloc _) (by simp)) rfl (View.struct wr [.int .i64 0, .int .i64 0, .int .i64 0, .int .i64 0, _, .string ⟨#[]⟩, .int .i64 0, .int .i64 0, .int .i64 0, .int .i64 0] 82 rfl) (by simp [Value.oneCell']) (by unfold maxLen; omega) (by omega) (fun ao2 cap2 r2 w2 hr2 hg2 => halt (fun X hX => ?_)))
      rw [hX.out]; clear hX
      have hcx := hid (And.intro hg2.chg hg2.fresh)
      clear hg2
      go_wp2_with fail
      go_roundg (gk - 1)
      case measure => omega
      case rel => exact ⟨i + 1, ao2, cap2, r2, _, by omega, by go_num, by rw [Nat.add_assoc], by rw [← Nat.add_assoc]; simpa only [List.append_assoc] using hr2, hid ⟨HC.out.1.trans (((Chg.refl [] wr).alloc _).nil.trans' hcx.out.1) (fun x hx => by have := HC.out.2 x (by simpa using hx); exact .inr (this.resolve_left (by simp))), HC.out.2.trans (by have := HC.out.1.size; simpa using Nat.le_succ_of_le this) hcx.out.2⟩⟩
    · obtain rfl : i = 70 := by omega
      have hcap := hr.cap
      go_wp2_with fail
      exact bodyPost_ret (v := .slice ao n cap) (by simp [results, Tryd.results18, go_sem]) rfl ⟨_, r, rfl, hr.pre (by omega) HXS.out, HC.out.1, HC.out.2⟩
end Go.Proofs.YtaknmhipaifdkaaDoor
