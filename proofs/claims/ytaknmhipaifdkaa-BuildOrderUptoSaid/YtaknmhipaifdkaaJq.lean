/- Walks of the builder's laws: sorted, clear, doubled. -/
import Derived.Test.YtaknmhipaifdkaaJl
set_option linter.unusedSimpArgs false
set_option linter.unusedSectionVars false
namespace Go.AB
open Go.RowKit
set_option linter.unusedVariables false
/-- The declarations of the last i kinds, from the last kind on. -/
def hiD (ds : List DcD) : Nat → List DcD
  | 0 => []
  | i + 1 => hiD ds i ++ ds.filter fun d => decide (d.kind = 4 - (i : Int))
def sortD (ds : List DcD) : List DcD := hiD ds 4
def yU : ByteArray := ⟨#[121, 95]⟩
end Go.AB
namespace Go.Proofs.Ytaknmhipaifdkaa
open Go.RowKit Go.AB
set_option linter.unusedSimpArgs false
set_option linter.unusedVariables false
set_option linter.unusedSectionVars false

theorem filter_snoc {α : Type} (p : α → Bool) (xs : List α) {n : Nat} (hn : n < xs.length) : (xs.take (n + 1)).filter p = (xs.take n).filter p ++ if p xs[n] = true then [xs[n]] else [] := by
  rw [List.take_succ_eq_append_getElem hn, List.filter_append]
  congr 1
  by_cases h : p xs[n] = true
  · rw [if_pos h, List.filter_cons_of_pos h]; rfl
  · rw [if_neg h, List.filter_cons_of_neg h]; rfl

set_option maxHeartbeats 4000000 in
set_option maxRecDepth 100000 in
theorem sorted_calls {v : Value} {ds : List DcD} (w : World) (hv : Lst dcC 5 w v ds) (hl : ds.length ≤ 1048576) : Calls Try.prog 14 #[v] w fun e w' => ∃ v' r, e = .returned v' ∧ Row w' 52 5 v' r (sortD ds).length ((sortD ds).flatMap dcC) ∧ Chg [] w w' ∧ Fresh w none r := by
  obtain ⟨a, c, rfl, hlc, hcm, -⟩ := hv.len
  obtain ⟨D, hD⟩ : ∃ D, ds.length = D := ⟨_, rfl⟩
  have hv1 := hv
  rw [hD] at hv1 hl hlc ⊢
  have HV := hid hv1
  have HD := hid hD
  clear hv hv1 hD
  go_enter Try.func14, Try.ntmps14
  go_upto_region 3 with fail
  go_loopg [4, 3] 4 (fun gk vk vl wr => ∃ (i n : Nat) (ao : Option Addr) (cap : Nat) (r : Option Nat), gk + i = 4 ∧ vk = .int .i64 (4 - (i : Int)) ∧ vl = .slice ao n cap ∧ n ≤ 1048576 * i ∧ Hid ((hiD ds i).length = n ∧ Row wr 52 5 (.slice ao n cap) r n ((hiD ds i).flatMap dcC)) ∧ Hid (Chg [] w wr ∧ Fresh w none r))
  case atStart => exact ⟨0, 0, none, 0, none, rfl, rfl, rfl, by omega, hid ⟨rfl, Row.nil w _ 5⟩, hid ⟨Chg.refl _ _, fun g hg => by cases hg⟩⟩
  case round =>
    obtain ⟨i, n, ao, cap, r, hgi, rfl, rfl, hn, HR, HC⟩ := hrel
    by_cases hi : i < 4
    · have z1 : decide ((1 : Int) ≤ 4 - (i : Int)) = true := decide_eq_true (by omega)
      obtain ⟨go, hgo⟩ : ∃ go, go = gk := ⟨_, rfl⟩
      rw [← hgo] at hgi
      obtain ⟨K, hK⟩ : ∃ K : Int, 4 - (i : Int) = K := ⟨_, rfl⟩
      rw [hK] at z1 ⊢
      have HK := hid hK
      have hK1 : 1 ≤ K ∧ K ≤ 4 := by omega
      clear hK
      go_upto_region 6 with fail
      go_loopg [5, 3] D (fun gj vj vl wr => ∃ (j m : Nat) (ao : Option Addr) (cap : Nat) (r : Option Nat), gj + j = D ∧ vj = .int .i64 j ∧ vl = .slice ao m cap ∧ m ≤ 1048576 * i + j ∧ Hid ((hiD ds i ++ (ds.take j).filter fun d => decide (d.kind = K)).length = m ∧ Row wr 52 5 (.slice ao m cap) r m ((hiD ds i ++ (ds.take j).filter fun d => decide (d.kind = K)).flatMap dcC)) ∧ Hid (Chg [] w wr ∧ Fresh w none r))
      case atStart => exact ⟨0, n, ao, cap, r, by omega, rfl, rfl, by omega, hid (by simpa using HR.out), HC⟩
      case round =>
        subst hgo
        obtain ⟨j, m, ao, cap, r, hgj, rfl, rfl, hm, HR2, HC2⟩ := hrel
        by_cases hj : j < D
        · have hjd : j < ds.length := by rw [HD.out]; exact hj
          obtain ⟨d, hd⟩ : ∃ d, ds[j]'hjd = d := ⟨_, rfl⟩
          have hvl : Lst dcC 5 w (.slice a D c) ds := by
            have h1 := HV.out
            rw [← HD.out] at h1
            rw [← HD.out]
            exact h1
          obtain ⟨b, o, ha, x0, x1, x2, x3, x4⟩ := decls_at (hvl.keep HC2.out.1) hjd hd
          have hfs := filter_snoc (fun d => decide (d.kind = K)) ds hjd
          rw [hd] at hfs
          have HFS := hid hfs
          subst ha
          clear hd hvl hfs
          by_cases hk : d.kind = K
          · have z2 : (d.kind == K) = true := by simp [hk]
            have z3 : decide (d.kind = K) = true := decide_eq_true hk
            have HE := hid (show (hiD ds i ++ (ds.take (j + 1)).filter fun d => decide (d.kind = K)) = (hiD ds i ++ (ds.take j).filter fun d => decide (d.kind = K)) ++ [d] from by rw [HFS.out, if_pos z3, List.append_assoc])
            have hrow := HR2.out.2
            clear hk
            go_wp2_with (at_builtin; refine wpList_grew rfl _ _ 22 rfl elem_dcl rfl (hrow.keep ((Chg.refl [] _).alloc _) (by simp)) rfl (View.structAt wr [.int .i64 d.kind, .string d.name, .int .i64 d.val, .int .i64 d.l, .int .i64 d.c] 52 rfl rfl) (by simp [Value.oneCell']) (by unfold maxLen; omega) (by omega) (fun ao3 cap3 r3 w3 hr3 hg3 => halt (fun X hX => ?_)))
            rw [hX.out]; clear hX
            have HR3 := hid hr3
            have HC3 := hid (And.intro (HC2.out.1.trans (((Chg.refl [] wr).alloc (.cells #[.int .i64 d.kind, .string d.name, .int .i64 d.val, .int .i64 d.l, .int .i64 d.c] 52)).nil.trans' hg3.chg) (fun x hx => by have := HC2.out.2 x (by simpa using hx); exact .inr (this.resolve_left (by simp)))) (HC2.out.2.trans (by have := HC2.out.1.size; simpa using Nat.le_succ_of_le this) hg3.fresh))
            clear hr3 hg3 hrow
            go_wp2_with fail
            go_roundg (gk - 1)
            case measure => omega
            case rel =>
              refine ⟨j + 1, m + 1, ao3, cap3, r3, by omega, by go_num, rfl, by omega, hid ⟨?_, ?_⟩, HC3⟩
              · rw [HE.out, List.length_append, HR2.out.1]; rfl
              · rw [HE.out, List.flatMap_append, List.flatMap_cons, List.flatMap_nil, List.append_nil]
                exact HR3.out
          · have z2 : (d.kind == K) = false := by simp [hk]
            have z3 : decide (d.kind = K) = false := decide_eq_false hk
            have HE := hid (show (hiD ds i ++ (ds.take (j + 1)).filter fun d => decide (d.kind = K)) = (hiD ds i ++ (ds.take j).filter fun d => decide (d.kind = K)) from by rw [HFS.out, if_neg (by rw [z3]; simp), List.append_nil])
            clear hk
            go_wp2_with fail
            go_roundg (gk - 1)
            case measure => omega
            case rel => exact ⟨j + 1, m, ao, cap, r, by omega, by go_num, rfl, by omega, hid (by rw [HE.out]; exact HR2.out), HC2⟩
        · obtain rfl : j = D := by omega
          have HE := hid (show hiD ds (i + 1) = (hiD ds i ++ (ds.take j).filter fun d => decide (d.kind = K)) from by rw [List.take_of_length_le (by rw [HD.out]; exact Nat.le_refl _), ← HK.out]; rfl)
          have HK2 := HK
          go_wp2_with fail
          go_roundg (go - 1)
          case measure => omega
          case rel => exact ⟨i + 1, m, ao, cap, r, by omega, by rw [← HK2.out]; go_num, rfl, by omega, hid (by rw [HE.out]; exact HR2.out), HC2⟩
    · obtain rfl : i = 4 := by omega
      go_wp2_with fail
      exact bodyPost_ret (v := .slice ao n cap) (by simp [results, Try.results14, go_sem]) rfl ⟨_, r, rfl, by unfold sortD; rw [HR.out.1]; exact HR.out.2, HC.out.1, HC.out.2⟩

/-- Does an Item's label begin with y_, or is it too long? -/
def BadL (x : ItD) : Prop := ledB x.op = true ∧ (22 < x.name.size ∨ (1 < x.name.size ∧ x.name.extract 0 2 = yU))
def ClearL (l : List ItD) : Prop := ∀ x ∈ l, ¬ BadL x
theorem yU_eq (s : ByteArray) : (s.toList == [121, 95]) = decide (s = yU) := by
  rw [← ba_beq, beq_toListBytes, show yU.toList = [121, 95] from by decide +kernel]

set_option maxHeartbeats 4000000 in
set_option maxRecDepth 100000 in
theorem clear_calls {nm : ByteArray} {v : Value} {l : List ItD} {l1 l2 : Int} (w : World) (hv : Lst itC 10 w v l) (hl : l.length ≤ 1048576) (hs : ∀ x ∈ l, x.name.size ≤ 4294967296) : Calls Try.prog 15 #[.agg #[.string nm, v, .int .i64 l1, .int .i64 l2]] w fun e w' => e = .returned (.bool (eqB (ClearL l))) ∧ Chg [] w w' := by
  obtain ⟨a, c, rfl, hlc, hcm, -⟩ := hv.len
  obtain ⟨t, ht⟩ : ∃ t, eqB (ClearL l) = t := ⟨_, rfl⟩
  rw [ht]
  have HT := hid ht
  have hb := heap_alloc_new w (.cells #[.string nm, .slice a l.length c, .int .i64 l1, .int .i64 l2] 48)
  have u1 := blk_cell hb 1
  have hc0 := (Chg.refl [] w).alloc (.cells #[.string nm, .slice a l.length c, .int .i64 l1, .int .i64 l2] 48)
  have hv1 := hv.keep hc0
  obtain ⟨D, hD⟩ : ∃ D, l.length = D := ⟨_, rfl⟩
  rw [hD] at hl hlc hb u1 hc0 hv1 ⊢
  have HD := hid hD
  have HS := hid hs
  simp only [List.getElem?_toArray, List.getElem?_cons_zero, List.getElem?_cons_succ] at u1
  obtain ⟨wA, hwA⟩ : ∃ wA, w.alloc (.cells #[.string nm, .slice a D c, .int .i64 l1, .int .i64 l2] 48) = wA := ⟨_, rfl⟩
  rw [hwA] at hb u1 hc0 hv1
  have HC0 := hid hc0
  have HV := hid hv1
  have HU := hid u1
  clear hv hv1 hD hb hc0 hs ht u1
  go_enter Try.func15, Try.ntmps15
  go_upto_region 2 with fail
  try rw [hwA]
  clear hwA
  go_loopg [3] D (fun gk vi wr => ∃ i : Nat, gk + i = D ∧ vi = .int .i64 i ∧ Hid (∀ j, j < i → ∀ x, l[j]? = some x → ¬ BadL x) ∧ Hid (Chg [] wA wr))
  case atStart => exact ⟨0, rfl, rfl, hid (fun j hj => absurd hj (Nat.not_lt_zero _)), hid (Chg.refl _ _)⟩
  case round =>
    obtain ⟨i, hgi, rfl, HNO, HC⟩ := hrel
    have u1 := HC.out.cell HU.out (by simp)
    by_cases hi : i < D
    · have hil : i < l.length := by rw [HD.out]; exact hi
      obtain ⟨z, hz⟩ : ∃ z, l[i]'hil = z := ⟨_, rfl⟩
      have hvl : Lst itC 10 wr (.slice a D c) l := HV.out.keep HC.out
      obtain ⟨b, o, ha, x0, _, _, _, _, x5, _, _, _, _⟩ := items_at hvl hil hz
      have hzs := HS.out z (by rw [← hz]; exact List.getElem_mem _)
      have HZ := hid hz
      subst ha
      clear hz hvl
      have hbad : BadL z → t = false := fun hb => HT.out.symm.trans (eqB_false (fun hc => hc z (by rw [← HZ.out]; exact List.getElem_mem _) hb))
      have hgood : ¬ BadL z → ∀ j, j < i + 1 → ∀ x, l[j]? = some x → ¬ BadL x := fun hb j hj x hx => by
        rcases Nat.lt_succ_iff_lt_or_eq.1 hj with hj | rfl
        · exact HNO.out j hj x hx
        · rw [List.getElem?_eq_getElem hil, HZ.out] at hx
          simp only [Option.some.injEq] at hx
          subst hx
          exact hb
      have HBAD := hid hbad
      have HGOOD := hid hgood
      clear hbad hgood
      cases hL : ledB z.op with
      | false =>
        have HN := hid (HGOOD.out (fun h => by have h0 := h.1; rw [hL] at h0; cases h0))
        go_wp2_with (go_at_call 23; refine (led_calls _ _).mono ?_; rintro e w' ⟨rfl, rfl⟩; rw [hL])
        go_roundg (gk - 1)
        case measure => omega
        case rel => exact ⟨i + 1, by omega, by go_num, HN, HC⟩
      | true =>
        by_cases h22 : 22 < z.name.size
        · have z1 : decide ((22 : Int) < (z.name.size : Int)) = true := decide_eq_true (by omega)
          have ht2 := HBAD.out ⟨hL, .inl h22⟩
          subst ht2
          clear h22
          go_wp2_with (go_at_call 23; refine (led_calls _ _).mono ?_; rintro e w' ⟨rfl, rfl⟩; rw [hL])
          go_ret
          exact ⟨rfl, HC0.out.trans' HC.out⟩
        · have z1 : decide ((22 : Int) < (z.name.size : Int)) = false := decide_eq_false (by omega)
          by_cases h1 : 1 < z.name.size
          · have z2 : decide ((1 : Int) < (z.name.size : Int)) = true := decide_eq_true (by omega)
            have z3 : (2 : Int) ≤ (z.name.size : Int) := by omega
            have z4 : 2 ≤ z.name.size := by omega
            by_cases hy : z.name.extract 0 2 = yU
            · have z5 : ((z.name.extract 0 2).toList == [121, 95]) = true := by rw [yU_eq]; exact decide_eq_true hy
              have ht2 := HBAD.out ⟨hL, .inr ⟨h1, hy⟩⟩
              subst ht2
              clear h22 h1 hy
              go_wp2_with (go_at_call 23; refine (led_calls _ _).mono ?_; rintro e w' ⟨rfl, rfl⟩; rw [hL])
              go_ret
              exact ⟨rfl, HC0.out.trans' HC.out⟩
            · have z5 : ((z.name.extract 0 2).toList == [121, 95]) = false := by rw [yU_eq]; exact decide_eq_false hy
              have HN := hid (HGOOD.out (fun h => h.2.elim (fun h => h22 h) (fun h => hy h.2)))
              clear h22 h1 hy
              go_wp2_with (go_at_call 23; refine (led_calls _ _).mono ?_; rintro e w' ⟨rfl, rfl⟩; rw [hL])
              go_roundg (gk - 1)
              case measure => omega
              case rel => exact ⟨i + 1, by omega, by go_num, HN, HC⟩
          · have z2 : decide ((1 : Int) < (z.name.size : Int)) = false := decide_eq_false (by omega)
            have HN := hid (HGOOD.out (fun h => h.2.elim (fun h => h22 h) (fun h => h1 h.1)))
            clear h22 h1
            go_wp2_with (go_at_call 23; refine (led_calls _ _).mono ?_; rintro e w' ⟨rfl, rfl⟩; rw [hL])
            go_roundg (gk - 1)
            case measure => omega
            case rel => exact ⟨i + 1, by omega, by go_num, HN, HC⟩
    · obtain rfl : i = D := by omega
      have ht2 : t = true := HT.out.symm.trans (eqB_true (fun x hx => by
        obtain ⟨m, hm, rfl⟩ := List.mem_iff_getElem.1 hx
        exact HNO.out m (by rw [← HD.out]; exact hm) _ (List.getElem?_eq_getElem hm)))
      subst ht2
      go_wp2
      go_ret
      exact ⟨rfl, HC0.out.trans' HC.out⟩
end Go.Proofs.Ytaknmhipaifdkaa
