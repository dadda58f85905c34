/- Walks of the trace layer: the events of some threads. -/
import Derived.Test.YtbghkodcfedebaaGreatDoorTyf
set_option linter.unusedVariables false
set_option linter.unusedSectionVars false
set_option linter.unusedSimpArgs false
namespace Go.AB
open Go.RowKit
/-- A set of threads, as a map to nothing. -/
structure SetT (A : List Int) (ms : List (Int × Value)) : Prop where
  mem : ∀ t, t ∈ ms.map Prod.fst ↔ t ∈ A
  val : ∀ p ∈ ms, p.2 = .agg #[]
theorem SetT.start : SetT [] [] := ⟨by simp, by simp⟩
theorem SetT.add {A : List Int} {ms : List (Int × Value)} (h : SetT A ms) (a : Int) : SetT (A ++ [a]) (updG ms a (.agg #[])) := by
  rcases idx_look ms a with ⟨h4, _⟩ | ⟨j, v, h4, _⟩
  · rw [updG_new h4]
    refine ⟨fun t => ?_, fun p hp => ?_⟩
    · simp only [List.map_append, List.map_cons, List.map_nil, List.mem_append, h.mem]
    · rcases List.mem_append.1 hp with hp | hp
      · exact h.val p hp
      · simp only [List.mem_singleton] at hp
        rw [hp]
  · obtain ⟨hj, hja⟩ := idx_lt _ _ _ h4
    rw [updG_old h4]
    have hfst : (ms.set j (a, .agg #[])).map Prod.fst = ms.map Prod.fst := by
      rw [List.map_set, show (a, Value.agg #[]).1 = (ms.map Prod.fst)[j]'(by simpa using hj) from by simp [hja], List.set_getElem_self]
    refine ⟨fun t => ?_, fun p hp => ?_⟩
    · rw [hfst, h.mem, List.mem_append, List.mem_singleton]
      constructor
      · exact .inl
      · rintro (h1 | rfl)
        · exact h1
        · exact (h.mem _).1 (List.mem_map.2 ⟨ms[j], List.getElem_mem hj, hja⟩)
    · rcases List.mem_or_eq_of_mem_set hp with hp | hp
      · exact h.val p hp
      · rw [hp]
theorem SetT.look {A : List Int} {ms : List (Int × Value)} (h : SetT A ms) (t : Int) : (lookK ms t).getD (.agg #[]) = .agg #[] ∧ (lookK ms t).isSome = decide (t ∈ A) := by
  rcases idx_look ms t with ⟨h4, h5⟩ | ⟨j, v, h4, h5⟩
  · rw [h5]
    have hn : t ∉ A := fun hm => idx_none h4 ((h.mem t).2 hm)
    exact ⟨rfl, by simp [hn]⟩
  · obtain ⟨hj, hja⟩ := idx_lt _ _ _ h4
    have hm : t ∈ A := (h.mem t).1 (List.mem_map.2 ⟨ms[j], List.getElem_mem hj, hja⟩)
    rw [h5]
    have hv : v = .agg #[] := by
      unfold lookK at h5
      cases hf : ms.find? (fun p => decide (p.1 = t)) with
      | none => rw [hf] at h5; cases h5
      | some p =>
        rw [hf] at h5
        simp only [Option.map_some, Option.some.injEq] at h5
        rw [← h5]
        exact h.val p (List.mem_of_find?_eq_some hf)
    subst hv
    exact ⟨rfl, by simp [hm]⟩
def inT (A : List Int) (e : Ev) : Bool := decide (e.t ∈ A)
end Go.AB
namespace Go.Proofs.YtbghkodcfedebaaGreatDoor
open Go.RowKit Go.AB
set_option linter.unusedSimpArgs false
set_option linter.unusedVariables false
set_option linter.unusedSectionVars false
theorem info_unit : (Tryz.prog.info? 99).map (fun i => (i.zero, i.size, i.bytes)) = some (some (.agg #[]), 0, 0) := by kernel_rfl
set_option maxHeartbeats 16000000 in
set_option maxRecDepth 100000 in
theorem of_calls {v tv : Value} (l : List Ev) (A : List Int) (w : World) (hl : Lst evC 3 w v l) (hn : l.length ≤ 1048576) (ht : Ints w tv A) (hm : A.length ≤ 1048576) :
    Calls Tryz.prog 32 #[v, tv] w fun e w' => ∃ v', e = .returned v' ∧ NewN w (idxF (inT A) 0 l) v' w' := by
  obtain ⟨ao, cap, rfl, -⟩ := hl.len
  obtain ⟨a2, c2, rfl⟩ := ht.shape
  obtain ⟨n, hln⟩ : ∃ n, l.length = n := ⟨_, rfl⟩
  obtain ⟨k, hlk⟩ : ∃ k, A.length = k := ⟨_, rfl⟩
  rw [hln] at hl hn ⊢
  rw [hlk] at ht hm ⊢
  obtain ⟨p, hp⟩ : ∃ p, inT A = p := ⟨_, rfl⟩
  rw [hp]
  have HP := hid hp
  have HL := hid hl
  have HN := hid hln
  have HT := hid ht
  have HK := hid hlk
  have hmm := fun W => @run_makeMap Tryz.prog W
  have hM0 := MapG.made w
  have hc0 := (Chg.refl [] w).alloc (.map #[] 0)
  clear hl hln ht hlk hp
  go_enter Tryz.func32, Tryz.ntmps32
  go_upto_region 3 with fail
  generalize w.alloc (.map #[] 0) = w1 at hM0 hc0 ⊢
  obtain ⟨M, hMe⟩ : ∃ M, w.heap.size = M := ⟨_, rfl⟩
  have HMW : Hid (w.heap.size ≤ M) := hid (by omega)
  rw [hMe] at hM0 ⊢
  have HM0 := hid (And.intro hM0 hc0)
  clear hM0 hc0 hMe hmm
  go_loopg [16] k (fun gk v16 wr => ∃ (i : Nat) (ms : List (Int × Value)), v16 = .int .i64 i ∧ Hid (gk + i = k) ∧ Hid (SetT (A.take i) ms) ∧ Hid (MapG wr M ms ∧ Chg [] w wr))
  case atStart => exact ⟨0, [], rfl, hid (by omega), hid SetT.start, HM0⟩
  case round =>
    clear HM0
    obtain ⟨i, ms, rfl, HG, HS, HW⟩ := hrel
    by_cases hi : i < k
    · have hia : i < A.length := by rw [HK.out]; exact hi
      obtain ⟨b1, o1, rfl, x1⟩ := (HT.out.keep HW.out.2).at hia
      have HS2 : Hid (SetT (A.take (i + 1)) (updG ms A[i] (.agg #[]))) := hid (by rw [List.take_succ_eq_append_getElem hia]; exact HS.out.add _)
      generalize A[i] = t at x1 HS2
      have hii : (i : Int) < (k : Int) := by omega
      clear hia
      go_wp2_with (at_mapUpdate; refine wpList_mapG rfl _ _ _ 115 rfl key_thr Tryz.underlying115 rfl HW.out.1 t rfl rfl (fun w4 hm4 hc4 => halt (fun XX hXX => ?_)))
      have HW4 := hid (And.intro hm4 (HW.out.2.trans hc4 (fun x hx => .inr (by simp at hx; subst hx; exact HMW.out))))
      clear hm4 hc4
      rw [hXX.out]; clear hXX XX
      go_wp2_with fail
      go_roundg (gk - 1)
      case measure => have := HG.out; omega
      case rel => exact ⟨i + 1, _, by go_num, hid (by have := HG.out; omega), HS2, HW4⟩
    · have hin : i = k := by have := HG.out; omega
      have hii : ¬ (i : Int) < (k : Int) := by omega
      have HS3 : Hid (SetT A ms) := hid (by
        have h := HS.out
        rwa [hin, List.take_of_length_le (by rw [HK.out]; exact Nat.le_refl _)] at h)
      obtain ⟨wq, rfl⟩ : ∃ x : World, x = wr := ⟨_, rfl⟩
      obtain ⟨gq, rfl⟩ : ∃ x, x = gk := ⟨_, rfl⟩
      clear hin HG HS
      go_upto_region 9 with fail
      go_loopg [8, 26] n (fun gk v3 v4 wr => ∃ (i m : Nat) (ab : Option Addr) (cb : Nat) (rb : Option Nat) (L : List Nat), v3 = .slice ab m cb ∧ v4 = .int .i64 i ∧ Hid (gk + i = n) ∧ m ≤ i ∧ i ≤ n ∧
          Hid (L ++ idxF p i (l.drop i) = idxF p 0 l ∧ L.length = m) ∧ Hid (Row wr 3 1 (.slice ab m cb) rb m (L.map natV) ∧ Fresh wq none rb ∧ Chg [] wq wr))
      case atStart => exact ⟨0, 0, none, 0, none, [], rfl, rfl, hid (by omega), by omega, by omega, hid ⟨rfl, rfl⟩, hid ⟨Row.nil _ _ _, Fresh.refl _ _, Chg.refl _ _⟩⟩
      case round =>
        obtain ⟨i, m, ab, cb, rb, L, rfl, rfl, HG, hmi, hin, HLI, HR⟩ := hrel
        by_cases hi : i < n
        · have hil : i < l.length := by rw [HN.out]; exact hi
          obtain ⟨b1, o1, rfl, x0, x1, x2⟩ := ev_at (HL.out.keep (HW.out.2.trans' HR.out.2.2)) hil
          have hst := idxF_step (p := p) hil L
          have hpx : p l[i] = decide (l[i].t ∈ A) := by rw [← HP.out]; rfl
          generalize l[i] = X at x0 x1 x2 hst hpx
          obtain ⟨kx, tx, ox⟩ := X
          simp only at x0 x1 x2 hpx
          rw [HLI.out.1] at hst
          have HST := hid hst
          obtain ⟨q, hq⟩ : ∃ q, p ⟨kx, tx, ox⟩ = q := ⟨_, rfl⟩
          rw [hq] at hpx
          have HF := hid hq
          have HLK : Hid (∀ W, Chg [] wr W → (Instr.lookup 115 (.map (some M)) (.int .i64 tx) true).run Tryz.prog W = .ok (.tuple #[.agg #[], .bool q]) W) := hid fun W hc => by
            have h1 := ((HW.out.1.keep (HR.out.2.2.trans' hc) (by simp)).toF).lookup key_thr Tryz.underlying115 (zero_ofT info_unit W) tx true
            obtain ⟨h2, h3⟩ := HS3.out.look tx
            rw [h1, if_pos rfl, h2, h3, hpx]
          clear hst hpx hil hq
          go_upto_region 11 with fail
          have hy := heap_alloc_new wr (.cells #[.int .i64 kx, .int .i64 tx, .int .i64 ox] 28)
          have hcy := (Chg.refl [] wr).alloc (.cells #[.int .i64 kx, .int .i64 tx, .int .i64 ox] 28)
          clear x0 x1 x2
          generalize wr.alloc (.cells #[.int .i64 kx, .int .i64 tx, .int .i64 ox] 28) = w2 at hy hcy ⊢
          generalize wr.heap.size = Y at hy ⊢
          have y1 := (blk_cell hy 1).trans rfl
          have hlk := HLK.out w2 hcy
          have HCY := hid (HR.out.2.2.trans' hcy)
          have HRY := hid (HR.out.1.keep hcy (by simp))
          clear hy hcy
          go_upto_region 12 with fail
          have hcz := (Chg.refl [] w2).alloc (.cells #[] 99)
          generalize w2.alloc (.cells #[] 99) = w3 at hcz ⊢
          have HR3 : Hid (Row w3 3 1 (.slice ab m cb) rb m (L.map natV) ∧ Chg [] wq w3) := hid ⟨HRY.out.keep hcz (by simp), HCY.out.trans' hcz⟩
          clear hcz y1 hlk HRY HCY HLK
          cases q with
          | false =>
            have HE : Hid (L ++ idxF p (i + 1) (l.drop (i + 1)) = idxF p 0 l) := hid (by rw [HST.out, HF.out]; simp)
            go_wp2_with fail
            go_roundg (gk - 1)
            case measure => have := HG.out; omega
            case rel => exact ⟨i + 1, m, ab, cb, rb, L, rfl, by go_num, hid (by have := HG.out; omega), by omega, by omega, hid ⟨HE.out, HLI.out.2⟩, hid ⟨HR3.out.1, HR.out.2.1, HR3.out.2⟩⟩
          | true =>
            have HE : Hid ((L ++ [i]) ++ idxF p (i + 1) (l.drop (i + 1)) = idxF p 0 l) := hid (by rw [HST.out, HF.out]; simp)
            have hrow := fun o => HR3.out.1.keep ((Chg.refl [] w3).alloc o) (by simp)
            go_wp2_with (at_builtin; refine wpList_app rfl _ _ 54 rfl elem_int rfl (hrow _) rfl (View.one _ _ _) (by simp [Value.oneCell']) (by unfold maxLen; omega) (by omega) (fun ao' cap' r' w2 hr2 hc2 hf2 _ => halt (fun X hX => ?_)))
            clear hrow
            have HR4 : Hid (Row w2 3 1 (.slice ao' (m + 1) cap') r' (m + 1) ((L ++ [i]).map natV) ∧ Fresh wq none r' ∧ Chg [] wq w2) := hid ⟨by rw [List.map_append]; exact hr2, fresh_step HR3.out.2 HR.out.2.1 ((Chg.refl [] w3).alloc _) hf2, own_step HR3.out.2 HR.out.2.1 ((Chg.refl [] w3).alloc _) hc2⟩
            clear hr2 hc2 hf2
            rw [hX.out]; clear hX
            go_wp2_with fail
            go_roundg (gk - 1)
            case measure => have := HG.out; omega
            case rel => exact ⟨i + 1, m + 1, ao', cap', r', L ++ [i], by first | rfl | go_num, by go_num, hid (by have := HG.out; omega), by omega, by omega, hid ⟨HE.out, by rw [List.length_append, HLI.out.2]; rfl⟩, HR4⟩
        · have HE : Hid (L = idxF p 0 l) := hid (by
            have h := HLI.out.1
            rw [List.drop_eq_nil_of_le (by rw [HN.out]; omega)] at h
            simpa [idxF] using h)
          go_wp2
          go_ret
          exact ⟨_, rfl, ab, cb, rb, m, by rw [← HE.out, HLI.out.2], rfl, by rw [← HE.out]; exact HR.out.1, HR.out.2.1.mono HW.out.2.size, HW.out.2.trans' HR.out.2.2⟩
end Go.Proofs.YtbghkodcfedebaaGreatDoor
