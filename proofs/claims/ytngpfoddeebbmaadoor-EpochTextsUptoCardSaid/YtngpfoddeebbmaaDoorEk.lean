/- Walks of the epochs' laws: the reference's Leq; clocks in new memory; bytes compared. -/
import Derived.Test.YtngpfoddeebbmaaDoorEj
import Derived.Test.YtngpfoddeebbmaaDoorEd
import Derived.Laws.Cover3
import Derived.Stop.BytesEq
namespace Go.Proofs.YtngpfoddeebbmaaDoor
open Go.RowKit Go.AB
set_option linter.unusedSimpArgs false
set_option linter.unusedVariables false

theorem eqg8 (u : World) (x y : Operand) (xs ys : Array Value) : (eqGuard .neq 45 x y (.agg xs) (.agg ys)).run Tryd.prog u = .ok () u := run_eqGuard_agg u .neq 45 x y xs ys (by kernel_rfl)
theorem u8_back {y : Int} (h0 : 0 ≤ y) (h1 : y < 256) : y = ((UInt8.ofNat y.toNat).toNat : Int) := by
  rw [UInt8.toNat_ofNat']
  omega
theorem neq8 (u : World) (E : Int) : (binOp .neq 45 (.agg (bytesE E)) (.agg (bytesE E))).run Tryd.prog u = .ok (.bool false) u := by
  unfold bytesE b8
  generalize (if (partsE E).2.2 = true then E else 0) = F
  have hx : ∀ y : Int, ∃ b : UInt8, y % 256 = (b.toNat : Int) := fun y => ⟨_, u8_back (by omega) (by omega)⟩
  obtain ⟨x0, e0⟩ := hx F
  obtain ⟨x1, e1⟩ := hx (F / 256)
  obtain ⟨x2, e2⟩ := hx (F / 256 / 256)
  obtain ⟨x3, e3⟩ := hx (F / 256 / 256 / 256)
  obtain ⟨x4, e4⟩ := hx (F / 256 / 256 / 256 / 256)
  obtain ⟨x5, e5⟩ := hx (F / 256 / 256 / 256 / 256 / 256)
  obtain ⟨x6, e6⟩ := hx (F / 256 / 256 / 256 / 256 / 256 / 256)
  obtain ⟨x7, e7⟩ := hx (F / 256 / 256 / 256 / 256 / 256 / 256 / 256)
  rw [e0, e1, e2, e3, e4, e5, e6, e7]
  have h1 := run_equalIn_bytes u 9998 45 5 8 Tryd.underlying45 Tryd.underlying5 (fun _ => by kernel_rfl) [x0, x1, x2, x3, x4, x5, x6, x7] [x0, x1, x2, x3, x4, x5, x6, x7] rfl rfl
  rw [run_neq_struct]
  rw [beq_self_eq_true] at h1
  exact congrArg (fun r => Result.andThen r fun b w' => Result.ok (Value.bool (!b)) w') h1

set_option maxRecDepth 100000 in
theorem r_at_calls (cs : List Int) (T : Int) {ao : Option Addr} {cap : Nat} (w : World) (hv : View w 1 (.slice ao cs.length cap) cs.length (cs.map (Value.int .u64))) :
    Calls Tryd.prog 39 #[.slice ao cs.length cap, .int .i64 T] w fun e w' => e = .returned (.int .u64 (atE cs T)) ∧ w = w' := by
  unfold atE
  by_cases h0 : T < 0
  · rw [if_pos (.inl h0)]
    clear hv
    go_enter Tryd.func39, Tryd.ntmps39
    go_wp2
    go_ret
    exact ⟨rfl, rfl⟩
  · by_cases hlt : (cs.length : Int) ≤ T
    · rw [if_pos (.inr hlt)]
      clear hv
      go_enter Tryd.func39, Tryd.ntmps39
      go_wp2
      go_ret
      exact ⟨rfl, rfl⟩
    · rw [if_neg (by omega)]
      obtain ⟨bb, off, hao, hc⟩ := nums_at hv (by omega)
      have c0 := hc T.toNat (by omega)
      obtain ⟨x, hx⟩ : ∃ x, cs.getD T.toNat 0 = x := ⟨_, rfl⟩
      rw [hx] at c0 ⊢
      have H := hid hao
      have z0 : 0 ≤ T := by omega
      have z1 : T < (cs.length : Int) := by omega
      subst hao
      clear hc hx hv h0 hlt
      go_enter Tryd.func39, Tryd.ntmps39
      go_wp2
      go_ret
      exact ⟨rfl, rfl⟩
set_option maxRecDepth 100000 in
theorem r_leq_calls (E : Int) (h0 : 0 ≤ E) (h1 : E < 18446744073709551616) (cs : List Int) {ao : Option Addr} {cap : Nat} (w : World) (hv : View w 1 (.slice ao cs.length cap) cs.length (cs.map (Value.int .u64))) :
    Calls Tryd.prog 30 #[.int .u64 E, .slice ao cs.length cap] w fun e w' => e = .returned (.bool (leqE E cs)) ∧ w = w' := by
  have hp := r_clock_calls E h0 h1
  have hq := r_thread_calls E h0 h1
  have ha := fun T => r_at_calls cs T w hv
  have hl : leqE E cs = decide ((partsE E).2.1 ≤ atE cs (partsE E).1) := rfl
  rw [hl]
  obtain ⟨⟨T, C, b⟩, hpe⟩ : ∃ p : Int × Int × Bool, partsE E = p := ⟨_, rfl⟩
  rw [hpe] at hp hq ⊢
  simp only at hp hq ⊢
  obtain ⟨X, hX⟩ : ∃ X, atE cs T = X := ⟨_, rfl⟩
  have ha := ha T
  rw [hX] at ha ⊢
  have HP := hid hp
  have HQ := hid hq
  have HA := hid ha
  clear hp hq ha hX hpe hl h1 hv
  go_enter Tryd.func30, Tryd.ntmps30
  go_wp2_with (first
    | (go_at_call 24; refine (HP.out _).mono ?_; rintro e w' ⟨rfl, rfl⟩)
    | (go_at_call 22; refine (HQ.out _).mono ?_; rintro e w' ⟨rfl, rfl⟩)
    | (go_at_call 39; refine HA.out.mono ?_; rintro e w' ⟨rfl, rfl⟩))
  go_ret
  exact ⟨rfl, rfl⟩

/-- What lent hands back. -/
structure Lent (w w' : World) (n g cap : Nat) (xs : List Int) : Prop where
  row : Row w' 22 1 (.slice (some ⟨g, 0, none⟩) (n + 1) cap) (some g) (n + 1) (xs.map (Value.int .u64) ++ [.int .u64 77])
  new : w.heap.size ≤ g
  chg : Chg [] w w'
  hcap : n + 1 ≤ cap
  hmax : cap ≤ maxLen
set_option maxHeartbeats 2000000 in
set_option maxRecDepth 100000 in
theorem lent_calls (n : Nat) (xs : List Int) (hN : xs.length = n) (hn : n ≤ 1048576) {ao : Option Addr} {cap : Nat} (w : World) (hv : View w 1 (.slice ao n cap) n (xs.map (Value.int .u64))) :
    Calls Tryd.prog 29 #[.slice ao n cap] w fun e w' => ∃ g cap', e = .returned (.slice (some ⟨g, 0, none⟩) n cap') ∧ Lent w w' n g cap' xs := by
  have HV := hid hv
  have HN := hid hN
  have hrn := Row.nil w 22 1
  clear hv hN
  go_enter Tryd.func29, Tryd.ntmps29
  go_wp2_with (at_builtin; refine halt (fun X hX => ?_))
  rw [hX.out]; clear hX
  refine wpList_grew rfl _ _ 34 rfl elem_u64 rfl hrn rfl HV.out (by simp [Value.oneCell']) (by unfold maxLen; omega) (by omega) (fun ao1 cap1 r1 w1 hr1 hg1 => ?_)
  rw [List.nil_append] at hr1
  simp only [Nat.zero_add] at hr1 ⊢
  have hc1 : Chg [] w w1 := hg1.chg
  have hf1 : Fresh w none r1 := hg1.fresh
  have hr1' := fun o => hr1.keep ((Chg.refl [] w1).alloc o) (by simp)
  have HC1 := hid (And.intro hc1 hf1)
  clear hg1 hrn hr1 hc1 hf1
  go_wp2_with (at_builtin; refine wpList_grew rfl _ _ 34 rfl elem_u64 rfl (hr1' _) rfl (View.one _ _ _) (by simp [Value.oneCell']) (by unfold maxLen; omega) (by omega) (fun ao2 cap2 r2 w2 hr2 hg2 => halt (fun X hX => ?_)))
  rw [hX.out]; clear hX
  have hc12 : Chg [] w1 (w1.alloc (.cells #[.int .u64 77] 22)) := (Chg.refl [] w1).alloc _
  have hc2 := own_step HC1.out.1 HC1.out.2 hc12 hg2.chg
  have hf2 := fresh_step HC1.out.1 HC1.out.2 hc12 hg2.fresh
  obtain ⟨g, hg, hgr, hcell, hfz⟩ := hr2.atk (by omega)
  obtain ⟨hnc, hcm⟩ : n + 1 ≤ cap2 ∧ cap2 ≤ maxLen := by
    rcases hr2.form with ⟨hv, h0, _⟩ | ⟨g', cap', cur, hv, _, hnc, hcm, _⟩
    · omega
    · simp only [Value.slice.injEq, true_and] at hv
      exact ⟨by rw [hv.2]; exact hnc, by rw [hv.2]; exact hcm⟩
  subst hg hgr
  have hl : Lent w w2 n g cap2 xs := ⟨hr2, by simpa using hf2 g rfl, hc2, hnc, hcm⟩
  have HLT := hid hl
  have hcap : n ≤ cap2 := by omega
  clear hg2 hr2 hc2 hf2 hc12 hr1' hcell hfz hnc hcm hl
  go_wp2
  go_ret
  exact ⟨g, cap2, rfl, HLT.out⟩

set_option maxHeartbeats 2000000 in
set_option maxRecDepth 100000 in
theorem left_calls (n : Nat) (xs : List Int) (hN : xs.length = n) (hn : n ≤ 1048576) {ao : Option Addr} {cap g cap' : Nat} (w : World) (hv : View w 1 (.slice ao n cap) n (xs.map (Value.int .u64)))
    (hr : Row w 22 1 (.slice (some ⟨g, 0, none⟩) (n + 1) cap') (some g) (n + 1) (xs.map (Value.int .u64) ++ [.int .u64 77])) (hc : n + 1 ≤ cap') :
    Calls Tryd.prog 31 #[.slice (some ⟨g, 0, none⟩) n cap', .slice ao n cap] w fun e w' => e = .returned (.bool true) ∧ ∃ m, w' = w.drewN m := by
  obtain ⟨g0, hg0, hgr0, hcell, _⟩ := hr.atk (by omega)
  simp only [Option.some.injEq] at hgr0
  subst hgr0
  have hlen : (xs.map (Value.int .u64)).length = n := by rw [List.length_map, hN]
  have c77 := hcell n (by omega)
  rw [show (xs.map (Value.int .u64) ++ [Value.int .u64 77]).getD n undef = Value.int .u64 77 from by simp only [List.getD]; rw [List.getElem?_append_right (by omega), hlen, Nat.sub_self]; rfl] at c77
  have HV := hid hv
  have HR := hid hr
  have HN := hid hN
  have z0 : (n : Int) < (n : Int) + 1 := by omega
  have hcap : (n : Int) + 1 ≤ (cap' : Int) := by omega
  have hcap2 : n + 1 ≤ cap' := hc
  clear hv hr hg0 hcell hlen hN hc
  go_enter Tryd.func31, Tryd.ntmps31
  go_wp2_with fail
  clear c77
  go_loopw [5] (fun i wr => ∃ k m : Nat, k ≤ n ∧ i = .int .i64 k ∧ wr = w.drewN m) (fun i _ => n - (intOf i).toNat)
  case atStart => exact ⟨0, 0, Nat.zero_le _, rfl, rfl⟩
  case round =>
    obtain ⟨k, m, hk, rfl, rfl⟩ := hrel
    by_cases hlt : k < n
    · have hkb : k < xs.length := by rw [HN.out]; exact hlt
      have hvw := HV.out
      rw [← HN.out] at hvw
      obtain ⟨b, off, hao, hcl⟩ := nums_at hvw (by omega)
      have b0 := hcl k hkb
      obtain ⟨g', hg', hgr', hcf, _⟩ := HR.out.atk (by omega)
      simp only [Option.some.injEq] at hgr'
      subst hgr'
      have f0 := hcf k (by omega)
      rw [show (xs.map (Value.int .u64) ++ [Value.int .u64 77]).getD k undef = Value.int .u64 (xs.getD k 0) from by simp only [List.getD]; rw [List.getElem?_append_left (by rw [List.length_map]; exact hkb)]; simp [hkb]] at f0
      obtain ⟨x, hx⟩ : ∃ x, xs.getD k 0 = x := ⟨_, rfl⟩
      rw [hx] at b0 f0
      have z2 : (k : Int) < (n : Int) := by omega
      have z3 : (k : Int) < (n : Int) + 1 := by omega
      have HAO := hid hao
      subst hao
      clear hcl hcf hvw hx hg'
      go_wp2_with fail
      go_quiet (fail)
      go_wp2
      go_roundw
      case rel => exact ⟨k + 1, _, by omega, by go_num, rfl⟩
      case measure => simp [intOf]; omega
    · obtain rfl : k = n := by omega
      go_wp2
      go_ret
      exact ⟨rfl, _, rfl⟩
end Go.Proofs.YtngpfoddeebbmaaDoor
