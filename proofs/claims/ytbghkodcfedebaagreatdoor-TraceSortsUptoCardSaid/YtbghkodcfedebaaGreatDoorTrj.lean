/- Walks of the trace layer: a list's bytes. -/
import Derived.Test.YtbghkodcfedebaaGreatDoorTri
import Derived.Test.YtbghkodcfedebaaGreatDoorTj5
set_option linter.unusedVariables false
set_option linter.unusedSectionVars false
set_option linter.unusedSimpArgs false
namespace Go.AB
open Go.RowKit
theorem leavesM_nil {F : Fence} {n : Nat} {P : Program} {fn : Func} {tmps : Array Value} {R : Ending → World → Prop} {w : World} {v : Value} (h : (results fn tmps).run P w = .ok v w) (hR : R (.returned v) w) : LeavesInM F n P fn tmps R [] .returning w := ⟨v, h, hR⟩
theorem leavesM_mark {F : Fence} {n : Nat} {P : Program} {fn : Func} {tmps : Array Value} {R : Ending → World → Prop} {w : World} {D : Nat} {ds : List Deferred} (hK : w.heap[D]? = some (.deferred (some []))) (h : LeavesInM F n P fn tmps R ds .returning (w.putObj D (.deferred none))) :
    LeavesInM F n P fn tmps R ({ target := .collected D, args := #[] } :: ds) .returning w :=
  ⟨by simp, .inl ⟨D, _, rfl, run_takeDeferred hK, h⟩⟩
theorem short_len3 {v : Nat} (h : v < 2097152) : (shortB v).length ≤ 3 := by
  by_cases h1 : v < 128
  · rw [shortB_lt h1]; simp
  · rw [shortB_ge (by omega)]
    by_cases h2 : v / 128 < 128
    · rw [shortB_lt h2]; simp
    · rw [shortB_ge (by omega), shortB_lt (by omega)]; simp
theorem evs_len {l : List Ev} (h : ∀ e ∈ l, plainE e = true) : (l.flatMap evB).length ≤ 4 * l.length := by
  induction l with
  | nil => simp
  | cons e l ih =>
    have h1 := ih fun x hx => h x (List.mem_cons_of_mem _ hx)
    obtain ⟨_, _, h3, _⟩ := plainE_out (h e (List.mem_cons_self ..))
    have h2 : (evB e).length ≤ 4 := by
      unfold evB
      have := short_len3 (v := e.o.toNat) (by omega)
      split <;> simp only [List.length_append, List.length_cons, List.length_nil] <;> omega
    simp only [List.flatMap_cons, List.length_append, List.length_cons]
    omega
theorem runB_len {r : List Ev} (h : ∀ e ∈ r, plainE e = true) (hn : r.length < 2097152) : (runB r).length ≤ 6 + 4 * r.length := by
  have h1 := evs_len h
  have ht : (thrE r).toNat < 2097152 := by
    cases r with
    | nil => simp [thrE]
    | cons e r =>
      have := (plainE_out (h e (List.mem_cons_self ..))).2.1
      show e.t.toNat < 2097152
      omega
  have h2 := short_len3 ht
  have h3 := short_len3 hn
  unfold runB
  simp only [List.length_append]
  omega
theorem mem_le_sumT (f : List Ev → Nat) {xs : List (List Ev)} {x : List Ev} (h : x ∈ xs) : f x ≤ (xs.map f).sum := by
  induction xs with
  | nil => cases h
  | cons y ys ih =>
    rcases List.mem_cons.1 h with rfl | h
    · simp
    · have := ih h; simp; omega
theorem runs_mem {l : List Ev} {r : List Ev} (hr : r ∈ runsE l) : r ≠ [] ∧ (∀ e ∈ r, e ∈ l) ∧ (∀ e ∈ r, e.t = thrE r) ∧ r.length ≤ l.length := by
  have hfl := runs_flat l
  have hne : r ≠ [] ∧ ∀ e ∈ r, e.t = thrE r := by
    cases l with
    | nil => simp [runsE] at hr
    | cons e l =>
      exact oks_mem (Q := fun r : List Ev => r ≠ [] ∧ ∀ e ∈ r, e.t = thrE r) (fun s x (hx : runOk s x) => ⟨hx.1, hx.2.2⟩) _ (e.t + 1) (runs_ok (e :: l) (e.t + 1) (fun x hx => by simp only [List.head?_cons, Option.mem_def, Option.some.injEq] at hx; subst hx; omega)) r hr
  refine ⟨hne.1, fun e he => by rw [← hfl]; exact List.mem_flatten.2 ⟨r, hr, he⟩, hne.2, ?_⟩
  have h := congrArg List.length hfl
  rw [List.length_flatten] at h
  rw [← h]
  exact mem_le_sumT List.length hr
theorem rbs_len {rs : List (List Ev)} (h : ∀ r ∈ rs, (∀ e ∈ r, plainE e = true) ∧ r.length < 2097152) : (rs.flatMap runB).length ≤ 6 * rs.length + 4 * rs.flatten.length := by
  induction rs with
  | nil => simp
  | cons r rs ih =>
    have h1 := ih fun x hx => h x (List.mem_cons_of_mem _ hx)
    have h2 := runB_len (h r (List.mem_cons_self ..)).1 (h r (List.mem_cons_self ..)).2
    simp only [List.flatMap_cons, List.flatten_cons, List.length_append, List.length_cons]
    omega
theorem body_len {l : List Ev} (h : ∀ e ∈ l, plainE e = true) (hn : l.length ≤ 1048576) : (bodyE l).length ≤ 16777216 := by
  have h1 := rbs_len (rs := runsE l) (fun r hr => by
    obtain ⟨_, h2, _, h3⟩ := runs_mem hr
    exact ⟨fun e he => h e (h2 e he), by omega⟩)
  have h2 := runs_len l
  have h3 := short_len3 (v := (runsE l).length) (by omega)
  rw [runs_flat] at h1
  unfold bodyE
  rw [List.length_append]
  omega
end Go.AB
namespace Go.Proofs.YtbghkodcfedebaaGreatDoor
open Go.RowKit Go.AB Go.Shelf
set_option linter.unusedSimpArgs false
set_option linter.unusedVariables false
set_option linter.unusedSectionVars false
attribute [local go_sem] Oper.semAt_some

/-- A writer that was made behind a world. -/
structure WT (w0 w : World) (b : Nat) (l : List UInt8) (r : Option Nat) : Prop where
  wr : ∃ ao cap, Wr 84 5 w b r l ao cap
  chg : Chg [] w0 w
  ge : w0.heap.size ≤ b
  rge : ∀ g, r = some g → w0.heap.size ≤ g
section
variable {w0 w w' : World} {b : Nat} {l l' : List UInt8} {r : Option Nat}
theorem WT.same (h : WT w0 w b l r) (hc : Chg [] w w') : WT w0 w' b l r := by
  obtain ⟨ao, cap, hb⟩ := h.wr
  exact ⟨⟨ao, cap, hb.keep hc (by simp) (by simp)⟩, h.chg.trans' hc, h.ge, h.rge⟩
theorem WT.lt (h : WT w0 w b l r) : b < w.heap.size ∧ (∀ g, r = some g → g < w.heap.size) ∧ r ≠ some b := by
  obtain ⟨ao, cap, hb⟩ := h.wr
  exact ⟨blk_lt hb.blk, hb.row.lt, hb.ne⟩
/-- What a writing leaves. -/
def Laid (w0 w : World) (b : Nat) (r : Option Nat) (l : List UInt8) (w' : World) : Prop := ∃ r', WT w0 w' b l r' ∧ Chg (b :: r.toList) w w' ∧ Fresh w r r'
theorem WT.laid (h : WT w0 w b l r) {w1 : World} (hc : Chg [] w w1) (hw : LaidW 84 5 w1 b r l' w') : Laid w0 w b r l' w' := by
  obtain ⟨l2, r', ao, cap, h1, h2, h3, h4⟩ := hw
  obtain rfl : l2 = l' := h4
  have h2' : Chg (b :: r.toList) w w' := hc.nil.trans' h2
  refine ⟨r', ⟨⟨ao, cap, h1⟩, h.chg.trans h2' (fun x hx => .inr ?_), h.ge, fun g hg => ?_⟩, h2', h3.mono hc.size⟩
  · rcases List.mem_cons.1 hx with rfl | hx
    · exact h.ge
    · exact h.rge x (by simpa using hx)
  · rcases h3 g hg with h5 | h5
    · exact h.rge g h5
    · have := h.chg.size; have := hc.size; omega
theorem wt_shorts (h : WT w0 w b l r) (xs : List Nat) (hxs : ∀ m ∈ xs, U64 m) (hn : xs.length ≤ 2) (h0 : 0 < xs.length) (hl : l.length ≤ 549755813888) (T : TypeId) :
    Calls Tryz.prog 44 #[.pointer (some ⟨b, 0, none⟩), .slice (some ⟨w.heap.size, 0, none⟩) xs.length xs.length] (w.alloc (.cells (xs.map fun m : Nat => Value.int .u64 (m : Int)).toArray T)) fun e w' => e = .returned (.tuple #[]) ∧ Laid w0 w b r (l ++ xs.flatMap shortB) w' := by
  have hc := (Chg.refl [] w).alloc (.cells (xs.map fun m : Nat => Value.int .u64 (m : Int)).toArray T)
  obtain ⟨ao, cap, hb⟩ := (h.same hc).wr
  have hlt := h.lt
  have hv := View.news w (xs.map fun m : Nat => Value.int .u64 (m : Int)) T (by simp [maxLen]; omega)
  rw [List.length_map] at hv
  refine (shorts_calls xs hxs _ _ b r l ao cap hb hl hv (fun _ g hg => ?_) (by omega)).mono ?_
  · simp [Value.ownBlock] at hg
    subst hg
    exact ⟨by omega, fun e => by have := hlt.2.1 _ e; omega⟩
  · rintro e w' ⟨rfl, hw⟩
    exact ⟨rfl, h.laid hc hw⟩
theorem wt_put (h : WT w0 w b l r) (x : Nat) (hx : x < 256) (hl : l.length ≤ 549755813888) (T : TypeId) :
    Calls Tryz.prog 45 #[.pointer (some ⟨b, 0, none⟩), .slice (some ⟨w.heap.size, 0, none⟩) 1 1] (w.alloc (.cells #[.int .u8 (x : Int)] T)) fun e w' => e = .returned (.tuple #[]) ∧ Laid w0 w b r (l ++ [UInt8.ofNat x]) w' := by
  have hc := (Chg.refl [] w).alloc (.cells #[.int .u8 (x : Int)] T)
  obtain ⟨ao, cap, hb⟩ := (h.same hc).wr
  have hlt := h.lt
  have hv := View.one w (.int .u8 (x : Int)) T
  refine (put_u8 [x] (by simpa using hx) _ _ b r l ao cap hb (by omega) hv (fun _ g hg => ?_) (by simp)).mono ?_
  · simp [Value.ownBlock] at hg
    subst hg
    exact ⟨by omega, fun e => by have := hlt.2.1 _ e; omega⟩
  · rintro e w' ⟨rfl, hw⟩
    refine ⟨rfl, ?_⟩
    have := h.laid hc hw
    simpa [fixedB] using this
end
theorem wt_short1 {w0 w : World} {b : Nat} {l : List UInt8} {r : Option Nat} (h : WT w0 w b l r) (x : Nat) (hx : x < 18446744073709551616) (hl : l.length ≤ 549755813888) (T : TypeId) :
    Calls Tryz.prog 44 #[.pointer (some ⟨b, 0, none⟩), .slice (some ⟨w.heap.size, 0, none⟩) 1 1] (w.alloc (.cells #[.int .u64 (x : Int)] T)) fun e w' => e = .returned (.tuple #[]) ∧ Laid w0 w b r (l ++ shortB x) w' := by
  have h1 := wt_shorts h [x] (by simpa [U64] using hx) (by simp) (by simp) hl T
  have e : [x].flatMap shortB = shortB x := by simp
  rw [e] at h1
  exact h1
theorem wt_short2 {w0 w : World} {b : Nat} {l : List UInt8} {r : Option Nat} (h : WT w0 w b l r) (x y : Nat) (hx : x < 18446744073709551616) (hy : y < 18446744073709551616) (hl : l.length ≤ 549755813888) (T : TypeId) :
    Calls Tryz.prog 44 #[.pointer (some ⟨b, 0, none⟩), .slice (some ⟨w.heap.size, 0, none⟩) 2 2] (w.alloc (.cells #[.int .u64 (x : Int), .int .u64 (y : Int)] T)) fun e w' => e = .returned (.tuple #[]) ∧ Laid w0 w b r (l ++ (shortB x ++ shortB y)) w' := by
  have h1 := wt_shorts h [x, y] (by intro m hm; simp at hm; rcases hm with rfl | rfl <;> assumption) (by simp) (by simp) hl T
  have e : [x, y].flatMap shortB = shortB x ++ shortB y := by simp
  rw [e] at h1
  exact h1
set_option maxHeartbeats 8000000 in
set_option maxRecDepth 100000 in
theorem encode_calls {v : Value} (l : List Ev) (w : World) (hl : Lst evC 3 w v l) (hn : l.length ≤ 1048576) :
    Calls Tryz.prog 15 #[v] w (NewB2 5 w (encE l).1 (encE l).2) := by
  have HO := hid (odd_calls l w hl (by omega))
  obtain ⟨ao, cap, rfl, _⟩ := hl.len
  obtain ⟨D, hD⟩ : ∃ D, encE l = D := ⟨_, rfl⟩
  rw [hD]
  have HL := hid hl
  cases hp : l.all plainE with
  | false =>
    rw [hp] at HO
    have HD : Hid (D = ([], 6)) := hid (by rw [← hD]; unfold encE; rw [hp]; rfl)
    clear hp hD hl
    go_enter Tryz.func15, Tryz.ntmps15
    go_wp2_with (go_at_call 38; refine HO.out.mono ?_; rintro e w1 ⟨rfl, hc⟩)
    go_ret2
    rw [HD.out]
    exact ⟨[], none, 0, none, rfl, Row.nil _ _ _, Fresh.refl _ _, hc, rfl⟩
  | true =>
    rw [hp] at HO
    have hpl : ∀ e ∈ l, plainE e = true := List.all_eq_true.1 hp
    have HP := hid hpl
    have hbl := body_len hpl hn
    have HD : Hid (D = (frameB 3 (bodyE l), 0)) := hid (by rw [← hD]; unfold encE; rw [hp, if_pos rfl, if_neg (Nat.not_lt.2 hbl)])
    obtain ⟨n, hln⟩ : ∃ n, l.length = n := ⟨_, rfl⟩
    have hmn := runs_len l
    obtain ⟨m, hm⟩ : ∃ m, (runsE l).length = m := ⟨_, rfl⟩
    rw [hln] at hn HL hmn ⊢
    rw [hln] at HO
    rw [hm] at hmn
    have HN := hid hln
    have HM := hid hm
    have HBL := hid hbl
    clear hp hD hl hln hm hpl hbl
    refine (callsIn_wide (n := 0)).1 (callsIn_of_wp_marks Tryz.func15 rfl trivial (wpIn_wide.2 ?_))
    simp only [Tryz.ntmps15, List.size_toArray, List.length_cons, List.length_nil, Nat.reduceAdd, Nat.reduceSub, Array.replicate_succ, Array.replicate_zero, List.push_toArray, List.append_toArray, List.nil_append, List.cons_append]
    go_upto_region 4 with (go_at_call 38; refine HO.out.mono ?_; rintro e w1 ⟨rfl, hc⟩; refine halt (fun XX hXX => ?_); have HC1 := hid hc; clear hc; rw [hXX.out]; clear hXX XX)
    have hrc := heap_alloc_new w1 (.cells #[.int .i64 0] 3)
    have hc2 := HC1.out.trans' ((Chg.refl [] w1).alloc (.cells #[.int .i64 0] 3))
    generalize hw2 : w1.alloc (.cells #[.int .i64 0] 3) = w2 at hrc hc2 ⊢
    have hsz : w1.heap.size < w2.heap.size := by rw [← hw2]; simp
    have hw1 := HC1.out.size
    generalize w1.heap.size = RC at hrc hsz hw1 ⊢
    have HEA := hid fun W (hc : Chg [] w W) => each_calls _ l W (HL.out.keep hc) (by rw [HN.out]; omega)
    have HRC := hid hrc
    have HC2 := hid hc2
    clear hrc hc2 hw2
    go_wp2_with (go_at_call 31; refine (HEA.out _ HC2.out).mono ?_; rintro e w3 ⟨C1, v1, rfl, hk1, hv1, hg1, hgv1, hc3⟩)
    have hz3 := hc3.size
    have HC3 := hid hc3
    have HV1 := hid (And.intro hk1 (And.intro hv1 hgv1))
    have hm16 : m ≤ 1048576 := by omega
    clear hk1 hv1 hgv1 hc3
    refine wp_runs rfl HV1.out.1 HV1.out.2.1 (by rw [HN.out]; omega) (fun b hb => (HV1.out.2.2 b hb).2)
      (fun pre W => W.heap[RC]? = some (.cells #[.int .i64 pre.length] 3 (0, 0)) ∧ Chg [] w W) (fun c pre W => False)
      (fun S pre A B h hC hm => ⟨hC.heap h.1 (fun hS => by have := hm _ hS; omega), h.2.trans hC (fun x hx => .inr (by have := hm x hx; omega))⟩) (fun c S pre A B h hC hm => h)
      ⟨HC3.out.heap HRC.out (by simp), HC2.out.trans' HC3.out⟩ (fun i v t => (t.setIfInBounds 14 i).setIfInBounds 15 v) ?assign ?body ?done ?stop
    case assign =>
      intro L i v W K' hK
      gi_wp2
      exact hK
    case body =>
      rintro L S0 pre x A0 A v hpre hi hs0 hs1 hc hm hlv hvb
      have hA := hc.heap hi.1 (fun hS => by have := hm _ hS; omega)
      have r0 := (blk_cell hA 0).trans rfl
      have rf := blk_free hA 0
      have hpl : pre.length < 1048576 := by
        have h1 := hpre.length_le
        have h2 : (runsI 0 (runsE l)).length = m := by rw [← HM.out, ← runsI_snd 0 (runsE l), List.length_map, runsI_snd]
        rw [h2] at h1
        simp at h1
        omega
      simp only [List.setIfInBounds_toArray, List.set_cons_zero, List.set_cons_succ]
      have HI := hid (And.intro hi (And.intro hc hm))
      have HA := hid hA
      clear hi hc hm hA hpre hlv hvb
      gi_wp2
      refine ⟨⟨[RC], (Chg.refl _ _).setCell (p := ⟨RC, 0, none⟩) (.inl (by simp)) _, fun b hb => ?_⟩, ?_, ?_⟩
      · simp at hb
        subst hb
        refine ⟨fun hK => ?_, .inl (by omega)⟩
        rcases List.mem_cons.1 hK with h | h
        · omega
        · have := (HV1.out.2.2 b (by simpa using h)).1; omega
      · have := blk_set HA.out 0 (.int .i64 ((pre.length : Int) + 1))
        simpa using this
      · exact (HI.out.1.2.trans HI.out.2.1 (fun b hb => .inr (by have := HI.out.2.2 b hb; omega))).setCell (p := ⟨RC, 0, none⟩) (.inr hw1) _
    case stop => rintro c pre W hpre h; exact h.elim
    case done =>
      rintro W ⟨hW, hcW⟩ hD1
      have hml : (runsI 0 (runsE l)).length = m := by rw [← HM.out, ← runsI_snd 0 (runsE l), List.length_map, runsI_snd]
      rw [hml] at hW
      have x0 : (W.alloc (.cells #[.slice none 0 0] 84)).cell? ⟨RC, 0, none⟩ = some (.int .i64 m) := (blk_cell (blk_alloc_old hW _) 0).trans rfl
      have z1 : IntKind.u64.wrap (m : Int) = (m : Int) := by rw [IntKind.wrap_u64]; omega
      have HWT : Hid (WT W (W.alloc (.cells #[.slice none 0 0] 84)) W.heap.size [] none) := hid ⟨⟨none, 0, heap_alloc_new W _, Row.nil _ _ _, by simp⟩, (Chg.refl [] W).alloc _, Nat.le_refl _, by simp⟩
      have HCW := hid hcW
      have HD1 := hid hD1
      have hWl := blk_lt hD1
      have hWw := hcW.size
      clear hW hcW hD1 hml
      go_upto_region 7 with fail
      generalize W.alloc (.cells #[.slice none 0 0] 84) = wB at x0 HWT ⊢
      obtain ⟨B, hB⟩ : ∃ B, W.heap.size = B := ⟨_, rfl⟩
      rw [hB] at HWT ⊢
      have HB := hid hB
      have HS1 := hid (wt_short1 HWT.out m (by omega) (by simp) 86)
      clear hB
      go_wp2_with (go_at_call 44; refine HS1.out.mono ?_; rintro e w5 ⟨rfl, r5, ht5, _, _⟩; refine halt (fun XX hXX => ?_))
      have HT5 := hid ht5
      have HC5 := hid (HCW.out.trans' ht5.chg)
      clear ht5 HS1 x0
      rw [hXX.out]; clear hXX XX
      go_wp2_with (go_at_call 31; refine (HEA.out _ HC5.out).mono ?_; rintro e w6 ⟨C2, v2, rfl, hk2, hv2, hg2, hgv2, hc6⟩)
      have hz6 := hc6.size
      have ht6 := HT5.out.same hc6
      have hB5 := HT5.out.lt.1
      have hr5 := HT5.out.lt.2.1
      have hW5 := HT5.out.chg.size
      have HV2 := hid (And.intro hk2 (And.intro hv2 hgv2))
      have HT6 := hid ht6
      have HC6 := hid hc6
      clear hk2 hv2 hgv2 hc6 ht6
      refine wp_runs rfl HV2.out.1 HV2.out.2.1 (by rw [HN.out]; omega) (fun b hb => (HV2.out.2.2 b hb).2)
        (fun pre U => ∃ r, WT W U B (shortB m ++ pre.flatMap fun x => runB x.2) r ∧ ∀ g, r = some g → g < w5.heap.size ∨ w6.heap.size + 2 ≤ g) (fun c pre U => False)
        (fun S pre A0 A h hC hm => by
          obtain ⟨r, ⟨⟨ao, cap, h1⟩, h2, h3, h4⟩, h5⟩ := h
          refine ⟨r, ⟨⟨ao, cap, h1.keep hC (fun hS => by have := hm _ hS; omega) (fun g hg hS => by have := hm _ hS; have := h5 g hg; omega)⟩, h2.trans hC (fun x hx => .inr (by have := hm x hx; omega)), h3, h4⟩, h5⟩) (fun c S pre A B h hC hm => h)
        ⟨r5, by simpa using HT6.out, fun g hg => .inl (hr5 g hg)⟩ (fun i v t => ((t.setIfInBounds 24 i).setIfInBounds 25 v).setIfInBounds 7 v) ?assign2 ?body2 ?done2 ?stop2
      case assign2 =>
        intro L i v U K' hK
        simp only [List.setIfInBounds_toArray, List.set_cons_zero, List.set_cons_succ] at hK ⊢
        gi_wp2
        exact hK
      case body2 =>
        rintro L S0 pre x A0 A v hpre ⟨r, hi, hri⟩ hs0 hs1 hc hm hlv hvb
        have hA0 : WT W A B (shortB m ++ pre.flatMap fun x => runB x.2) r := by
          obtain ⟨⟨ao, cap, h1⟩, h2, h3, h4⟩ := hi
          exact ⟨⟨ao, cap, h1.keep hc (fun hS => by have := hm _ hS; omega) (fun g hg hS => by have := hm _ hS; have := hri g hg; omega)⟩, h2.trans hc (fun x hx => .inr (by have := hm x hx; omega)), h3, h4⟩
        have hi0 := hi.lt
        obtain ⟨i0, rn⟩ := x
        simp only at hlv ⊢
        have hmem : rn ∈ runsE l := by
          have h1 : (i0, rn) ∈ runsI 0 (runsE l) := hpre.subset (by simp)
          have h2 := List.mem_map_of_mem (f := Prod.snd) h1
          rw [runsI_snd] at h2
          exact h2
        obtain ⟨hne, hmp, hmt, hmn⟩ := runs_mem hmem
        rw [HN.out] at hmn
        have hacc : (shortB m ++ pre.flatMap fun x => runB x.2).length + (runB rn).length ≤ 16777216 := by
          have h1 := HBL.out
          unfold bodyE at h1
          rw [HM.out] at h1
          have h2 : ((runsE l).flatMap runB).length = ((runsI 0 (runsE l)).flatMap fun x => runB x.2).length := by
            conv => lhs; rw [← runsI_snd 0 (runsE l)]
            rw [List.flatMap_map]
          obtain ⟨t, ht⟩ := hpre
          rw [← ht] at h2
          simp only [List.flatMap_append, List.flatMap_cons, List.flatMap_nil, List.append_nil, List.length_append] at h1 h2 ⊢
          omega
        obtain ⟨acc, hac⟩ : ∃ acc, (shortB m ++ pre.flatMap fun x => runB x.2) = acc := ⟨_, rfl⟩
        rw [hac] at hA0 hacc
        have HAC := hid hac
        obtain ⟨k, hk⟩ : ∃ k, rn.length = k := ⟨_, rfl⟩
        have hk0 : 0 < k := by rw [← hk]; exact List.length_pos_iff.2 hne
        have hkr : 0 < rn.length := by omega
        obtain ⟨av, cv, rfl, _⟩ := hlv.len
        rw [hk] at hlv hmn hvb ⊢
        obtain ⟨bv, ov, rfl, _, xt, _⟩ := ev_at hlv hkr
        have hthr : thrE rn = rn[0].t := by
          cases rn with
          | nil => exact absurd rfl hne
          | cons e rn => rfl
        have hpt := (plainE_out (HP.out _ (hmp _ (List.getElem_mem hkr)))).2.1
        obtain ⟨t, ht⟩ : ∃ t : Nat, rn[0].t = t := ⟨rn[0].t.toNat, by omega⟩
        rw [ht] at xt hthr hpt
        have HRB : Hid (runB rn = (shortB t ++ shortB k) ++ rn.flatMap evB) := hid (by unfold runB; rw [hthr, hk]; simp)
        have hvB : bv ≠ B ∧ r ≠ some bv ∧ A0.heap.size ≤ bv := by
          have h1 := hvb bv (by simp [Value.ownBlock])
          exact ⟨by have := hi0.1; omega, fun e => by have := hi0.2.1 _ e; omega, h1⟩
        have xt' : A.cell? ⟨bv, ov + 1, none⟩ = some (.int .i64 t) := by simpa using xt
        have z2 : IntKind.u64.wrap (t : Int) = (t : Int) := by rw [IntKind.wrap_u64]; omega
        have z3 : IntKind.u64.wrap (k : Int) = (k : Int) := by rw [IntKind.wrap_u64]; omega
        have HS2 := hid (wt_short2 hA0 t k (by omega) (by omega) (by omega) 86)
        have HA0 := hid hA0
        have HLV := hid hlv
        have HPL : Hid (∀ e ∈ rn, plainE e = true) := hid fun e he => HP.out e (hmp e he)
        have HK := hid hk
        have HRI := hid hri
        have HI0 := hid (And.intro hi0 hs1)
        have hb2 : acc.length + ((shortB t).length + (shortB k).length + (rn.flatMap evB).length) ≤ 16777216 := by rw [HRB.out] at hacc; simp only [List.length_append] at hacc; omega
        have k1 : (0 : Int) < (k : Int) := by omega
        clear hi hpre hm hc hlv hne hmp hmt hac hk xt ht hthr hmem hA0 hri hacc hvb hi0 hpt hs1
        simp only [List.setIfInBounds_toArray, List.set_cons_zero, List.set_cons_succ]
        gi_wp2_with (refine ⟨trivial, rfl, ?_⟩; gi_at_call 44; refine (CallsIn.inRound L (callsIn_wide.2 HS2.out)).mono ?_; rintro e U1 ⟨rfl, r1, ht1, hc1, hf1⟩; refine halt (fun XX hXX => ?_))
        have HT1 := hid (And.intro ht1 (And.intro hc1 hf1))
        clear ht1 hc1 hf1 HS2 xt' 
        rw [hXX.out]; clear hXX XX

        gi_upto_region 12 with fail
        gi_loopg [38] k (fun gk v38 U => ∃ (j : Nat) (r2 : Option Nat), v38 = .int .i64 j ∧ Hid (gk + j = k) ∧ Hid (WT W U B (acc ++ (shortB t ++ shortB k) ++ (rn.take j).flatMap evB) r2 ∧ Chg (B :: r.toList) A U ∧ Fresh A r r2))
        case atStart => exact ⟨0, r1, rfl, hid (by omega), hid ⟨by simpa using HT1.out.1, HT1.out.2⟩⟩
        case round =>
          obtain ⟨j, r2, rfl, HG, HS⟩ := hrel
          obtain ⟨U, rfl⟩ : ∃ U : World, U = wr := ⟨_, rfl⟩
          by_cases hj : j < k
          · have hjr : j < rn.length := by rw [HK.out]; exact hj
            have hlU : Lst evC 3 U (.slice (some ⟨bv, ov, none⟩) k cv) rn := View.keep HLV.out HS.out.2.1 (fun g hg hm => by
              simp [Value.ownBlock] at hg
              subst hg
              rcases List.mem_cons.1 hm with h | h
              · exact hvB.1 h
              · exact hvB.2.1 (by simpa using h))
            obtain ⟨b2, o2, hb2, xk, xt, xo⟩ := ev_at hlU hjr
            simp only [Option.some.injEq, Addr.mk.injEq, and_true] at hb2
            obtain ⟨rfl, rfl⟩ := hb2
            have hpe := HPL.out _ (List.getElem_mem hjr)
            have htk : (rn.take (j + 1)).flatMap evB = (rn.take j).flatMap evB ++ evB rn[j] := by rw [List.take_succ_eq_append_getElem hjr, List.flatMap_append]; simp
            have hle : ((rn.take (j + 1)).flatMap evB).length ≤ (rn.flatMap evB).length := by
              conv => rhs; rw [← List.take_append_drop (j + 1) rn, List.flatMap_append]
              rw [List.length_append]
              omega
            obtain ⟨e, he⟩ : ∃ e, rn[j] = e := ⟨_, rfl⟩
            rw [he] at xk xt xo hpe htk
            obtain ⟨p1, _, p3, _⟩ := plainE_out hpe
            obtain ⟨ek, et, eo⟩ := e
            simp only at p1 p3 xk xt xo
            obtain ⟨kn, rfl⟩ : ∃ kn : Nat, ek = kn := ⟨ek.toNat, by omega⟩
            obtain ⟨on, rfl⟩ : ∃ on : Nat, eo = on := ⟨eo.toNat, by omega⟩
            have hev : evB ⟨(kn : Int), et, (on : Int)⟩ = [UInt8.ofNat kn] ++ (if (kn : Int) = 11 then [] else shortB on) := by unfold evB; simp
            rw [hev] at htk
            obtain ⟨sf, hsf⟩ : ∃ sf, acc ++ (shortB t ++ shortB k) ++ (rn.take j).flatMap evB = sf := ⟨_, rfl⟩
            have hsl : sf.length + 1 ≤ 16777217 := by
              rw [← hsf]
              rw [htk] at hle
              simp only [List.length_append] at hle ⊢
              omega
            have HNX : Hid (acc ++ (shortB t ++ shortB k) ++ (rn.take (j + 1)).flatMap evB = sf ++ ([UInt8.ofNat kn] ++ (if (kn : Int) = 11 then [] else shortB on))) := hid (by rw [htk, ← hsf]; simp only [List.append_assoc])
            rw [hsf] at HS
            have z4 : IntKind.u8.wrap (kn : Int) = (kn : Int) := by rw [IntKind.wrap_u8]; omega
            have z6 : (kn : Int) % 256 = (kn : Int) := by omega
            have z5 : IntKind.u64.wrap (on : Int) = (on : Int) := by rw [IntKind.wrap_u64]; omega
            have hca := (Chg.refl [] U).alloc (.cells #[.int .i64 kn, .int .i64 et, .int .i64 on] 28)
            have hbx := heap_alloc_new U (.cells #[.int .i64 kn, .int .i64 et, .int .i64 on] 28)
            have hUl := HS.out.1.lt
            clear hle htk hev hsf hpe he hlU
            gi_upto_region 14 with fail
            generalize hU2 : U.alloc (.cells #[.int .i64 kn, .int .i64 et, .int .i64 on] 28) = U2 at hca hbx ⊢
            have hPB : U.heap.size ≠ B ∧ r2 ≠ some U.heap.size := ⟨by omega, fun e => by have := hUl.2.1 _ e; omega⟩
            generalize U.heap.size = PB at hbx hPB ⊢
            have hT2 := HS.out.1.same hca
            have HPUT := hid (wt_put hT2 kn (by omega) (by omega) 5)
            have HCA := hid hca
            have HBX := hid hbx
            have x0 : U2.cell? ⟨PB, 0, none⟩ = some (.int .i64 kn) := (blk_cell hbx 0).trans rfl
            have HPB := hid hPB
            clear hU2 hca hbx hPB hT2 xk xt xo hUl
            gi_wp2_with (refine ⟨trivial, rfl, ?_⟩; gi_at_call 45; refine (CallsIn.inRound L (callsIn_wide.2 HPUT.out)).mono ?_; rintro e U3 ⟨rfl, r3, ht3, hc3, hf3⟩; refine halt (fun XX hXX => ?_))
            have hb3 := hc3.heap HBX.out (fun hm => by
              rcases List.mem_cons.1 hm with h | h
              · exact HPB.out.1 h
              · exact HPB.out.2 (by simpa using h))
            have x1 : U3.cell? ⟨PB, 0, none⟩ = some (.int .i64 kn) := (blk_cell hb3 0).trans rfl
            have x2 : U3.cell? ⟨PB, 2, none⟩ = some (.int .i64 on) := (blk_cell hb3 2).trans rfl
            have hfa : Fresh A r r3 := HS.out.2.2.trans (HS.out.2.1.trans' HCA.out.nil).size hf3
            have hch := chg_step (HS.out.2.1.trans' HCA.out.nil) HS.out.2.2 hc3
            have H3 := hid (And.intro ht3 (And.intro hch hfa))
            clear hb3 hfa hch ht3 hc3 hf3 HPUT x0
            rw [hXX.out]; clear hXX XX
            by_cases h11 : (kn : Int) = 11
            · have hq : ((kn : Int) != 11) = false := by simp [h11]
              have HN2 := HNX.out
              rw [if_pos h11, List.append_nil] at HN2
              have HN3 := hid HN2
              clear HN2 h11
              gi_wp2_with fail
              gi_roundg (gk - 1)
              case measure => have := HG.out; omega
              case rel => exact ⟨j + 1, r3, by go_num, hid (by have := HG.out; omega), hid ⟨by rw [HN3.out]; exact H3.out.1, H3.out.2⟩⟩
            · have hq : ((kn : Int) != 11) = true := by simp [h11]
              have HN2 := HNX.out
              rw [if_neg h11] at HN2
              have HN3 := hid (HN2.trans (List.append_assoc _ _ _).symm)
              have HSH := hid (wt_short1 H3.out.1 on (by omega) (by simp; omega) 86)
              clear HN2 h11
              gi_wp2_with (refine ⟨trivial, rfl, ?_⟩; gi_at_call 44; refine (CallsIn.inRound L (callsIn_wide.2 HSH.out)).mono ?_; rintro e U4 ⟨rfl, r4, ht4, hc4, hf4⟩; refine halt (fun XX hXX => ?_))
              have H4 := hid (And.intro ht4 (And.intro (chg_step H3.out.2.1 H3.out.2.2 hc4) (H3.out.2.2.trans H3.out.2.1.size hf4)))
              clear ht4 hc4 hf4 x1 x2
              rw [hXX.out]; clear hXX XX
              gi_wp2_with fail
              gi_roundg (gk - 1)
              case measure => have := HG.out; omega
              case rel => exact ⟨j + 1, r4, by go_num, hid (by have := HG.out; omega), hid ⟨by rw [HN3.out]; exact H4.out.1, H4.out.2⟩⟩
          · have hjk : rn.length ≤ j := by rw [HK.out]; omega
            rw [List.take_of_length_le hjk] at HS
            have hC2 := blk_lt HV2.out.1
            gi_wp2
            refine ⟨⟨B :: r.toList, HS.out.2.1, fun b hb => ?_⟩, r2, ?_, fun g hg => ?_⟩
            · rcases List.mem_cons.1 hb with rfl | hb
              · refine ⟨fun hK => ?_, .inl (by omega)⟩
                rcases List.mem_cons.1 hK with h | h
                · omega
                · have := (HV2.out.2.2 b (by simpa using h)).1; omega
              · have hrb : r = some b := by simpa using hb
                have h1 := HI0.out.1.2.1 b hrb
                rcases HRI.out b hrb with h2 | h2
                · refine ⟨fun hK => ?_, .inl (by omega)⟩
                  rcases List.mem_cons.1 hK with h | h
                  · omega
                  · have := (HV2.out.2.2 b (by simpa using h)).1; omega
                · refine ⟨fun hK => ?_, .inr ⟨h2, h1⟩⟩
                  rcases List.mem_cons.1 hK with h | h
                  · omega
                  · have := (HV2.out.2.2 b (by simpa using h)).2; omega
            · have h1 := HS.out.1
              have h2 : (shortB m ++ (pre ++ [(i0, rn)]).flatMap fun x => runB x.2) = acc ++ (shortB t ++ shortB k) ++ rn.flatMap evB := by
                rw [List.flatMap_append, ← List.append_assoc, HAC.out]
                simp only [List.flatMap_cons, List.flatMap_nil, List.append_nil, HRB.out, List.append_assoc]
              rw [h2]
              exact h1
            · rcases HS.out.2.2 g hg with h | h
              · exact HRI.out g h
              · have := HI0.out.2; exact .inr (by omega)
      case stop2 => rintro c pre U hpre h; exact h.elim
      case done2 =>
        rintro U ⟨r, hU, hr⟩ hD2
        obtain ⟨ao2, cap2, hwr⟩ := hU.wr
        have hbody : (shortB m ++ (runsI 0 (runsE l)).flatMap fun x => runB x.2) = bodyE l := by
          unfold bodyE
          rw [HM.out]
          congr 1
          conv => rhs; rw [← runsI_snd 0 (runsE l)]
          rw [List.flatMap_map]
        rw [hbody] at hwr hU
        have HBY := hid (bytes_calls U B r (bodyE l) ao2 cap2 hwr (by have := HBL.out; omega))
        have HD2 := hid hD2
        have HU := hid hU
        clear hwr hbody hU hD2 hr
        go_wp2_with (go_at_call 47; refine HBY.out.mono ?_; rintro e U1 ⟨l2, a3, c3, r3, rfl, hr3, hf3, hc3, hl2⟩; refine halt (fun XX hXX => ?_))
        have HFR := hid (frame_calls 3 _ l2 U1 hr3.view (by rw [hl2.out]; exact HBL.out))
        have HC3' := hid hc3
        have HL2 := hid hl2.out
        clear hr3 hf3 hc3 hl2 HBY
        rw [hXX.out]; clear hXX XX
        go_wp2_with (go_at_call 46; refine HFR.out.mono ?_; rintro e U2 ⟨l4, a4, c4, r4, rfl, hr4, hf4, hc4, hl4⟩)
        have hD1' := hc4.heap (HC3'.out.heap (HU.out.chg.heap HD1.out (by simp)) (by simp)) (by simp)
        have hD2' := hc4.heap (HC3'.out.heap HD2.out (by simp)) (by simp)
        have hfin : Chg [] w U2 := ((HCW.out.trans' HU.out.chg).trans' HC3'.out).trans' hc4
        have hz := (HU.out.chg.trans' HC3'.out).size
        have hu6 := blk_lt HD2.out
        have hu1 := HC3'.out.size
        have hcp1 : Chg [w6.heap.size] U2 (U2.putObj w6.heap.size (.deferred none)) := (Chg.refl _ _).putObj (.inl (by simp)) _
        have hcp2 : Chg [w3.heap.size] (U2.putObj w6.heap.size (.deferred none)) ((U2.putObj w6.heap.size (.deferred none)).putObj w3.heap.size (.deferred none)) := (Chg.refl _ _).putObj (.inl (by simp)) _
        have hnew : ∀ g, r4 = some g → U1.heap.size ≤ g := fun g hg => by
          rcases hf4 g hg with h | h
          · cases h
          · exact h
        refine leavesM_mark hD2' (leavesM_mark ((World.putObj_heap_other (by omega)).trans hD1') (leavesM_nil (results_tmp2 rfl _ _ _) ?_))
        rw [HD.out]
        refine ⟨l4, a4, c4, r4, rfl, (hr4.keep hcp1 (fun g hg hm => by simp at hm; have := hnew g hg; omega)).keep hcp2 (fun g hg hm => by simp at hm; have := hnew g hg; omega), fun g hg => .inr (by have := hnew g hg; omega), ?_, by rw [← HL2.out]; exact hl4⟩
        exact (hfin.putObj (.inr (by omega)) _).putObj (.inr (by omega)) _
end Go.Proofs.YtbghkodcfedebaaGreatDoor
