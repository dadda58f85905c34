/- Walks of the trace layer: bytes read. -/
import Derived.Test.YtbghkodcfedebaaGreatDoorTrk
import Derived.Test.YtbghkodcfedebaaGreatDoorTj5
import Derived.Defers
import Derived.Recover
import Derived.Laws.Pointers
set_option linter.unusedVariables false
set_option linter.unusedSectionVars false
set_option linter.unusedSimpArgs false
namespace Go.AB
open Go.RowKit
theorem rShort_bad0 {m : Nat} {L : List UInt8} {s : RS} (h : (rShort m L s).2.bad ≠ 0) : (rShort m L s).1 = 0 := by
  revert h
  unfold rShort
  repeat' split
  all_goals (intro h; first | rfl | (simp_all))
theorem dRuns_none {L : List UInt8} {q n p h b : Nat} (h1 : rShort 16777216 L ⟨q, 0, 0⟩ = (n, ⟨p, h, b⟩)) (hb : b ≠ 0) : dRuns L q = none := by
  unfold dRuns sureP
  rw [h1]
  simp only
  rw [if_neg (fun e => hb e.1)]
  rfl
theorem dRuns_rest {L : List UInt8} {q n p h : Nat} (h1 : rShort 16777216 L ⟨q, 0, 0⟩ = (n, ⟨p, h, 0⟩)) : dRuns L q = rep (dRun L) thrE n (-1) p := by
  unfold dRuns sureP
  rw [h1]
  simp only
  rw [if_pos (by first | exact ⟨rfl, rfl⟩ | exact ⟨trivial, trivial⟩ | simp)]
  simp only [Option.bind_some, Option.map_map]
  cases rep (dRun L) thrE n (-1) p with
  | none => rfl
  | some r => rfl
theorem run_room {L : List UInt8} {last : Int} {q q2 : Nat} {r : List Ev} (hq : q ≤ L.length) (h : dRun L last q = some (r, q2)) : q2 ≤ L.length ∧ q + r.length ≤ q2 ∧ r ≠ [] ∧ thrE r = (r.head?.map Ev.t).getD 0 := by
  obtain ⟨⟨⟨⟨h1, _⟩, _⟩, _⟩, h2, h3⟩ := (c_run (L := L) last (by omega)).fwd q r q2 hq h
  have hl := congrArg List.length h3
  rw [List.length_append, List.length_take, List.length_take] at hl
  have hb1 : ∀ e : Ev, 1 ≤ (evB e).length := fun e => by unfold evB; simp
  have hb2 : ∀ l : List Ev, l.length ≤ (l.flatMap evB).length := fun l => by
    induction l with
    | nil => simp
    | cons e l ih => have := hb1 e; simp only [List.flatMap_cons, List.length_append, List.length_cons]; omega
  have hb3 : r.length ≤ (runB r).length := by
    have := hb2 r
    unfold runB
    simp only [List.length_append]
    omega
  exact ⟨h2, by omega, h1, rfl⟩
end Go.AB
namespace Go.Proofs.YtbghkodcfedebaaGreatDoor
open Go.RowKit Go.AB
set_option linter.unusedSimpArgs false
set_option linter.unusedVariables false
set_option linter.unusedSectionVars false

theorem set2 {w : World} {P : Nat} {v0 v1 : Value} (h0 : w.heap[P]? = some (.cells #[v0] 22 (0, 0))) (h1 : w.heap[P + 1]? = some (.cells #[v1] 29 (0, 0))) (x0 x1 : Value) :
    ((w.setCell ⟨P, 0, none⟩ x0).setCell ⟨P + 1, 0, none⟩ x1).heap[P]? = some (.cells #[x0] 22 (0, 0)) ∧ ((w.setCell ⟨P, 0, none⟩ x0).setCell ⟨P + 1, 0, none⟩ x1).heap[P + 1]? = some (.cells #[x1] 29 (0, 0)) ∧ Chg [P, P + 1] w ((w.setCell ⟨P, 0, none⟩ x0).setCell ⟨P + 1, 0, none⟩ x1) := by
  refine ⟨?_, ?_, ?_⟩
  · exact (blk_set_other (b := P + 1) (c := P) (by omega) _ _).trans (blk_set h0 0 _)
  · exact blk_set ((blk_set_other (b := P) (c := P + 1) (by omega) _ _).trans h1) 0 _
  · exact ((Chg.refl [P, P + 1] w).setCell (p := ⟨P, 0, none⟩) (.inl (by simp)) _).setCell (p := ⟨P + 1, 0, none⟩) (.inl (by simp)) _
section
variable {P : Nat} {v0 v1 : Value} {w : World}
set_option maxRecDepth 100000 in
set_option maxHeartbeats 4000000 in
theorem catch_panicking (h0 : w.heap[P]? = some (.cells #[v0] 22 (0, 0))) (h1 : w.heap[P + 1]? = some (.cells #[v1] 29 (0, 0))) :
    CallsD Tryz.prog 54 #[.pointer (some ⟨P, 0, none⟩), .pointer (some ⟨P + 1, 0, none⟩)] (.panicking [{ v := .iface 100 (.agg #[]), recovered := false }]) w fun e u' w' =>
      e = .returned (.tuple #[]) ∧ u' = .panicking [{ v := .iface 100 (.agg #[]), recovered := true }] ∧ w'.heap[P]? = some (.cells #[.slice none 0 0] 22 (0, 0)) ∧ w'.heap[P + 1]? = some (.cells #[.int .i64 181] 29 (0, 0)) ∧ Chg [P, P + 1] w w' := by
  have c0 := fun o => (blk_cell (blk_alloc_old h0 o) 0).trans rfl
  have f0 := fun o => blk_free (blk_alloc_old h0 o) 0
  have d0 := fun o => (blk_cell (blk_alloc_old h1 o) 0).trans rfl
  have g0 := fun o => blk_free (blk_alloc_old h1 o) 0
  have x0 := (blk_cell h0 0).trans rfl
  have x1 := blk_free h0 0
  have x2 := (blk_cell h1 0).trans rfl
  have x3 := blk_free h1 0
  have hta : ∀ W : World, (Instr.typeAssert (.iface 100 (.agg #[])) 20 100 true).run Tryz.prog W = .ok (.tuple #[.agg #[], .bool true]) W := fun W => by rfl
  refine callsD_of_wpS Tryz.func54 rfl fun c₀ cs hu => ?_
  apply wpS_seq
  apply wpS_region
  simp [wpOpsS, go_sem, recoverD, hu, Tryz.ntmps54, Exit.thenS]
  refine wpS_of_wp ?_
  simp only [Array.size, Array.replicate, List.replicate, List.setIfInBounds_toArray, List.set_cons_zero, List.set_cons_succ, List.append_toArray, List.cons_append, List.nil_append]
  go_wp2
  obtain ⟨s1, s2, s3⟩ := set2 (blk_alloc_old h0 (.cells #[] 100)) (blk_alloc_old h1 (.cells #[] 100)) (.slice none 0 0) (.int .i64 181)
  exact ⟨rfl, _, rfl, .tuple #[], by simp [results, Tryz.results54], rfl, rfl, s1, s2, ((Chg.refl [] w).alloc _).nil.trans' s3⟩
theorem catch_idle (P : Nat) (w : World) :
    CallsD Tryz.prog 54 #[.pointer (some ⟨P, 0, none⟩), .pointer (some ⟨P + 1, 0, none⟩)] .returning w fun e u' w' => e = .returned (.tuple #[]) ∧ u' = .returning ∧ w' = w := by
  refine callsD_of_wpS Tryz.func54 rfl fun c₀ cs hu => ?_
  apply wpS_seq
  apply wpS_region
  simp [wpOpsS, go_sem, recoverD, hu, Tryz.ntmps54, Exit.thenS]
  refine wpS_of_wp ?_
  simp only [Array.size, Array.replicate, List.replicate, List.setIfInBounds_toArray, List.set_cons_zero, List.set_cons_succ, List.append_toArray, List.cons_append, List.nil_append]
  go_wp2
  refine ⟨rfl, _, ?_, .tuple #[], by simp [results, Tryz.results54], rfl, rfl, rfl⟩
  cases c₀
  simp_all
theorem decode_results {tmps : Array Value} (h0 : w.heap[P]? = some (.cells #[v0] 22 (0, 0))) (h1 : w.heap[P + 1]? = some (.cells #[v1] 29 (0, 0)))
    (t2 : tmps[2]?.getD undef = .pointer (some ⟨P, 0, none⟩)) (t3 : tmps[3]?.getD undef = .pointer (some ⟨P + 1, 0, none⟩)) :
    (results Tryz.f23 tmps).run Tryz.prog w = .ok (.tuple #[v0, v1]) w := by
  have c0 : w.cell? ⟨P, 0, none⟩ = some v0 := blk_cell h0 0
  have d0 : w.cell? ⟨P + 1, 0, none⟩ = some v1 := blk_cell h1 0
  simp [results, Tryz.results23, go_sem, t2, t3, c0, d0]
end
/-- What Decode answers. -/
def DecE (w : World) (d : List Ev × Nat) (e : Ending) (w' : World) : Prop :=
  (∃ c, d = ([], c) ∧ c ≠ 0 ∧ e = .returned (.tuple #[.slice none 0 0, .int .i64 (c : Nat)]) ∧ Chg [] w w') ∨ (∃ xs v, d = (xs, 0) ∧ e = .returned (.tuple #[v, .int .i64 0]) ∧ NewE w xs v w')
theorem dec_start {w w1 : World} (hc1 : Chg [] ((w.alloc (.cells #[.slice none 0 0] 22)).alloc (.cells #[.int .i64 0] 29)) w1) :
    w1.heap[w.heap.size]? = some (.cells #[.slice none 0 0] 22 (0, 0)) ∧ w1.heap[w.heap.size + 1]? = some (.cells #[.int .i64 0] 29 (0, 0)) ∧ Chg [] w w1 := by
  have hp0 : ((w.alloc (.cells #[.slice none 0 0] 22)).alloc (.cells #[.int .i64 0] 29)).heap[w.heap.size]? = some (.cells #[.slice none 0 0] 22 (0, 0)) := blk_alloc_old (heap_alloc_new w _) _
  have he0 := heap_alloc_new (w.alloc (.cells #[.slice none 0 0] 22)) (.cells #[.int .i64 0] 29)
  rw [World.size_alloc] at he0
  have h2 := ((Chg.refl [] w).alloc (.cells #[.slice none 0 0] 22)).alloc (.cells #[.int .i64 0] 29)
  exact ⟨hc1.heap hp0 (by simp), hc1.heap he0 (by simp), h2.trans' hc1⟩
set_option maxHeartbeats 4000000 in
set_option maxRecDepth 100000 in
theorem decode_err (v : Value) (L : List UInt8) (w : World) (hv : Bytes w v L) (hl : L.length ≤ 16777216) (hc : (openB L).2.2 ≠ 0) :
    Calls Tryz.prog 23 #[v] w (DecE w ([], (openB L).2.2)) := by
  have hmf : ∀ (fn : Fn) (first cap : Array Value) (w : World), (Instr.makeFunc fn first cap).run Tryz.prog w = .ok (.func fn first cap) w := fun _ _ _ _ => rfl
  have h2 := ((Chg.refl [] w).alloc (.cells #[.slice none 0 0] 22)).alloc (.cells #[.int .i64 0] 29)
  obtain ⟨k, bd, c, ho⟩ : ∃ k bd c, openB L = (k, bd, c) := ⟨_, _, _, rfl⟩
  have hop := open_calls v L _ (hv.keep h2 (by simp)) hl
  rw [ho] at hop hc ⊢
  have HO := hid hop
  clear hop ho
  go_enter_defers Tryz.func23, Tryz.ntmps23
  go_wp2_with (go_at_call 53; refine (HO.out).mono ?_; rintro e w1 ⟨l', ao, cap, r, rfl, hr1, hf1, hc1, HL1⟩; refine halt (fun X hX => ?_))
  rw [hX.out]; clear hX
  obtain ⟨hp1, he1, hC1⟩ := dec_start hc1
  obtain ⟨P, hP⟩ : ∃ P, w.heap.size = P := ⟨_, rfl⟩
  have hPl : w.heap.size ≤ P := by omega
  rw [hP] at hp1 he1 ⊢
  clear hP
  have y0 := (blk_cell he1 0).trans rfl
  have y1 := blk_free he1 0
  have HC := hid (And.intro hp1 (And.intro he1 hC1))
  have hcc : ((c : Int) != 0) = true := by simpa using hc
  clear hp1 he1 hc1 hf1 hr1 h2 hv HO hC1
  go_wp2_with fail
  have hpU : (w1.setCell ⟨P + 1, 0, none⟩ (.int .i64 (c : Int))).heap[P]? = some (.cells #[.slice none 0 0] 22 (0, 0)) := (blk_set_other (by omega) _ _).trans HC.out.1
  have heU : (w1.setCell ⟨P + 1, 0, none⟩ (.int .i64 (c : Int))).heap[P + 1]? = some (.cells #[.int .i64 (c : Int)] 29 (0, 0)) := blk_set HC.out.2.1 0 _
  have hcU : Chg [] w (w1.setCell ⟨P + 1, 0, none⟩ (.int .i64 (c : Int))) := HC.out.2.2.setCell (p := ⟨P + 1, 0, none⟩) (.inr (by simp only; omega)) _
  obtain ⟨U, hU⟩ : ∃ U : World, U = (w1.setCell ⟨P + 1, 0, none⟩ (.int .i64 (c : Int))) := ⟨_, rfl⟩
  rw [← hU] at hpU heU hcU ⊢
  clear hU HC y0 y1
  have c0 := (blk_cell hpU 0).trans rfl
  have f0 := blk_free hpU 0
  have d0 := (blk_cell heU 0).trans rfl
  have g0 := blk_free heU 0
  have HU := hid (And.intro hpU (And.intro heU hcU))
  clear hpU heU hcU
  go_region
  go_wp2
  obtain ⟨s1, s2, s3⟩ := set2 HU.out.1 HU.out.2.1 (.slice none 0 0) (.int .i64 (c : Int))
  exact ⟨_, decode_results (w := ((U.setCell ⟨P, 0, none⟩ (.slice none 0 0)).setCell ⟨P + 1, 0, none⟩ (.int .i64 (c : Int))).drew) s1 s2 rfl rfl, .inl ⟨c, rfl, hc, rfl, (HU.out.2.2.trans s3 (fun x hx => .inr (by simp at hx; omega))).drew⟩⟩
set_option maxHeartbeats 4000000 in
set_option maxRecDepth 100000 in
theorem decode_kind (v : Value) (L : List UInt8) (w : World) (hv : Bytes w v L) (hl : L.length ≤ 16777216) (hc : (openB L).2.2 = 0) (hk : (openB L).1 ≠ 3) :
    Calls Tryz.prog 23 #[v] w (DecE w ([], 182)) := by
  have hmf : ∀ (fn : Fn) (first cap : Array Value) (w : World), (Instr.makeFunc fn first cap).run Tryz.prog w = .ok (.func fn first cap) w := fun _ _ _ _ => rfl
  have h2 := ((Chg.refl [] w).alloc (.cells #[.slice none 0 0] 22)).alloc (.cells #[.int .i64 0] 29)
  obtain ⟨k, bd, c, ho⟩ : ∃ k bd c, openB L = (k, bd, c) := ⟨_, _, _, rfl⟩
  have hop := open_calls v L _ (hv.keep h2 (by simp)) hl
  rw [ho] at hop hc hk
  simp only at hc hk
  subst hc
  have HO := hid hop
  clear hop ho
  have hkk : ((k.toNat : Int) != 3) = true := by
    have : k.toNat ≠ 3 := fun e => hk (UInt8.toNat_inj.1 (by simpa using e))
    simpa using (show (k.toNat : Int) ≠ 3 by omega)
  go_enter_defers Tryz.func23, Tryz.ntmps23
  go_wp2_with (go_at_call 53; refine (HO.out).mono ?_; rintro e w1 ⟨l', ao, cap, r, rfl, hr1, hf1, hc1, HL1⟩; refine halt (fun X hX => ?_))
  rw [hX.out]; clear hX
  obtain ⟨hp1, he1, hC1⟩ := dec_start hc1
  obtain ⟨P, hP⟩ : ∃ P, w.heap.size = P := ⟨_, rfl⟩
  have hPl : w.heap.size ≤ P := by omega
  rw [hP] at hp1 he1 ⊢
  clear hP
  have c0 := (blk_cell hp1 0).trans rfl
  have f0 := blk_free hp1 0
  have d0 := (blk_cell he1 0).trans rfl
  have g0 := blk_free he1 0
  have HU := hid (And.intro hp1 (And.intro he1 hC1))
  clear hp1 he1 hC1 hc1 hf1 hr1 h2 hv HO
  have zc : ((0 : Nat) : Int) = 0 := rfl
  go_wp2
  obtain ⟨s1, s2, s3⟩ := set2 (w := w1.setCell ⟨P + 1, 0, none⟩ (.int .i64 0)) ((blk_set_other (by omega) _ _).trans HU.out.1) (blk_set HU.out.2.1 0 _) (.slice none 0 0) (.int .i64 182)
  exact ⟨_, decode_results s1 s2 rfl rfl, .inl ⟨182, rfl, by simp, rfl, (HU.out.2.2.setCell (p := ⟨P + 1, 0, none⟩) (.inr (by simp only; omega)) _).trans s3 (fun x hx => .inr (by simp at hx; omega))⟩⟩
/-- What holds while the runs are read: the results' cells, the reader, the list so far. -/
structure DV (w u : World) (N P b : Nat) (l : List UInt8) (ao : Option Addr) (cap p h bd : Nat) (al : Option Addr) (cl : Nat) (rr : Option Nat) (xs : List Ev) : Prop where
  rd : Rd 151 u b l ao cap p h bd
  lt : ∀ g, (Value.slice ao l.length cap).ownBlock = some g → P + 2 ≤ g ∧ g < N
  bl : P + 2 ≤ b ∧ b < N
  nl : N ≤ u.heap.size
  pl : w.heap.size ≤ P
  pb : u.heap[P]? = some (.cells #[.slice al xs.length cl] 22 (0, 0))
  eb : u.heap[P + 1]? = some (.cells #[.int .i64 0] 29 (0, 0))
  row : Row u 28 3 (.slice al xs.length cl) rr xs.length (xs.flatMap evC)
  fr : ∀ g, rr = some g → N ≤ g
  chg : Chg [] w u
section
variable {w u u' : World} {N P b : Nat} {l : List UInt8} {ao : Option Addr} {cap p h bd p' h' bd' : Nat} {al al' : Option Addr} {cl cl' : Nat} {rr rr' : Option Nat} {xs ys : List Ev}
theorem DV.take (k : DV w u N P b l ao cap p h bd al cl rr xs) (hc : Chg [b] u u') (hr : Rd 151 u' b l ao cap p' h' bd') : DV w u' N P b l ao cap p' h' bd' al cl rr xs := by
  have := k.bl
  have := k.pl
  exact ⟨hr, k.lt, k.bl, Nat.le_trans k.nl hc.size, k.pl, hc.heap k.pb (by simp; omega), hc.heap k.eb (by simp; omega), k.row.keep hc (fun g hg => by have := k.fr g hg; simp; omega), k.fr, k.chg.trans hc (fun x hx => .inr (by simp at hx; omega))⟩
theorem DV.same (k : DV w u N P b l ao cap p h bd al cl rr xs) (hc : Chg [] u u') : DV w u' N P b l ao cap p h bd al cl rr xs :=
  k.take hc.nil (k.rd.keep hc (by simp) (by simp))
/-- Behind an append and its store. -/
theorem DV.put (k : DV w u N P b l ao cap p h bd al cl rr xs) (hr : Row u' 28 3 (.slice al' (xs.length + ys.length) cl') rr' (xs.length + ys.length) (xs.flatMap evC ++ ys.flatMap evC)) (hg : Grew u u' rr rr') :
    (u'.heap[P]? = some (.cells #[.slice al xs.length cl] 22 (0, 0))) ∧ DV w (u'.setCell ⟨P, 0, none⟩ (.slice al' (xs.length + ys.length) cl')) N P b l ao cap p h bd al' cl' rr' (xs ++ ys) := by
  have hb := k.bl
  have hp := k.pl
  have hm : ∀ g, g < N → g ∉ rr.toList := fun g hg hm => by
    have := k.fr g (by simpa using hm)
    omega
  have hpb := hg.chg.heap k.pb (hm _ (by omega))
  have hcs : Chg [P] u' (u'.setCell ⟨P, 0, none⟩ (.slice al' (xs.length + ys.length) cl')) := (Chg.refl [P] u').setCell (p := ⟨P, 0, none⟩) (.inl (by simp)) _
  have hfr : ∀ g, rr' = some g → N ≤ g := fun g h => by
    rcases hg.fresh g h with h1 | h1
    · exact k.fr g h1
    · have := k.nl; omega
  refine ⟨hpb, (k.rd.keep hg.chg (hm _ hb.2) (fun g h => hm g (k.lt g h).2)).keep hcs (by simp; omega) (fun g h => by have := k.lt g h; simp; omega), k.lt, k.bl, Nat.le_trans k.nl (Nat.le_trans hg.chg.size hcs.size), k.pl, ?_, ?_, ?_, hfr, ?_⟩
  · rw [List.length_append]; exact blk_set hpb 0 _
  · exact (blk_set_other (by omega) _ _).trans (hg.chg.heap k.eb (hm _ (by omega)))
  · rw [List.length_append, List.flatMap_append]
    exact hr.keep hcs (fun g h hm => by have := hfr g h; simp at hm; omega)
  · exact (k.chg.trans hg.chg (fun x hx => .inr (by have := k.fr x (by simpa using hx); have := k.nl; omega))).setCell (p := ⟨P, 0, none⟩) (.inr hp) _
end
/-- Behind a deferred call the results are read: thrown. -/
theorem door_bad {w u : World} {P : Nat} {v0 : Value} {tmps : Array Value} {d : List Ev × Nat} (h0 : u.heap[P]? = some (.cells #[v0] 22 (0, 0))) (h1 : u.heap[P + 1]? = some (.cells #[.int .i64 0] 29 (0, 0))) (hc : Chg [] w u) (hP : w.heap.size ≤ P) (hd : d = ([], 181))
    (t2 : tmps[2]?.getD undef = .pointer (some ⟨P, 0, none⟩)) (t3 : tmps[3]?.getD undef = .pointer (some ⟨P + 1, 0, none⟩)) :
    bodyPostD Tryz.prog Tryz.f23 (DecE w d) (.panic [{ v := .iface 100 (.agg #[]), recovered := false }])
      { tmps := tmps, defers := [{ target := .fn (.func 54) #[.pointer (some ⟨P, 0, none⟩), .pointer (some ⟨P + 1, 0, none⟩)], args := #[] }] } u := by
  subst hd
  refine leaves_cons (f := 54) (args := #[.pointer (some ⟨P, 0, none⟩), .pointer (some ⟨P + 1, 0, none⟩)]) (by simp) (by simp [go_sem]) ?_
  refine (catch_panicking h0 h1).mono ?_
  rintro e u' w'' ⟨rfl, rfl, s1, s2, s3⟩
  exact ⟨_, decode_results s1 s2 t2 t3, .inl ⟨181, rfl, by simp, rfl, hc.trans s3 (fun x hx => .inr (by simp at hx; omega))⟩⟩
theorem door_good {w u : World} {P : Nat} {v0 : Value} {tmps : Array Value} {d : List Ev × Nat} {xs : List Ev} (h0 : u.heap[P]? = some (.cells #[v0] 22 (0, 0))) (h1 : u.heap[P + 1]? = some (.cells #[.int .i64 0] 29 (0, 0))) (hd : d = (xs, 0)) (hv : NewE w xs v0 u)
    (t2 : tmps[2]?.getD undef = .pointer (some ⟨P, 0, none⟩)) (t3 : tmps[3]?.getD undef = .pointer (some ⟨P + 1, 0, none⟩)) :
    bodyPostD Tryz.prog Tryz.f23 (DecE w d) .ret
      { tmps := tmps, defers := [{ target := .fn (.func 54) #[.pointer (some ⟨P, 0, none⟩), .pointer (some ⟨P + 1, 0, none⟩)], args := #[] }] } u := by
  subst hd
  refine leaves_cons (f := 54) (args := #[.pointer (some ⟨P, 0, none⟩), .pointer (some ⟨P + 1, 0, none⟩)]) (by simp) (by simp [go_sem]) ?_
  refine (catch_idle P u).mono ?_
  rintro e u' w'' ⟨rfl, rfl, rfl⟩
  exact ⟨_, decode_results h0 h1 t2 t3, .inr ⟨xs, _, rfl, rfl, hv⟩⟩
set_option maxHeartbeats 16000000 in
set_option maxRecDepth 100000 in
theorem decode_body (v : Value) (L : List UInt8) (w : World) (hv : Bytes w v L) (hl : L.length ≤ 16777216) (hc : (openB L).2.2 = 0) (hk : (openB L).1 = 3) (D : List Ev × Nat) (hD : D = match dBodyE (openB L).2.1 with
    | some l => (l, 0)
    | none => ([], 181)) : Calls Tryz.prog 23 #[v] w (DecE w D) := by
  have hmf : ∀ (fn : Fn) (first cap : Array Value) (w : World), (Instr.makeFunc fn first cap).run Tryz.prog w = .ok (.func fn first cap) w := fun _ _ _ _ => rfl
  have h2 := ((Chg.refl [] w).alloc (.cells #[.slice none 0 0] 22)).alloc (.cells #[.int .i64 0] 29)
  obtain ⟨k, bd, c, ho⟩ : ∃ k bd c, openB L = (k, bd, c) := ⟨_, _, _, rfl⟩
  have hbdl : bd.length ≤ 16777216 := by
    have hf := openB_frame L hc
    have h1 := congrArg List.length hf
    rw [frameB_length, ho] at h1
    simp only at h1
    omega
  have hop := open_calls v L _ (hv.keep h2 (by simp)) hl
  rw [ho] at hop hc hk hD
  simp only at hc hk hD
  subst hc hk
  have HO := hid hop
  have HD := hid hD
  clear hop ho hD
  go_enter_defers Tryz.func23, Tryz.ntmps23
  go_wp2_with (go_at_call 53; refine (HO.out).mono ?_; rintro e w1 ⟨l', ao, cap, r, rfl, hr1, hf1, hc1, HL1⟩; refine halt (fun X hX => ?_))
  rw [hX.out]; clear hX
  obtain ⟨hp1, he1, hC1⟩ := dec_start hc1
  obtain ⟨P, hP⟩ : ∃ P, w.heap.size = P := ⟨_, rfl⟩
  have hPl : w.heap.size ≤ P := by omega
  rw [hP] at hp1 he1 ⊢
  have c0 := (blk_cell hp1 0).trans rfl
  have f0 := blk_free hp1 0
  have d0 := (blk_cell he1 0).trans rfl
  have g0 := blk_free he1 0
  have hNR := newReader_calls (.slice ao l'.length cap) l' (w1.setCell ⟨P + 1, 0, none⟩ (.int .i64 0)) (hr1.view.keep (S := [P + 1]) ((Chg.refl [P + 1] w1).setCell (p := ⟨P + 1, 0, none⟩) (.inl (by simp)) _) (fun g hg hm => by
    have h := (hf1 g (hr1.blk.symm.trans hg)).resolve_left (by simp)
    simp at h hm
    omega)) (by rw [HL1.out]; omega)
  have HNR := hid hNR
  have HU := hid (And.intro hp1 (And.intro he1 hC1))
  clear hNR hp1 he1 hC1 hc1 hf1 hr1 h2 hv HO hP
  go_wp2_with (go_at_call 55; refine (HNR.out).mono ?_; rintro e w2 ⟨b, lb, aor, capr, rfl, hR2, hb2, hg2, hc2, HLb⟩; refine halt (fun X hX => ?_))
  rw [hX.out]; clear hX
  have hlb : lb = bd := HLb.out.trans HL1.out
  subst hlb
  have hs1 : (w1.setCell ⟨P + 1, 0, none⟩ (.int .i64 0)).heap.size = w1.heap.size := by simp [World.setCell]
  have e1 := blk_lt HU.out.2.1
  have hDV : DV w w2 w2.heap.size P b lb aor capr 0 0 0 none 0 none [] := ⟨hR2, fun g h => by have := hg2 g h; omega, by have := blk_lt hR2.blk; omega, Nat.le_refl _, hPl, hc2.heap ((blk_set_other (by omega) _ _).trans HU.out.1) (by simp), hc2.heap (blk_set HU.out.2.1 0 _) (by simp), Row.nil _ _ _, by simp, (HU.out.2.2.setCell (p := ⟨P + 1, 0, none⟩) (.inr (by simp only; omega)) _).trans' hc2⟩
  have HDV := hid hDV
  obtain ⟨N, hN⟩ : ∃ N, w2.heap.size = N := ⟨_, rfl⟩
  rw [hN] at HDV
  clear hDV hR2 hb2 hg2 hc2 HNR HU c0 f0 d0 g0 hs1 e1 HLb HL1 hN
  obtain ⟨n, p1, h1, b1, hS⟩ : ∃ t p h b, rShort 16777216 lb ⟨0, 0, 0⟩ = (t, ⟨p, h, b⟩) := ⟨_, _, _, _, rfl⟩
  have hn : n ≤ 16777216 := by have := rShort_leT 16777216 lb ⟨0, 0, 0⟩; rw [hS] at this; exact this
  have hsh := rshort_calls HDV.out.rd (by omega) 16777216
  rw [hS] at hsh
  have HSH := hid hsh
  have HS := hid hS
  have HW : Hid (b1 = 0 → h1 = 0) := hid fun e => by
    subst e
    have a := rShort_whT (m := 16777216) (L := lb) (s := ⟨0, 0, 0⟩) (by rw [hS])
    rw [hS] at a
    exact a.1
  have HN0 : Hid (b1 ≠ 0 → n = 0) := hid fun e => by
    have a := rShort_bad0 (m := 16777216) (L := lb) (s := ⟨0, 0, 0⟩) (by rw [hS]; exact e)
    rw [hS] at a
    exact a
  clear hsh hS
  go_upto_region 10 with (go_at_call 56; refine HSH.out.mono ?_; rintro e w3 ⟨rfl, hR3, hc3⟩; have HD3 := hid (HDV.out.take hc3 hR3); clear hR3 hc3)
  clear HSH HDV
  go_upto_region 11 with fail
  go_loopg [7, 27] n (fun gk v7 v27 wr => ∃ (j q hh bb : Nat) (lst : Int) (rs : List (List Ev)) (al : Option Addr) (cl : Nat) (rr : Option Nat), v7 = .int .i64 lst ∧ v27 = .int .u64 j ∧ Hid (gk + j = n ∧ (j < n → bb = 0 ∧ hh = 0) ∧ (bb = 0 → b1 = 0) ∧ (b1 = 0 → bb = 0 ∧ hh = 0)) ∧ Hid (TQ (dRun lb) thrE n (-1) p1 j lst q rs) ∧ Hid (DV w wr N P b lb aor capr q hh bb al cl rr rs.flatten ∧ rs.flatten.length ≤ q))
  case atStart =>
    refine ⟨0, p1, h1, b1, -1, [], none, 0, none, rfl, rfl, hid ⟨by omega, fun h => ?_, id, fun h => ⟨h, HW.out h⟩⟩, hid (TQ.start _ _ _ _ _), hid ⟨HD3.out, Nat.zero_le _⟩⟩
    have hb : b1 = 0 := by
      by_cases e : b1 = 0
      · exact e
      · have := HN0.out e; omega
    exact ⟨hb, HW.out hb⟩
  case round =>
    obtain ⟨j, q, hh, bb, lst, rs, al, cl, rr, rfl, rfl, HG, HQ, HV⟩ := hrel
    by_cases hj : j < n
    · obtain ⟨rfl, rfl⟩ := HG.out.2.1 hj
      have hju : decide ((j : Int) < (n : Int)) = true := decide_eq_true (by omega)
      have HRN := hid (run_calls HV.out.1.rd (fun g hg => Nat.lt_of_lt_of_le (HV.out.1.lt g hg).2 HV.out.1.nl) hbdl lst)
      have hb0 : b1 = 0 := HG.out.2.2.1 rfl
      cases hd : dRun lb lst q with
      | none =>
        rw [hd] at HRN
        have HDn : Hid (D = ([], 181)) := hid (by
          rw [HD.out]
          have h2 := HS.out
          rw [hb0] at h2
          unfold dBodyE
          rw [dRuns_rest h2, HQ.out.stop hj hd]
          rfl)
        clear hd
        go_wp2_with (go_at_call 57; refine HRN.out.mono ?_; rintro e u1 (⟨r, q2, av, cv, r2, hno, _, _⟩ | ⟨_, rfl, hc1⟩); exact absurd hno (by simp); unfold brokenE)
        have hbl := HV.out.1.bl
        exact door_bad (hc1.heap HV.out.1.pb (by simp; omega)) (hc1.heap HV.out.1.eb (by simp; omega)) (HV.out.1.chg.trans hc1 (fun x hx => .inr (by simp at hx; omega))) hPl HDn.out rfl rfl
      | some rq =>
        obtain ⟨r, q2⟩ := rq
        rw [hd] at HRN
        obtain ⟨m1, m2, m3, _⟩ := run_room HV.out.1.rd.ok hd
        have HST := hid (HQ.out.step hj hd)
        have hr0 : 0 < r.length := List.length_pos_iff.2 m3
        have hth : thrE r = r[0].t := by
          cases r with
          | nil => exact absurd rfl m3
          | cons e r => rfl
        have hone : ∀ u ∈ r.flatMap evC, u.oneCell' = true := fun u hu => by
          obtain ⟨x, _, hx⟩ := List.mem_flatMap.1 hu
          exact one_ev x u hx
        have HM := hid (And.intro m1 m2)
        have HONE := hid hone
        have HR0 := hid hr0
        have HTH := hid hth
        clear hd m1 m2 m3 hth hone
        go_wp2_with (go_at_call 57; refine HRN.out.mono ?_; rintro e u1 (⟨r', q', av, cv, r2, hsm, rfl, hrv⟩ | ⟨hno, _⟩); rotate_left 1; exact absurd hno (by simp); refine halt (fun XX hXX => ?_))
        simp only [Option.some.injEq, Prod.mk.injEq] at hsm
        obtain ⟨rfl, rfl⟩ := hsm
        have hD1 := HV.out.1.take hrv.chg hrv.rd
        obtain ⟨bv, ov, hbv, _, y1, _⟩ := ev_at (show Lst evC 3 u1 (.slice av r.length cv) r from hrv.row.view) HR0.out
        subst hbv
        have y2 : u1.cell? ⟨bv, ov + 1, none⟩ = some (.int .i64 (thrE r)) := by rw [HTH.out]; simpa using y1
        have c0 := (blk_cell hD1.pb 0).trans rfl
        have hlen : rs.flatten.length + r.length ≤ 16777216 := by have := HM.out; have := HV.out.2; omega
        have HD1 := hid hD1
        have HVW := hid hrv.row.view
        obtain ⟨tn, htn⟩ : ∃ tn, thrE r = tn := ⟨_, rfl⟩
        obtain ⟨rl, hrl⟩ : ∃ rl, r.length = rl := ⟨_, rfl⟩
        obtain ⟨xl, hxl⟩ : ∃ xl, rs.flatten.length = xl := ⟨_, rfl⟩
        have hr1 : (0 : Int) < (rl : Int) := by have := HR0.out; omega
        have hrow := hD1.row
        rw [htn] at y2
        rw [hrl] at hXX HVW hlen
        rw [hxl] at c0 hlen hrow
        have HROW := hid hrow
        have HTN := hid htn
        have HRL := hid hrl
        have HXL := hid hxl
        clear hD1 hrv y1 htn hrl hxl hrow HRN
        rw [hXX.out]; clear hXX XX
        go_wp2_with (at_builtin; refine wpList_grew rfl _ _ 22 rfl elem_ev rfl HROW.out rfl HVW.out HONE.out (by unfold maxLen; omega) (by omega) (fun ao' cap' r' u3 hr3 hg3 => halt (fun X hX => ?_)))
        have hr3' : Row u3 28 3 (.slice ao' (rs.flatten.length + r.length) cap') r' (rs.flatten.length + r.length) (rs.flatten.flatMap evC ++ r.flatMap evC) := by rw [HXL.out, HRL.out]; exact hr3
        obtain ⟨q1, hD4⟩ := HD1.out.put hr3' hg3
        rw [HXL.out, HRL.out] at hD4
        have z0 := (blk_cell q1 0).trans rfl
        have z1 := blk_free q1 0
        have HD4 := hid hD4
        clear hr3 hg3 hr3' hD4 q1 c0 y2
        rw [hX.out]; clear hX
        go_wp2_with fail
        go_roundg (gk - 1)
        case measure => have := HG.out; omega
        case rel =>
          refine ⟨j + 1, q2, 0, 0, tn, rs ++ [r], ao', cap', r', rfl, by go_num, hid ⟨by have := HG.out; omega, fun _ => ⟨rfl, rfl⟩, fun _ => hb0, fun _ => ⟨rfl, rfl⟩⟩, ?_, ?_⟩
          · rw [← HTN.out]; exact HST
          · rw [List.flatten_append]
            simp only [List.flatten_cons, List.flatten_nil, List.append_nil]
            refine hid ⟨HD4.out, ?_⟩
            have := HM.out; have := HV.out.2
            simp only [List.length_append]
            omega
    · obtain rfl : j = n := by have := HG.out; omega
      have hju : decide ((j : Int) < (j : Int)) = false := decide_eq_false (by omega)
      have HE := hid (end_calls HV.out.1.rd)
      obtain ⟨re, hre⟩ : ∃ re, rEnd lb ⟨q, hh, bb⟩ = re := ⟨_, rfl⟩
      rw [hre] at HE
      by_cases hgood : b1 = 0 ∧ q = lb.length
      · obtain ⟨hb0, hq⟩ := hgood
        obtain ⟨rfl, rfl⟩ := HG.out.2.2.2 hb0
        have hr0 : re = 0 := by rw [← hre]; unfold rEnd; rw [if_neg (by simp), if_neg (by simp only; omega)]
        subst hr0
        have HDs : Hid (D = (rs.flatten, 0)) := hid (by
          rw [HD.out]
          have h2 := HS.out
          rw [hb0] at h2
          unfold dBodyE
          rw [dRuns_rest h2, HQ.out.done]
          simp only [Option.bind_some]
          rw [if_pos hq])
        obtain ⟨xs, hxs⟩ : ∃ xs, rs.flatten = xs := ⟨_, rfl⟩
        rw [hxs] at HDs HV
        clear hre hb0 hq hxs
        obtain ⟨wz, rfl⟩ : ∃ x : World, x = wr := ⟨_, rfl⟩
        go_upto_region 17 with (first
          | (go_at_call 59; refine HE.out.mono ?_; rintro e u1 ⟨rfl, hd1⟩; have HD1 := hid (HV.out.1.same hd1.chg); clear hd1)
          | (go_at_call 58; refine (sound_ok _).mono ?_; rintro e u2 ⟨rfl, rfl⟩))
        obtain ⟨u1, rfl⟩ : ∃ x : World, x = u2 := ⟨_, rfl⟩
        have c0 := (blk_cell HD1.out.pb 0).trans rfl
        have f0 := blk_free HD1.out.pb 0
        have d0 := (blk_cell HD1.out.eb 0).trans rfl
        have g0 := blk_free HD1.out.eb 0
        go_wp2
        obtain ⟨s1, s2, s3⟩ := set2 HD1.out.pb HD1.out.eb (.slice al xs.length cl) (.int .i64 0)
        have hbl := HD1.out.bl
        exact door_good s1 s2 HDs.out ⟨al, cl, rr, rfl, HD1.out.row.keep s3 (fun g hg hm => by have := HD1.out.fr g hg; simp at hm; omega), fun g hg => .inr (by have := HD1.out.fr g hg; omega), HD1.out.chg.trans s3 (fun x hx => .inr (by simp at hx; omega))⟩ rfl rfl
      · have hr0 : ((re : Int) == 0) = false := by
          have : re ≠ 0 := by
            rw [← hre]
            unfold rEnd
            by_cases e : bb = 0
            · rw [if_neg (by simpa using e)]
              have hb0 := HG.out.2.2.1 e
              have hq : q ≠ lb.length := fun h => hgood ⟨hb0, h⟩
              rw [if_pos (by have := HV.out.1.rd.ok; simp only; omega)]
              omega
            · rw [if_pos e]; exact e
          simpa using this
        have HDn : Hid (D = ([], 181)) := hid (by
          rw [HD.out]
          unfold dBodyE
          by_cases e : b1 = 0
          · have h2 := HS.out
            rw [e] at h2
            rw [dRuns_rest h2, HQ.out.done]
            simp only [Option.bind_some]
            rw [if_neg (fun h => hgood ⟨e, h⟩)]
          · rw [dRuns_none HS.out e]
            rfl)
        clear hre hgood
        go_wp2_with (first
          | (go_at_call 59; refine HE.out.mono ?_; rintro e u1 ⟨rfl, hd1⟩; have HD1 := hid (HV.out.1.same hd1.chg); clear hd1)
          | (go_at_call 58; refine (sound_no _).mono ?_; rintro e u2 ⟨rfl, rfl⟩; unfold brokenE))
        exact door_bad HD1.out.pb HD1.out.eb HD1.out.chg hPl HDn.out rfl rfl
theorem decode_calls (v : Value) (L : List UInt8) (w : World) (hv : Bytes w v L) (hl : L.length ≤ 16777216) : Calls Tryz.prog 23 #[v] w (DecE w (decE L)) := by
  by_cases hc : (openB L).2.2 = 0
  · by_cases hk : (openB L).1 = 3
    · refine decode_body v L w hv hl hc hk (decE L) ?_
      unfold decE
      rw [if_neg (by simpa using hc), if_neg (by simpa using hk)]
      cases dBodyE (openB L).2.1 <;> rfl
    · have h := decode_kind v L w hv hl hc hk
      have e : decE L = ([], 182) := by
        unfold decE
        rw [if_neg (by simpa using hc), if_pos (by simpa using hk)]
      rw [e]
      exact h
  · have h := decode_err v L w hv hl hc
    have e : decE L = ([], (openB L).2.2) := by
      unfold decE
      rw [if_pos (by simpa using hc)]
    rw [e]
    exact h
end Go.Proofs.YtbghkodcfedebaaGreatDoor
