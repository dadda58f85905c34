/- Walks of the lexer's laws: LexEach. -/
import Derived.Test.YtppijmpdoejdmaaIb
import Derived.Deep.QuietTactic
import Derived.BigQuiet
namespace Go.AB
open Go.RowKit
variable {F : Fence} {n : Nat} {P : Program} {fn : Func} {tmps : Array Value} {R : Ending → World → Prop} {w : World}
theorem leavesM_nil {v : Value} (h : (results fn tmps).run P w = .ok v w) (hR : R (.returned v) w) : LeavesInM F n P fn tmps R [] .returning w := ⟨v, h, hR⟩
theorem leavesM_mark {D : Nat} {ds : List Deferred} (hK : w.heap[D]? = some (.deferred (some []))) (h : LeavesInM F n P fn tmps R ds .returning (w.putObj D (.deferred none))) :
    LeavesInM F n P fn tmps R ({ target := .collected D, args := #[] } :: ds) .returning w :=
  ⟨by simp, .inl ⟨D, _, rfl, run_takeDeferred hK, h⟩⟩
theorem run_eql_func_nil (w : World) {t : TypeId} {x : Array TypeId} {y : Array TypeId} {z : Bool} (h : P.underlying t = some (.func x y z)) (f : Fn) (c l : Array Value) : (binOp .eql t (.func f c l) .nilFunc).run P w = .ok (.bool false) w := by
  have h1 : ∀ d, (Op.equalIn (d + 1) t (.func f c l) .nilFunc).run P w = .ok false w := fun d => by simp [Op.equalIn, run_underlying h]
  have h2 : (Op.equal t (.func f c l) .nilFunc).run P w = .ok false w := h1 9999
  simp only [binOp]
  simp [h2]
end Go.AB
namespace Go.Proofs.Ytppijmpdoejdmaa
open Go.RowKit Go.AB Go.Shelf
set_option linter.unusedSimpArgs false
set_option linter.unusedVariables false
set_option linter.unusedSectionVars false
attribute [local go_sem] Oper.semAt_some

theorem tview_pre' {w : World} {ao : Option Addr} {n cap : Nat} {ts : List Tok} (h : TView w (.slice ao n cap) ts) {m : Nat} (hm : m ≤ ts.length) : TView w (.slice ao m cap) (ts.take m) := by
  obtain ⟨h1, h2, ao', cap', hv, h3, h4, h5, h6⟩ := h
  simp only [Value.slice.injEq] at hv
  obtain ⟨rfl, rfl, rfl⟩ := hv
  have hl : (ts.take m).length = m := by rw [List.length_take]; omega
  have hfl : ((ts.take m).flatMap tokC).length = m * 5 := by rw [tokC_flat, hl]
  refine ⟨by rw [hfl, hl], by rw [hl]; omega, ao, cap, by rw [hl], by rw [hl]; omega, h4, fun e => ⟨by rw [hl]; have := (h5 e).1; omega, (h5 e).2⟩, fun h0 => ?_⟩
  rw [hl] at h0
  obtain ⟨b, off, hb, hc⟩ := h6 (by omega)
  refine ⟨b, off, hb, fun j hj => ?_⟩
  rw [hl] at hj
  rw [hc j (by omega)]
  congr 1
  have e : ts.flatMap tokC = (ts.take m).flatMap tokC ++ (ts.drop m).flatMap tokC := by rw [← List.flatMap_append, List.take_append_drop]
  rw [e]
  simp only [List.getD]
  rw [List.getElem?_append_left (by omega)]
theorem tview_drew' {w : World} {v : Value} {ts : List Tok} (h : TView w v ts) (n : Nat) : TView (w.drewN n) v ts := View.below h ((Chg.of_drewN [] w n).to_below)
theorem same_quiet' (w : World) (va vb : Value) (ta tb : List Tok) (p : Bool) (ha : TView w va ta) (hb : TView w vb tb) (hl : ta.length = tb.length) (hn : ta.length ≤ 16777216) (hs : ∀ i (h1 : i < ta.length) (h2 : i < tb.length), alike p ta[i] tb[i]) (n : Nat) :
    Calls Try.prog 12 #[va, vb, .bool p] (w.drewN n) fun e w' => e = .returned (.bool true) ∧ ∃ m, w' = w.drewN m :=
  (same_calls (w.drewN n) va vb ta tb p (tview_drew' ha n) (tview_drew' hb n) hl hn hs).mono fun e w' ⟨h1, m, h2⟩ => ⟨h1, n + m, by rw [h2]; simp [World.drewN, Nat.add_assoc]⟩
theorem slice_cap' {w : World} {k n cap : Nat} {ao : Option Addr} {xs : List Value} (h : View w k (.slice ao n cap) n xs) : n ≤ cap := by
  obtain ⟨_, _, _, _, hv, h3, _⟩ := h
  simp only [Value.slice.injEq] at hv
  obtain ⟨_, _, rfl⟩ := hv
  exact h3

/-- What the law holds between two rounds: the tokens so far lie in its own list. -/
structure EI (w4 : World) (c : Nat) (pre : List Tok) (W : World) (ao : Option Addr) (cap : Nat) (r : Option Nat) : Prop where
  col : Col W c r pre.length (pre.flatMap tokC) ao cap
  fr : ∀ g, r = some g → w4.heap.size + 4 ≤ g
  chg : Chg [c] w4 W
theorem EI.abide {w4 : World} {c : Nat} (hc : c < w4.heap.size) {S : List Nat} {pre : List Tok} {A B : World} {ao : Option Addr} {cap : Nat} {r : Option Nat} (h : EI w4 c pre A ao cap r) (hC : Chg S A B) (hm : Mid w4.heap.size (2 + 2) S) : EI w4 c pre B ao cap r :=
  ⟨h.col.keep hC (fun hS => by have := hm _ hS; omega) (fun g hg hS => by have := hm _ hS; have := h.fr g hg; omega), h.fr, h.chg.trans hC (fun x hx => .inr (hm x hx).1)⟩

section
variable {s : ByteArray} (w : World) (hs : s.size ≤ 1048576) (L : List UInt8) (hL : Hid (s.data.toList = L)) (leave : Int)
include hs hL

set_option maxHeartbeats 8000000 in
set_option maxRecDepth 100000 in
theorem lexEach_walk : Calls Try.prog 8 #[.string s, .int .i64 leave] w fun e w' => e = .returned (.bool true) ∧ Chg [] w w' := by
  have hR := fun W => r_part_calls hs L hL W
  have hlen : (scanD L 1 1).1.length ≤ 1048577 := by have := scanD_len L 1 1; have := len_of hL; omega
  obtain ⟨T, hTe⟩ : ∃ T, (scanD L 1 1).1 = T := ⟨_, rfl⟩
  obtain ⟨f0, f1, f2, hf⟩ : ∃ f0 f1 f2, (scanD L 1 1).2 = (f0, f1, f2) := ⟨_, _, _, rfl⟩
  have hp : scanD L 1 1 = (T, (f0, f1, f2)) := by rw [← hTe, ← hf]
  rw [hp] at hR
  rw [hTe] at hlen
  have hG : ∀ (W : World) (B : Nat), W.cell? ⟨B, 0, none⟩ = some (.string s) → Gives Try.prog 27 #[.pointer (some ⟨B, 0, none⟩)] (fun x => #[.agg (tokC x).toArray]) T 2 W := fun W B hB => by
    rw [← hTe]; exact seq_gives hB hs L hL
  have HR := hid hR
  have HG := hid hG
  have HK := hid known_calls
  clear hR hG hp hTe hf
  refine (callsIn_wide (n := 0)).1 (callsIn_of_wp_marks Try.func8 rfl trivial (wpIn_wide.2 ?_))
  simp only [Try.ntmps8, List.size_toArray, List.length_cons, List.length_nil, Nat.reduceAdd, Nat.reduceSub, Array.replicate_succ, Array.replicate_zero, List.push_toArray, List.append_toArray, List.nil_append, List.cons_append]
  go_wp2_with (go_at_call 18; refine halt (fun X hX => ?_))
  rw [hX.out]; clear hX
  refine (HR.out _).mono ?_
  rintro e w1 ⟨ts, aoT, capT, rT, rfl, hrT, hfT, hcT, HT⟩
  obtain rfl : ts = T := HT.out
  clear HT
  have hc1 := (hcT.nil : Chg [] _ _)
  have hlv := hcT.heap (blk_alloc_new w (.cells #[.int .i64 leave] 3)) (by simp)
  have hlc := fun o1 o2 o3 => (blk_cell (blk_alloc_old (blk_alloc_old (blk_alloc_old hlv o1) o2) o3) 0).trans rfl
  have hfn := fun (W : World) (b : Nat) => run_eql_func_nil (P := Try.prog) W Try.underlying43 (.func 27) #[] #[.pointer (some ⟨b, 0, none⟩)]
  by_cases hlp : (0 : Int) < leave
  · have hld : decide ((0 : Int) < leave) = true := by simp [hlp]
    go_wp2_with (go_at_call 19; refine (eachS_calls _ _).mono ?_; rintro e w2 ⟨rfl, rfl⟩)
    obtain ⟨w4, hw4⟩ : ∃ w4, (((w1.alloc (.cells #[.int .i64 f0, .int .i64 f1, .int .i64 f2] 28)).alloc (.cells #[.string s] 9)).alloc (.cells #[.slice none 0 0] 23)) = w4 := ⟨_, rfl⟩
    rw [hw4]
    have hsz4 : w4.heap.size = w1.heap.size + 3 := by rw [← hw4]; simp
    have hc14 : Chg [] w1 w4 := by rw [← hw4]; exact (((Chg.refl [] w1).alloc _).alloc _).alloc _
    have hb4 : w4.heap[w1.heap.size + 1 + 1]? = some (.cells #[.slice none 0 0] 23 (0, 0)) := by rw [← hw4]; have := heap_alloc_new ((w1.alloc (.cells #[.int .i64 f0, .int .i64 f1, .int .i64 f2] 28)).alloc (.cells #[.string s] 9)) (.cells #[.slice none 0 0] 23); simpa using this
    have hs4 : w4.heap[w1.heap.size + 1]? = some (.cells #[.string s] 9 (0, 0)) := by rw [← hw4]; refine blk_alloc_old ?_ _; have := heap_alloc_new (w1.alloc (.cells #[.int .i64 f0, .int .i64 f1, .int .i64 f2] 28)) (.cells #[.string s] 9); simpa using this
    clear hw4 hfn hlc
    have hlv4 := hc14.heap hlv (by simp)
    have hlt1 := blk_lt hlv
    have h0 : EI w4 (w1.heap.size + 1 + 1) [] w4 none 0 none := ⟨⟨hb4, Row.nil _ _ _, by simp⟩, (fun g hg => by cases hg), Chg.refl _ _⟩
    have HL := hid hlv4
    have HS4 := hid hs4
    have HRT := hid hrT
    have HNE := hid (fun g (hg : rT = some g) => hrT.lt g hg)
    have HCW : Hid (Chg [] w w1) := hid (((Chg.refl [] w).alloc _).trans' hcT)
    have HSW : Hid (w.heap.size ≤ w1.heap.size) := hid (by omega)
    have HC := hid hc14
    have HP := hid hlp
    clear hlv hc14 hlv4 hb4 hlp hrT hcT hc1 hfT
    refine wp_rangeFunc1 (gf := 27) (lb := #[.pointer (some ⟨w1.heap.size + 1, 0, none⟩)]) (q := 9) rfl (enters_of Try.func27 (by kernel_rfl) rfl)
      (fun o1 o2 => HG.out _ _ ((blk_cell (blk_alloc_old (blk_alloc_old hs4 o1) o2) 0).trans rfl))
      (fun pre W => (pre.length : Int) < leave ∧ ∃ ao cap r, EI w4 (w1.heap.size + 1 + 1) pre W ao cap r)
      (fun c pre W => c = .exit 0 ∧ (pre.length : Int) = leave ∧ ∃ ao cap r, EI w4 (w1.heap.size + 1 + 1) pre W ao cap r)
      (fun S pre A B h hC hm => ⟨h.1, by obtain ⟨ao, cap, r, h2⟩ := h.2; exact ⟨ao, cap, r, h2.abide (by omega) hC hm⟩⟩)
      (fun c S pre A B h hC hm => ⟨h.1, h.2.1, by obtain ⟨ao, cap, r, h2⟩ := h.2.2; exact ⟨ao, cap, r, h2.abide (by omega) hC hm⟩⟩)
      ⟨by simpa using HP.out, _, _, _, h0⟩ (fun x => (tokC x).toArray) 38 ?assign ?body ?done ?stop
    case assign =>
      intro l x W K hK
      simp only [tokC, List.setIfInBounds_toArray, List.set_cons_zero, List.set_cons_succ] at hK ⊢
      gi_wp2
      exact hK _ (heap_alloc_new W _) ((Chg.refl [] W).alloc _)
    case body =>
      rintro l S0 pre x A0 A b hpre ⟨hlen0, ao, cap, r, hE⟩ hsz hbs hb hC hm
      have hE' := hE.abide (by omega) hC hm
      simp only [tokC, List.setIfInBounds_toArray, List.set_cons_zero, List.set_cons_succ] at hb ⊢
      have t0 := (blk_cell hb 0).trans rfl
      have t1 := (blk_cell hb 1).trans rfl
      have t2 := (blk_cell hb 2).trans rfl
      have t3 := (blk_cell hb 3).trans rfl
      have t4 := (blk_cell hb 4).trans rfl
      have hpl : pre.length + 1 ≤ 1048577 := by have := hpre.length_le; simp at this; omega
      have hl0 := hE'.col.cell
      have hv := View.struct (k := 5) A [.int .i64 x.kind, .string ⟨x.text.toArray⟩, .int .i64 x.num, .int .i64 x.line, .int .i64 x.col] 38 rfl
      have h1 := (Chg.refl [] A).alloc (.cells #[.int .i64 x.kind, .string ⟨x.text.toArray⟩, .int .i64 x.num, .int .i64 x.line, .int .i64 x.col] 38)
      have hrow1 := hE'.col.row.keep h1 (by simp)
      have HEE := hid (And.intro hE hE')
      have HB := hid (And.intro hb hpre)
      clear hE hE' hb hpre
      gi_wp2_with (gi_at_builtin; refine wpListIn_grew rfl _ _ 23 rfl elem_tok rfl hrow1 rfl hv (by simp [Value.oneCell']) (by unfold maxLen; omega) (by omega) (fun ao' cap' r' w2 hr2 hg2 => halt (fun X hX => ?_)))
      rw [hX.out]; clear hX
      have hE' := HEE.out.2
      obtain ⟨p1, p2⟩ := hE'.col.put_cell h1 hg2.chg
      have hp := hE'.col.put h1 hr2 hg2.chg hg2.fresh
      have hcr : ∀ g, r = some g → w4.heap.size + 4 ≤ g := hE'.fr
      have hwr : w.heap.size ∉ (w1.heap.size + 1 + 1) :: r.toList := fun hm => by
        rcases List.mem_cons.1 hm with h3 | h3
        · omega
        · have := hcr _ (by simpa using h3); omega
      have hlv := hp.2.1.heap (hE'.chg.heap HL.out (by simp; omega)) hwr
      have l1 := (blk_cell hlv 0).trans rfl
      have l2 := hp.1.cell
      have HP5 := hid hp
      clear hp hv hrow1 hlv t0 t1 t2 t3 t4 hl0
      have hfin : ∀ (W5 : World), W5 = (w2.setCell ⟨w1.heap.size + 1 + 1, 0, none⟩ (.slice ao' (pre.length + 1) cap')) → Rnd w4.heap.size 4 A0.heap.size A W5 ∧ ∃ ao cap r, EI w4 (w1.heap.size + 1 + 1) (pre ++ [x]) W5 ao cap r := by
        rintro W5 rfl
        have hp := HP5.out
        have hE0 := HEE.out.1
        refine ⟨⟨_, hp.2.1, fun b hb => ?_⟩, ao', cap', r', ⟨?_, fun g hg => ?_, hE'.chg.trans hp.2.1 (fun b hb => ?_)⟩⟩
        · rcases List.mem_cons.1 hb with h3 | h3
          · left; omega
          · have h4 : r = some b := by simpa using h3
            exact .inr ⟨hcr _ h4, hE0.col.row.lt _ h4⟩
        · rw [List.length_append, List.flatMap_append]
          simpa [tokC] using hp.1
        · rcases hp.2.2 g hg with h3 | h3
          · exact hcr _ h3
          · have := hC.size; omega
        · rcases List.mem_cons.1 hb with h3 | h3
          · left; simp [h3]
          · right; have := hcr _ (by simpa using h3); omega
      have HF := hid hfin
      clear hfin hE' hg2 hr2 hcr hwr
      by_cases hq : (pre.length : Int) + 1 = leave
      · have g1 : ((pre.length : Int) + 1 == leave) = true := by simp [hq]
        have g2 : (((pre.length + 1 : Nat) : Int) == leave) = true := by simp; omega
        have HQ := hid hq
        clear hq
        gi_wp2
        exact ⟨(HF.out _ rfl).1, rfl, by have := HQ.out; simp; omega, (HF.out _ rfl).2⟩
      · have g1 : ((pre.length : Int) + 1 == leave) = false := by simp [hq]
        have g2 : (((pre.length + 1 : Nat) : Int) == leave) = false := by simp; omega
        have HQ := hid hq
        clear hq
        gi_wp2
        exact ⟨(HF.out _ rfl).1, by have := HQ.out; simp; omega, (HF.out _ rfl).2⟩
    case done =>
      rintro W ⟨hlen0, ao, cap, r, hE⟩ hD
      have hpre : ts <+: ts := List.prefix_refl _
      have hpl : ts.length ≤ ts.length := Nat.le_refl _
      have hmn : (if (ts.length : Int) < leave then (ts.length : Int) else leave) = (ts.length : Int) := if_pos hlen0
      have hlvW := hE.chg.heap HL.out (by simp; omega)
      have l1 := (blk_cell hlvW 0).trans rfl
      have l2 := hE.col.cell
      have hrW := (HRT.out.keep HC.out (by simp)).keep hE.chg (fun g hg hm => by simp at hm; have := HNE.out g hg; omega)
      have hvl : TView W (.slice ao ts.length cap) ts := hE.col.row.view
      have hvw : TView W (.slice aoT ts.length capT) ts := by
        have h := tview_pre' (show TView W (.slice aoT ts.length capT) ts from hrW.view) (m := ts.length) hpl
        rwa [← List.prefix_iff_eq_take.1 hpre] at h
      have k1 : (ts.length : Int) ≤ (capT : Int) := by have := slice_cap' hrW.view; omega
      have HSM := hid (fun n => same_quiet' W _ _ ts ts true hvl hvw rfl (by omega) (fun i _ _ => ⟨rfl, rfl, rfl, fun _ => ⟨rfl, rfl⟩⟩) n)
      have HE := hid hE
      have HD1 := hid hD
      have HRW := hid hrW
      have HPR := hid hpre
      clear hE hD hlvW hrW hvl hvw hpre
      go_wp2_with fail
      go_quiet ((go_at_call 12; exact HSM.out _))
      have l3 : (W.drewN nq).cell? ⟨w1.heap.size + 1 + 1, 0, none⟩ = _ := l2
      have l4 : (W.drewN nq).frozen? ⟨w1.heap.size + 1 + 1, 0, none⟩ = false := blk_free HE.out.col.blk 0
      clear l1 l2
      go_wp2
      obtain ⟨w5, hw5⟩ : ∃ w5, (W.drewN nq).setCell ⟨w1.heap.size + 1 + 1, 0, none⟩ (.slice none 0 0) = w5 := ⟨_, rfl⟩
      rw [hw5]
      have hcd : Chg [w1.heap.size + 1 + 1] W w5 := by rw [← hw5]; exact ((Chg.refl _ W).drewN nq).setCell (p := ⟨w1.heap.size + 1 + 1, 0, none⟩) (.inl (by simp)) _
      have hb5 : w5.heap[w1.heap.size + 1 + 1]? = some (.cells #[.slice none 0 0] 23 (0, 0)) := by rw [← hw5]; exact blk_set (w := W.drewN nq) HE.out.col.blk 0 _
      clear hw5 l3 l4
      have hr5 := HRW.out.keep hcd (fun g hg hm => by simp at hm; have := HNE.out g hg; omega)
      have hs5 := hcd.heap (HE.out.chg.heap HS4.out (by simp)) (by simp)
      have hc5 : Chg [] w w5 := ((HCW.out.trans' HC.out.nil).trans HE.out.chg (fun x hx => .inr (by simp at hx; have := HSW.out; omega))).trans hcd (fun x hx => .inr (by simp at hx; have := HSW.out; omega))
      have HD5 := hid (hcd.heap HD1.out (by simp; omega))
      clear hcd
      have hsz5 := blk_lt hb5
      have h05 : EI w5 (w1.heap.size + 1 + 1) [] w5 none 0 none := ⟨⟨hb5, Row.nil _ _ _, by simp⟩, (fun g hg => by cases hg), Chg.refl _ _⟩
      have HR5 := hid hr5
      have HC5 := hid hc5
      have HS5 := hid hs5
      clear hr5 hc5 hb5 hs5
      refine wp_rangeFunc1 (gf := 27) (lb := #[.pointer (some ⟨w1.heap.size + 1, 0, none⟩)]) (q := 11) rfl (enters_of Try.func27 (by kernel_rfl) rfl)
        (fun o1 o2 => HG.out _ _ ((blk_cell (blk_alloc_old (blk_alloc_old HS5.out o1) o2) 0).trans rfl))
        (fun pre W => ∃ ao cap r, EI w5 (w1.heap.size + 1 + 1) pre W ao cap r)
        (fun c pre W => False)
        (fun S pre A B h hC hm => by obtain ⟨ao, cap, r, h2⟩ := h; exact ⟨ao, cap, r, h2.abide (by omega) hC hm⟩)
        (fun c S pre A B h hC hm => h)
        ⟨_, _, _, h05⟩ (fun x => (tokC x).toArray) 38 ?assign2 ?body2 ?done2 ?stop2
      case assign2 =>
        intro l x W K hK
        simp only [tokC, List.setIfInBounds_toArray, List.set_cons_zero, List.set_cons_succ] at hK ⊢
        gi_wp2
        exact hK _ (heap_alloc_new W _) ((Chg.refl [] W).alloc _)
      case body2 =>
        rintro l S0 pre x A0 A b hpre ⟨ao, cap, r, hE⟩ hsz hbs hb hC hm
        have hE' := hE.abide (by omega) hC hm
        simp only [tokC, List.setIfInBounds_toArray, List.set_cons_zero, List.set_cons_succ] at hb ⊢
        have t0 := (blk_cell hb 0).trans rfl
        have t1 := (blk_cell hb 1).trans rfl
        have t2 := (blk_cell hb 2).trans rfl
        have t3 := (blk_cell hb 3).trans rfl
        have t4 := (blk_cell hb 4).trans rfl
        have hpl : pre.length + 1 ≤ 1048577 := by have := hpre.length_le; simp at this; omega
        have hl0 := hE'.col.cell
        have hv := View.struct (k := 5) A [.int .i64 x.kind, .string ⟨x.text.toArray⟩, .int .i64 x.num, .int .i64 x.line, .int .i64 x.col] 38 rfl
        have h1 := (Chg.refl [] A).alloc (.cells #[.int .i64 x.kind, .string ⟨x.text.toArray⟩, .int .i64 x.num, .int .i64 x.line, .int .i64 x.col] 38)
        have hrow1 := hE'.col.row.keep h1 (by simp)
        have HEE := hid (And.intro hE hE')
        have HB := hid (And.intro hb hpre)
        clear hE hE' hb hpre
        gi_wp2_with (gi_at_builtin; refine wpListIn_grew rfl _ _ 23 rfl elem_tok rfl hrow1 rfl hv (by simp [Value.oneCell']) (by unfold maxLen; omega) (by omega) (fun ao' cap' r' w2 hr2 hg2 => halt (fun X hX => ?_)))
        rw [hX.out]; clear hX
        have hE' := HEE.out.2
        obtain ⟨p1, p2⟩ := hE'.col.put_cell h1 hg2.chg
        have hp := hE'.col.put h1 hr2 hg2.chg hg2.fresh
        have hcr : ∀ g, r = some g → w5.heap.size + 4 ≤ g := hE'.fr
        have HP5 := hid hp
        clear hp hv hrow1 t0 t1 t2 t3 t4 hl0
        gi_wp2
        have hp := HP5.out
        have hE0 := HEE.out.1
        refine ⟨⟨_, hp.2.1, fun b hb => ?_⟩, ao', cap', r', ⟨?_, fun g hg => ?_, hE'.chg.trans hp.2.1 (fun b hb => ?_)⟩⟩
        · rcases List.mem_cons.1 hb with h3 | h3
          · left; omega
          · have h4 : r = some b := by simpa using h3
            exact .inr ⟨hcr _ h4, hE0.col.row.lt _ h4⟩
        · rw [List.length_append, List.flatMap_append]
          simpa [tokC] using hp.1
        · rcases hp.2.2 g hg with h3 | h3
          · exact hcr _ h3
          · have := hC.size; omega
        · rcases List.mem_cons.1 hb with h3 | h3
          · left; simp [h3]
          · right; have := hcr _ (by simpa using h3); omega
      case done2 =>
        rintro W ⟨ao, cap, r, hE⟩ hD2
        have hl0 := hE.col.cell
        have hvl : TView W (.slice ao ts.length cap) ts := hE.col.row.view
        have hvw : TView W (.slice aoT ts.length capT) ts := (HR5.out.keep hE.chg (fun g hg hm => by simp at hm; have := HNE.out g hg; omega)).view
        have HS6 := hid (same_refl W _ _ ts hvl hvw (by omega))
        have HE := hid hE
        have HD2 := hid hD2
        clear hE hD2 hvl hvw
        go_wp2_with (first
          | (go_at_call 12; ((with_reducible refine HS6.out.mono ?_); rintro e w7 ⟨rfl, n6, rfl⟩))
          | (go_at_call 14; refine (HK.out _).mono ?_; rintro e w8 ⟨rfl, hc8⟩))
        have hE := HE.out
        have hfin : Chg [] w w8 := ((HC5.out.trans hE.chg (fun x hx => .inr (by simp at hx; have := HSW.out; omega))).drewN n6).trans' hc8
        have hD8 := hc8.heap (show (W.drewN n6).heap[w5.heap.size]? = _ from HD2.out) (by simp)
        have hD1 := hc8.heap (show (W.drewN n6).heap[w4.heap.size]? = _ from hE.chg.heap HD5.out (by simp; omega)) (by simp)
        rw [hsz4] at hD1
        have hlt5 := blk_lt HD5.out
        have hl5 := HC5.out.size
        exact leavesM_mark hD8 (leavesM_mark ((World.putObj_heap_other (by omega)).trans hD1) (leavesM_nil (results_tmp rfl _ _ _) ⟨rfl, (hfin.putObj (.inr (by omega)) _).putObj (.inr (by have := HSW.out; omega)) _⟩))
      case stop2 => rintro c pre W hpre h; exact h.elim
    case stop =>
      rintro c pre W hpre ⟨rfl, hlen0, ao, cap, r, hE⟩ hD
      have hpl : pre.length ≤ ts.length := hpre.length_le
      have hmn : (if (ts.length : Int) < leave then (ts.length : Int) else leave) = (pre.length : Int) := by rw [if_neg (by omega)]; exact hlen0.symm
      replace hlen0 := hid hlen0
      have hlvW := hE.chg.heap HL.out (by simp; omega)
      have l1 := (blk_cell hlvW 0).trans rfl
      have l2 := hE.col.cell
      have hrW := (HRT.out.keep HC.out (by simp)).keep hE.chg (fun g hg hm => by simp at hm; have := HNE.out g hg; omega)
      have hvl : TView W (.slice ao pre.length cap) pre := hE.col.row.view
      have hvw : TView W (.slice aoT pre.length capT) pre := by
        have h := tview_pre' (show TView W (.slice aoT ts.length capT) ts from hrW.view) (m := pre.length) hpl
        rwa [← List.prefix_iff_eq_take.1 hpre] at h
      have k1 : (pre.length : Int) ≤ (capT : Int) := by have := slice_cap' hrW.view; omega
      have HSM := hid (fun n => same_quiet' W _ _ pre pre true hvl hvw rfl (by omega) (fun i _ _ => ⟨rfl, rfl, rfl, fun _ => ⟨rfl, rfl⟩⟩) n)
      have HE := hid hE
      have HD1 := hid hD
      have HRW := hid hrW
      have HPR := hid hpre
      clear hE hD hlvW hrW hvl hvw hpre
      go_wp2_with fail
      go_quiet ((go_at_call 12; exact HSM.out _))
      have l3 : (W.drewN nq).cell? ⟨w1.heap.size + 1 + 1, 0, none⟩ = _ := l2
      have l4 : (W.drewN nq).frozen? ⟨w1.heap.size + 1 + 1, 0, none⟩ = false := blk_free HE.out.col.blk 0
      clear l1 l2
      go_wp2
      obtain ⟨w5, hw5⟩ : ∃ w5, (W.drewN nq).setCell ⟨w1.heap.size + 1 + 1, 0, none⟩ (.slice none 0 0) = w5 := ⟨_, rfl⟩
      rw [hw5]
      have hcd : Chg [w1.heap.size + 1 + 1] W w5 := by rw [← hw5]; exact ((Chg.refl _ W).drewN nq).setCell (p := ⟨w1.heap.size + 1 + 1, 0, none⟩) (.inl (by simp)) _
      have hb5 : w5.heap[w1.heap.size + 1 + 1]? = some (.cells #[.slice none 0 0] 23 (0, 0)) := by rw [← hw5]; exact blk_set (w := W.drewN nq) HE.out.col.blk 0 _
      clear hw5 l3 l4
      have hr5 := HRW.out.keep hcd (fun g hg hm => by simp at hm; have := HNE.out g hg; omega)
      have hs5 := hcd.heap (HE.out.chg.heap HS4.out (by simp)) (by simp)
      have hc5 : Chg [] w w5 := ((HCW.out.trans' HC.out.nil).trans HE.out.chg (fun x hx => .inr (by simp at hx; have := HSW.out; omega))).trans hcd (fun x hx => .inr (by simp at hx; have := HSW.out; omega))
      have HD5 := hid (hcd.heap HD1.out (by simp; omega))
      clear hcd
      have hsz5 := blk_lt hb5
      have h05 : EI w5 (w1.heap.size + 1 + 1) [] w5 none 0 none := ⟨⟨hb5, Row.nil _ _ _, by simp⟩, (fun g hg => by cases hg), Chg.refl _ _⟩
      have HR5 := hid hr5
      have HC5 := hid hc5
      have HS5 := hid hs5
      clear hr5 hc5 hb5 hs5
      refine wp_rangeFunc1 (gf := 27) (lb := #[.pointer (some ⟨w1.heap.size + 1, 0, none⟩)]) (q := 11) rfl (enters_of Try.func27 (by kernel_rfl) rfl)
        (fun o1 o2 => HG.out _ _ ((blk_cell (blk_alloc_old (blk_alloc_old HS5.out o1) o2) 0).trans rfl))
        (fun pre W => ∃ ao cap r, EI w5 (w1.heap.size + 1 + 1) pre W ao cap r)
        (fun c pre W => False)
        (fun S pre A B h hC hm => by obtain ⟨ao, cap, r, h2⟩ := h; exact ⟨ao, cap, r, h2.abide (by omega) hC hm⟩)
        (fun c S pre A B h hC hm => h)
        ⟨_, _, _, h05⟩ (fun x => (tokC x).toArray) 38 ?assign2 ?body2 ?done2 ?stop2
      case assign2 =>
        intro l x W K hK
        simp only [tokC, List.setIfInBounds_toArray, List.set_cons_zero, List.set_cons_succ] at hK ⊢
        gi_wp2
        exact hK _ (heap_alloc_new W _) ((Chg.refl [] W).alloc _)
      case body2 =>
        rintro l S0 pre x A0 A b hpre ⟨ao, cap, r, hE⟩ hsz hbs hb hC hm
        have hE' := hE.abide (by omega) hC hm
        simp only [tokC, List.setIfInBounds_toArray, List.set_cons_zero, List.set_cons_succ] at hb ⊢
        have t0 := (blk_cell hb 0).trans rfl
        have t1 := (blk_cell hb 1).trans rfl
        have t2 := (blk_cell hb 2).trans rfl
        have t3 := (blk_cell hb 3).trans rfl
        have t4 := (blk_cell hb 4).trans rfl
        have hpl : pre.length + 1 ≤ 1048577 := by have := hpre.length_le; simp at this; omega
        have hl0 := hE'.col.cell
        have hv := View.struct (k := 5) A [.int .i64 x.kind, .string ⟨x.text.toArray⟩, .int .i64 x.num, .int .i64 x.line, .int .i64 x.col] 38 rfl
        have h1 := (Chg.refl [] A).alloc (.cells #[.int .i64 x.kind, .string ⟨x.text.toArray⟩, .int .i64 x.num, .int .i64 x.line, .int .i64 x.col] 38)
        have hrow1 := hE'.col.row.keep h1 (by simp)
        have HEE := hid (And.intro hE hE')
        have HB := hid (And.intro hb hpre)
        clear hE hE' hb hpre
        gi_wp2_with (gi_at_builtin; refine wpListIn_grew rfl _ _ 23 rfl elem_tok rfl hrow1 rfl hv (by simp [Value.oneCell']) (by unfold maxLen; omega) (by omega) (fun ao' cap' r' w2 hr2 hg2 => halt (fun X hX => ?_)))
        rw [hX.out]; clear hX
        have hE' := HEE.out.2
        obtain ⟨p1, p2⟩ := hE'.col.put_cell h1 hg2.chg
        have hp := hE'.col.put h1 hr2 hg2.chg hg2.fresh
        have hcr : ∀ g, r = some g → w5.heap.size + 4 ≤ g := hE'.fr
        have HP5 := hid hp
        clear hp hv hrow1 t0 t1 t2 t3 t4 hl0
        gi_wp2
        have hp := HP5.out
        have hE0 := HEE.out.1
        refine ⟨⟨_, hp.2.1, fun b hb => ?_⟩, ao', cap', r', ⟨?_, fun g hg => ?_, hE'.chg.trans hp.2.1 (fun b hb => ?_)⟩⟩
        · rcases List.mem_cons.1 hb with h3 | h3
          · left; omega
          · have h4 : r = some b := by simpa using h3
            exact .inr ⟨hcr _ h4, hE0.col.row.lt _ h4⟩
        · rw [List.length_append, List.flatMap_append]
          simpa [tokC] using hp.1
        · rcases hp.2.2 g hg with h3 | h3
          · exact hcr _ h3
          · have := hC.size; omega
        · rcases List.mem_cons.1 hb with h3 | h3
          · left; simp [h3]
          · right; have := hcr _ (by simpa using h3); omega
      case done2 =>
        rintro W ⟨ao, cap, r, hE⟩ hD2
        have hl0 := hE.col.cell
        have hvl : TView W (.slice ao ts.length cap) ts := hE.col.row.view
        have hvw : TView W (.slice aoT ts.length capT) ts := (HR5.out.keep hE.chg (fun g hg hm => by simp at hm; have := HNE.out g hg; omega)).view
        have HS6 := hid (same_refl W _ _ ts hvl hvw (by omega))
        have HE := hid hE
        have HD2 := hid hD2
        clear hE hD2 hvl hvw
        go_wp2_with (first
          | (go_at_call 12; ((with_reducible refine HS6.out.mono ?_); rintro e w7 ⟨rfl, n6, rfl⟩))
          | (go_at_call 14; refine (HK.out _).mono ?_; rintro e w8 ⟨rfl, hc8⟩))
        have hE := HE.out
        have hfin : Chg [] w w8 := ((HC5.out.trans hE.chg (fun x hx => .inr (by simp at hx; have := HSW.out; omega))).drewN n6).trans' hc8
        have hD8 := hc8.heap (show (W.drewN n6).heap[w5.heap.size]? = _ from HD2.out) (by simp)
        have hD1 := hc8.heap (show (W.drewN n6).heap[w4.heap.size]? = _ from hE.chg.heap HD5.out (by simp; omega)) (by simp)
        rw [hsz4] at hD1
        have hlt5 := blk_lt HD5.out
        have hl5 := HC5.out.size
        exact leavesM_mark hD8 (leavesM_mark ((World.putObj_heap_other (by omega)).trans hD1) (leavesM_nil (results_tmp rfl _ _ _) ⟨rfl, (hfin.putObj (.inr (by omega)) _).putObj (.inr (by have := HSW.out; omega)) _⟩))
      case stop2 => rintro c pre W hpre h; exact h.elim
  · have hld : decide ((0 : Int) < leave) = false := by simp [hlp]
    go_wp2_with (go_at_call 19; refine (eachS_calls _ _).mono ?_; rintro e w2 ⟨rfl, rfl⟩)
    obtain ⟨w5, hw5⟩ : ∃ w5, (((w1.alloc (.cells #[.int .i64 f0, .int .i64 f1, .int .i64 f2] 28)).alloc (.cells #[.string s] 9)).alloc (.cells #[.slice none 0 0] 23)) = w5 := ⟨_, rfl⟩
    rw [hw5]
    have hc15 : Chg [] w1 w5 := by rw [← hw5]; exact (((Chg.refl [] w1).alloc _).alloc _).alloc _
    have hb5 : w5.heap[w1.heap.size + 1 + 1]? = some (.cells #[.slice none 0 0] 23 (0, 0)) := by rw [← hw5]; have := heap_alloc_new ((w1.alloc (.cells #[.int .i64 f0, .int .i64 f1, .int .i64 f2] 28)).alloc (.cells #[.string s] 9)) (.cells #[.slice none 0 0] 23); simpa using this
    have hs5 : w5.heap[w1.heap.size + 1]? = some (.cells #[.string s] 9 (0, 0)) := by rw [← hw5]; refine blk_alloc_old ?_ _; have := heap_alloc_new (w1.alloc (.cells #[.int .i64 f0, .int .i64 f1, .int .i64 f2] 28)) (.cells #[.string s] 9); simpa using this
    clear hw5 hfn hlc
    have hlt1 := blk_lt hlv
    have hr5 := hrT.keep hc15 (by simp)
    have HNE := hid (fun g (hg : rT = some g) => hrT.lt g hg)
    have HSW : Hid (w.heap.size ≤ w1.heap.size) := hid (by omega)
    have hc5 : Chg [] w w5 := ((((Chg.refl [] w).alloc _).trans' hcT)).trans' hc15
    clear hlv hrT hcT hc1 hfT hlp hc15
    have hsz5 := blk_lt hb5
    have h05 : EI w5 (w1.heap.size + 1 + 1) [] w5 none 0 none := ⟨⟨hb5, Row.nil _ _ _, by simp⟩, (fun g hg => by cases hg), Chg.refl _ _⟩
    have HR5 := hid hr5
    have HC5 := hid hc5
    have HS5 := hid hs5
    clear hr5 hc5 hb5 hs5
    refine wp_rangeFunc1 (gf := 27) (lb := #[.pointer (some ⟨w1.heap.size + 1, 0, none⟩)]) (q := 11) rfl (enters_of Try.func27 (by kernel_rfl) rfl)
      (fun o1 o2 => HG.out _ _ ((blk_cell (blk_alloc_old (blk_alloc_old HS5.out o1) o2) 0).trans rfl))
      (fun pre W => ∃ ao cap r, EI w5 (w1.heap.size + 1 + 1) pre W ao cap r)
      (fun c pre W => False)
      (fun S pre A B h hC hm => by obtain ⟨ao, cap, r, h2⟩ := h; exact ⟨ao, cap, r, h2.abide (by omega) hC hm⟩)
      (fun c S pre A B h hC hm => h)
      ⟨_, _, _, h05⟩ (fun x => (tokC x).toArray) 38 ?assign2 ?body2 ?done2 ?stop2
    case assign2 =>
      intro l x W K hK
      simp only [tokC, List.setIfInBounds_toArray, List.set_cons_zero, List.set_cons_succ] at hK ⊢
      gi_wp2
      exact hK _ (heap_alloc_new W _) ((Chg.refl [] W).alloc _)
    case body2 =>
      rintro l S0 pre x A0 A b hpre ⟨ao, cap, r, hE⟩ hsz hbs hb hC hm
      have hE' := hE.abide (by omega) hC hm
      simp only [tokC, List.setIfInBounds_toArray, List.set_cons_zero, List.set_cons_succ] at hb ⊢
      have t0 := (blk_cell hb 0).trans rfl
      have t1 := (blk_cell hb 1).trans rfl
      have t2 := (blk_cell hb 2).trans rfl
      have t3 := (blk_cell hb 3).trans rfl
      have t4 := (blk_cell hb 4).trans rfl
      have hpl : pre.length + 1 ≤ 1048577 := by have := hpre.length_le; simp at this; omega
      have hl0 := hE'.col.cell
      have hv := View.struct (k := 5) A [.int .i64 x.kind, .string ⟨x.text.toArray⟩, .int .i64 x.num, .int .i64 x.line, .int .i64 x.col] 38 rfl
      have h1 := (Chg.refl [] A).alloc (.cells #[.int .i64 x.kind, .string ⟨x.text.toArray⟩, .int .i64 x.num, .int .i64 x.line, .int .i64 x.col] 38)
      have hrow1 := hE'.col.row.keep h1 (by simp)
      have HEE := hid (And.intro hE hE')
      have HB := hid (And.intro hb hpre)
      clear hE hE' hb hpre
      gi_wp2_with (gi_at_builtin; refine wpListIn_grew rfl _ _ 23 rfl elem_tok rfl hrow1 rfl hv (by simp [Value.oneCell']) (by unfold maxLen; omega) (by omega) (fun ao' cap' r' w2 hr2 hg2 => halt (fun X hX => ?_)))
      rw [hX.out]; clear hX
      have hE' := HEE.out.2
      obtain ⟨p1, p2⟩ := hE'.col.put_cell h1 hg2.chg
      have hp := hE'.col.put h1 hr2 hg2.chg hg2.fresh
      have hcr : ∀ g, r = some g → w5.heap.size + 4 ≤ g := hE'.fr
      have HP5 := hid hp
      clear hp hv hrow1 t0 t1 t2 t3 t4 hl0
      gi_wp2
      have hp := HP5.out
      have hE0 := HEE.out.1
      refine ⟨⟨_, hp.2.1, fun b hb => ?_⟩, ao', cap', r', ⟨?_, fun g hg => ?_, hE'.chg.trans hp.2.1 (fun b hb => ?_)⟩⟩
      · rcases List.mem_cons.1 hb with h3 | h3
        · left; omega
        · have h4 : r = some b := by simpa using h3
          exact .inr ⟨hcr _ h4, hE0.col.row.lt _ h4⟩
      · rw [List.length_append, List.flatMap_append]
        simpa [tokC] using hp.1
      · rcases hp.2.2 g hg with h3 | h3
        · exact hcr _ h3
        · have := hC.size; omega
      · rcases List.mem_cons.1 hb with h3 | h3
        · left; simp [h3]
        · right; have := hcr _ (by simpa using h3); omega
    case done2 =>
      rintro W ⟨ao, cap, r, hE⟩ hD2
      have hl0 := hE.col.cell
      have hvl : TView W (.slice ao ts.length cap) ts := hE.col.row.view
      have hvw : TView W (.slice aoT ts.length capT) ts := (HR5.out.keep hE.chg (fun g hg hm => by simp at hm; have := HNE.out g hg; omega)).view
      have HS6 := hid (same_refl W _ _ ts hvl hvw (by omega))
      have HE := hid hE
      have HD2 := hid hD2
      clear hE hD2 hvl hvw
      go_wp2_with (first
        | (go_at_call 12; ((with_reducible refine HS6.out.mono ?_); rintro e w7 ⟨rfl, n6, rfl⟩))
        | (go_at_call 14; refine (HK.out _).mono ?_; rintro e w8 ⟨rfl, hc8⟩))
      have hE := HE.out
      have hfin : Chg [] w w8 := ((HC5.out.trans hE.chg (fun x hx => .inr (by simp at hx; have := HSW.out; omega))).drewN n6).trans' hc8
      have hD8 := hc8.heap (show (W.drewN n6).heap[w5.heap.size]? = _ from HD2.out) (by simp)
      have hl5 := HC5.out.size
      exact leavesM_mark hD8 (leavesM_nil (results_tmp rfl _ _ _) ⟨rfl, hfin.putObj (.inr (by omega)) _⟩)
    case stop2 => rintro c pre W hpre h; exact h.elim
end
end Go.Proofs.Ytppijmpdoejdmaa
