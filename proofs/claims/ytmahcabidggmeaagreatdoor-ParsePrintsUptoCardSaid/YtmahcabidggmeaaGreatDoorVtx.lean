/- Joined by join.py out of Vta, Vtb, Vtc, Vtd, Vte. -/
import Derived.Test.YtmahcabidggmeaaGreatDoorVsx
set_option linter.unusedSimpArgs false
set_option linter.unusedVariables false
set_option linter.unusedSectionVars false

/- The reference's test of an Item, plain. -/
set_option linter.unusedVariables false
set_option linter.unusedSectionVars false
set_option linter.unusedSimpArgs false
namespace Go.AB
open Go.RowKit
/-- The fields that an Item may have, so far. -/
structure WantD where
  a : Int
  b : Int
  c : Int
  n : Int
  name : ByteArray
def want0 : WantD := ⟨0, 0, 0, 0, ⟨#[]⟩⟩
def WantD.reg (W : WantD) (k : Nat) (v : Int) : WantD := if k = 0 then ⟨v, W.b, W.c, W.n, W.name⟩ else if k = 1 then ⟨W.a, v, W.c, W.n, W.name⟩ else ⟨W.a, W.b, v, W.n, W.name⟩
def wantL (x : ItD) : List UInt8 → Nat → WantD → Option WantD
  | [], _, W => some W
  | ch :: f, k, W =>
    if ch = 114 then (if 0 ≤ regOf x k ∧ regOf x k < 16 then wantL x f (k + 1) (W.reg k (regOf x k)) else none)
    else if ch = 110 then wantL x f k ⟨W.a, W.b, W.c, x.n, W.name⟩
    else if nameP x.name.data.toList = true then wantL x f k ⟨W.a, W.b, W.c, W.n, x.name⟩ else none
def wantEq (x : ItD) : Option WantD → Bool
  | none => false
  | some W => decide (x.a = W.a) && decide (x.b = W.b) && decide (x.c = W.c) && decide (x.n = W.n) && decide (x.name.data.toList = W.name.data.toList)
def formsL : List (List UInt8) := [[], [120], [114], [114, 110], [114, 114], [114, 120], [114, 114, 114]]
theorem form_mem (op : Int) : formAt op ∈ formsL := by
  by_cases h : op < 1 ∨ 20 < op
  · have : formAt op = [] := by
      unfold formAt
      by_cases h1 : op < 1
      · rw [if_pos h1]
      · rw [if_neg h1, List.getElem?_eq_none (by show 20 ≤ _; omega)]; rfl
    rw [this]
    decide
  · obtain ⟨i, rfl⟩ : ∃ i : Nat, op = (i : Int) + 1 := ⟨(op - 1).toNat, by omega⟩
    have hi : i < 20 := by omega
    have key : ∀ i : Fin 20, formAt ((i.val : Int) + 1) ∈ formsL := by decide +kernel
    exact key ⟨i, hi⟩
theorem nil_iff (s : ByteArray) : decide (s.data.toList = []) = decide (s.size = 0) := by
  have h := data_len s
  by_cases e : s.size = 0
  · rw [decide_eq_true e, decide_eq_true (List.eq_nil_of_length_eq_zero (by omega))]
  · rw [decide_eq_false e, decide_eq_false (fun h2 => e (by rw [h2] at h; simpa using h.symm))]
theorem reg_bool (n : Int) : regB n = decide (0 ≤ n ∧ n < 16) := rfl
/-- What the reference tests is what may be. -/
theorem item_want (x : ItD) {F : List UInt8} (hF : F = if x.op = 0 then [120] else formAt x.op) : itemOk x = ((decide (x.op = 0) || !(wordAt x.op).isEmpty) && wantEq x (wantL x F 0 want0)) := by
  unfold itemOk
  simp only [← hF]
  have hm : F ∈ formsL := by
    rw [hF]
    split
    · decide
    · exact form_mem _
  cases decide (x.op = 0) || !(wordAt x.op).isEmpty with
  | false => rfl
  | true =>
    simp only [Bool.true_and]
    clear hF
    have hE : decide (x.name = ByteArray.empty) = decide (x.name.data = #[]) := by
      congr 1
      exact propext ⟨fun h => by rw [h]; rfl, fun h => ByteArray.ext h⟩
    simp only [formsL, List.mem_cons, List.not_mem_nil, or_false] at hm
    rcases hm with rfl | rfl | rfl | rfl | rfl | rfl | rfl
    all_goals simp only [List.count_nil, List.count_cons, wantL, wantEq, want0, WantD.reg, regOf, regB]
    all_goals simp
    all_goals try rw [hE]
    all_goals generalize nameP x.name.data.toList = q
    all_goals (by_cases ha : 0 ≤ x.a ∧ x.a < 16 <;> by_cases hb : 0 ≤ x.b ∧ x.b < 16 <;> by_cases hc : 0 ≤ x.c ∧ x.c < 16 <;> cases q)
    all_goals (have ra : (decide (0 ≤ x.a) && decide (x.a < 16)) = decide (0 ≤ x.a ∧ x.a < 16) := (Bool.decide_and _ _).symm; have rb : (decide (0 ≤ x.b) && decide (x.b < 16)) = decide (0 ≤ x.b ∧ x.b < 16) := (Bool.decide_and _ _).symm; have rc : (decide (0 ≤ x.c) && decide (x.c < 16)) = decide (0 ≤ x.c ∧ x.c < 16) := (Bool.decide_and _ _).symm; (try simp only [ra, rb, rc]); first | rfl | simp [ha, hb, hc])
end Go.AB

/- The reference's test of an Item, walked. (Printed by gen_ritem.py.) -/
set_option linter.unusedVariables false
set_option linter.unusedSectionVars false
set_option linter.unusedSimpArgs false
namespace Go.Proofs.YtmahcabidggmeaaGreatDoor
open Go.RowKit Go.AB
set_option linter.unusedSimpArgs false
set_option linter.unusedVariables false
set_option linter.unusedSectionVars false

theorem beq_dec (l m : List UInt8) : (l == m) = decide (l = m) := by
  by_cases h : l = m
  · rw [decide_eq_true h, h]; simp
  · rw [decide_eq_false h]; exact beq_false_of_ne h
theorem forms_len : ∀ F ∈ formsL, F.length ≤ 3 := by decide
set_option maxHeartbeats 16000000 in
set_option maxRecDepth 100000 in
theorem r_item_calls (x : ItD) (hx : SmallI x) (ho : -9223372036854775808 ≤ x.op ∧ x.op ≤ 9223372036854775807) (w : World) (hv : VarsP w) : Calls Tryz.prog 54 #[.agg (itC x).toArray] w fun e w' => e = .returned (.bool (itemOk x)) ∧ Chg [] w w' := by
  obtain ⟨F, hF⟩ : ∃ F, F = if x.op = 0 then [120] else formAt x.op := ⟨_, rfl⟩
  have hok := item_want x hF
  have hm : F.length ≤ 3 := by
    refine forms_len F ?_
    rw [hF]
    split
    · decide
    · exact form_mem _
  have HX := hid hx
  have HF := hid hF
  have HN := hid fun W (hc : Chg [] w W) => r_name_calls x.name (by have := hx.nm; omega) W (hv.keep hc)
  have HFM := hid fun W => r_form_calls x.op ho.1 ho.2 W
  obtain ⟨R, hR⟩ : ∃ R, wantL x F 0 want0 = R := ⟨_, rfl⟩
  rw [hR] at hok
  have HOK := hid hok
  have HR0 := hid hR
  obtain ⟨op, a, b, c, n, name, p1, p2, q1, q2⟩ := x
  simp only at HF HN HFM HOK
  unfold FormP at HFM
  obtain ⟨bw, hbw⟩ : ∃ bw, (wordAt op).isEmpty = bw := ⟨_, rfl⟩
  have hwe : (bA (wordAt op)).toList.isEmpty = bw := by rw [bA_toList]; exact hbw
  rw [hbw] at HOK
  obtain ⟨WD, hWD⟩ : ∃ W, bA (wordAt op) = W := ⟨_, rfl⟩
  rw [hWD] at hwe HFM
  have HB := hid (heap_alloc_new w (.cells #[.int .i64 op, .int .i64 a, .int .i64 b, .int .i64 c, .int .i64 n, .string name, .int .i64 p1, .int .i64 p2, .int .i64 q1, .int .i64 q2] 53))
  have HCA := hid ((Chg.refl [] w).alloc (.cells #[.int .i64 op, .int .i64 a, .int .i64 b, .int .i64 c, .int .i64 n, .string name, .int .i64 p1, .int .i64 p2, .int .i64 q1, .int .i64 q2] 53))
  clear hF hok hx hv hR hbw hWD ho
  show Calls _ _ #[.agg #[.int .i64 op, .int .i64 a, .int .i64 b, .int .i64 c, .int .i64 n, .string name, .int .i64 p1, .int .i64 p2, .int .i64 q1, .int .i64 q2]] _ _
  go_enter Tryz.func54, Tryz.ntmps54
  go_upto_region 1 with fail
  obtain ⟨wA, hwA⟩ : ∃ wA, w.alloc (.cells #[.int .i64 op, .int .i64 a, .int .i64 b, .int .i64 c, .int .i64 n, .string name, .int .i64 p1, .int .i64 p2, .int .i64 q1, .int .i64 q2] 53) = wA := ⟨_, rfl⟩
  obtain ⟨P, hP⟩ : ∃ P, w.heap.size = P := ⟨_, rfl⟩
  rw [hwA] at HB HCA ⊢
  rw [hP] at HB ⊢
  clear hwA hP
  have u0 : wA.cell? ⟨P, 0, none⟩ = some (.int .i64 op) := blk_cell HB.out 0
  go_wp2_with (go_at_call 56; refine (HFM.out _).mono ?_; rintro e w1 ⟨rfl, hc1⟩; refine halt (fun XX hXX => ?_))
  have HC1 := hid (HCA.out.trans' hc1)
  have HB1 := hid (hc1.heap HB.out (by simp))
  have u0 : w1.cell? ⟨P, 0, none⟩ = some (.int .i64 op) := blk_cell HB1.out 0
  clear hc1 HB
  rw [hXX.out]; clear hXX XX
  by_cases hb : op ≠ 0 ∧ bw = true
  · obtain ⟨h0, rfl⟩ := hb
    have e1 : (op != 0) = true := by simpa using h0
    have e2 : (op == 0) = false := by simpa using h0
    have hfin : itemOk (⟨op, a, b, c, n, name, p1, p2, q1, q2⟩ : ItD) = false := by rw [HOK.out, decide_eq_false h0]; rfl
    have HFN := hid hfin
    clear hfin
    go_wp2
    go_ret
    exact ⟨by rw [HFN.out]; rfl, HC1.out⟩
  · have hok2 : itemOk (⟨op, a, b, c, n, name, p1, p2, q1, q2⟩ : ItD) = wantEq (⟨op, a, b, c, n, name, p1, p2, q1, q2⟩ : ItD) R := by
      rw [HOK.out]
      by_cases h0 : op = 0
      · rw [decide_eq_true h0, Bool.true_or, Bool.true_and]
      · have : bw = false := by cases bw with | false => rfl | true => exact absurd ⟨h0, rfl⟩ hb
        rw [this, Bool.not_false, Bool.or_true, Bool.true_and]
    have HK := hid hok2
    have HBW := hid hb
    clear hok2 hb HOK
    go_upto_region 2 with fail
    go_cut [21] (fun v wx => v = .bool false ∧ w1 = wx)
    case first =>
      by_cases h0 : op = 0
      · have e1 : (op != 0) = false := by simp [h0]
        have HH := hid h0
        clear h0
        go_wp2_with fail
        go_meet
        exact ⟨rfl, rfl⟩
      · have e1 : (op != 0) = true := by simpa using h0
        have hbf : bw = false := by cases bw with | false => rfl | true => exact absurd ⟨h0, rfl⟩ HBW.out
        subst hbf
        clear h0
        go_wp2_with fail
        go_meet
        exact ⟨rfl, rfl⟩
    case rest =>
    obtain ⟨rfl, rfl⟩ := hcut
    go_upto_region 4 with fail
    go_upto_if 24 with fail
    go_cut [4] (fun v wx => v = .string (bA F) ∧ w1 = wx)
    case first =>
      by_cases h0 : op = 0
      · have e1 : (op == 0) = true := by simp [h0]
        have hf : F = [120] := by rw [HF.out, if_pos h0]
        have HH := hid (And.intro h0 hf)
        clear h0 hf
        go_wp2_with fail
        go_meet
        exact ⟨by rw [HH.out.2]; rfl, rfl⟩
      · have e1 : (op == 0) = false := by simpa using h0
        have hf : F = formAt op := by rw [HF.out, if_neg h0]
        have HH := hid hf
        clear h0 hf
        go_wp2_with fail
        go_meet
        exact ⟨by rw [HH.out], rfl⟩
    case rest =>
    obtain ⟨rfl, rfl⟩ := hcut
    go_upto_region 9 with fail
    obtain ⟨w2, hw2⟩ : ∃ w2, w1.alloc (.cells #[.int .i64 op, .int .i64 0, .int .i64 0, .int .i64 0, .int .i64 0, .string ⟨#[]⟩, .int .i64 0, .int .i64 0, .int .i64 0, .int .i64 0] 53) = w2 := ⟨_, rfl⟩
    obtain ⟨Q, hQ⟩ : ∃ Q, w1.heap.size = Q := ⟨_, rfl⟩
    have HPQ : Hid (P < Q ∧ w.heap.size ≤ Q) := hid (by rw [← hQ]; exact ⟨blk_lt HB1.out, HC1.out.size⟩)
    have hq2 := heap_alloc_new w1 (.cells #[.int .i64 op, .int .i64 0, .int .i64 0, .int .i64 0, .int .i64 0, .string ⟨#[]⟩, .int .i64 0, .int .i64 0, .int .i64 0, .int .i64 0] 53)
    have hc2 := (Chg.refl [] w1).alloc (.cells #[.int .i64 op, .int .i64 0, .int .i64 0, .int .i64 0, .int .i64 0, .string ⟨#[]⟩, .int .i64 0, .int .i64 0, .int .i64 0, .int .i64 0] 53)
    rw [hw2] at hq2 hc2
    rw [hQ] at hq2
    try rw [hw2]
    try rw [hQ]
    have HQ := hid hq2
    have HC2 := hid (HC1.out.trans' hc2)
    have HB2 := hid (hc2.heap HB1.out (by simp))
    obtain ⟨S, hS⟩ : ∃ S, bA F = S := ⟨_, rfl⟩
    have hSz : S.size = F.length := by rw [← hS]; exact bA_size F
    have HSG : Hid (∀ i (h1 : i < S.size) (h2 : i < F.length), S[i] = F[i]) := hid (fun i h1 h2 => by subst hS; rfl)
    have HSZ := hid hSz
    have hS3 : S.size ≤ 3 := by omega
    try rw [hS]
    clear hw2 hQ hq2 hc2 u0 hS hSz hm
    go_loopg [6, 7] S.size (fun gk v6 v7 wr => ∃ (i k : Nat) (W : WantD), Hid (gk + i = S.size) ∧ v7 = .int .i64 i ∧ v6 = .int .i64 k ∧ Hid (k ≤ i ∧ wantL (⟨op, a, b, c, n, name, p1, p2, q1, q2⟩ : ItD) (F.drop i) k W = R ∧ wr.heap[Q]? = some (.cells #[.int .i64 op, .int .i64 W.a, .int .i64 W.b, .int .i64 W.c, .int .i64 W.n, .string W.name, .int .i64 0, .int .i64 0, .int .i64 0, .int .i64 0] 53 (0, 0))) ∧ Hid (Chg [Q] w2 wr))
    case atStart => exact ⟨0, 0, want0, hid (by omega), rfl, rfl, hid ⟨Nat.le_refl _, HR0.out, HQ.out⟩, hid (Chg.refl _ _)⟩
    case round =>
      obtain ⟨i, k, W, HG, rfl, rfl, HI, HR⟩ := hrel
      have hpb := HR.out.heap HB2.out (by have := HPQ.out.1; simp; omega)
      have hqb := HI.out.2.2
      have hki := HI.out.1
      have hpq := Nat.ne_of_lt HPQ.out.1
      have hpq2 := (Nat.ne_of_lt HPQ.out.1).symm
      have x0 : wr.cell? ⟨P, 0, none⟩ = some (.int .i64 op) := blk_cell hpb 0
      have x1 : wr.cell? ⟨P, 1, none⟩ = some (.int .i64 a) := blk_cell hpb 1
      have x2 : wr.cell? ⟨P, 2, none⟩ = some (.int .i64 b) := blk_cell hpb 2
      have x3 : wr.cell? ⟨P, 3, none⟩ = some (.int .i64 c) := blk_cell hpb 3
      have x4 : wr.cell? ⟨P, 4, none⟩ = some (.int .i64 n) := blk_cell hpb 4
      have x5 : wr.cell? ⟨P, 5, none⟩ = some (.string name) := blk_cell hpb 5
      have y0 : wr.cell? ⟨Q, 0, none⟩ = some (.int .i64 op) := blk_cell hqb 0
      have y1 : wr.cell? ⟨Q, 1, none⟩ = some (.int .i64 W.a) := blk_cell hqb 1
      have y2 : wr.cell? ⟨Q, 2, none⟩ = some (.int .i64 W.b) := blk_cell hqb 2
      have y3 : wr.cell? ⟨Q, 3, none⟩ = some (.int .i64 W.c) := blk_cell hqb 3
      have y4 : wr.cell? ⟨Q, 4, none⟩ = some (.int .i64 W.n) := blk_cell hqb 4
      have y5 : wr.cell? ⟨Q, 5, none⟩ = some (.string W.name) := blk_cell hqb 5
      have yf : ∀ j, wr.frozen? ⟨Q, j, none⟩ = false := blk_free hqb
      have HQB := hid hqb
      clear hpb hqb
      by_cases hlt : i < S.size
      · have hlF : i < F.length := by rw [← HSZ.out]; exact hlt
        have hw := HI.out.2.1
        rw [List.drop_eq_getElem_cons hlF, ← HSG.out i hlt hlF] at hw
        obtain ⟨ch, hch⟩ : ∃ ch, S[i] = ch := ⟨_, rfl⟩
        rw [hch] at hw
        unfold wantL at hw
        clear hlF
        by_cases h114 : ch = 114
        · subst h114
          rw [if_pos rfl] at hw
          have e1 : ((S[i].toNat : Int) == 114) = true := by rw [hch]; rfl
          clear hch
          by_cases hk0 : k = 0
          · subst hk0
            rw [show regOf (⟨op, a, b, c, n, name, p1, p2, q1, q2⟩ : ItD) 0 = a from by first | rfl | (unfold regOf; rw [if_neg hk0, if_neg hk1])] at hw
            rw [show WantD.reg W 0 a = ⟨a, W.b, W.c, W.n, W.name⟩ from by first | rfl | (unfold WantD.reg; rw [if_neg hk0, if_neg hk1])] at hw
            by_cases hr : 0 ≤ a ∧ a < 16
            · rw [if_pos hr] at hw
              obtain ⟨hr0, hr1⟩ := hr
              have r1 : decide (a < 0) = false := decide_eq_false (by omega)
              have r2 : decide ((15 : Int) < a) = false := decide_eq_false (by omega)
              have hset := blk_set HQB.out 1 (.int .i64 a)
              have hcs : Chg [Q] w2 (wr.setCell ⟨Q, 1, none⟩ (.int .i64 a)) := HR.out.setCell (.inl (by simp)) _
              have HN2 := hid (And.intro hset (And.intro hcs hw))
              clear hset hcs hw
              go_wp2_with fail
              go_roundg (gk - 1)
              case measure => have := HG.out; omega
              case rel => exact ⟨i + 1, 0 + 1, ⟨a, W.b, W.c, W.n, W.name⟩, hid (by have := HG.out; omega), by go_num, by go_num, hid ⟨by omega, HN2.out.2.2, HN2.out.1⟩, hid HN2.out.2.1⟩
            · rw [if_neg hr] at hw
              by_cases hr0 : 0 ≤ a
              · have r1 : decide (a < 0) = false := decide_eq_false (by omega)
                have r2 : decide ((15 : Int) < a) = true := decide_eq_true (by omega)
                have HFN : Hid (itemOk (⟨op, a, b, c, n, name, p1, p2, q1, q2⟩ : ItD) = false) := hid (by rw [HK.out, ← hw]; rfl)
                have hcs : Chg [Q] w2 (wr.setCell ⟨Q, 1, none⟩ (.int .i64 a)) := HR.out.setCell (.inl (by simp)) _
                have HCS := hid hcs
                clear hw hcs hr
                go_wp2
                go_ret
                exact ⟨by rw [HFN.out]; rfl, HC2.out.trans HCS.out (fun x hx => by rw [List.mem_singleton] at hx; subst hx; exact .inr HPQ.out.2)⟩
              · have r1 : decide (a < 0) = true := decide_eq_true (by omega)
                have HFN : Hid (itemOk (⟨op, a, b, c, n, name, p1, p2, q1, q2⟩ : ItD) = false) := hid (by rw [HK.out, ← hw]; rfl)
                have hcs : Chg [Q] w2 (wr.setCell ⟨Q, 1, none⟩ (.int .i64 a)) := HR.out.setCell (.inl (by simp)) _
                have HCS := hid hcs
                clear hw hcs hr
                go_wp2
                go_ret
                exact ⟨by rw [HFN.out]; rfl, HC2.out.trans HCS.out (fun x hx => by rw [List.mem_singleton] at hx; subst hx; exact .inr HPQ.out.2)⟩
          · by_cases hk1 : k = 1
            · subst hk1
              rw [show regOf (⟨op, a, b, c, n, name, p1, p2, q1, q2⟩ : ItD) 1 = b from by first | rfl | (unfold regOf; rw [if_neg hk0, if_neg hk1])] at hw
              rw [show WantD.reg W 1 b = ⟨W.a, b, W.c, W.n, W.name⟩ from by first | rfl | (unfold WantD.reg; rw [if_neg hk0, if_neg hk1])] at hw
              by_cases hr : 0 ≤ b ∧ b < 16
              · rw [if_pos hr] at hw
                obtain ⟨hr0, hr1⟩ := hr
                have r1 : decide (b < 0) = false := decide_eq_false (by omega)
                have r2 : decide ((15 : Int) < b) = false := decide_eq_false (by omega)
                have hset := blk_set HQB.out 2 (.int .i64 b)
                have hcs : Chg [Q] w2 (wr.setCell ⟨Q, 2, none⟩ (.int .i64 b)) := HR.out.setCell (.inl (by simp)) _
                have HN2 := hid (And.intro hset (And.intro hcs hw))
                clear hset hcs hw
                go_wp2_with fail
                go_roundg (gk - 1)
                case measure => have := HG.out; omega
                case rel => exact ⟨i + 1, 1 + 1, ⟨W.a, b, W.c, W.n, W.name⟩, hid (by have := HG.out; omega), by go_num, by go_num, hid ⟨by omega, HN2.out.2.2, HN2.out.1⟩, hid HN2.out.2.1⟩
              · rw [if_neg hr] at hw
                by_cases hr0 : 0 ≤ b
                · have r1 : decide (b < 0) = false := decide_eq_false (by omega)
                  have r2 : decide ((15 : Int) < b) = true := decide_eq_true (by omega)
                  have HFN : Hid (itemOk (⟨op, a, b, c, n, name, p1, p2, q1, q2⟩ : ItD) = false) := hid (by rw [HK.out, ← hw]; rfl)
                  have hcs : Chg [Q] w2 (wr.setCell ⟨Q, 2, none⟩ (.int .i64 b)) := HR.out.setCell (.inl (by simp)) _
                  have HCS := hid hcs
                  clear hw hcs hr
                  go_wp2
                  go_ret
                  exact ⟨by rw [HFN.out]; rfl, HC2.out.trans HCS.out (fun x hx => by rw [List.mem_singleton] at hx; subst hx; exact .inr HPQ.out.2)⟩
                · have r1 : decide (b < 0) = true := decide_eq_true (by omega)
                  have HFN : Hid (itemOk (⟨op, a, b, c, n, name, p1, p2, q1, q2⟩ : ItD) = false) := hid (by rw [HK.out, ← hw]; rfl)
                  have hcs : Chg [Q] w2 (wr.setCell ⟨Q, 2, none⟩ (.int .i64 b)) := HR.out.setCell (.inl (by simp)) _
                  have HCS := hid hcs
                  clear hw hcs hr
                  go_wp2
                  go_ret
                  exact ⟨by rw [HFN.out]; rfl, HC2.out.trans HCS.out (fun x hx => by rw [List.mem_singleton] at hx; subst hx; exact .inr HPQ.out.2)⟩
            · have d1 : ((k : Int) == 0) = false := by simpa using hk0
              have d2 : ((k : Int) == 1) = false := by rw [beq_eq_false_iff_ne]; omega
              rw [show regOf (⟨op, a, b, c, n, name, p1, p2, q1, q2⟩ : ItD) k = c from by first | rfl | (unfold regOf; rw [if_neg hk0, if_neg hk1])] at hw
              rw [show WantD.reg W k c = ⟨W.a, W.b, c, W.n, W.name⟩ from by first | rfl | (unfold WantD.reg; rw [if_neg hk0, if_neg hk1])] at hw
              by_cases hr : 0 ≤ c ∧ c < 16
              · rw [if_pos hr] at hw
                obtain ⟨hr0, hr1⟩ := hr
                have r1 : decide (c < 0) = false := decide_eq_false (by omega)
                have r2 : decide ((15 : Int) < c) = false := decide_eq_false (by omega)
                have hset := blk_set HQB.out 3 (.int .i64 c)
                have hcs : Chg [Q] w2 (wr.setCell ⟨Q, 3, none⟩ (.int .i64 c)) := HR.out.setCell (.inl (by simp)) _
                have HN2 := hid (And.intro hset (And.intro hcs hw))
                clear hset hcs hw
                go_wp2_with fail
                go_roundg (gk - 1)
                case measure => have := HG.out; omega
                case rel => exact ⟨i + 1, k + 1, ⟨W.a, W.b, c, W.n, W.name⟩, hid (by have := HG.out; omega), by go_num, by go_num, hid ⟨by omega, HN2.out.2.2, HN2.out.1⟩, hid HN2.out.2.1⟩
              · rw [if_neg hr] at hw
                by_cases hr0 : 0 ≤ c
                · have r1 : decide (c < 0) = false := decide_eq_false (by omega)
                  have r2 : decide ((15 : Int) < c) = true := decide_eq_true (by omega)
                  have HFN : Hid (itemOk (⟨op, a, b, c, n, name, p1, p2, q1, q2⟩ : ItD) = false) := hid (by rw [HK.out, ← hw]; rfl)
                  have hcs : Chg [Q] w2 (wr.setCell ⟨Q, 3, none⟩ (.int .i64 c)) := HR.out.setCell (.inl (by simp)) _
                  have HCS := hid hcs
                  clear hw hcs hr
                  go_wp2
                  go_ret
                  exact ⟨by rw [HFN.out]; rfl, HC2.out.trans HCS.out (fun x hx => by rw [List.mem_singleton] at hx; subst hx; exact .inr HPQ.out.2)⟩
                · have r1 : decide (c < 0) = true := decide_eq_true (by omega)
                  have HFN : Hid (itemOk (⟨op, a, b, c, n, name, p1, p2, q1, q2⟩ : ItD) = false) := hid (by rw [HK.out, ← hw]; rfl)
                  have hcs : Chg [Q] w2 (wr.setCell ⟨Q, 3, none⟩ (.int .i64 c)) := HR.out.setCell (.inl (by simp)) _
                  have HCS := hid hcs
                  clear hw hcs hr
                  go_wp2
                  go_ret
                  exact ⟨by rw [HFN.out]; rfl, HC2.out.trans HCS.out (fun x hx => by rw [List.mem_singleton] at hx; subst hx; exact .inr HPQ.out.2)⟩
        · have e1 : ((S[i].toNat : Int) == 114) = false := by rw [hch, beq_eq_false_iff_ne]; intro h; exact h114 (UInt8.toNat_inj.1 (by exact Int.ofNat_inj.1 h))
          rw [if_neg h114] at hw
          by_cases h110 : ch = 110
          · subst h110
            rw [if_pos rfl] at hw
            have e2 : ((S[i].toNat : Int) == 110) = true := by rw [hch]; rfl
            clear hch
            have hset := blk_set HQB.out 4 (.int .i64 n)
            have hcs : Chg [Q] w2 (wr.setCell ⟨Q, 4, none⟩ (.int .i64 n)) := HR.out.setCell (.inl (by simp)) _
            have HN2 := hid (And.intro hset (And.intro hcs hw))
            clear hset hcs hw
            go_wp2_with fail
            go_roundg (gk - 1)
            case measure => have := HG.out; omega
            case rel => exact ⟨i + 1, k, ⟨W.a, W.b, W.c, n, W.name⟩, hid (by have := HG.out; omega), by go_num, by go_num, hid ⟨by omega, HN2.out.2.2, HN2.out.1⟩, hid HN2.out.2.1⟩
          · have e2 : ((S[i].toNat : Int) == 110) = false := by rw [hch, beq_eq_false_iff_ne]; intro h; exact h110 (UInt8.toNat_inj.1 (by exact Int.ofNat_inj.1 h))
            rw [if_neg h110] at hw
            have hcs : Chg [Q] w2 (wr.setCell ⟨Q, 5, none⟩ (.string name)) := HR.out.setCell (.inl (by simp)) _
            have hcz : Chg [] w (wr.setCell ⟨Q, 5, none⟩ (.string name)) := HC2.out.trans hcs (fun x hx => by rw [List.mem_singleton] at hx; subst hx; exact .inr HPQ.out.2)
            have hset := blk_set HQB.out 5 (.string name)
            have HCS := hid (And.intro hcs (And.intro hcz hset))
            have hnn := HN.out _ hcz
            clear hcs hcz hset
            by_cases hnm : nameP name.data.toList = true
            · rw [if_pos hnm] at hw
              rw [hnm] at hnn
              have HNN := hid hnn
              have HW := hid hw
              clear hnn hw hnm hch
              go_wp2_with (go_at_call 53; refine HNN.out.mono ?_; rintro e w5 ⟨rfl, hc5⟩; refine halt (fun XX hXX => ?_))
              have HZ := hid (And.intro (HCS.out.1.trans' hc5.nil) (hc5.heap HCS.out.2.2 (by simp)))
              clear hc5
              rw [hXX.out]; clear hXX XX
              go_wp2_with fail
              go_roundg (gk - 1)
              case measure => have := HG.out; omega
              case rel => exact ⟨i + 1, k, ⟨W.a, W.b, W.c, W.n, name⟩, hid (by have := HG.out; omega), by go_num, rfl, hid ⟨by omega, HW.out, HZ.out.2⟩, hid HZ.out.1⟩
            · rw [if_neg hnm] at hw
              have hnf : nameP name.data.toList = false := by simpa using hnm
              rw [hnf] at hnn
              have HNN := hid hnn
              have HFN : Hid (itemOk (⟨op, a, b, c, n, name, p1, p2, q1, q2⟩ : ItD) = false) := hid (by rw [HK.out, ← hw]; rfl)
              clear hnn hw hnm hch hnf
              go_wp2_with (go_at_call 53; refine HNN.out.mono ?_; rintro e w5 ⟨rfl, hc5⟩)
              go_ret
              exact ⟨by rw [HFN.out]; rfl, HCS.out.2.1.trans' hc5⟩
      · obtain rfl : i = S.size := by have := HG.out; omega
        have hw := HI.out.2.1
        rw [List.drop_of_length_le (by rw [HSZ.out]; exact Nat.le_refl _)] at hw
        unfold wantL at hw
        have hkk := HK.out
        rw [← hw] at hkk
        unfold wantEq at hkk
        simp only at hkk
        have hfc : Chg [] w wr := HC2.out.trans HR.out (fun x hx => by rw [List.mem_singleton] at hx; subst hx; exact .inr HPQ.out.2)
        have HKK := hid hkk
        have HFC := hid hfc
        clear hw hkk hfc
        by_cases g0 : a = W.a
        · have t0 : (a == W.a) = true := by simpa using g0
          by_cases g1 : b = W.b
          · have t1 : (b == W.b) = true := by simpa using g1
            by_cases g2 : c = W.c
            · have t2 : (c == W.c) = true := by simpa using g2
              by_cases g3 : n = W.n
              · have t3 : (n == W.n) = true := by simpa using g3
                have e5 : (name.toList == W.name.toList) = decide (name.data.toList = W.name.data.toList) := by rw [Lib.toList_data, Lib.toList_data]; exact beq_dec _ _
                have HKZ : Hid (itemOk (⟨op, a, b, c, n, name, p1, p2, q1, q2⟩ : ItD) = decide (name.data.toList = W.name.data.toList)) := hid (by rw [HKK.out, decide_eq_true g0, decide_eq_true g1, decide_eq_true g2, decide_eq_true g3]; simp)
                clear g0 g1 g2 g3
                by_cases g5 : name.data.toList = W.name.data.toList
                · rw [decide_eq_true g5] at e5 HKZ
                  clear g5
                  go_wp2
                  go_ret
                  exact ⟨by rw [HKZ.out]; rfl, HFC.out⟩
                · rw [decide_eq_false g5] at e5 HKZ
                  clear g5
                  go_wp2
                  go_ret
                  exact ⟨by rw [HKZ.out]; rfl, HFC.out⟩
              · have t3 : (n == W.n) = false := by simpa using g3
                have HFN : Hid (itemOk (⟨op, a, b, c, n, name, p1, p2, q1, q2⟩ : ItD) = false) := hid (by rw [HKK.out, decide_eq_false g3]; simp)
                clear g0 g1 g2 g3
                go_wp2
                go_ret
                exact ⟨by rw [HFN.out]; rfl, HFC.out⟩
            · have t2 : (c == W.c) = false := by simpa using g2
              have HFN : Hid (itemOk (⟨op, a, b, c, n, name, p1, p2, q1, q2⟩ : ItD) = false) := hid (by rw [HKK.out, decide_eq_false g2]; simp)
              clear g0 g1 g2
              go_wp2
              go_ret
              exact ⟨by rw [HFN.out]; rfl, HFC.out⟩
          · have t1 : (b == W.b) = false := by simpa using g1
            have HFN : Hid (itemOk (⟨op, a, b, c, n, name, p1, p2, q1, q2⟩ : ItD) = false) := hid (by rw [HKK.out, decide_eq_false g1]; simp)
            clear g0 g1
            go_wp2
            go_ret
            exact ⟨by rw [HFN.out]; rfl, HFC.out⟩
        · have t0 : (a == W.a) = false := by simpa using g0
          have HFN : Hid (itemOk (⟨op, a, b, c, n, name, p1, p2, q1, q2⟩ : ItD) = false) := hid (by rw [HKK.out, decide_eq_false g0]; simp)
          clear g0
          go_wp2
          go_ret
          exact ⟨by rw [HFN.out]; rfl, HFC.out⟩
end Go.Proofs.YtmahcabidggmeaaGreatDoor

/- The reference's test of a unit, walked. -/
set_option linter.unusedVariables false
set_option linter.unusedSectionVars false
set_option linter.unusedSimpArgs false
namespace Go.AB
open Go.RowKit
/-- The operations' numbers are of 64 bits. -/
def OpW (u : UnD) : Prop := ∀ b ∈ u.blocks, ∀ x ∈ b.items, -9223372036854775808 ≤ x.op ∧ x.op ≤ 9223372036854775807
theorem unit_good {u : UnD} (h1 : ∀ d ∈ u.decls, declOk d = true) (h2 : ∀ b ∈ u.blocks, blockOk b = true) : unitOk u = true := by
  unfold unitOk
  rw [Bool.and_eq_true, List.all_eq_true, List.all_eq_true]
  exact ⟨h1, h2⟩
theorem block_good {b : BkD} (h1 : nameP b.name.data.toList = true) (h2 : ∀ x ∈ b.items, itemOk x = true) : blockOk b = true := by
  unfold blockOk
  rw [Bool.and_eq_true, List.all_eq_true]
  exact ⟨h1, h2⟩
end Go.AB
namespace Go.Proofs.YtmahcabidggmeaaGreatDoor
open Go.RowKit Go.AB
set_option linter.unusedSimpArgs false
set_option linter.unusedVariables false
set_option linter.unusedSectionVars false

set_option maxHeartbeats 16000000 in
set_option maxRecDepth 100000 in
theorem r_valid_calls {v : Value} (u : UnD) (hu : SmallN u) (ho : OpW u) (w : World) (hvu : UnV w v u) (hv : VarsP w) : Calls Tryz.prog 27 #[v] w fun e w' => e = .returned (.bool (unitOk u)) ∧ Chg [] w w' := by
  obtain ⟨va0, va1, ts, rfl, a0, a1, a2, a3⟩ := id hvu
  obtain ⟨ax0, ak0, rfl, _⟩ := a0.len
  obtain ⟨ax1, ak1, rfl, _⟩ := a1.len
  obtain ⟨n0, hn0⟩ : ∃ n, u.decls.length = n := ⟨_, rfl⟩
  obtain ⟨n1, hn1⟩ : ∃ n, ts.length = n := ⟨_, rfl⟩
  have hd0 := hu.dl
  have hd1 := hu.bl
  rw [hn0] at hd0
  rw [← a2, List.length_map, hn1] at hd1
  have A0 := hid a0
  have A1 := hid a1
  have A2 := hid a2
  have A3 := hid a3
  have HU := hid hu
  have HO := hid ho
  have HV := hid hv
  have N0 := hid hn0
  have N1 := hid hn1
  rw [hn0, hn1]
  have HX := hid (heap_alloc_new w (.cells #[.slice ax0 n0 ak0, .slice ax1 n1 ak1] 25))
  have HC := hid ((Chg.refl [] w).alloc (.cells #[.slice ax0 n0 ak0, .slice ax1 n1 ak1] 25))
  clear hvu a0 a1 a2 a3 hu ho hv hn0 hn1
  go_enter Tryz.func27, Tryz.ntmps27
  go_upto_region 2 with fail
  obtain ⟨w1, hw1⟩ : ∃ w1, w.alloc (.cells #[.slice ax0 n0 ak0, .slice ax1 n1 ak1] 25) = w1 := ⟨_, rfl⟩
  obtain ⟨P, hP⟩ : ∃ P, w.heap.size = P := ⟨_, rfl⟩
  rw [hw1] at HX HC ⊢
  rw [hP] at HX ⊢
  clear hw1 hP
  go_loopg [3] n0 (fun gk v3 wr => ∃ i : Nat, v3 = .int .i64 i ∧ Hid (gk + i = n0) ∧ Hid (Chg [] w1 wr ∧ ∀ d ∈ u.decls.take i, declOk d = true))
  case atStart => exact ⟨0, rfl, hid (by omega), hid ⟨Chg.refl _ _, by simp⟩⟩
  case round =>
    obtain ⟨i, rfl, HG, HR⟩ := hrel
    have u0 : wr.cell? ⟨P, 0, none⟩ = some (.slice ax0 n0 ak0) := HR.out.1.cell (blk_cell HX.out 0) (by simp)
    by_cases hlt : i < n0
    · have hl1 : i < u.decls.length := by rw [N0.out]; exact hlt
      obtain ⟨b1, o1, e1, c1⟩ := (A0.out.keep (HC.out.trans' HR.out.1)).at dcC_len hl1 (by omega)
      have hmem := List.getElem_mem hl1
      have hsd := HU.out.ds _ hmem
      have hgood := fun h : declOk u.decls[i] = true => mem_take_at hl1 HR.out.2 h
      have hbad := fun h : declOk u.decls[i] = false => unit_bad_d hmem h
      obtain ⟨x, hx⟩ : ∃ x, u.decls[i] = x := ⟨_, rfl⟩
      rw [hx] at c1 hsd hgood hbad
      obtain ⟨kd, nm, vv, l, c⟩ := x
      subst e1
      have x0 : wr.cell? ⟨b1, o1 + i * 5, none⟩ = some (.int .i64 kd) := c1 0 (by omega)
      have x1 : wr.cell? ⟨b1, o1 + i * 5 + 1, none⟩ = some (.string nm) := c1 1 (by omega)
      have x2 : wr.cell? ⟨b1, o1 + i * 5 + 2, none⟩ = some (.int .i64 vv) := c1 2 (by omega)
      have x3 : wr.cell? ⟨b1, o1 + i * 5 + 3, none⟩ = some (.int .i64 l) := c1 3 (by omega)
      have x4 : wr.cell? ⟨b1, o1 + i * 5 + 4, none⟩ = some (.int .i64 c) := c1 4 (by omega)
      have HGD := hid hgood
      have HBD := hid hbad
      have HSD := hid hsd
      clear c1 hx hl1 hmem hsd hgood hbad
      go_upto_region 5 with fail
      obtain ⟨wa, hwa⟩ : ∃ wa, wr.alloc (.cells #[.int .i64 kd, .string nm, .int .i64 vv, .int .i64 l, .int .i64 c] 47) = wa := ⟨_, rfl⟩
      have hca : Chg [] wr wa := by rw [← hwa]; exact (Chg.refl [] wr).alloc _
      have hka := heap_alloc_new wr (.cells #[.int .i64 kd, .string nm, .int .i64 vv, .int .i64 l, .int .i64 c] 47)
      obtain ⟨A, hA⟩ : ∃ A, wr.heap.size = A := ⟨_, rfl⟩
      rw [hwa] at hka ⊢
      rw [hA] at hka ⊢
      have HKA := hid hka
      have HCA := hid (HR.out.1.trans' hca)
      have y0 : wa.cell? ⟨A, 0, none⟩ = some (.int .i64 kd) := blk_cell hka 0
      have y1 : wa.cell? ⟨A, 1, none⟩ = some (.string nm) := blk_cell hka 1
      have y2 : wa.cell? ⟨A, 2, none⟩ = some (.int .i64 vv) := blk_cell hka 2
      clear hwa hA hka hca x0 x1 x2 x3 x4 u0
      by_cases hk1 : 1 ≤ kd
      · have d1 : decide (kd < 1) = false := decide_eq_false (by omega)
        by_cases hk4 : kd ≤ 4
        · have d2 : decide ((4 : Int) < kd) = false := decide_eq_false (by omega)
          have HNM := hid (r_name_calls nm (by have := HSD.out.1; exact this) wa (HV.out.keep (HC.out.trans' HCA.out)))
          cases hnm : nameP nm.data.toList with
          | false =>
            rw [hnm] at HNM
            have HFN : Hid (unitOk u = false) := hid (HBD.out (by unfold declOk; rw [hnm]; simp))
            clear hnm
            go_wp2_with (go_at_call 53; refine HNM.out.mono ?_; rintro e w5 ⟨rfl, hc5⟩)
            go_ret
            exact ⟨by rw [HFN.out]; rfl, (HC.out.trans' HCA.out).trans' hc5⟩
          | true =>
            rw [hnm] at HNM
            have HNT := hid hnm
            clear hnm
            go_wp2_with (go_at_call 53; refine HNM.out.mono ?_; rintro e w5 ⟨rfl, hc5⟩; refine halt (fun XX hXX => ?_))
            have hk5 := hc5.heap HKA.out (by simp)
            have y0 : w5.cell? ⟨A, 0, none⟩ = some (.int .i64 kd) := blk_cell hk5 0
            have y2 : w5.cell? ⟨A, 2, none⟩ = some (.int .i64 vv) := blk_cell hk5 2
            have HC5 := hid (HCA.out.trans' hc5)
            clear hc5 hk5
            rw [hXX.out]; clear hXX XX
            by_cases hk3 : kd = 3
            · subst hk3
              by_cases hv0 : vv = 0
              · subst hv0
                have HOK := hid (HGD.out (by unfold declOk; rw [HNT.out]; rfl))
                go_wp2_with fail
                go_roundg (gk - 1)
                case measure => have := HG.out; omega
                case rel => exact ⟨i + 1, by go_num, hid (by have := HG.out; omega), hid ⟨HC5.out, HOK.out⟩⟩
              · have e1 : (vv != 0) = true := by simpa using hv0
                have HFN : Hid (unitOk u = false) := hid (HBD.out (by unfold declOk; rw [HNT.out]; simp [hv0]))
                go_wp2
                go_ret
                exact ⟨by rw [HFN.out]; rfl, HC.out.trans' HC5.out⟩
            · have e1 : (kd == 3) = false := by simpa using hk3
              have HOK := hid (HGD.out (by unfold declOk; rw [HNT.out, decide_eq_true (⟨hk1, hk4⟩ : 1 ≤ kd ∧ kd ≤ 4), decide_eq_true hk3]; rfl))
              go_wp2_with fail
              go_roundg (gk - 1)
              case measure => have := HG.out; omega
              case rel => exact ⟨i + 1, by go_num, hid (by have := HG.out; omega), hid ⟨HC5.out, HOK.out⟩⟩
        · have d2 : decide ((4 : Int) < kd) = true := decide_eq_true (by omega)
          have HFN : Hid (unitOk u = false) := hid (HBD.out (by unfold declOk; rw [decide_eq_false (fun h => hk4 h.2)]; rfl))
          go_wp2
          go_ret
          exact ⟨by rw [HFN.out]; rfl, HC.out.trans' HCA.out⟩
      · have d1 : decide (kd < 1) = true := decide_eq_true (by omega)
        have HFN : Hid (unitOk u = false) := hid (HBD.out (by unfold declOk; rw [decide_eq_false (fun h => hk1 h.1)]; rfl))
        go_wp2
        go_ret
        exact ⟨by rw [HFN.out]; rfl, HC.out.trans' HCA.out⟩
    · obtain rfl : i = n0 := by have := HG.out; omega
      have hall := HR.out.2
      rw [List.take_of_length_le (by rw [N0.out]; exact Nat.le_refl _)] at hall
      have HALL := hid hall
      have HR1 := hid (HC.out.trans' HR.out.1)
      have HX1 := hid (HR.out.1.heap HX.out (by simp))
      obtain ⟨w2, hw2⟩ : ∃ w2 : World, w2 = wr := ⟨_, rfl⟩
      rw [← hw2] at HR1 HX1 u0 ⊢
      clear hw2 hall HG HR
      go_upto_region 8 with fail
      clear u0
      go_loopg [5] n1 (fun gk v5 wr => ∃ j : Nat, v5 = .int .i64 j ∧ Hid (gk + j = n1) ∧ Hid (Chg [] w2 wr ∧ ∀ b ∈ u.blocks.take j, blockOk b = true))
      case atStart => exact ⟨0, rfl, hid (by omega), hid ⟨Chg.refl _ _, by simp⟩⟩
      case round =>
        obtain ⟨j, rfl, HG, HR⟩ := hrel
        have u1 : wr.cell? ⟨P, 1, none⟩ = some (.slice ax1 n1 ak1) := HR.out.1.cell (blk_cell HX1.out 1) (by simp)
        by_cases hlj : j < n1
        · have hl1 : j < ts.length := by rw [N1.out]; exact hlj
          have hl2 : j < u.blocks.length := by rw [← A2.out, List.length_map]; exact hl1
          have hbj : u.blocks[j] = ts[j].b := by simp only [← A2.out, List.getElem_map]
          have hmem := List.getElem_mem hl2
          have hc12 := HR1.out.trans' HR.out.1
          obtain ⟨b1, o1, e1, c1⟩ := (A1.out.keep hc12).at bkC_len hl1 (by omega)
          have hi1 := A3.out _ (List.getElem_mem hl1)
          have hil := HU.out.il _ hmem
          have hnm := HU.out.bn _ hmem
          have hsi := HU.out.is _ hmem
          have hop := HO.out _ hmem
          have hgood := fun h : blockOk u.blocks[j] = true => mem_take_at hl2 HR.out.2 h
          have hbad := fun h : blockOk u.blocks[j] = false => unit_bad_b hmem h
          rw [hbj] at hil hnm hsi hop hgood hbad
          obtain ⟨x, hx⟩ : ∃ x, ts[j] = x := ⟨_, rfl⟩
          rw [hx] at c1 hi1 hil hnm hsi hop hgood hbad
          obtain ⟨⟨nm, xi, l, c⟩, xv⟩ := x
          simp only at hi1 hil hnm hsi hop hgood hbad
          obtain ⟨dx, kx, rfl, _⟩ := hi1.len
          subst e1
          obtain ⟨N, hN⟩ : ∃ N, xi.length = N := ⟨_, rfl⟩
          have x0 : wr.cell? ⟨b1, o1 + j * 4, none⟩ = some (.string nm) := c1 0 (by omega)
          have x1 : wr.cell? ⟨b1, o1 + j * 4 + 1, none⟩ = some (.slice dx N kx) := by rw [← hN]; exact c1 1 (by omega)
          rw [hN] at hil hi1
          have HI := hid (And.intro hi1 (And.intro hN (And.intro hsi hop)))
          have HGD := hid hgood
          have HBD := hid hbad
          have HNM := hid (r_name_calls nm hnm wr (HV.out.keep hc12))
          have HBX : Hid (∀ W, Chg [] wr W → W.cell? ⟨b1, o1 + j * 4 + 1, none⟩ = some (.slice dx N kx)) := hid fun W hc => hc.cell x1 (by simp)
          have HC12 := hid hc12
          clear c1 hx hl1 hl2 hbj hmem hi1 hN hsi hop hgood hbad hnm hc12 x1
          cases hnm : nameP nm.data.toList with
          | false =>
            rw [hnm] at HNM
            have HFN : Hid (unitOk u = false) := hid (HBD.out (block_bad_n hnm))
            clear hnm
            go_wp2_with (go_at_call 53; refine HNM.out.mono ?_; rintro e w5 ⟨rfl, hc5⟩)
            go_ret
            exact ⟨by rw [HFN.out]; rfl, HC12.out.trans' hc5⟩
          | true =>
            rw [hnm] at HNM
            have HNT := hid hnm
            clear hnm
            go_wp2_with (go_at_call 53; refine HNM.out.mono ?_; rintro e w5 ⟨rfl, hc5⟩; refine halt (fun XX hXX => ?_))
            have HC5 := hid (HC12.out.trans' hc5)
            have HR5 := hid (HR.out.1.trans' hc5)
            have HX5 := hid ((HR.out.1.trans' hc5).heap HX1.out (by simp))
            have HB5 := hid hc5
            clear hc5 x0 u1
            rw [hXX.out]; clear hXX XX
            go_upto_region 13 with fail
            obtain ⟨gj, hgj⟩ : ∃ x, x = gk := ⟨_, rfl⟩
            rw [← hgj] at HG
            obtain ⟨wo, hwo⟩ : ∃ wo : World, wo = wr := ⟨_, rfl⟩
            rw [← hwo] at HBX HB5 HC12 HR
            clear hwo
            go_loopg [6] N (fun gk v6 wr => ∃ k : Nat, v6 = .int .i64 k ∧ Hid (gk + k = N) ∧ Hid (Chg [] w5 wr ∧ ∀ x ∈ xi.take k, itemOk x = true))
            case atStart => exact ⟨0, rfl, hid (by omega), hid ⟨Chg.refl _ _, by simp⟩⟩
            case round =>
              obtain ⟨k, rfl, HG2, HR2⟩ := hrel
              have u1 : wr.cell? ⟨P, 1, none⟩ = some (.slice (some ⟨b1, o1, none⟩) n1 ak1) := HR2.out.1.cell (blk_cell HX5.out 1) (by simp)
              have v1 := HBX.out _ (HB5.out.trans' HR2.out.1)
              by_cases hlk : k < N
              · have hl1 : k < xi.length := by rw [HI.out.2.1]; exact hlk
                have hc13 := HC5.out.trans' HR2.out.1
                obtain ⟨b3, o3, e3, c3⟩ := (Lst.keep (show Lst itC 10 w (.slice dx N kx) xi from HI.out.1) hc13).at itC_len hl1 (by omega)
                have hmi := List.getElem_mem hl1
                have hsi := HI.out.2.2.1 _ hmi
                have hopi := HI.out.2.2.2 _ hmi
                have hgi := fun h : itemOk xi[k] = true => mem_take_at hl1 HR2.out.2 h
                have hbi := fun h : itemOk xi[k] = false => HBD.out (block_bad_i (b := ⟨nm, xi, l, c⟩) hmi h)
                obtain ⟨x, hx⟩ : ∃ x, xi[k] = x := ⟨_, rfl⟩
                rw [hx] at c3 hsi hopi hgi hbi
                have hit := r_item_calls x hsi hopi wr (HV.out.keep hc13)
                obtain ⟨Xop, Xa, Xb, Xc, Xn, Xname, Xp1, Xp2, Xq1, Xq2⟩ := x
                subst e3
                have z0 : wr.cell? ⟨b3, o3 + k * 10, none⟩ = some (.int .i64 Xop) := c3 0 (by omega)
                have z1 : wr.cell? ⟨b3, o3 + k * 10 + 1, none⟩ = some (.int .i64 Xa) := c3 1 (by omega)
                have z2 : wr.cell? ⟨b3, o3 + k * 10 + 2, none⟩ = some (.int .i64 Xb) := c3 2 (by omega)
                have z3 : wr.cell? ⟨b3, o3 + k * 10 + 3, none⟩ = some (.int .i64 Xc) := c3 3 (by omega)
                have z4 : wr.cell? ⟨b3, o3 + k * 10 + 4, none⟩ = some (.int .i64 Xn) := c3 4 (by omega)
                have z5 : wr.cell? ⟨b3, o3 + k * 10 + 5, none⟩ = some (.string Xname) := c3 5 (by omega)
                have z6 : wr.cell? ⟨b3, o3 + k * 10 + 6, none⟩ = some (.int .i64 Xp1) := c3 6 (by omega)
                have z7 : wr.cell? ⟨b3, o3 + k * 10 + 7, none⟩ = some (.int .i64 Xp2) := c3 7 (by omega)
                have z8 : wr.cell? ⟨b3, o3 + k * 10 + 8, none⟩ = some (.int .i64 Xq1) := c3 8 (by omega)
                have z9 : wr.cell? ⟨b3, o3 + k * 10 + 9, none⟩ = some (.int .i64 Xq2) := c3 9 (by omega)
                have hit2 : Calls Tryz.prog 54 #[.agg #[.int .i64 Xop, .int .i64 Xa, .int .i64 Xb, .int .i64 Xc, .int .i64 Xn, .string Xname, .int .i64 Xp1, .int .i64 Xp2, .int .i64 Xq1, .int .i64 Xq2]] wr fun e w' => e = .returned (.bool (itemOk (⟨Xop, Xa, Xb, Xc, Xn, Xname, Xp1, Xp2, Xq1, Xq2⟩ : ItD))) ∧ Chg [] wr w' := hit
                have HGI := hid hgi
                have HBI := hid hbi
                have HC13 := hid hc13
                cases hok : itemOk (⟨Xop, Xa, Xb, Xc, Xn, Xname, Xp1, Xp2, Xq1, Xq2⟩ : ItD) with
                | false =>
                  rw [hok] at hit2
                  have HIT := hid hit2
                  have HFN : Hid (unitOk u = false) := hid (HBI.out hok)
                  clear c3 hx hl1 hc13 hmi hsi hopi hgi hbi hit hit2 hok
                  go_wp2_with (go_at_call 54; refine HIT.out.mono ?_; rintro e w6 ⟨rfl, hc6⟩)
                  go_ret
                  exact ⟨by rw [HFN.out]; rfl, HC13.out.trans' hc6⟩
                | true =>
                  rw [hok] at hit2
                  have HIT := hid hit2
                  have HNX := hid (HGI.out hok)
                  clear c3 hx hl1 hc13 hmi hsi hopi hgi hbi hit hit2 hok
                  go_wp2_with (go_at_call 54; refine HIT.out.mono ?_; rintro e w6 ⟨rfl, hc6⟩)
                  go_roundg (gk - 1)
                  case measure => have := HG2.out; omega
                  case rel => exact ⟨k + 1, by go_num, hid (by have := HG2.out; omega), hid ⟨HR2.out.1.trans' hc6, HNX.out⟩⟩
              · obtain rfl : k = N := by have := HG2.out; omega
                have hall := HR2.out.2
                rw [List.take_of_length_le (by rw [HI.out.2.1]; exact Nat.le_refl _)] at hall
                have HNX := hid (HGD.out (block_good (b := ⟨nm, xi, l, c⟩) HNT.out hall))
                have HZ := hid (HR5.out.trans' HR2.out.1)
                clear hall
                go_wp2_with fail
                go_roundg (gj - 1)
                case measure => have := HG.out; omega
                case rel => exact ⟨j + 1, by go_num, hid (by have := HG.out; omega), hid ⟨HZ.out, HNX.out⟩⟩
        · obtain rfl : j = n1 := by have := HG.out; omega
          have hall2 := HR.out.2
          rw [List.take_of_length_le (by rw [← A2.out, List.length_map, N1.out]; exact Nat.le_refl _)] at hall2
          have HFN : Hid (unitOk u = true) := hid (unit_good HALL.out hall2)
          clear hall2
          go_wp2
          go_ret
          exact ⟨by rw [HFN.out]; rfl, HR1.out.trans' HR.out.1⟩
end Go.Proofs.YtmahcabidggmeaaGreatDoor

/- The reference's text of an Item, walked. -/
set_option linter.unusedVariables false
set_option linter.unusedSectionVars false
set_option linter.unusedSimpArgs false
namespace Go.AB
open Go.RowKit
theorem itoa_short (n : Int) (h0 : -9223372036854775808 ≤ n) (h1 : n ≤ 9223372036854775807) : (Lib.itoa n).length ≤ 21 := Lib.itoa_length_le n h0 h1
theorem opersS_step {F : List UInt8} {i : Nat} (h : i < F.length) (x : ItD) : opersS (F.drop i) i x = (if i = 0 then [32] else [44, 32]) ++ operS F[i] i x ++ opersS (F.drop (i + 1)) (i + 1) x := by
  rw [List.drop_eq_getElem_cons h]
  rfl
theorem operS_n (k : Nat) (x : ItD) : operS 110 k x = Lib.itoa x.n := by unfold operS; rw [if_neg (by decide), if_pos rfl]; rfl
theorem operS_x {c : UInt8} (h1 : c ≠ 114) (h2 : c ≠ 110) (k : Nat) (x : ItD) : operS c k x = x.name.data.toList := by unfold operS; rw [if_neg h1, if_neg h2]
end Go.AB
namespace Go.Proofs.YtmahcabidggmeaaGreatDoor
open Go.RowKit Go.AB
set_option linter.unusedSimpArgs false
set_option linter.unusedVariables false
set_option linter.unusedSectionVars false

set_option maxHeartbeats 16000000 in
set_option maxRecDepth 100000 in
theorem r_written_calls (x : ItD) (hx : SmallI x) (ho : -9223372036854775808 ≤ x.op ∧ x.op ≤ 9223372036854775807) (w : World) (hv : VarsP w) : Calls Tryz.prog 29 #[.agg (itC x).toArray] w fun e w' => e = .returned (.string (bA (itemS x ++ [10]))) ∧ Chg [] w w' := by
  have HFM := hid fun W => r_form_calls x.op ho.1 ho.2 W
  have HRG := hid fun (k : Nat) (hk : k < 3) W (hc : Chg [] w W) => itoaI_calls (regOf x k) (hx.rg k hk).1 (hx.rg k hk).2 W (hv.keep hc)
  have HNN := hid fun W (hc : Chg [] w W) => itoaI_calls x.n hx.n0 hx.n1 W (hv.keep hc)
  have HRL := hid fun (k : Nat) (hk : k < 3) => itoa_short (regOf x k) (hx.rg k hk).1 (hx.rg k hk).2
  have hnl := itoa_short x.n hx.n0 hx.n1
  have hml : (formAt x.op).length ≤ 3 := forms_len _ (form_mem _)
  have hwl : (wordAt x.op).length ≤ 20 := by have := word_len x.op; omega
  have hnm := hx.nm
  obtain ⟨X, hX⟩ : ∃ X, x = X := ⟨_, rfl⟩
  obtain ⟨op, a, b, c, n, name, p1, p2, q1, q2⟩ := x
  simp only at HFM HNN hnl hml hwl hnm
  unfold FormP at HFM
  have HB := hid (heap_alloc_new w (.cells #[.int .i64 op, .int .i64 a, .int .i64 b, .int .i64 c, .int .i64 n, .string name, .int .i64 p1, .int .i64 p2, .int .i64 q1, .int .i64 q2] 53))
  have HCA := hid ((Chg.refl [] w).alloc (.cells #[.int .i64 op, .int .i64 a, .int .i64 b, .int .i64 c, .int .i64 n, .string name, .int .i64 p1, .int .i64 p2, .int .i64 q1, .int .i64 q2] 53))
  rw [hX] at HRG HRL ⊢
  have HX := hid hX
  clear hv ho hx hX
  show Calls _ _ #[.agg (itC X).toArray] _ _
  rw [show (itC X).toArray = #[.int .i64 op, .int .i64 a, .int .i64 b, .int .i64 c, .int .i64 n, .string name, .int .i64 p1, .int .i64 p2, .int .i64 q1, .int .i64 q2] from by rw [← HX.out]; rfl]
  by_cases h0 : op = 0
  · have e1 : (op == 0) = true := by simpa using h0
    have hres : bA (itemS X ++ [10]) = name ++ ⟨#[58, 10]⟩ := by
      rw [← HX.out]
      unfold itemS
      simp only [if_pos h0]
      apply ByteArray.ext
      simp [bA]
    have HRS := hid hres
    have hsz : ¬ (9223372036854775807 < name.size + 2) := by omega
    clear h0 hres
    go_enter Tryz.func29, Tryz.ntmps29
    go_wp2
    go_ret
    exact ⟨by rw [HRS.out]; rfl, HCA.out⟩
  · have e1 : (op == 0) = false := by simpa using h0
    have hres : itemS X = [32, 32] ++ wordAt op ++ opersS (formAt op) 0 X := by
      rw [← HX.out]
      unfold itemS
      simp only [if_neg h0]
    rw [hres]
    obtain ⟨WL, hWL⟩ : ∃ W, wordAt op = W := ⟨_, rfl⟩
    obtain ⟨F, hF⟩ : ∃ F, formAt op = F := ⟨_, rfl⟩
    rw [hWL, hF] at HFM ⊢
    rw [hF] at hml
    rw [hWL] at hwl
    have hWz : (bA WL).size ≤ 20 := by rw [bA_size]; exact hwl
    obtain ⟨WB, hWB⟩ : ∃ W, bA WL = W := ⟨_, rfl⟩
    have hWBl : WB.data.toList = WL := by rw [← hWB]; simp [bA]
    obtain ⟨S, hS⟩ : ∃ S, bA F = S := ⟨_, rfl⟩
    have hSz : S.size = F.length := by rw [← hS]; exact bA_size F
    have HSG : Hid (∀ i (h1 : i < S.size) (h2 : i < F.length), S[i] = F[i]) := hid (fun i h1 h2 => by subst hS; rfl)
    have HSZ := hid hSz
    have hS3 : S.size ≤ 3 := by omega
    rw [hWB, hS] at HFM
    rw [hWB] at hWz
    have HWB := hid hWBl
    obtain ⟨T, hT⟩ : ∃ T, [32, 32] ++ WL ++ opersS F 0 X = T := ⟨_, rfl⟩
    rw [hT]
    have HT := hid hT
    have hg0 : ¬ (9223372036854775807 < 2 + WB.size) := by omega
    have hreg : regOf X 0 = a ∧ regOf X 1 = b ∧ regOf X 2 = c := by rw [← HX.out]; exact ⟨rfl, rfl, rfl⟩
    have HREG := hid hreg
    have hX5 : X.name = name ∧ X.n = n := by rw [← HX.out]; exact ⟨rfl, rfl⟩
    have HX5 := hid hX5
    clear h0 hres hWL hF hml hwl hWB hWBl hS hSz hT hreg hX5
    go_enter Tryz.func29, Tryz.ntmps29
    go_upto_region 1 with fail
    obtain ⟨wA, hwA⟩ : ∃ wA, w.alloc (.cells #[.int .i64 op, .int .i64 a, .int .i64 b, .int .i64 c, .int .i64 n, .string name, .int .i64 p1, .int .i64 p2, .int .i64 q1, .int .i64 q2] 53) = wA := ⟨_, rfl⟩
    obtain ⟨P, hP⟩ : ∃ P, w.heap.size = P := ⟨_, rfl⟩
    rw [hwA] at HB HCA ⊢
    rw [hP] at HB ⊢
    clear hwA hP
    have u0 : wA.cell? ⟨P, 0, none⟩ = some (.int .i64 op) := blk_cell HB.out 0
    go_wp2_with (go_at_call 56; refine (HFM.out _).mono ?_; rintro e w1 ⟨rfl, hc1⟩; refine halt (fun XX hXX => ?_))
    have HC1 := hid (HCA.out.trans' hc1)
    have HB1 := hid (hc1.heap HB.out (by simp))
    have u1 : w1.cell? ⟨P, 1, none⟩ = some (.int .i64 a) := blk_cell HB1.out 1
    have u2 : w1.cell? ⟨P, 2, none⟩ = some (.int .i64 b) := blk_cell HB1.out 2
    have u3 : w1.cell? ⟨P, 3, none⟩ = some (.int .i64 c) := blk_cell HB1.out 3
    clear hc1 HB u0
    rw [hXX.out]; clear hXX XX
    go_upto_region 7 with fail
    obtain ⟨w2, hw2⟩ : ∃ w2, w1.alloc (.cells #[.int .i64 a, .int .i64 b, .int .i64 c] 3) = w2 := ⟨_, rfl⟩
    have hc2 := (Chg.refl [] w1).alloc (.cells #[.int .i64 a, .int .i64 b, .int .i64 c] 3)
    have hb2 := heap_alloc_new w1 (.cells #[.int .i64 a, .int .i64 b, .int .i64 c] 3)
    obtain ⟨B, hB⟩ : ∃ B, w1.heap.size = B := ⟨_, rfl⟩
    rw [hw2] at hc2 hb2
    rw [hB] at hb2
    try rw [hw2]
    try rw [hB]
    have HC2 := hid (HC1.out.trans' hc2)
    have HB2 := hid (hc2.heap HB1.out (by simp))
    have HBB := hid hb2
    clear hw2 hB hc2 hb2 u1 u2 u3 HB1 HC1
    obtain ⟨s0, hs0⟩ : ∃ s0, (⟨#[32, 32]⟩ : ByteArray) ++ WB = s0 := ⟨_, rfl⟩
    have hs0z : s0.size ≤ 22 := by rw [← hs0, ByteArray.size_append]; show 2 + WB.size ≤ 22; omega
    have hs0l : s0.data.toList ++ opersS (F.drop 0) 0 X = T := by rw [← HT.out, ← hs0, ← HWB.out]; simp
    have HS0 := hid hs0l
    try rw [hs0]
    clear hs0 hs0l
    go_loopg [5, 7] S.size (fun gk v5 v7 wr => ∃ (i : Nat) (s5 : ByteArray), Hid (gk + i = S.size) ∧ v7 = .int .i64 i ∧ v5 = .string s5 ∧ s5.size ≤ 22 + i * 1048700 ∧ Hid (s5.data.toList ++ opersS (F.drop i) i X = T) ∧ Hid (Chg [] w2 wr))
    case atStart => exact ⟨0, s0, hid (by omega), rfl, rfl, by omega, HS0, hid (Chg.refl _ _)⟩
    case round =>
      obtain ⟨i, s5, HG, rfl, rfl, hz, HS, HR⟩ := hrel
      by_cases hlt : i < S.size
      · have hlF : i < F.length := by rw [← HSZ.out]; exact hlt
        have hst := HS.out
        rw [opersS_step hlF, ← HSG.out i hlt hlF] at hst
        obtain ⟨ch, hch⟩ : ∃ ch, S[i] = ch := ⟨_, rfl⟩
        rw [hch] at hst
        obtain ⟨s6, hs6⟩ : ∃ s6 : ByteArray, (if i = 0 then s5 ++ (⟨#[32]⟩ : ByteArray) else s5 ++ (⟨#[44, 32]⟩ : ByteArray)) = s6 := ⟨_, rfl⟩
        have hs6z : s6.size ≤ s5.size + 2 := by
          rw [← hs6]
          split
          · rw [ByteArray.size_append]; show s5.size + 1 ≤ _; omega
          · rw [ByteArray.size_append]; show s5.size + 2 ≤ _; omega
        have hs6l : s6.data.toList ++ operS ch i X ++ opersS (F.drop (i + 1)) (i + 1) X = T := by
          rw [← hst, ← hs6]
          split <;> simp
        have HS6 := hid (And.intro hs6 hs6l)
        have hg1 : ¬ (9223372036854775807 < s5.size + 1) := by omega
        have hg2 : ¬ (9223372036854775807 < s5.size + 2) := by omega
        have hi3 : i < 3 := by omega
        have hpb := HR.out.heap HB2.out (by simp)
        have hbb := HR.out.heap HBB.out (by simp)
        have HPB := hid hpb
        have HCH := hid hch
        have HCW := hid (HC2.out.trans' HR.out)
        have hrc : wr.cell? ⟨B, i, none⟩ = some (.int .i64 (regOf X i)) := by
          have h := blk_cell hbb i
          rcases (by omega : i = 0 ∨ i = 1 ∨ i = 2) with rfl | rfl | rfl
          · rw [h, HREG.out.1]; rfl
          · rw [h, HREG.out.2.1]; rfl
          · rw [h, HREG.out.2.2]; rfl
        have x4 : wr.cell? ⟨P, 4, none⟩ = some (.int .i64 n) := blk_cell hpb 4
        have x5 : wr.cell? ⟨P, 5, none⟩ = some (.string name) := blk_cell hpb 5
        clear hlF hst hs6 hs6l hpb hbb hch
        go_upto_region 9 with fail
        go_upto_if 36 with fail
        go_cut [5] (fun v wx => v = .string s6 ∧ wr = wx)
        case first =>
          by_cases h0 : i = 0
          · subst h0
            go_wp2_with fail
            go_meet
            exact ⟨by rw [← HS6.out.1] <;> rfl, rfl⟩
          · have k1 : ((i : Int) == 0) = false := by simpa using h0
            have k2 : decide ((i : Int) = 0) = false := decide_eq_false (by omega)
            have HH := hid h0
            go_wp2_with fail
            go_meet
            exact ⟨by rw [← HS6.out.1, if_neg HH.out] <;> rfl, rfl⟩
        case rest =>
        obtain ⟨rfl, rfl⟩ := hcut
        have hs6l := HS6.out.2
        have HGi := hid (And.intro hi3 hg1)
        by_cases h114 : ch = 114
        · subst h114
          have e2 : ((S[i].toNat : Int) == 114) = true := by rw [HCH.out]; rfl
          rw [operS_reg] at hs6l
          have hrl := HRL.out i hi3
          have hrg := HRG.out i hi3 wr HCW.out
          obtain ⟨D, hD⟩ : ∃ D, Lib.itoa (regOf X i) = D := ⟨_, rfl⟩
          rw [hD] at hs6l hrl hrg
          obtain ⟨DB, hDB⟩ : ∃ DB, bA D = DB := ⟨_, rfl⟩
          rw [hDB] at hrg
          have hDl : DB.data.toList = D := by rw [← hDB]; simp [bA]
          have hDz : DB.size ≤ 21 := by rw [← hDB, bA_size]; exact hrl
          have HRG2 := hid hrg
          have hg5 : ¬ (9223372036854775807 < s6.size + 1) := by omega
          have hg6 : ¬ (9223372036854775807 < s6.size + 1 + DB.size) := by omega
          have hi4 : (i : Int) < 3 := by omega
          have hnew : (s6 ++ (⟨#[114]⟩ : ByteArray) ++ DB).data.toList ++ opersS (F.drop (i + 1)) (i + 1) X = T := by rw [← hs6l, ← hDl]; simp
          have hnz : (s6 ++ (⟨#[114]⟩ : ByteArray) ++ DB).size ≤ 22 + (i + 1) * 1048700 := by
            rw [ByteArray.size_append, ByteArray.size_append]; show s6.size + 1 + DB.size ≤ _; omega
          have HNW := hid (And.intro hnew hnz)
          clear hs6l hrl hrg hD hDB hDl hnew hnz
          go_wp2_with (go_at_call 28; refine HRG2.out.mono ?_; rintro e w5 ⟨rfl, hc5⟩)
          go_roundg (gk - 1)
          case measure => have := HG.out; omega
          case rel => exact ⟨i + 1, _, hid (by have := HG.out; omega), by go_num, rfl, HNW.out.2, hid HNW.out.1, hid (HR.out.trans' hc5)⟩
        · have e2 : ((S[i].toNat : Int) == 114) = false := by rw [HCH.out, beq_eq_false_iff_ne]; intro h; exact h114 (UInt8.toNat_inj.1 (by exact Int.ofNat_inj.1 h))
          by_cases h110 : ch = 110
          · subst h110
            have e3 : ((S[i].toNat : Int) == 110) = true := by rw [HCH.out]; rfl
            rw [operS_n, HX5.out.2] at hs6l
            have hrg := HNN.out wr HCW.out
            obtain ⟨D, hD⟩ : ∃ D, Lib.itoa n = D := ⟨_, rfl⟩
            rw [hD] at hs6l hrg
            have hrl : D.length ≤ 21 := by rw [← hD]; exact hnl
            obtain ⟨DB, hDB⟩ : ∃ DB, bA D = DB := ⟨_, rfl⟩
            rw [hDB] at hrg
            have hDl : DB.data.toList = D := by rw [← hDB]; simp [bA]
            have hDz : DB.size ≤ 21 := by rw [← hDB, bA_size]; exact hrl
            have HRG2 := hid hrg
            have hg5 : ¬ (9223372036854775807 < s6.size + DB.size) := by omega
            have hnew : (s6 ++ DB).data.toList ++ opersS (F.drop (i + 1)) (i + 1) X = T := by rw [← hs6l, ← hDl]; simp
            have hnz : (s6 ++ DB).size ≤ 22 + (i + 1) * 1048700 := by rw [ByteArray.size_append]; omega
            have HNW := hid (And.intro hnew hnz)
            clear hs6l hrl hrg hD hDB hDl hnew hnz h114
            go_wp2_with (go_at_call 28; refine HRG2.out.mono ?_; rintro e w5 ⟨rfl, hc5⟩)
            go_roundg (gk - 1)
            case measure => have := HG.out; omega
            case rel => exact ⟨i + 1, _, hid (by have := HG.out; omega), by go_num, rfl, HNW.out.2, hid HNW.out.1, hid (HR.out.trans' hc5)⟩
          · have e3 : ((S[i].toNat : Int) == 110) = false := by rw [HCH.out, beq_eq_false_iff_ne]; intro h; exact h110 (UInt8.toNat_inj.1 (by exact Int.ofNat_inj.1 h))
            rw [operS_x h114 h110, HX5.out.1] at hs6l
            have hg5 : ¬ (9223372036854775807 < s6.size + name.size) := by omega
            have hnew : (s6 ++ name).data.toList ++ opersS (F.drop (i + 1)) (i + 1) X = T := by rw [← hs6l]; simp
            have hnz : (s6 ++ name).size ≤ 22 + (i + 1) * 1048700 := by rw [ByteArray.size_append]; omega
            have HNW := hid (And.intro hnew hnz)
            clear hs6l hnew hnz h114 h110
            go_wp2_with fail
            go_roundg (gk - 1)
            case measure => have := HG.out; omega
            case rel => exact ⟨i + 1, _, hid (by have := HG.out; omega), by go_num, rfl, HNW.out.2, hid HNW.out.1, HR⟩
      · obtain rfl : i = S.size := by have := HG.out; omega
        have hfin := HS.out
        rw [List.drop_of_length_le (by rw [HSZ.out]; exact Nat.le_refl _)] at hfin
        have hfin2 : bA (T ++ [10]) = s5 ++ ⟨#[10]⟩ := by
          rw [← hfin]
          unfold opersS
          rw [List.append_nil]
          exact (bA_eq (by simp)).symm
        have HFN := hid hfin2
        have hg1 : ¬ (9223372036854775807 < s5.size + 1) := by omega
        clear hfin hfin2
        go_wp2
        go_ret
        exact ⟨by rw [HFN.out]; rfl, HC2.out.trans' HR.out⟩
end Go.Proofs.YtmahcabidggmeaaGreatDoor

/- The reference's Print, walked. (Printed by gen_rprint.py.) -/
set_option linter.unusedVariables false
set_option linter.unusedSectionVars false
set_option linter.unusedSimpArgs false
namespace Go.AB
open Go.RowKit
def strL (l : List UInt8) : List Value := [.string (bA l)]
theorem strL_len (l : List UInt8) : (strL l).length = 1 := rfl
theorem strL_flat (l : List (List UInt8)) : l.flatMap strL = l.map fun s => Value.string (bA s) := by
  induction l with
  | nil => rfl
  | cons x l ih => rw [List.flatMap_cons, ih]; rfl
def lnF (l : List UInt8) : List UInt8 := l ++ [10]
theorem kindTab_at (k : Int) (h1 : 1 ≤ k) (h4 : k ≤ 4) : (k = 1 ∧ (kindTab[(k - 1).toNat]?).getD [] = [118, 97, 114]) ∨ (k = 2 ∧ (kindTab[(k - 1).toNat]?).getD [] = [118, 111, 108]) ∨ (k = 3 ∧ (kindTab[(k - 1).toNat]?).getD [] = [109, 117, 116, 101, 120]) ∨ (k = 4 ∧ (kindTab[(k - 1).toNat]?).getD [] = [103, 97, 116, 101]) := by
  rcases (by omega : k = 1 ∨ k = 2 ∨ k = 3 ∨ k = 4) with rfl | rfl | rfl | rfl
  · exact .inl ⟨rfl, rfl⟩
  · exact .inr (.inl ⟨rfl, rfl⟩)
  · exact .inr (.inr (.inl ⟨rfl, rfl⟩))
  · exact .inr (.inr (.inr ⟨rfl, rfl⟩))
/-- What stands ahead of a declaration's value. -/
def preD (d : DcD) : List UInt8 := (kindTab[(d.kind - 1).toNat]?).getD [] ++ [32] ++ d.name.data.toList
theorem declS_3 {d : DcD} (h : d.kind = 3) : declS d = preD d := by unfold declS preD; rw [if_pos h, List.append_nil]
theorem declS_n {d : DcD} (h : d.kind ≠ 3) : declS d = preD d ++ ([32, 61, 32] ++ Lib.itoa d.val) := by unfold declS preD; rw [if_neg h]; rfl
theorem take_map_succ {α β : Type} {f : α → β} {l : List α} {i : Nat} (h : i < l.length) : (l.take (i + 1)).map f = (l.take i).map f ++ [f l[i]] := by
  rw [List.take_succ_eq_append_getElem h, List.map_append]
  rfl
end Go.AB
namespace Go.Proofs.YtmahcabidggmeaaGreatDoor
open Go.RowKit Go.AB
set_option linter.unusedSimpArgs false
set_option linter.unusedVariables false
set_option linter.unusedSectionVars false

/-- A list of texts, in memory of its own. -/
def SL (w0 wr : World) (ao : Option Addr) (cap : Nat) (r : Option Nat) (m : Nat) (acc : List (List UInt8)) : Prop :=
  Row wr 9 1 (.slice ao m cap) r m (acc.map fun s => Value.string (bA s)) ∧ Fresh w0 none r ∧ Chg [] w0 wr
theorem SL.keep {w0 wr wx : World} {ao : Option Addr} {cap : Nat} {r : Option Nat} {m : Nat} {acc : List (List UInt8)} (h : SL w0 wr ao cap r m acc) (hc : Chg [] wr wx) : SL w0 wx ao cap r m acc := ⟨h.1.keep hc (by simp), h.2.1, h.2.2.trans' hc⟩
theorem SL.more {w0 wr wx w2 : World} {ao ao2 : Option Addr} {cap cap2 : Nat} {r r2 : Option Nat} {m : Nat} {acc : List (List UInt8)} {s : List UInt8} {S : ByteArray} (h : SL w0 wr ao cap r m acc) (hc : Chg [] wr wx) (hr2 : Row w2 9 1 (.slice ao2 (m + 1) cap2) r2 (m + 1) ((acc.map fun s => Value.string (bA s)) ++ [.string S])) (hS : S = bA s) (hg : Grew wx w2 r r2) : SL w0 w2 ao2 cap2 r2 (m + 1) (acc ++ [s]) := by
  subst hS
  refine ⟨by rw [List.map_append]; exact hr2, h.2.1.trans (Nat.le_trans h.2.2.size hc.size) hg.fresh, (h.2.2.trans' hc).trans hg.chg (fun x hx => ?_)⟩
  have := h.2.1 x (by simpa using hx)
  exact .inr (this.resolve_left (by simp))
set_option maxHeartbeats 16000000 in
set_option maxRecDepth 100000 in
theorem r_print_calls {v : Value} (u : UnD) (hu : SmallN u) (ho : OpW u) (w : World) (hvu : UnV w v u) (hv : VarsP w) : Calls Tryz.prog 12 #[v] w (PrnP w (printD u)) := by
  have HVL := hid fun W (hc : Chg [] w W) => r_valid_calls u hu ho W (hvu.keep hc) (hv.keep hc)
  obtain ⟨va0, va1, ts, rfl, a0, a1, a2, a3⟩ := id hvu
  obtain ⟨ax0, ak0, rfl, _⟩ := a0.len
  obtain ⟨ax1, ak1, rfl, _⟩ := a1.len
  obtain ⟨n0, hn0⟩ : ∃ n, u.decls.length = n := ⟨_, rfl⟩
  obtain ⟨n1, hn1⟩ : ∃ n, ts.length = n := ⟨_, rfl⟩
  have hd0 := hu.dl
  have hd1 := hu.bl
  rw [hn0] at hd0
  rw [← a2, List.length_map, hn1] at hd1
  have A0 := hid a0
  have A1 := hid a1
  have A2 := hid a2
  have A3 := hid a3
  have HU := hid hu
  have HO := hid ho
  have HV := hid hv
  have N0 := hid hn0
  have N1 := hid hn1
  rw [hn0, hn1] at HVL ⊢
  have HX := hid (heap_alloc_new w (.cells #[.slice ax0 n0 ak0, .slice ax1 n1 ak1] 25))
  have HC := hid ((Chg.refl [] w).alloc (.cells #[.slice ax0 n0 ak0, .slice ax1 n1 ak1] 25))
  obtain ⟨PD, hPD⟩ : ∃ PD, printD u = PD := ⟨_, rfl⟩
  rw [hPD]
  have HPD := hid hPD
  clear hvu a0 a1 a2 a3 hu ho hv hn0 hn1 hPD
  go_enter Tryz.func12, Tryz.ntmps12
  go_upto_region 1 with fail
  obtain ⟨wA, hwA⟩ : ∃ wA, w.alloc (.cells #[.slice ax0 n0 ak0, .slice ax1 n1 ak1] 25) = wA := ⟨_, rfl⟩
  obtain ⟨P, hP⟩ : ∃ P, w.heap.size = P := ⟨_, rfl⟩
  rw [hwA] at HX HC ⊢
  rw [hP] at HX ⊢
  clear hwA hP
  have u0 : wA.cell? ⟨P, 0, none⟩ = some (.slice ax0 n0 ak0) := blk_cell HX.out 0
  have u1 : wA.cell? ⟨P, 1, none⟩ = some (.slice ax1 n1 ak1) := blk_cell HX.out 1
  cases hok : unitOk u with
  | false =>
    have HE : Hid (PD = .error 85) := hid (by rw [← HPD.out]; unfold printD; rw [if_pos hok])
    rw [hok] at HVL
    clear hok
    go_wp2_with (go_at_call 27; refine (HVL.out _ HC.out).mono ?_; rintro e w1 ⟨rfl, hc1⟩)
    go_ret2
    exact .inl ⟨85, HE.out, rfl, HC.out.trans' hc1⟩
  | true =>
    rw [hok] at HVL
    have HOK := hid hok
    clear hok
    go_wp2_with (go_at_call 27; refine (HVL.out _ HC.out).mono ?_; rintro e w1 ⟨rfl, hc1⟩; refine halt (fun XX hXX => ?_))
    have HC1 := hid (HC.out.trans' hc1)
    have HX1 := hid (hc1.heap HX.out (by simp))
    clear hc1 HX HC u0 u1 HVL
    rw [hXX.out]; clear hXX XX
    have hgd : (∀ d ∈ u.decls, declOk d = true) ∧ ∀ b ∈ u.blocks, blockOk b = true := by
      have h := HOK.out
      unfold unitOk at h
      rw [Bool.and_eq_true, List.all_eq_true, List.all_eq_true] at h
      exact h
    have HGD := hid hgd
    clear hgd
    go_upto_region 5 with fail
    go_loopg [4, 5] n0 (fun gk v4 v5 wr => ∃ (i : Nat) (ao : Option Addr) (cap : Nat) (r : Option Nat), Hid (gk + i = n0) ∧ v5 = .int .i64 i ∧ v4 = .slice ao i cap ∧ Hid (SL w1 wr ao cap r i ((u.decls.take i).map fun d => lnF (declS d))))
    case atStart => exact ⟨0, none, 0, none, hid (by omega), rfl, rfl, hid ⟨Row.nil _ _ _, Fresh.refl _ _, Chg.refl _ _⟩⟩
    case round =>
      obtain ⟨i, ao, cap, r, HG, rfl, rfl, HSL⟩ := hrel
      have hch := HSL.out.2.2
      have u0 : wr.cell? ⟨P, 0, none⟩ = some (.slice ax0 n0 ak0) := hch.cell (blk_cell HX1.out 0) (by simp)
      by_cases hlt : i < n0
      · have hl1 : i < u.decls.length := by rw [N0.out]; exact hlt
        obtain ⟨b1, o1, e1, c1⟩ := (A0.out.keep (HC1.out.trans' hch)).at dcC_len hl1 (by omega)
        have hmem := List.getElem_mem hl1
        have hsd := HU.out.ds _ hmem
        have hdok := HGD.out.1 _ hmem
        have hsucc := take_map_succ (f := fun d => lnF (declS d)) hl1
        obtain ⟨x, hx⟩ : ∃ x, u.decls[i] = x := ⟨_, rfl⟩
        rw [hx] at c1 hsd hdok hsucc
        obtain ⟨kd, nm, vv, l, c⟩ := x
        subst e1
        have x0 : wr.cell? ⟨b1, o1 + i * 5, none⟩ = some (.int .i64 kd) := c1 0 (by omega)
        have x1 : wr.cell? ⟨b1, o1 + i * 5 + 1, none⟩ = some (.string nm) := c1 1 (by omega)
        have x2 : wr.cell? ⟨b1, o1 + i * 5 + 2, none⟩ = some (.int .i64 vv) := c1 2 (by omega)
        have x3 : wr.cell? ⟨b1, o1 + i * 5 + 3, none⟩ = some (.int .i64 l) := c1 3 (by omega)
        have x4 : wr.cell? ⟨b1, o1 + i * 5 + 4, none⟩ = some (.int .i64 c) := c1 4 (by omega)
        have hkd : 1 ≤ kd ∧ kd ≤ 4 := by
          unfold declOk at hdok
          simp only [Bool.and_eq_true] at hdok
          exact of_decide_eq_true hdok.1.1
        have hnmz : nm.size ≤ 24 := by
          unfold declOk at hdok
          simp only [Bool.and_eq_true] at hdok
          exact name_size hdok.1.2
        obtain ⟨PL, hPL⟩ : ∃ PL, preD ⟨kd, nm, vv, l, c⟩ = PL := ⟨_, rfl⟩
        have HPL := hid hPL
        obtain ⟨PB, hPB⟩ : ∃ PB, bA PL = PB := ⟨_, rfl⟩
        have HPB := hid hPB
        have hPBl : PB.data.toList = PL := by rw [← hPB]; simp [bA]
        have HPBL := hid hPBl
        obtain ⟨LN, hLN⟩ : ∃ LN, declS ⟨kd, nm, vv, l, c⟩ = LN := ⟨_, rfl⟩
        have HLN := hid hLN
        rw [hLN] at hsucc
        have HSU := hid hsucc
        have HSD := hid hsd
        clear c1 hx hl1 hmem hsd hdok hsucc hPL hLN hPB hPBl
        go_upto_region 8 with fail
        obtain ⟨wa, hwa⟩ : ∃ wa, wr.alloc (.cells #[.int .i64 kd, .string nm, .int .i64 vv, .int .i64 l, .int .i64 c] 47) = wa := ⟨_, rfl⟩
        have hca : Chg [] wr wa := by rw [← hwa]; exact (Chg.refl [] wr).alloc _
        have hka := heap_alloc_new wr (.cells #[.int .i64 kd, .string nm, .int .i64 vv, .int .i64 l, .int .i64 c] 47)
        obtain ⟨A, hA⟩ : ∃ A, wr.heap.size = A := ⟨_, rfl⟩
        rw [hwa] at hka ⊢
        rw [hA] at hka ⊢
        have HKA := hid hka
        have HCA := hid hca
        have y0 : wa.cell? ⟨A, 0, none⟩ = some (.int .i64 kd) := blk_cell hka 0
        have y1 : wa.cell? ⟨A, 1, none⟩ = some (.string nm) := blk_cell hka 1
        have y0o : ∀ o, (wa.alloc o).cell? ⟨A, 0, none⟩ = some (.int .i64 kd) := fun o => blk_cell (blk_alloc_old hka o) 0
        have y1o : ∀ o, (wa.alloc o).cell? ⟨A, 1, none⟩ = some (.string nm) := fun o => blk_cell (blk_alloc_old hka o) 1
        clear hwa hA hka hca x0 x1 x2 x3 x4 u0 hch
        have HKT := hid (kindTab_at kd hkd.1 hkd.2)
        have hPBz : PB.size ≤ 31 := by
          have h1 : PB.size = PL.length := by rw [← HPB.out]; exact bA_size PL
          have h2 : PL.length = ((kindTab[(kd - 1).toNat]?).getD []).length + 1 + nm.size := by
            rw [← HPL.out]
            unfold preD
            rw [List.length_append, List.length_append, data_len]
            rfl
          rcases HKT.out with ⟨_, hk⟩ | ⟨_, hk⟩ | ⟨_, hk⟩ | ⟨_, hk⟩ <;> rw [hk] at h2 <;> simp at h2 <;> omega
        go_cut [7] (fun v wx => v = .string PB ∧ Hid (Chg [] wa wx))
        case first =>
          rcases HKT.out with ⟨h, hk⟩ | ⟨h, hk⟩ | ⟨h, hk⟩ | ⟨h, hk⟩
          all_goals
            subst h
            have HK := hid hk
            clear hk hkd
            have z1 : ¬ (9223372036854775807 < 4 + nm.size) := by omega
            have z2 : ¬ (9223372036854775807 < 6 + nm.size) := by omega
            have z3 : ¬ (9223372036854775807 < 5 + nm.size) := by omega
            go_region
            go_wp2_with fail
            go_meet
            refine ⟨?_, hid (by repeat (first | with_reducible exact Chg.refl _ _ | with_reducible exact Chg.refl _ _ | with_reducible refine Chg.setCell ?_ (by first | exact .inr (Nat.le_refl _) | (refine .inr ?_; first | omega | (simp; done) | (simp; omega)) | (refine .inl ?_; simp; done)) _ | with_reducible refine Chg.drewN ?_ _ | with_reducible refine Chg.drew ?_ | with_reducible refine Chg.alloc ?_ _))⟩
            rw [← HPB.out, ← HPL.out]
            unfold preD
            simp only [HK.out]
            exact congrArg Value.string (bA_eq (by simp))
        case rest =>
          obtain ⟨rfl, hcb⟩ := hcut
          have HCB := hid (HCA.out.trans' hcb.out)
          have hkc := hcb.out.heap HKA.out (by simp)
          have y0 : wc.cell? ⟨A, 0, none⟩ = some (.int .i64 kd) := blk_cell hkc 0
          have y2 : wc.cell? ⟨A, 2, none⟩ = some (.int .i64 vv) := blk_cell hkc 2
          clear hcb hkc y0o y1o y1
          by_cases k3 : kd = 3
          · have hln : PL = LN := by rw [← HLN.out, ← HPL.out]; exact (declS_3 k3).symm
            have e1 : (kd != 3) = false := by simp [k3]
            have HLP := hid hln
            have HSLK := hid (HSL.out.keep HCB.out)
            have g1 : ¬ (9223372036854775807 < PB.size + 1) := by omega
            have hEQ : PB ++ ⟨#[10]⟩ = bA (lnF LN) := bA_eq (by unfold lnF; rw [← hln, ← HPBL.out]; simp)
            have HEQ := hid hEQ
            clear k3 hln hEQ hkd
            go_wp2_with (at_builtin; refine wpList_grew rfl _ _ 75 rfl elem_str rfl ((HSLK.out.keep ((Chg.refl [] wc).alloc _)).1) rfl (View.one _ _ _) (by simp [Value.oneCell']) (by unfold maxLen; omega) (by omega) (fun ao2 cap2 r2 w9 hr9 hg9 => halt (fun XX hXX => ?_)))
            have HMORE := hid (HSLK.out.more ((Chg.refl [] wc).alloc _) hr9 HEQ.out hg9)
            clear hr9 hg9
            rw [hXX.out]; clear hXX XX
            go_wp2_with fail
            go_roundg (gk - 1)
            case measure => have := HG.out; omega
            case rel => exact ⟨i + 1, ao2, cap2, r2, hid (by have := HG.out; omega), by go_num, rfl, hid (by rw [HSU.out]; exact HMORE.out)⟩
          · have e1 : (kd != 3) = true := by simpa using k3
            have hln : LN = PL ++ ([32, 61, 32] ++ Lib.itoa vv) := by rw [← HLN.out, ← HPL.out]; exact declS_n k3
            have hit := itoaI_calls vv HSD.out.2.1 HSD.out.2.2 wc (HV.out.keep (HC1.out.trans' (HSL.out.2.2.trans' HCB.out)))
            have hitl := itoa_short vv HSD.out.2.1 HSD.out.2.2
            obtain ⟨D, hD⟩ : ∃ D, Lib.itoa vv = D := ⟨_, rfl⟩
            rw [hD] at hln hit hitl
            obtain ⟨DB, hDB⟩ : ∃ DB, bA D = DB := ⟨_, rfl⟩
            rw [hDB] at hit
            have hDl : DB.data.toList = D := by rw [← hDB]; simp [bA]
            have hDz : DB.size ≤ 21 := by rw [← hDB, bA_size]; exact hitl
            have HIT := hid hit
            have hEQ : PB ++ ⟨#[32, 61, 32]⟩ ++ DB ++ ⟨#[10]⟩ = bA (lnF LN) := bA_eq (by unfold lnF; rw [hln, ← HPBL.out, ← hDl]; simp)
            have HEQ := hid hEQ
            have g1 : ¬ (9223372036854775807 < PB.size + 3) := by omega
            have g2 : ¬ (9223372036854775807 < PB.size + 3 + DB.size) := by omega
            have g3 : ¬ (9223372036854775807 < PB.size + 3 + DB.size + 1) := by omega
            clear k3 hln hit hitl hD hDB hDl hEQ hkd
            go_wp2_with (go_at_call 28; refine HIT.out.mono ?_; rintro e w5 ⟨rfl, hc5⟩; refine halt (fun XX hXX => ?_))
            have HSLK := hid ((HSL.out.keep HCB.out).keep hc5)
            clear hc5
            rw [hXX.out]; clear hXX XX
            go_wp2_with (at_builtin; refine wpList_grew rfl _ _ 75 rfl elem_str rfl ((HSLK.out.keep ((Chg.refl [] w5).alloc _)).1) rfl (View.one _ _ _) (by simp [Value.oneCell']) (by unfold maxLen; omega) (by omega) (fun ao2 cap2 r2 w9 hr9 hg9 => halt (fun XX hXX => ?_)))
            have HMORE := hid (HSLK.out.more ((Chg.refl [] w5).alloc _) hr9 HEQ.out hg9)
            clear hr9 hg9
            rw [hXX.out]; clear hXX XX
            go_wp2_with fail
            go_roundg (gk - 1)
            case measure => have := HG.out; omega
            case rel => exact ⟨i + 1, ao2, cap2, r2, hid (by have := HG.out; omega), by go_num, rfl, hid (by rw [HSU.out]; exact HMORE.out)⟩
      · obtain rfl : i = n0 := by have := HG.out; omega
        obtain ⟨DL, hDL⟩ : ∃ DL, (u.decls.map fun d => lnF (declS d)) = DL := ⟨_, rfl⟩
        have hs := HSL.out
        rw [List.take_of_length_le (by rw [N0.out]; exact Nat.le_refl _), hDL] at hs
        have HDL := hid hDL
        have HS1 := hid hs
        obtain ⟨w2, hw2⟩ : ∃ w2 : World, w2 = wr := ⟨_, rfl⟩
        rw [← hw2] at HS1 u0 ⊢
        clear hDL hs hw2 HG HSL hch
        go_upto_region 13 with fail
        clear u0
        go_loopg [4, 8] n1 (fun gk v4 v8 wr => ∃ (j m : Nat) (ao : Option Addr) (cap : Nat) (r : Option Nat), Hid (gk + j = n1) ∧ v8 = .int .i64 j ∧ v4 = .slice ao m cap ∧ m ≤ 4194304 + j * 2097153 ∧ Hid (SL w1 wr ao cap r m (DL ++ (u.blocks.take j).flatMap fun b => (blockS b).map lnF)))
        case atStart => exact ⟨0, i, ao, cap, r, hid (by omega), rfl, rfl, by omega, hid (by rw [List.take_zero, List.flatMap_nil, List.append_nil]; exact HS1.out)⟩
        case round =>
          obtain ⟨j, m, ao, cap, r, HG, rfl, rfl, hm, HSL⟩ := hrel
          have hch := HSL.out.2.2
          have u1 : wr.cell? ⟨P, 1, none⟩ = some (.slice ax1 n1 ak1) := hch.cell (blk_cell HX1.out 1) (by simp)
          by_cases hlj : j < n1
          · have hl1 : j < ts.length := by rw [N1.out]; exact hlj
            have hl2 : j < u.blocks.length := by rw [← A2.out, List.length_map]; exact hl1
            have hbj : u.blocks[j] = ts[j].b := by simp only [← A2.out, List.getElem_map]
            have hmem := List.getElem_mem hl2
            obtain ⟨b1, o1, e1, c1⟩ := (A1.out.keep HC1.out).at bkC_len hl1 (by omega)
            have hi1 := A3.out _ (List.getElem_mem hl1)
            have hil := HU.out.il _ hmem
            have hnm := HU.out.bn _ hmem
            have hsi := HU.out.is _ hmem
            have hop := HO.out _ hmem
            have hsucc : (u.blocks.take (j + 1)).flatMap (fun b => (blockS b).map lnF) = (u.blocks.take j).flatMap (fun b => (blockS b).map lnF) ++ (blockS u.blocks[j]).map lnF := by
              rw [List.take_succ_eq_append_getElem hl2, List.flatMap_append]
              simp
            rw [hbj] at hil hnm hsi hop hsucc
            obtain ⟨x, hx⟩ : ∃ x, ts[j] = x := ⟨_, rfl⟩
            rw [hx] at c1 hi1 hil hnm hsi hop hsucc
            obtain ⟨⟨nm, xi, l, c⟩, xv⟩ := x
            simp only at hi1 hil hnm hsi hop hsucc
            obtain ⟨dx, kx, rfl, _⟩ := hi1.len
            subst e1
            obtain ⟨N, hN⟩ : ∃ N, xi.length = N := ⟨_, rfl⟩
            have x0 : wr.cell? ⟨b1, o1 + j * 4, none⟩ = some (.string nm) := hch.cell (c1 0 (by omega)) (by simp)
            have x1 : w1.cell? ⟨b1, o1 + j * 4 + 1, none⟩ = some (.slice dx N kx) := by rw [← hN]; exact c1 1 (by omega)
            rw [hN] at hil hi1
            obtain ⟨AC, hAC⟩ : ∃ AC, DL ++ (u.blocks.take j).flatMap (fun b => (blockS b).map lnF) = AC := ⟨_, rfl⟩
            have hSL := HSL.out
            rw [hAC] at hSL
            have HSLK := hid hSL
            have HI := hid (And.intro hi1 (And.intro hN (And.intro hsi hop)))
            have HSU : Hid (DL ++ (u.blocks.take (j + 1)).flatMap (fun b => (blockS b).map lnF) = AC ++ [lnF ([116, 104, 114, 101, 97, 100, 32] ++ nm.data.toList)] ++ xi.map fun x => lnF (itemS x)) := hid (by
              rw [hsucc, ← List.append_assoc, hAC]
              unfold blockS
              simp [List.map_map, Function.comp_def])
            have HBX : Hid (∀ W, Chg [] w1 W → W.cell? ⟨b1, o1 + j * 4 + 1, none⟩ = some (.slice dx N kx)) := hid fun W hc => hc.cell x1 (by simp)
            have hEQ : (⟨#[116, 104, 114, 101, 97, 100, 32]⟩ : ByteArray) ++ nm ++ ⟨#[10]⟩ = bA (lnF ([116, 104, 114, 101, 97, 100, 32] ++ nm.data.toList)) := bA_eq (by unfold lnF; simp)
            have HEQ := hid hEQ
            have HCH := hid hch
            have g1 : ¬ (9223372036854775807 < 7 + nm.size) := by omega
            have g2 : ¬ (9223372036854775807 < 7 + nm.size + 1) := by omega
            clear c1 hx hl1 hl2 hbj hmem hi1 hN hsi hop hsucc hAC hSL hEQ hch x1 HSL hnm
            go_wp2_with (at_builtin; refine wpList_grew rfl _ _ 75 rfl elem_str rfl ((HSLK.out.keep ((Chg.refl [] wr).alloc _)).1) rfl (View.one _ _ _) (by simp [Value.oneCell']) (by unfold maxLen; omega) (by omega) (fun ao2 cap2 r2 w9 hr9 hg9 => halt (fun XX hXX => ?_)))
            have HM1 := hid (HSLK.out.more ((Chg.refl [] wr).alloc _) hr9 HEQ.out hg9)
            have HX9 := hid (HM1.out.2.2.heap HX1.out (by simp))
            clear hr9 hg9 x0 u1
            rw [hXX.out]; clear hXX XX
            go_upto_region 17 with fail
            obtain ⟨gj, hgj⟩ : ∃ x, x = gk := ⟨_, rfl⟩
            rw [← hgj] at HG
            obtain ⟨AC2, hAC2⟩ : ∃ AC2, AC ++ [lnF ([116, 104, 114, 101, 97, 100, 32] ++ nm.data.toList)] = AC2 := ⟨_, rfl⟩
            have HA2 := hid hAC2
            rw [hAC2] at HM1 HSU
            clear hAC2
            go_loopg [4, 9] N (fun gk v4 v9 wr => ∃ (k m2 : Nat) (ao : Option Addr) (cap : Nat) (r : Option Nat), Hid (gk + k = N) ∧ v9 = .int .i64 k ∧ v4 = .slice ao m2 cap ∧ m2 ≤ 4194304 + j * 2097153 + 1 + k ∧ Hid (SL w1 wr ao cap r m2 (AC2 ++ (xi.take k).map fun x => lnF (itemS x))))
            case atStart => exact ⟨0, m + 1, ao2, cap2, r2, hid (by omega), rfl, rfl, by omega, hid (by rw [List.take_zero, List.map_nil, List.append_nil]; exact HM1.out)⟩
            case round =>
              obtain ⟨k, m2, ao3, cap3, r3, HG2, rfl, rfl, hm2, HSL2⟩ := hrel
              have hch := HSL2.out.2.2
              have u1 : wr.cell? ⟨P, 1, none⟩ = some (.slice (some ⟨b1, o1, none⟩) n1 ak1) := hch.cell (blk_cell HX1.out 1) (by simp)
              have v1 := HBX.out _ hch
              by_cases hlk : k < N
              · have hl1 : k < xi.length := by rw [HI.out.2.1]; exact hlk
                obtain ⟨b3, o3, e3, c3⟩ := (Lst.keep (show Lst itC 10 w (.slice dx N kx) xi from HI.out.1) (HC1.out.trans' hch)).at itC_len hl1 (by omega)
                have hmi := List.getElem_mem hl1
                have hsi := HI.out.2.2.1 _ hmi
                have hopi := HI.out.2.2.2 _ hmi
                have hsucc := take_map_succ (f := fun x => lnF (itemS x)) hl1
                obtain ⟨x, hx⟩ : ∃ x, xi[k] = x := ⟨_, rfl⟩
                rw [hx] at c3 hsi hopi hsucc
                have hit := r_written_calls x hsi hopi wr (HV.out.keep (HC1.out.trans' hch))
                obtain ⟨IL, hIL⟩ : ∃ IL, itemS x ++ [10] = IL := ⟨_, rfl⟩
                rw [hIL] at hit
                have hIL2 : lnF (itemS x) = IL := hIL
                simp only [hIL2] at hsucc
                obtain ⟨SB, hSB⟩ : ∃ SB, bA IL = SB := ⟨_, rfl⟩
                rw [hSB] at hit
                obtain ⟨Xop, Xa, Xb, Xc, Xn, Xname, Xp1, Xp2, Xq1, Xq2⟩ := x
                subst e3
                have z0 : wr.cell? ⟨b3, o3 + k * 10, none⟩ = some (.int .i64 Xop) := c3 0 (by omega)
                have z1 : wr.cell? ⟨b3, o3 + k * 10 + 1, none⟩ = some (.int .i64 Xa) := c3 1 (by omega)
                have z2 : wr.cell? ⟨b3, o3 + k * 10 + 2, none⟩ = some (.int .i64 Xb) := c3 2 (by omega)
                have z3 : wr.cell? ⟨b3, o3 + k * 10 + 3, none⟩ = some (.int .i64 Xc) := c3 3 (by omega)
                have z4 : wr.cell? ⟨b3, o3 + k * 10 + 4, none⟩ = some (.int .i64 Xn) := c3 4 (by omega)
                have z5 : wr.cell? ⟨b3, o3 + k * 10 + 5, none⟩ = some (.string Xname) := c3 5 (by omega)
                have z6 : wr.cell? ⟨b3, o3 + k * 10 + 6, none⟩ = some (.int .i64 Xp1) := c3 6 (by omega)
                have z7 : wr.cell? ⟨b3, o3 + k * 10 + 7, none⟩ = some (.int .i64 Xp2) := c3 7 (by omega)
                have z8 : wr.cell? ⟨b3, o3 + k * 10 + 8, none⟩ = some (.int .i64 Xq1) := c3 8 (by omega)
                have z9 : wr.cell? ⟨b3, o3 + k * 10 + 9, none⟩ = some (.int .i64 Xq2) := c3 9 (by omega)
                have hit2 : Calls Tryz.prog 29 #[.agg #[.int .i64 Xop, .int .i64 Xa, .int .i64 Xb, .int .i64 Xc, .int .i64 Xn, .string Xname, .int .i64 Xp1, .int .i64 Xp2, .int .i64 Xq1, .int .i64 Xq2]] wr fun e w' => e = .returned (.string SB) ∧ Chg [] wr w' := hit
                have HIT := hid hit2
                have HS3 := hid hsucc
                have HSB := hid hSB
                have HCH2 := hid hch
                clear c3 hx hl1 hmi hsi hopi hsucc hit hit2 hIL hIL2 hSB hch
                go_wp2_with (go_at_call 29; refine HIT.out.mono ?_; rintro e w5 ⟨rfl, hc5⟩; refine halt (fun XX hXX => ?_))
                have HSL5 := hid (HSL2.out.keep hc5)
                clear hc5 u1 v1 z0 z1 z2 z3 z4 z5 z6 z7 z8 z9
                rw [hXX.out]; clear hXX XX
                go_wp2_with (at_builtin; refine wpList_grew rfl _ _ 75 rfl elem_str rfl ((HSL5.out.keep ((Chg.refl [] w5).alloc _)).1) rfl (View.one _ _ _) (by simp [Value.oneCell']) (by unfold maxLen; omega) (by omega) (fun ao6 cap6 r6 w6 hr6 hg6 => halt (fun XX hXX => ?_)))
                have HM6 := hid (HSL5.out.more ((Chg.refl [] w5).alloc _) hr6 HSB.out.symm hg6)
                clear hr6 hg6
                rw [hXX.out]; clear hXX XX
                go_wp2_with fail
                go_roundg (gk - 1)
                case measure => have := HG2.out; omega
                case rel => exact ⟨k + 1, m2 + 1, ao6, cap6, r6, hid (by have := HG2.out; omega), by go_num, rfl, by omega, hid (by rw [HS3.out, ← List.append_assoc]; exact HM6.out)⟩
              · obtain rfl : k = N := by have := HG2.out; omega
                have hfin := HSL2.out
                rw [List.take_of_length_le (by rw [HI.out.2.1]; exact Nat.le_refl _), ← HSU.out] at hfin
                have HFN := hid hfin
                have hil2 := hil
                clear hfin
                go_wp2_with fail
                go_roundg (gj - 1)
                case measure => have := HG.out; omega
                case rel => exact ⟨j + 1, m2, ao3, cap3, r3, hid (by have := HG.out; omega), by go_num, rfl, by omega, HFN⟩
          · obtain rfl : j = n1 := by have := HG.out; omega
            obtain ⟨ACC, hACC⟩ : ∃ ACC, (linesS u).map lnF = ACC := ⟨_, rfl⟩
            have hs := HSL.out
            rw [List.take_of_length_le (by rw [← A2.out, List.length_map, N1.out]; exact Nat.le_refl _), ← HDL.out] at hs
            have hall : (u.decls.map fun d => lnF (declS d)) ++ u.blocks.flatMap (fun b => (blockS b).map lnF) = ACC := by
              rw [← hACC]
              unfold linesS
              rw [List.map_append, List.map_map, List.map_flatMap]
              rfl
            rw [hall] at hs
            have hml : ACC.length = m := by have := hs.1.len; rw [List.length_map] at this; omega
            have hshort := lines_short HU.out HOK.out
            have hlen : ∀ q ∈ ACC, q.length ≤ 201 := by
              intro q hq
              rw [← hACC] at hq
              obtain ⟨z, hz, rfl⟩ := List.mem_map.1 hq
              unfold lnF
              rw [List.length_append]
              have := hshort.2 z hz
              simp
              omega
            have htext : textS u = ACC.flatten := by
              rw [← hACC]
              unfold textS lnF
              rw [List.flatMap_def]
            have HTX := hid htext
            have HLEN := hid hlen
            have HML := hid hml
            have HS1 := hid hs
            obtain ⟨w3, hw3⟩ : ∃ w3 : World, w3 = wr := ⟨_, rfl⟩
            rw [← hw3] at HS1 u1 ⊢
            have HVW := hid hs.1.view
            clear hACC hs hall hml hshort hlen htext hw3 HG HSL hch
            go_upto_region 22 with fail
            clear u1
            go_loopg [10, 11] m (fun gk v10 v11 wr => ∃ (k q : Nat), Hid (gk + k = m) ∧ v11 = .int .i64 k ∧ v10 = .int .i64 q ∧ q ≤ 1048576 ∧ Hid (q = (ACC.take k).flatten.length) ∧ Hid (Chg [] w3 wr))
            case atStart => exact ⟨0, 0, hid (by omega), rfl, rfl, by omega, hid rfl, hid (Chg.refl _ _)⟩
            case round =>
              obtain ⟨k, q, HG, rfl, rfl, hq, HQ, HR⟩ := hrel
              by_cases hlk : k < m
              · have hkl : k < ACC.length := by rw [HML.out]; exact hlk
                have hlst : Lst strL 1 w3 (.slice ao m cap) ACC := by
                  have h := HS1.out.1.view
                  unfold Lst
                  rw [HML.out, strL_flat]
                  exact h
                obtain ⟨b3, o3, e3, c3⟩ := (hlst.keep HR.out).at strL_len hkl (by omega)
                have hq1 := HLEN.out _ (List.getElem_mem hkl)
                have hsum : (ACC.take (k + 1)).flatten.length = (ACC.take k).flatten.length + ACC[k].length := by
                  rw [List.take_succ_eq_append_getElem hkl, List.flatten_append, List.length_append]
                  simp
                have htot : (ACC.take (k + 1)).flatten.length ≤ ACC.flatten.length := by
                  conv => rhs; rw [← List.take_append_drop (k + 1) ACC, List.flatten_append, List.length_append]
                  omega
                obtain ⟨X, hX⟩ : ∃ X, ACC[k] = X := ⟨_, rfl⟩
                rw [hX] at c3 hq1 hsum
                obtain ⟨XB, hXB⟩ : ∃ XB, bA X = XB := ⟨_, rfl⟩
                have hXz : XB.size = X.length := by rw [← hXB]; exact bA_size X
                have c0 := c3 0 (by omega)
                simp only [strL, List.getD_cons_zero, hXB, Nat.mul_one, Nat.add_zero] at c0
                subst e3
                have hXs : XB.size ≤ 201 := by omega
                rw [← hXz, ← HQ.out] at hsum
                have HSM := hid (And.intro hsum htot)
                clear hkl hlst c3 hq1 hsum htot hX hXB hXz
                by_cases hbig : 1048576 < q + XB.size
                · have d1 : decide ((1048576 : Int) < (q : Int) + (XB.size : Int)) = true := decide_eq_true (by omega)
                  have HE : Hid (PD = .error 3) := hid (by
                    rw [← HPD.out]
                    unfold printD
                    rw [if_neg (by rw [HOK.out]; decide), if_pos (by rw [HTX.out]; have := HSM.out.1; have := HSM.out.2; omega)])
                  go_wp2
                  go_ret2
                  exact .inl ⟨3, HE.out, rfl, HC1.out.trans' (HS1.out.2.2.trans' HR.out)⟩
                · have d1 : decide ((1048576 : Int) < (q : Int) + (XB.size : Int)) = false := decide_eq_false (by omega)
                  go_wp2_with fail
                  go_roundg (gk - 1)
                  case measure => have := HG.out; omega
                  case rel => exact ⟨k + 1, q + XB.size, hid (by have := HG.out; omega), by go_num, by go_num, by omega, hid HSM.out.1.symm, HR⟩
              · obtain rfl : k = m := by have := HG.out; omega
                have hqt : q = ACC.flatten.length := by
                  have h := HQ.out
                  rw [List.take_of_length_le (by rw [HML.out]; exact Nat.le_refl _)] at h
                  exact h
                have hpd : PD = .ok (textS u) := by
                  rw [← HPD.out]
                  unfold printD
                  rw [if_neg (by rw [HOK.out]; decide), if_neg (by rw [HTX.out]; omega)]
                have HOKP := hid (And.intro hpd (And.intro HTX.out (show ACC.flatten.length ≤ 1048576 by omega)))
                have hvw := HS1.out.1.view.keep HR.out (by simp)
                have HVW := hid hvw
                have HCW := hid (HC1.out.trans' (HS1.out.2.2.trans' HR.out))
                obtain ⟨w4, hw4⟩ : ∃ w4 : World, w4 = wr := ⟨_, rfl⟩
                rw [← hw4] at HVW HCW ⊢
                clear hqt hpd hvw hw4 HG HQ HR
                go_upto_region 29 with fail
                go_loopg [12, 13] k (fun gk v12 v13 wr => ∃ (t n : Nat) (ao2 : Option Addr) (cap2 : Nat) (r2 : Option Nat), Hid (gk + t = k) ∧ v13 = .int .i64 t ∧ v12 = .slice ao2 n cap2 ∧ n ≤ 1048576 ∧ Hid (n = (ACC.take t).flatten.length ∧ Row wr 5 1 (.slice ao2 n cap2) r2 n ((ACC.take t).flatten.map B) ∧ Fresh w4 none r2 ∧ Chg [] w4 wr))
                case atStart => exact ⟨0, 0, none, 0, none, hid (by omega), rfl, rfl, by omega, hid ⟨rfl, Row.nil _ _ _, Fresh.refl _ _, Chg.refl _ _⟩⟩
                case round =>
                  obtain ⟨t, n, ao2, cap2, r2, HG, rfl, rfl, hn, HR⟩ := hrel
                  by_cases hlt2 : t < k
                  · have hkl : t < ACC.length := by rw [HML.out]; exact hlt2
                    have hlst : Lst strL 1 w4 (.slice ao k cap) ACC := by
                      unfold Lst
                      rw [HML.out, strL_flat]
                      exact HVW.out
                    obtain ⟨b3, o3, e3, c3⟩ := (hlst.keep HR.out.2.2.2).at strL_len hkl (by omega)
                    have hq1 := HLEN.out _ (List.getElem_mem hkl)
                    have hsucc : (ACC.take (t + 1)).flatten = (ACC.take t).flatten ++ ACC[t] := by
                      rw [List.take_succ_eq_append_getElem hkl, List.flatten_append]
                      simp
                    have htot : (ACC.take (t + 1)).flatten.length ≤ ACC.flatten.length := by
                      conv => rhs; rw [← List.take_append_drop (t + 1) ACC, List.flatten_append, List.length_append]
                      omega
                    obtain ⟨X, hX⟩ : ∃ X, ACC[t] = X := ⟨_, rfl⟩
                    rw [hX] at c3 hq1 hsucc
                    obtain ⟨XB, hXB⟩ : ∃ XB, bA X = XB := ⟨_, rfl⟩
                    have hXz : XB.size = X.length := by rw [← hXB]; exact bA_size X
                    have hXl : XB.data.toList = X := by rw [← hXB]; simp [bA]
                    have c0 := c3 0 (by omega)
                    simp only [strL, List.getD_cons_zero, hXB, Nat.mul_one, Nat.add_zero] at c0
                    subst e3
                    have hsum : n + XB.size ≤ 1048576 := by
                      have h1 := htot
                      have h2 := HOKP.out.2.2
                      rw [hsucc, List.length_append, ← HR.out.1, ← hXz] at h1
                      omega
                    have HSM := hid (And.intro hsucc (And.intro hXz hXl))
                    have hrow := HR.out.2.1
                    have HRW := hid hrow
                    clear hkl hlst c3 hq1 htot hX hXB hXz hXl hsucc hrow
                    go_wp2_with (at_builtin; refine wpList_app_string rfl _ _ 79 9 rfl elem_u8 Tryz.underlying9 rfl HRW.out rfl (by unfold maxLen; omega) (by omega) (fun ao' cap' r' w5 hr5 hc5 hf5 hnil5 => halt (fun XX hXX => ?_)))
                    have HZ : Hid (n + XB.size = (ACC.take (t + 1)).flatten.length ∧ Row w5 5 1 (.slice ao' (n + XB.size) cap') r' (n + XB.size) ((ACC.take (t + 1)).flatten.map B) ∧ Fresh w4 none r' ∧ Chg [] w4 w5) := hid (by
                      refine ⟨by rw [HSM.out.1, List.length_append, ← HR.out.1, HSM.out.2.1], ?_, HR.out.2.2.1.trans HR.out.2.2.2.size hf5, HR.out.2.2.2.trans hc5 (fun x hx => ?_)⟩
                      · rw [HSM.out.1, List.map_append, ← HSM.out.2.2]
                        exact hr5
                      · have := HR.out.2.2.1 x (by simpa using hx)
                        exact .inr (this.resolve_left (by simp)))
                    clear hr5 hc5 hf5 hnil5 c0
                    rw [hXX.out]; clear hXX XX
                    go_wp2_with fail
                    go_roundg (gk - 1)
                    case measure => have := HG.out; omega
                    case rel => exact ⟨t + 1, n + XB.size, ao', cap', r', hid (by have := HG.out; omega), by go_num, by go_num, hsum, HZ⟩
                  · obtain rfl : t = k := by have := HG.out; omega
                    have hrow := HR.out.2.1
                    rw [List.take_of_length_le (by rw [HML.out]; exact Nat.le_refl _)] at hrow
                    have hcv := run_conv_view (P := Tryz.prog) (src := 79) (dst := 9) (e := 5) Tryz.underlying79 Tryz.underlying5 Tryz.underlying9 hrow.view wr rfl
                    clear hrow
                    go_wp2
                    go_ret2
                    exact .inr ⟨textS u, HOKP.out.1, by rw [HOKP.out.2.1]; exact HOKP.out.2.2, by rw [HOKP.out.2.1]; rfl, HCW.out.trans' HR.out.2.2.2⟩
end Go.Proofs.YtmahcabidggmeaaGreatDoor
