/- Walks of the parser: the reader's small steps. -/
import Derived.Test.YtmahcabidggmeaaGreatDoorVpd
set_option linter.unusedVariables false
set_option linter.unusedSectionVars false
set_option linter.unusedSimpArgs false
namespace Go.Proofs.YtmahcabidggmeaaGreatDoor
open Go.RowKit Go.AB
set_option linter.unusedSimpArgs false
set_option linter.unusedVariables false
set_option linter.unusedSectionVars false

section
variable {w0 w : World} {b : Nat} {t : Tok} {r : List Tok} {ds : List DcD} {q : RQ} {m : Nat} {X : List It}
theorem field_place (t : Tok) (W : World) : (Instr.field 63 (.agg #[.int .i64 t.kind, .string (bA t.text), .int .i64 t.num, .int .i64 t.line, .int .i64 t.col]) 3).run Tryz.prog W = .ok (.agg #[.int .i64 t.line, .int .i64 t.col]) W := by
  have h1 : (Instr.field 63 (.agg #[.int .i64 t.kind, .string (bA t.text), .int .i64 t.num, .int .i64 t.line, .int .i64 t.col]) 3).run Tryz.prog W = .ok (.agg #[.int .i64 t.line, .int .i64 t.col]) W := by kernel_rfl
  exact h1
theorem field_kind (t : Tok) (W : World) : (Instr.field 63 (.agg #[.int .i64 t.kind, .string (bA t.text), .int .i64 t.num, .int .i64 t.line, .int .i64 t.col]) 0).run Tryz.prog W = .ok (.int .i64 t.kind) W := by
  have h1 : (Instr.field 63 (.agg #[.int .i64 t.kind, .string (bA t.text), .int .i64 t.num, .int .i64 t.line, .int .i64 t.col]) 0).run Tryz.prog W = .ok (.int .i64 t.kind) W := by kernel_rfl
  exact h1
theorem field_text (t : Tok) (W : World) : (Instr.field 63 (.agg #[.int .i64 t.kind, .string (bA t.text), .int .i64 t.num, .int .i64 t.line, .int .i64 t.col]) 1).run Tryz.prog W = .ok (.string (bA t.text)) W := by
  have h1 : (Instr.field 63 (.agg #[.int .i64 t.kind, .string (bA t.text), .int .i64 t.num, .int .i64 t.line, .int .i64 t.col]) 1).run Tryz.prog W = .ok (.string (bA t.text)) W := by kernel_rfl
  exact h1
theorem field_num (t : Tok) (W : World) : (Instr.field 63 (.agg #[.int .i64 t.kind, .string (bA t.text), .int .i64 t.num, .int .i64 t.line, .int .i64 t.col]) 2).run Tryz.prog W = .ok (.int .i64 t.num) W := by
  have h1 : (Instr.field 63 (.agg #[.int .i64 t.kind, .string (bA t.text), .int .i64 t.num, .int .i64 t.line, .int .i64 t.col]) 2).run Tryz.prog W = .ok (.int .i64 t.num) W := by kernel_rfl
  exact h1
theorem nameT_cons (t : Tok) (r : List Tok) : nameT (t :: r) = if freeB t = false then .error (fltAt 82 t) else if 24 < t.text.length then .error (fltAt 84 t) else .ok (t, r) := rfl
set_option maxHeartbeats 2000000 in
set_option maxRecDepth 100000 in
theorem here_calls (h : RS w0 w b (t :: r) ds q m X) : Calls Tryz.prog 21 #[.pointer (some ⟨b, 0, none⟩)] w fun e w' => e = .returned (.agg #[.int .i64 t.kind, .string (bA t.text), .int .i64 t.num, .int .i64 t.line, .int .i64 t.col]) ∧ Chg [] w w' := by
  have c0 := h.c0
  obtain ⟨d0, d1, d2, d3, d4⟩ := h.head
  have hb := h.lt
  have ht := World.block_lt_of_cell? w _ d0
  simp only at ht
  obtain ⟨n, hn⟩ : ∃ n, (t :: r).length = n := ⟨_, rfl⟩
  have h0 : 0 < n := by rw [← hn]; simp
  rw [hn] at c0
  have d1' : w.cell? ⟨q.tb, q.off + 1, none⟩ = some (.string (bA t.text)) := d1
  have hc := (Chg.refl [] w)
  clear hn h d1
  go_enter Tryz.func21, Tryz.ntmps21
  go_wp2
  exact bodyPost_ret (v := .agg #[.int .i64 t.kind, .string (bA t.text), .int .i64 t.num, .int .i64 t.line, .int .i64 t.col]) (by simp [results, Tryz.results21, go_sem]) rfl ⟨rfl, hc.alloc _⟩
set_option maxHeartbeats 2000000 in
set_option maxRecDepth 100000 in
theorem fail_calls (h : RS w0 w b (t :: r) ds q m X) (c : Int) : Calls Tryz.prog 46 #[.pointer (some ⟨b, 0, none⟩), .int .i64 c] w (badP w0 (fltAt c t)) := by
  have H := hid (here_calls h)
  have HC := hid h.hp.chg
  have hf := field_place t
  clear h
  go_enter Tryz.func46, Tryz.ntmps46
  go_wp2_with (go_at_call 21; refine H.out.mono ?_; rintro e w' ⟨rfl, hc⟩)
  exact ⟨rfl, rfl, HC.out.trans' hc⟩
set_option maxHeartbeats 4000000 in
set_option maxRecDepth 100000 in
theorem take_ok (h : RS w0 w b (t :: r) ds q m X) (k : Int) (hk : (t.kind : Int) = k) (h7 : t.kind ≠ 7) : Calls Tryz.prog 22 #[.pointer (some ⟨b, 0, none⟩), .int .i64 k] w fun e w' =>
    e = .returned (.agg #[.int .i64 t.kind, .string (bA t.text), .int .i64 t.num, .int .i64 t.line, .int .i64 t.col]) ∧ RS w0 w' b r ds q.next (m - 1) X ∧ 0 < m := by
  subst hk
  have hca := (Chg.refl [] w).alloc (.cells #[.int .i64 0, .string ⟨#[]⟩, .int .i64 0, .int .i64 0, .int .i64 0] 63)
  have hba := heap_alloc_new w (.cells #[.int .i64 0, .string ⟨#[]⟩, .int .i64 0, .int .i64 0, .int .i64 0] 63)
  have hz := h.same hca
  have H := hid (here_calls hz)
  have HR := hid h
  have hbl := h.lt
  have HL := h.len
  simp only [List.length_cons] at HL
  have HA := hid (And.intro hca (And.intro hba hz))
  clear hz h hca hba
  go_enter Tryz.func22, Tryz.ntmps22
  go_wp2_with (go_at_call 21; refine H.out.mono ?_; rintro e w1 ⟨rfl, hc⟩; refine halt (fun X hX => ?_))
  have h1 := HA.out.2.2.same hc
  have c0 := h1.c0
  have b0 := hc.heap HA.out.2.1 (by simp)
  have fr := blk_free b0
  have cc := blk_cell b0
  have hb1 := h1.lt
  have hf1 := h1.fr 0
  have hw1 := blk_lt b0
  have hne : b ≠ w.heap.size := by omega
  simp only [List.length_cons] at c0
  obtain ⟨n, hn⟩ : ∃ n, r.length = n := ⟨_, rfl⟩
  rw [hn] at c0 HL
  have hn1 : 1 ≤ n := by
    rw [← hn]
    exact List.length_pos_iff.2 (HR.out.e7.tail h7).ne
  have htc : ¬ q.tc = 1 := by omega
  have htd : ¬ q.tc - 1 = 0 := by omega
  have HN := hid hn
  have HH := hid (And.intro h1 (And.intro hc b0))
  clear hn b0 h1 hc
  rw [hX.out]; clear hX
  go_wp2
  obtain ⟨h1, hc, b0⟩ := HH.out
  have g0 : ((((((w1.setCell ⟨b, 0, none⟩ (.slice (some ⟨q.tb, q.off + 5, none⟩) n (q.tc - 1))).setCell ⟨w.heap.size, 0, none⟩ (.int .i64 t.kind)).setCell ⟨w.heap.size, 1, none⟩ (.string (bA t.text))).setCell ⟨w.heap.size, 2, none⟩ (.int .i64 t.num)).setCell ⟨w.heap.size, 3, none⟩ (.int .i64 t.line)).setCell ⟨w.heap.size, 4, none⟩ (.int .i64 t.col)).heap[b]? = some (.cells #[.slice (some ⟨q.tb, q.off + 5, none⟩) n (q.tc - 1), .slice q.a0 ds.length q.c0, .slice q.a1 q.bs.length q.c1] 69 (0, 0)) := by
    rw [blk_set_other hne, blk_set_other hne, blk_set_other hne, blk_set_other hne, blk_set_other hne, blk_set h1.blk 0]
    rfl
  have g1 := blk_set (blk_set (blk_set (blk_set (blk_set ((blk_set_other (b := b) (c := w.heap.size) (by omega) 0 (.slice (some ⟨q.tb, q.off + 5, none⟩) n (q.tc - 1))).trans b0) 0 (.int .i64 t.kind)) 1 (.string (bA t.text))) 2 (.int .i64 t.num)) 3 (.int .i64 t.line)) 4 (.int .i64 t.col)
  have g2 : Chg [b] w ((((((w1.setCell ⟨b, 0, none⟩ (.slice (some ⟨q.tb, q.off + 5, none⟩) n (q.tc - 1))).setCell ⟨w.heap.size, 0, none⟩ (.int .i64 t.kind)).setCell ⟨w.heap.size, 1, none⟩ (.string (bA t.text))).setCell ⟨w.heap.size, 2, none⟩ (.int .i64 t.num)).setCell ⟨w.heap.size, 3, none⟩ (.int .i64 t.line)).setCell ⟨w.heap.size, 4, none⟩ (.int .i64 t.col)) :=
    ((((((HA.out.1.trans' hc).nil.setCell (p := ⟨b, 0, none⟩) (.inl (by simp)) _).setCell (p := ⟨w.heap.size, 0, none⟩) (.inr (Nat.le_refl _)) _).setCell (p := ⟨w.heap.size, 1, none⟩) (.inr (Nat.le_refl _)) _).setCell (p := ⟨w.heap.size, 2, none⟩) (.inr (Nat.le_refl _)) _).setCell (p := ⟨w.heap.size, 3, none⟩) (.inr (Nat.le_refl _)) _).setCell (p := ⟨w.heap.size, 4, none⟩) (.inr (Nat.le_refl _)) _
  generalize ((((((w1.setCell ⟨b, 0, none⟩ (.slice (some ⟨q.tb, q.off + 5, none⟩) n (q.tc - 1))).setCell ⟨w.heap.size, 0, none⟩ (.int .i64 t.kind)).setCell ⟨w.heap.size, 1, none⟩ (.string (bA t.text))).setCell ⟨w.heap.size, 2, none⟩ (.int .i64 t.num)).setCell ⟨w.heap.size, 3, none⟩ (.int .i64 t.line)).setCell ⟨w.heap.size, 4, none⟩ (.int .i64 t.col)) = W at g0 g1 g2 ⊢
  have g3 : ∀ o, (W.alloc o).heap[w.heap.size]? = _ := fun o => blk_alloc_old g1 o
  have u0 : ∀ o, (W.alloc o).cell? ⟨w.heap.size, 0, none⟩ = some (.int .i64 t.kind) := fun o => blk_cell (g3 o) 0
  have u1 : ∀ o, (W.alloc o).cell? ⟨w.heap.size, 1, none⟩ = some (.string (bA t.text)) := fun o => blk_cell (g3 o) 1
  have u2 : ∀ o, (W.alloc o).cell? ⟨w.heap.size, 2, none⟩ = some (.int .i64 t.num) := fun o => blk_cell (g3 o) 2
  have u3 : ∀ o, (W.alloc o).cell? ⟨w.heap.size, 3, none⟩ = some (.int .i64 t.line) := fun o => blk_cell (g3 o) 3
  have u4 : ∀ o, (W.alloc o).cell? ⟨w.heap.size, 4, none⟩ = some (.int .i64 t.col) := fun o => blk_cell (g3 o) 4
  have hn := HN.out
  subst hn
  exact bodyPost_ret (v := .agg #[.int .i64 t.kind, .string (bA t.text), .int .i64 t.num, .int .i64 t.line, .int .i64 t.col]) (by simp [results, Tryz.results22, go_sem, u0, u1, u2, u3, u4]) rfl ⟨rfl, HR.out.next h7 (g2.alloc _) (blk_alloc_old g0 _)⟩
set_option maxHeartbeats 4000000 in
set_option maxRecDepth 100000 in
theorem take_bad (h : RS w0 w b (t :: r) ds q m X) (k : Int) (hk : (t.kind : Int) ≠ k) : Calls Tryz.prog 22 #[.pointer (some ⟨b, 0, none⟩), .int .i64 k] w (badP w0 (fltAt 82 t)) := by
  have hca := (Chg.refl [] w).alloc (.cells #[.int .i64 0, .string ⟨#[]⟩, .int .i64 0, .int .i64 0, .int .i64 0] 63)
  have hz := h.same hca
  have H := hid (here_calls hz)
  have HZ := hid hz
  have hkb : ((t.kind : Int) == k) = false := by simpa using hk
  clear hz h hca hk
  go_enter Tryz.func22, Tryz.ntmps22
  go_wp2_with (first
    | (go_at_call 21; refine H.out.mono ?_; rintro e w1 ⟨rfl, hc⟩)
    | (go_at_call 46; refine (fail_calls (HZ.out.same (hc.alloc _)) 82).mono ?_; rintro e w2 ⟨rfl, hc2⟩))
  exact ⟨rfl, rfl, hc2⟩
set_option maxHeartbeats 4000000 in
set_option maxRecDepth 100000 in
theorem ends_calls (h : RS w0 w b (t :: r) ds q m X) : Calls Tryz.prog 41 #[.pointer (some ⟨b, 0, none⟩)] w fun e w' => e = .returned (.bool (endsB t)) ∧ Chg [] w w' := by
  have H := hid fun W (hc : Chg [] w W) => here_calls (h.same hc)
  have hc0 := Chg.refl [] w
  have hf0 := field_kind t
  have hf1 := field_text t
  clear h
  by_cases h6 : t.kind = 6
  · have hE : endsB t = true := by simp [endsB, h6]
    have e6 : ((t.kind : Int) == 6) = true := by simp; omega
    rw [hE]
    clear hE h6
    go_enter Tryz.func41, Tryz.ntmps41
    go_wp2_with (go_at_call 21; refine (H.out _ (by assumption)).mono ?_; rintro e w1 ⟨rfl, hc⟩)
    go_ret
    exact ⟨ret_bool (by simp [e6]), hc⟩
  · have hE : endsB t = decide (t.kind = 7) := by simp [endsB, h6]
    have e6 : ((t.kind : Int) == 6) = false := by simp; omega
    have e7 : ((t.kind : Int) == 7) = decide (t.kind = 7) := by rw [Bool.eq_iff_iff]; simp; omega
    rw [hE]
    clear hE h6
    go_enter Tryz.func41, Tryz.ntmps41
    go_wp2_with (first
      | (go_at_call 21; refine (H.out w hc0).mono ?_; rintro e w1 ⟨rfl, hc⟩)
      | (go_at_call 21; refine (H.out _ hc).mono ?_; rintro e w2 ⟨rfl, hc2⟩))
    go_ret
    exact ⟨ret_bool (by simp [e6, e7]), hc.trans' hc2⟩
theorem tx_small (h : RS w0 w b (t :: r) ds q m X) : t.text.length ≤ 1048576 := h.tx t (List.mem_cons_self ..)
set_option maxHeartbeats 4000000 in
set_option maxRecDepth 100000 in
theorem free_calls (h : RS w0 w b (t :: r) ds q m X) (hv : VarsP w0) : Calls Tryz.prog 70 #[.pointer (some ⟨b, 0, none⟩)] w fun e w' => e = .returned (.bool (freeB t)) ∧ Chg [] w w' := by
  have H := hid fun W (hc : Chg [] w W) => here_calls (h.same hc)
  have HW := hid fun W (hc : Chg [] w W) => word_calls t.text (tx_small h) W (hv.keep (h.hp.chg.trans' hc))
  have hc0 := Chg.refl [] w
  have hf0 := field_kind t
  have hf1 := field_text t
  clear h hv
  by_cases h1 : t.kind = 1
  · have hE : freeB t = !wordL t.text := by simp [freeB, h1]
    have e1 : ((t.kind : Int) == 1) = true := by simp; omega
    rw [hE]
    clear hE h1
    go_enter Tryz.func70, Tryz.ntmps70
    go_wp2_with (first
      | (go_at_call 21; refine (H.out w hc0).mono ?_; rintro e w1 ⟨rfl, hc⟩)
      | (go_at_call 21; refine (H.out _ hc).mono ?_; rintro e w2 ⟨rfl, hc2⟩)
      | (go_at_call 77; refine (HW.out _ (hc.trans' hc2)).mono ?_; rintro e w3 ⟨rfl, hc3⟩))
    go_ret
    exact ⟨ret_bool (by simp [e1]), (hc.trans' hc2).trans' hc3⟩
  · have hE : freeB t = false := by simp [freeB, h1]
    have e1 : ((t.kind : Int) == 1) = false := by simp; omega
    rw [hE]
    clear hE h1
    go_enter Tryz.func70, Tryz.ntmps70
    go_wp2_with (go_at_call 21; refine (H.out w hc0).mono ?_; rintro e w1 ⟨rfl, hc⟩)
    go_ret
    exact ⟨ret_bool (by simp [e1]), hc⟩
theorem free_kind {t : Tok} (h : freeB t = true) : (t.kind : Int) = 1 ∧ t.kind ≠ 7 := by
  unfold freeB at h
  simp only [Bool.and_eq_true, decide_eq_true_eq] at h
  omega
theorem RS.put5 {ts : List Tok} {p : Nat} {a0 a1 a2 a3 a4 : Value} {T : TypeId} (h : RS w0 w b ts ds q m (.box p (.cells #[a0, a1, a2, a3, a4] T (0, 0)) :: X)) (v0 v1 v2 v3 v4 : Value) :
    RS w0 (((((w.setCell ⟨p, 0, none⟩ v0).setCell ⟨p, 1, none⟩ v1).setCell ⟨p, 2, none⟩ v2).setCell ⟨p, 3, none⟩ v3).setCell ⟨p, 4, none⟩ v4) b ts ds q m (.box p (.cells #[v0, v1, v2, v3, v4] T (0, 0)) :: X) :=
  ((((h.putX 0 rfl 0 v0 rfl).putX 0 rfl 1 v1 rfl).putX 0 rfl 2 v2 rfl).putX 0 rfl 3 v3 rfl).putX 0 rfl 4 v4 rfl
/-- What name answers. -/
def NameP (w0 : World) (b : Nat) (ds : List DcD) (q : RQ) (m : Nat) (X : List It) (x : Except Flt (Tok × List Tok)) (e : Ending) (w' : World) : Prop := OutP (badP w0) x (fun p e w' => e = .returned (.agg #[.int .i64 p.1.kind, .string (bA p.1.text), .int .i64 p.1.num, .int .i64 p.1.line, .int .i64 p.1.col]) ∧ RS w0 w' b p.2 ds q.next (m - 1) X ∧ 0 < m ∧ freeB p.1 = true) e w'
set_option maxHeartbeats 4000000 in
set_option maxRecDepth 100000 in
theorem name_tok (h : RS w0 w b (t :: r) ds q m X) (hv : VarsP w0) : Calls Tryz.prog 47 #[.pointer (some ⟨b, 0, none⟩)] w (NameP w0 b ds q m X (nameT (t :: r))) := by
  have hz := h.box (.cells #[.int .i64 0, .string ⟨#[]⟩, .int .i64 0, .int .i64 0, .int .i64 0] 63)
  have HF := hid (free_calls hz hv)
  have HH := hid fun W (hc : Chg [] (w.alloc (.cells #[.int .i64 0, .string ⟨#[]⟩, .int .i64 0, .int .i64 0, .int .i64 0] 63)) W) => hz.same hc
  obtain ⟨N, hN⟩ : ∃ N, nameT (t :: r) = N := ⟨_, rfl⟩
  rw [hN]
  rw [nameT_cons] at hN
  have hf1 := field_text t
  cases hf : freeB t with
  | false =>
    rw [if_pos hf] at hN
    subst hN
    rw [hf] at HF
    clear hz h hf
    go_enter Tryz.func47, Tryz.ntmps47
    go_wp2_with (first
      | (go_at_call 70; refine HF.out.mono ?_; rintro e w1 ⟨rfl, hc⟩)
      | (go_at_call 46; refine (fail_calls (HH.out _ hc) 82).mono ?_; rintro e w2 ⟨rfl, hc2⟩))
    exact ⟨rfl, rfl, hc2⟩
  | true =>
    rw [if_neg (by simp [hf])] at hN
    rw [hf] at HF
    have htx := tx_small h
    have hsz : (bA t.text).size = t.text.length := bA_size _
    by_cases hl : 24 < t.text.length
    · rw [if_pos hl] at hN
      subst hN
      have hg : decide ((24 : Int) < ((bA t.text).size : Int)) = true := decide_eq_true (by rw [hsz]; omega)
      clear hz h hf hl hsz
      go_enter Tryz.func47, Tryz.ntmps47
      go_wp2_with (first
        | (go_at_call 70; refine HF.out.mono ?_; rintro e w1 ⟨rfl, hc⟩)
        | (go_at_call 21; refine (here_calls (HH.out _ hc)).mono ?_; rintro e w2 ⟨rfl, hc2⟩)
        | (go_at_call 46; refine (fail_calls (HH.out _ (hc.trans' hc2)) 84).mono ?_; rintro e w3 ⟨rfl, hc3⟩))
      exact ⟨rfl, rfl, hc3⟩
    · rw [if_neg hl] at hN
      subst hN
      have hg : decide ((24 : Int) < ((bA t.text).size : Int)) = false := decide_eq_false (by rw [hsz]; omega)
      have HK := hid (free_kind hf)
      have HFR := hid hf
      clear hz h hf hl hsz
      go_enter Tryz.func47, Tryz.ntmps47
      go_wp2_with (first
        | (go_at_call 70; refine HF.out.mono ?_; rintro e w1 ⟨rfl, hc⟩)
        | (go_at_call 21; refine (here_calls (HH.out _ hc)).mono ?_; rintro e w2 ⟨rfl, hc2⟩)
        | (go_at_call 22; refine (take_ok (HH.out _ (hc.trans' hc2)) 1 HK.out.1 HK.out.2).mono ?_; rintro e w3 ⟨rfl, h3, hm3⟩; have b0 := h3.getX (j := 0) rfl; have fr := blk_free b0; have cc := blk_cell b0; have hw3 := blk_lt b0; have HH3 := hid h3; have HB0 := hid b0; clear h3 b0))
      have h5 := HH3.out.put5 (.int .i64 t.kind) (.string (bA t.text)) (.int .i64 t.num) (.int .i64 t.line) (.int .i64 t.col)
      have b5 := h5.getX (j := 0) rfl
      generalize (((((w3.setCell ⟨w.heap.size, 0, none⟩ (.int .i64 t.kind)).setCell ⟨w.heap.size, 1, none⟩ (.string (bA t.text))).setCell ⟨w.heap.size, 2, none⟩ (.int .i64 t.num)).setCell ⟨w.heap.size, 3, none⟩ (.int .i64 t.line)).setCell ⟨w.heap.size, 4, none⟩ (.int .i64 t.col)) = W at h5 b5 ⊢
      have u0 : W.cell? ⟨w.heap.size, 0, none⟩ = some (.int .i64 t.kind) := blk_cell b5 0
      have u1 : W.cell? ⟨w.heap.size, 1, none⟩ = some (.string (bA t.text)) := blk_cell b5 1
      have u2 : W.cell? ⟨w.heap.size, 2, none⟩ = some (.int .i64 t.num) := blk_cell b5 2
      have u3 : W.cell? ⟨w.heap.size, 3, none⟩ = some (.int .i64 t.line) := blk_cell b5 3
      have u4 : W.cell? ⟨w.heap.size, 4, none⟩ = some (.int .i64 t.col) := blk_cell b5 4
      exact bodyPost_ret (v := .agg #[.int .i64 t.kind, .string (bA t.text), .int .i64 t.num, .int .i64 t.line, .int .i64 t.col]) (by simp [results, Tryz.results47, go_sem, u0, u1, u2, u3, u4]) rfl ⟨rfl, h5.subX (.cons _ (.refl _)), hm3, HFR.out⟩
set_option maxHeartbeats 4000000 in
set_option maxRecDepth 100000 in
theorem block_none (h : RS w0 w b (t :: r) ds q m X) (hq : q.bs = []) : Calls Tryz.prog 71 #[.pointer (some ⟨b, 0, none⟩)] w (badP w0 (fltAt 81 t)) := by
  have c2 := h.c2
  have HF := hid fun W (hc : Chg [] w W) => fail_calls (h.same hc) 81
  have hc0 := hid (Chg.refl [] w)
  rw [hq, List.length_nil] at c2
  clear h hq
  go_enter Tryz.func71, Tryz.ntmps71
  go_wp2_with (go_at_call 46; refine (HF.out _ hc0.out).mono ?_; rintro e w2 ⟨rfl, hc2⟩)
  exact ⟨rfl, rfl, hc2⟩
set_option maxHeartbeats 4000000 in
set_option maxRecDepth 100000 in
theorem block_some (h : RS w0 w b (t :: r) ds q m X) {init : List BlO} {x : BlO} (hq : q.bs = init ++ [x]) {g : Nat} (hg : q.r1 = some g) : Calls Tryz.prog 71 #[.pointer (some ⟨b, 0, none⟩)] w fun e w' => e = .returned (.pointer (some ⟨g, init.length * 4, none⟩)) ∧ Chg [] w w' := by
  have c2 := h.c2
  obtain ⟨g', hg', ha, _⟩ := h.last hq
  rw [hg] at hg'
  cases hg'
  have hl : q.bs.length = init.length + 1 := by rw [hq]; simp
  have hsm := h.lb
  have hm := h.sm
  have hb := h.lt
  rw [hl] at hsm
  rw [hl, ha] at c2
  obtain ⟨n, hn⟩ : ∃ n, init.length = n := ⟨_, rfl⟩
  rw [hn] at c2 hsm ⊢
  have t0 : (((n + 1 : Nat) : Int) == 0) = false := by simp; omega
  have hc0 := hid (Chg.refl [] w)
  have i1 : (0 : Int) ≤ (n : Int) := by omega
  have i2 : (n : Int) < ((n + 1 : Nat) : Int) := by omega
  clear h hq hn hl ha hg
  go_enter Tryz.func71, Tryz.ntmps71
  go_wp2
  go_quiet (fail)
  all_goals
    go_wp2
    go_ret
    exact ⟨rfl, Chg.of_drewN _ _ _⟩
end
end Go.Proofs.YtmahcabidggmeaaGreatDoor
