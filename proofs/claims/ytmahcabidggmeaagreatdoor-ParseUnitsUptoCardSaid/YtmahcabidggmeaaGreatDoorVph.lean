/- Walks of the parser: an instruction's operands. (Printed by gen_popers.py.) -/
import Derived.Test.YtmahcabidggmeaaGreatDoorVpg
set_option linter.unusedVariables false
set_option linter.unusedSectionVars false
set_option linter.unusedSimpArgs false
namespace Go.AB
open Go.RowKit
theorem oper_r {k : Nat} {t : Tok} {r : List Tok} {x : ItD} : operD 114 k (t :: r) x = if t.kind = 1 ∧ 0 ≤ regL t.text then .ok (r, k + 1, setReg x k (regL t.text)) else .error (fltAt 82 t) := by
  unfold operD
  rw [if_pos rfl]
theorem oper_n {k : Nat} {t : Tok} {r : List Tok} {x : ItD} : operD 110 k (t :: r) x = if t.kind = 2 then .ok (r, k, ⟨x.op, x.a, x.b, x.c, t.num, x.name, x.p1, x.p2, t.line, t.col⟩) else .error (fltAt 82 t) := by
  unfold operD
  rw [if_neg (by decide), if_pos rfl, show takeK 2 (t :: r) = if t.kind = 2 then .ok (t, r) else .error (fltAt 82 t) from rfl]
  by_cases h : t.kind = 2
  · rw [if_pos h, if_pos h]
  · rw [if_neg h, if_neg h]
theorem oper_x {k : Nat} {ts : List Tok} {x : ItD} : operD 120 k ts x = match nameT ts with
    | .error f => .error f
    | .ok (t, r) => .ok (r, k, ⟨x.op, x.a, x.b, x.c, x.n, bA t.text, x.p1, x.p2, t.line, t.col⟩) := by
  unfold operD
  rw [if_neg (by decide), if_neg (by decide)]
  rfl
end Go.AB
namespace Go.Proofs.YtmahcabidggmeaaGreatDoor
open Go.RowKit Go.AB
set_option linter.unusedSimpArgs false
set_option linter.unusedVariables false
set_option linter.unusedSectionVars false

/-- What an instruction's reader keeps: the Item, the registers that are left, their places, the reader. -/
def insX (PX PR PA PB b : Nat) (rv : Value) (x : ItD) : List It := [.box PX (.cells #[.int .i64 x.op, .int .i64 x.a, .int .i64 x.b, .int .i64 x.c, .int .i64 x.n, .string x.name, .int .i64 x.p1, .int .i64 x.p2, .int .i64 x.q1, .int .i64 x.q2] 53 (0, 0)), .box PR (.cells #[rv] 129 (0, 0)), .box PA (.cells #[.pointer (some ⟨PX, 1, none⟩), .pointer (some ⟨PX, 2, none⟩), .pointer (some ⟨PX, 3, none⟩)] 128 (0, 0)), .box PB (.cells #[.pointer (some ⟨b, 0, none⟩)] 67 (0, 0))]
def RvOk (PA k : Nat) (rv : Value) : Prop := k < 3 → rv = .slice (some ⟨PA, k, none⟩) (3 - k) (3 - k)
/-- What an operand's reader answers. -/
def OperP (w0 : World) (b : Nat) (ds : List DcD) (q : RQ) (m : Nat) (PX PR PA PB : Nat) (X : List It) (x : Except Flt (List Tok × Nat × ItD)) (e : Ending) (w' : World) : Prop :=
  OutP (badP w0) x (fun p e w' => e = .returned (.tuple #[]) ∧ 0 < m ∧ ∃ rv, RvOk PA p.2.1 rv ∧ RS w0 w' b p.1 ds q.next (m - 1) (insX PX PR PA PB b rv p.2.2 ++ X)) e w'
section
variable {w0 w : World} {b : Nat} {t : Tok} {ts r : List Tok} {ds : List DcD} {q : RQ} {m : Nat} {X : List It} {PX PR PA PB : Nat}
theorem OperP.bad {x : Except Flt (List Tok × Nat × ItD)} {f : Flt} {e : Ending} {w' : World} (hx : x = .error f) (h : badP w0 f e w') : OperP w0 b ds q m PX PR PA PB X x e w' := by subst hx; exact h
theorem OperP.good {x : Except Flt (List Tok × Nat × ItD)} {k : Nat} {y : ItD} {rv : Value} {w' : World} (hx : x = .ok (ts, k, y)) (hm : 0 < m) (hr : RvOk PA k rv) (h : RS w0 w' b ts ds q.next (m - 1) (insX PX PR PA PB b rv y ++ X)) : OperP w0 b ds q m PX PR PA PB X x (.returned (.tuple #[])) w' := by subst hx; exact ⟨rfl, hm, rv, hr, h⟩
set_option maxHeartbeats 8000000 in
set_option maxRecDepth 100000 in
theorem oper_r0 {x : ItD} (h : RS w0 w b (t :: r) ds q m (insX PX PR PA PB b (.slice (some ⟨PA, 0, none⟩) 3 3) x ++ X)) (hv : VarsP w0) : Calls Tryz.prog 73 #[.pointer (some ⟨PB, 0, none⟩), .pointer (some ⟨PR, 0, none⟩)] w (OperP w0 b ds q m PX PR PA PB X (operD 114 0 (t :: r) x)) := by
  obtain ⟨G, hG⟩ : ∃ G, operD 114 0 (t :: r) x = G := ⟨_, rfl⟩
  rw [hG]
  rw [oper_r] at hG
  obtain ⟨op, xa, xb, xc, xn, name, p1, p2, q1, q2⟩ := x
  have HS := hid fun W (hc : Chg [] w W) => h.same hc
  have HB : Hid (∀ W, Chg [] w W → W.cell? ⟨PB, 0, none⟩ = some (.pointer (some ⟨b, 0, none⟩))) := hid fun W hc => blk_cell ((h.same hc).getX (j := 3) rfl) 0
  have hB0 := HB.out w (Chg.refl _ _)
  have hf0 := field_kind t
  have hf1 := field_text t
  have hc0 := Chg.refl [] w
  have HH := hid fun W (hc : Chg [] w W) => here_calls (h.same hc)
  have HR := hid fun W (hc : Chg [] w W) => register_calls t.text (tx_small h) W (hv.keep (h.hp.chg.trans' hc))
  have HFL := hid fun W (hc : Chg [] w W) => fail_calls (h.same hc) 82
  by_cases h1 : t.kind = 1
  · have e1 : ((t.kind : Int) == 1) = true := by simp; omega
    obtain ⟨n, hn⟩ : ∃ n, regL t.text = n := ⟨_, rfl⟩
    rw [hn] at hG HR
    by_cases h2 : 0 ≤ n
    · rw [if_pos ⟨h1, h2⟩] at hG
      have g1 : decide (n < 0) = false := decide_eq_false (by omega)
      have HT : Hid (∀ W, Chg [] w W → W.cell? ⟨PR, 0, none⟩ = some (.slice (some ⟨PA, 0, none⟩) 3 3) ∧ W.frozen? ⟨PR, 0, none⟩ = false ∧ W.cell? ⟨PA, 0, none⟩ = some (.pointer (some ⟨PX, 1, none⟩)) ∧ W.cell? ⟨PX, 1, none⟩ = some (.int .i64 xa) ∧ W.frozen? ⟨PX, 1, none⟩ = false) := hid fun W hc =>
        ⟨blk_cell ((h.same hc).getX (j := 1) rfl) 0, blk_free ((h.same hc).getX (j := 1) rfl) 0, blk_cell ((h.same hc).getX (j := 2) rfl) 0, blk_cell ((h.same hc).getX (j := 0) rfl) 1, blk_free ((h.same hc).getX (j := 0) rfl) 1⟩
      have HP : Hid (∀ W, Chg [] w W → RS w0 ((W.setCell ⟨PX, 1, none⟩ (.int .i64 n)).setCell ⟨PR, 0, none⟩ (.slice (some ⟨PA, 1, none⟩) 2 2)) b (t :: r) ds q m (insX PX PR PA PB b (.slice (some ⟨PA, 1, none⟩) 2 2) (setReg ⟨op, xa, xb, xc, xn, name, p1, p2, q1, q2⟩ 0 n) ++ X)) := hid fun W hc =>
        ((h.same hc).putX 0 rfl 1 (.int .i64 n) rfl).putX 1 rfl 0 (.slice (some ⟨PA, 1, none⟩) 2 2) rfl
      have hne : PR ≠ PX := by
        intro e
        exact h.hp.ne (i := (rsI b (t :: r).length ds q).length + 1) (j := (rsI b (t :: r).length ds q).length + 0) (by rw [List.getElem?_append_right (by omega), Nat.add_sub_cancel_left]; rfl) (by rw [List.getElem?_append_right (by omega), Nat.add_sub_cancel_left]; rfl) (by omega) (g := PR) rfl (by rw [e]; rfl)
      have hPB1 : PB ≠ PX := by
        intro e
        exact h.hp.ne (i := (rsI b (t :: r).length ds q).length + 3) (j := (rsI b (t :: r).length ds q).length + 0) (by rw [List.getElem?_append_right (by omega), Nat.add_sub_cancel_left]; rfl) (by rw [List.getElem?_append_right (by omega), Nat.add_sub_cancel_left]; rfl) (by omega) (g := PB) rfl (by rw [e]; rfl)
      have hPB2 : PB ≠ PR := by
        intro e
        exact h.hp.ne (i := (rsI b (t :: r).length ds q).length + 3) (j := (rsI b (t :: r).length ds q).length + 1) (by rw [List.getElem?_append_right (by omega), Nat.add_sub_cancel_left]; rfl) (by rw [List.getElem?_append_right (by omega), Nat.add_sub_cancel_left]; rfl) (by omega) (g := PB) rfl (by rw [e]; rfl)
      have HG := hid hG
      have H1 := hid h1
      clear hG h2 h1 h hv hn HFL
      go_enter Tryz.func73, Tryz.ntmps73
      go_wp2_with (first
        | (go_at_call 21; refine (HH.out w hc0).mono ?_; rintro e w1 ⟨rfl, hc1⟩; have hB1 := HB.out _ hc1)
        | (go_at_call 21; refine (HH.out _ hc1).mono ?_; rintro e w2 ⟨rfl, hc2⟩; have hc12 := hc1.trans' hc2)
        | (go_at_call 74; refine (HR.out _ hc12).mono ?_; rintro e w3 ⟨rfl, hc3⟩; have hc13 := hc12.trans' hc3; obtain ⟨v0, v1, v2, v3, v4⟩ := HT.out _ hc13; have hB3 := HB.out _ hc13)
        | (go_at_call 22; refine (take_ok (HP.out _ hc13) 1 (by have := H1.out; omega) (by have := H1.out; omega)).mono ?_; rintro e w4 ⟨rfl, h4, hm4⟩))
      go_end0
      exact OperP.good HG.out.symm hm4 (fun hk => by first | (exact absurd hk (by decide)) | rfl) h4
    · rw [if_neg (fun e => h2 e.2)] at hG
      have g1 : decide (n < 0) = true := decide_eq_true (by omega)
      have HG := hid hG
      clear hG h2 h1 h hv hn
      go_enter Tryz.func73, Tryz.ntmps73
      go_wp2_with (first
        | (go_at_call 21; refine (HH.out w hc0).mono ?_; rintro e w1 ⟨rfl, hc1⟩; have hB1 := HB.out _ hc1)
        | (go_at_call 21; refine (HH.out _ hc1).mono ?_; rintro e w2 ⟨rfl, hc2⟩; have hc12 := hc1.trans' hc2)
        | (go_at_call 74; refine (HR.out _ hc12).mono ?_; rintro e w3 ⟨rfl, hc3⟩; have hc13 := hc12.trans' hc3; have hB3 := HB.out _ hc13)
        | (go_at_call 46; refine (HFL.out _ hc13).mono ?_; rintro e w4 ⟨rfl, hc4⟩))
      exact ⟨rfl, OperP.bad HG.out.symm ⟨rfl, hc4⟩⟩
  · rw [if_neg (fun e => h1 e.1)] at hG
    have e1 : ((t.kind : Int) == 1) = false := by simp; omega
    have HG := hid hG
    clear hG h1 h hv HR
    go_enter Tryz.func73, Tryz.ntmps73
    go_wp2_with (first
      | (go_at_call 21; refine (HH.out w hc0).mono ?_; rintro e w1 ⟨rfl, hc1⟩; have hB1 := HB.out _ hc1)
      | (go_at_call 46; refine (HFL.out _ hc1).mono ?_; rintro e w4 ⟨rfl, hc4⟩))
    exact ⟨rfl, OperP.bad HG.out.symm ⟨rfl, hc4⟩⟩
set_option maxHeartbeats 8000000 in
set_option maxRecDepth 100000 in
theorem oper_r1 {x : ItD} (h : RS w0 w b (t :: r) ds q m (insX PX PR PA PB b (.slice (some ⟨PA, 1, none⟩) 2 2) x ++ X)) (hv : VarsP w0) : Calls Tryz.prog 73 #[.pointer (some ⟨PB, 0, none⟩), .pointer (some ⟨PR, 0, none⟩)] w (OperP w0 b ds q m PX PR PA PB X (operD 114 1 (t :: r) x)) := by
  obtain ⟨G, hG⟩ : ∃ G, operD 114 1 (t :: r) x = G := ⟨_, rfl⟩
  rw [hG]
  rw [oper_r] at hG
  obtain ⟨op, xa, xb, xc, xn, name, p1, p2, q1, q2⟩ := x
  have HS := hid fun W (hc : Chg [] w W) => h.same hc
  have HB : Hid (∀ W, Chg [] w W → W.cell? ⟨PB, 0, none⟩ = some (.pointer (some ⟨b, 0, none⟩))) := hid fun W hc => blk_cell ((h.same hc).getX (j := 3) rfl) 0
  have hB0 := HB.out w (Chg.refl _ _)
  have hf0 := field_kind t
  have hf1 := field_text t
  have hc0 := Chg.refl [] w
  have HH := hid fun W (hc : Chg [] w W) => here_calls (h.same hc)
  have HR := hid fun W (hc : Chg [] w W) => register_calls t.text (tx_small h) W (hv.keep (h.hp.chg.trans' hc))
  have HFL := hid fun W (hc : Chg [] w W) => fail_calls (h.same hc) 82
  by_cases h1 : t.kind = 1
  · have e1 : ((t.kind : Int) == 1) = true := by simp; omega
    obtain ⟨n, hn⟩ : ∃ n, regL t.text = n := ⟨_, rfl⟩
    rw [hn] at hG HR
    by_cases h2 : 0 ≤ n
    · rw [if_pos ⟨h1, h2⟩] at hG
      have g1 : decide (n < 0) = false := decide_eq_false (by omega)
      have HT : Hid (∀ W, Chg [] w W → W.cell? ⟨PR, 0, none⟩ = some (.slice (some ⟨PA, 1, none⟩) 2 2) ∧ W.frozen? ⟨PR, 0, none⟩ = false ∧ W.cell? ⟨PA, 1, none⟩ = some (.pointer (some ⟨PX, 2, none⟩)) ∧ W.cell? ⟨PX, 2, none⟩ = some (.int .i64 xb) ∧ W.frozen? ⟨PX, 2, none⟩ = false) := hid fun W hc =>
        ⟨blk_cell ((h.same hc).getX (j := 1) rfl) 0, blk_free ((h.same hc).getX (j := 1) rfl) 0, blk_cell ((h.same hc).getX (j := 2) rfl) 1, blk_cell ((h.same hc).getX (j := 0) rfl) 2, blk_free ((h.same hc).getX (j := 0) rfl) 2⟩
      have HP : Hid (∀ W, Chg [] w W → RS w0 ((W.setCell ⟨PX, 2, none⟩ (.int .i64 n)).setCell ⟨PR, 0, none⟩ (.slice (some ⟨PA, 2, none⟩) 1 1)) b (t :: r) ds q m (insX PX PR PA PB b (.slice (some ⟨PA, 2, none⟩) 1 1) (setReg ⟨op, xa, xb, xc, xn, name, p1, p2, q1, q2⟩ 1 n) ++ X)) := hid fun W hc =>
        ((h.same hc).putX 0 rfl 2 (.int .i64 n) rfl).putX 1 rfl 0 (.slice (some ⟨PA, 2, none⟩) 1 1) rfl
      have hne : PR ≠ PX := by
        intro e
        exact h.hp.ne (i := (rsI b (t :: r).length ds q).length + 1) (j := (rsI b (t :: r).length ds q).length + 0) (by rw [List.getElem?_append_right (by omega), Nat.add_sub_cancel_left]; rfl) (by rw [List.getElem?_append_right (by omega), Nat.add_sub_cancel_left]; rfl) (by omega) (g := PR) rfl (by rw [e]; rfl)
      have hPB1 : PB ≠ PX := by
        intro e
        exact h.hp.ne (i := (rsI b (t :: r).length ds q).length + 3) (j := (rsI b (t :: r).length ds q).length + 0) (by rw [List.getElem?_append_right (by omega), Nat.add_sub_cancel_left]; rfl) (by rw [List.getElem?_append_right (by omega), Nat.add_sub_cancel_left]; rfl) (by omega) (g := PB) rfl (by rw [e]; rfl)
      have hPB2 : PB ≠ PR := by
        intro e
        exact h.hp.ne (i := (rsI b (t :: r).length ds q).length + 3) (j := (rsI b (t :: r).length ds q).length + 1) (by rw [List.getElem?_append_right (by omega), Nat.add_sub_cancel_left]; rfl) (by rw [List.getElem?_append_right (by omega), Nat.add_sub_cancel_left]; rfl) (by omega) (g := PB) rfl (by rw [e]; rfl)
      have HG := hid hG
      have H1 := hid h1
      clear hG h2 h1 h hv hn HFL
      go_enter Tryz.func73, Tryz.ntmps73
      go_wp2_with (first
        | (go_at_call 21; refine (HH.out w hc0).mono ?_; rintro e w1 ⟨rfl, hc1⟩; have hB1 := HB.out _ hc1)
        | (go_at_call 21; refine (HH.out _ hc1).mono ?_; rintro e w2 ⟨rfl, hc2⟩; have hc12 := hc1.trans' hc2)
        | (go_at_call 74; refine (HR.out _ hc12).mono ?_; rintro e w3 ⟨rfl, hc3⟩; have hc13 := hc12.trans' hc3; obtain ⟨v0, v1, v2, v3, v4⟩ := HT.out _ hc13; have hB3 := HB.out _ hc13)
        | (go_at_call 22; refine (take_ok (HP.out _ hc13) 1 (by have := H1.out; omega) (by have := H1.out; omega)).mono ?_; rintro e w4 ⟨rfl, h4, hm4⟩))
      go_end0
      exact OperP.good HG.out.symm hm4 (fun hk => by first | (exact absurd hk (by decide)) | rfl) h4
    · rw [if_neg (fun e => h2 e.2)] at hG
      have g1 : decide (n < 0) = true := decide_eq_true (by omega)
      have HG := hid hG
      clear hG h2 h1 h hv hn
      go_enter Tryz.func73, Tryz.ntmps73
      go_wp2_with (first
        | (go_at_call 21; refine (HH.out w hc0).mono ?_; rintro e w1 ⟨rfl, hc1⟩; have hB1 := HB.out _ hc1)
        | (go_at_call 21; refine (HH.out _ hc1).mono ?_; rintro e w2 ⟨rfl, hc2⟩; have hc12 := hc1.trans' hc2)
        | (go_at_call 74; refine (HR.out _ hc12).mono ?_; rintro e w3 ⟨rfl, hc3⟩; have hc13 := hc12.trans' hc3; have hB3 := HB.out _ hc13)
        | (go_at_call 46; refine (HFL.out _ hc13).mono ?_; rintro e w4 ⟨rfl, hc4⟩))
      exact ⟨rfl, OperP.bad HG.out.symm ⟨rfl, hc4⟩⟩
  · rw [if_neg (fun e => h1 e.1)] at hG
    have e1 : ((t.kind : Int) == 1) = false := by simp; omega
    have HG := hid hG
    clear hG h1 h hv HR
    go_enter Tryz.func73, Tryz.ntmps73
    go_wp2_with (first
      | (go_at_call 21; refine (HH.out w hc0).mono ?_; rintro e w1 ⟨rfl, hc1⟩; have hB1 := HB.out _ hc1)
      | (go_at_call 46; refine (HFL.out _ hc1).mono ?_; rintro e w4 ⟨rfl, hc4⟩))
    exact ⟨rfl, OperP.bad HG.out.symm ⟨rfl, hc4⟩⟩
set_option maxHeartbeats 8000000 in
set_option maxRecDepth 100000 in
theorem oper_r2 {x : ItD} (h : RS w0 w b (t :: r) ds q m (insX PX PR PA PB b (.slice (some ⟨PA, 2, none⟩) 1 1) x ++ X)) (hv : VarsP w0) : Calls Tryz.prog 73 #[.pointer (some ⟨PB, 0, none⟩), .pointer (some ⟨PR, 0, none⟩)] w (OperP w0 b ds q m PX PR PA PB X (operD 114 2 (t :: r) x)) := by
  obtain ⟨G, hG⟩ : ∃ G, operD 114 2 (t :: r) x = G := ⟨_, rfl⟩
  rw [hG]
  rw [oper_r] at hG
  obtain ⟨op, xa, xb, xc, xn, name, p1, p2, q1, q2⟩ := x
  have HS := hid fun W (hc : Chg [] w W) => h.same hc
  have HB : Hid (∀ W, Chg [] w W → W.cell? ⟨PB, 0, none⟩ = some (.pointer (some ⟨b, 0, none⟩))) := hid fun W hc => blk_cell ((h.same hc).getX (j := 3) rfl) 0
  have hB0 := HB.out w (Chg.refl _ _)
  have hf0 := field_kind t
  have hf1 := field_text t
  have hc0 := Chg.refl [] w
  have HH := hid fun W (hc : Chg [] w W) => here_calls (h.same hc)
  have HR := hid fun W (hc : Chg [] w W) => register_calls t.text (tx_small h) W (hv.keep (h.hp.chg.trans' hc))
  have HFL := hid fun W (hc : Chg [] w W) => fail_calls (h.same hc) 82
  by_cases h1 : t.kind = 1
  · have e1 : ((t.kind : Int) == 1) = true := by simp; omega
    obtain ⟨n, hn⟩ : ∃ n, regL t.text = n := ⟨_, rfl⟩
    rw [hn] at hG HR
    by_cases h2 : 0 ≤ n
    · rw [if_pos ⟨h1, h2⟩] at hG
      have g1 : decide (n < 0) = false := decide_eq_false (by omega)
      have HT : Hid (∀ W, Chg [] w W → W.cell? ⟨PR, 0, none⟩ = some (.slice (some ⟨PA, 2, none⟩) 1 1) ∧ W.frozen? ⟨PR, 0, none⟩ = false ∧ W.cell? ⟨PA, 2, none⟩ = some (.pointer (some ⟨PX, 3, none⟩)) ∧ W.cell? ⟨PX, 3, none⟩ = some (.int .i64 xc) ∧ W.frozen? ⟨PX, 3, none⟩ = false) := hid fun W hc =>
        ⟨blk_cell ((h.same hc).getX (j := 1) rfl) 0, blk_free ((h.same hc).getX (j := 1) rfl) 0, blk_cell ((h.same hc).getX (j := 2) rfl) 2, blk_cell ((h.same hc).getX (j := 0) rfl) 3, blk_free ((h.same hc).getX (j := 0) rfl) 3⟩
      have HP : Hid (∀ W, Chg [] w W → RS w0 ((W.setCell ⟨PX, 3, none⟩ (.int .i64 n)).setCell ⟨PR, 0, none⟩ (.slice (some ⟨PA, 2, none⟩) 0 0)) b (t :: r) ds q m (insX PX PR PA PB b (.slice (some ⟨PA, 2, none⟩) 0 0) (setReg ⟨op, xa, xb, xc, xn, name, p1, p2, q1, q2⟩ 2 n) ++ X)) := hid fun W hc =>
        ((h.same hc).putX 0 rfl 3 (.int .i64 n) rfl).putX 1 rfl 0 (.slice (some ⟨PA, 2, none⟩) 0 0) rfl
      have hne : PR ≠ PX := by
        intro e
        exact h.hp.ne (i := (rsI b (t :: r).length ds q).length + 1) (j := (rsI b (t :: r).length ds q).length + 0) (by rw [List.getElem?_append_right (by omega), Nat.add_sub_cancel_left]; rfl) (by rw [List.getElem?_append_right (by omega), Nat.add_sub_cancel_left]; rfl) (by omega) (g := PR) rfl (by rw [e]; rfl)
      have hPB1 : PB ≠ PX := by
        intro e
        exact h.hp.ne (i := (rsI b (t :: r).length ds q).length + 3) (j := (rsI b (t :: r).length ds q).length + 0) (by rw [List.getElem?_append_right (by omega), Nat.add_sub_cancel_left]; rfl) (by rw [List.getElem?_append_right (by omega), Nat.add_sub_cancel_left]; rfl) (by omega) (g := PB) rfl (by rw [e]; rfl)
      have hPB2 : PB ≠ PR := by
        intro e
        exact h.hp.ne (i := (rsI b (t :: r).length ds q).length + 3) (j := (rsI b (t :: r).length ds q).length + 1) (by rw [List.getElem?_append_right (by omega), Nat.add_sub_cancel_left]; rfl) (by rw [List.getElem?_append_right (by omega), Nat.add_sub_cancel_left]; rfl) (by omega) (g := PB) rfl (by rw [e]; rfl)
      have HG := hid hG
      have H1 := hid h1
      clear hG h2 h1 h hv hn HFL
      go_enter Tryz.func73, Tryz.ntmps73
      go_wp2_with (first
        | (go_at_call 21; refine (HH.out w hc0).mono ?_; rintro e w1 ⟨rfl, hc1⟩; have hB1 := HB.out _ hc1)
        | (go_at_call 21; refine (HH.out _ hc1).mono ?_; rintro e w2 ⟨rfl, hc2⟩; have hc12 := hc1.trans' hc2)
        | (go_at_call 74; refine (HR.out _ hc12).mono ?_; rintro e w3 ⟨rfl, hc3⟩; have hc13 := hc12.trans' hc3; obtain ⟨v0, v1, v2, v3, v4⟩ := HT.out _ hc13; have hB3 := HB.out _ hc13)
        | (go_at_call 22; refine (take_ok (HP.out _ hc13) 1 (by have := H1.out; omega) (by have := H1.out; omega)).mono ?_; rintro e w4 ⟨rfl, h4, hm4⟩))
      go_end0
      exact OperP.good HG.out.symm hm4 (fun hk => by first | (exact absurd hk (by decide)) | rfl) h4
    · rw [if_neg (fun e => h2 e.2)] at hG
      have g1 : decide (n < 0) = true := decide_eq_true (by omega)
      have HG := hid hG
      clear hG h2 h1 h hv hn
      go_enter Tryz.func73, Tryz.ntmps73
      go_wp2_with (first
        | (go_at_call 21; refine (HH.out w hc0).mono ?_; rintro e w1 ⟨rfl, hc1⟩; have hB1 := HB.out _ hc1)
        | (go_at_call 21; refine (HH.out _ hc1).mono ?_; rintro e w2 ⟨rfl, hc2⟩; have hc12 := hc1.trans' hc2)
        | (go_at_call 74; refine (HR.out _ hc12).mono ?_; rintro e w3 ⟨rfl, hc3⟩; have hc13 := hc12.trans' hc3; have hB3 := HB.out _ hc13)
        | (go_at_call 46; refine (HFL.out _ hc13).mono ?_; rintro e w4 ⟨rfl, hc4⟩))
      exact ⟨rfl, OperP.bad HG.out.symm ⟨rfl, hc4⟩⟩
  · rw [if_neg (fun e => h1 e.1)] at hG
    have e1 : ((t.kind : Int) == 1) = false := by simp; omega
    have HG := hid hG
    clear hG h1 h hv HR
    go_enter Tryz.func73, Tryz.ntmps73
    go_wp2_with (first
      | (go_at_call 21; refine (HH.out w hc0).mono ?_; rintro e w1 ⟨rfl, hc1⟩; have hB1 := HB.out _ hc1)
      | (go_at_call 46; refine (HFL.out _ hc1).mono ?_; rintro e w4 ⟨rfl, hc4⟩))
    exact ⟨rfl, OperP.bad HG.out.symm ⟨rfl, hc4⟩⟩
set_option maxHeartbeats 8000000 in
set_option maxRecDepth 100000 in
theorem oper_n_calls {k : Nat} {rv : Value} {x : ItD} (h : RS w0 w b (t :: r) ds q m (insX PX PR PA PB b rv x ++ X)) (hv : VarsP w0) (hrv : RvOk PA k rv) : Calls Tryz.prog 75 #[.pointer (some ⟨PB, 0, none⟩), .pointer (some ⟨PX, 0, none⟩)] w (OperP w0 b ds q m PX PR PA PB X (operD 110 k (t :: r) x)) := by
  obtain ⟨G, hG⟩ : ∃ G, operD 110 k (t :: r) x = G := ⟨_, rfl⟩
  rw [hG]
  rw [oper_n] at hG
  obtain ⟨op, xa, xb, xc, xn, name, p1, p2, q1, q2⟩ := x
  have HRV := hid hrv
  have hB0 : w.cell? ⟨PB, 0, none⟩ = some (.pointer (some ⟨b, 0, none⟩)) := blk_cell (h.getX (j := 3) rfl) 0
  clear hrv
  by_cases h1 : t.kind = 2
  · rw [if_pos h1] at hG
    have HG := hid hG
    have HT := hid (take_ok h 2 (by omega) (by omega))
    clear hG h1 h hv
    go_enter Tryz.func75, Tryz.ntmps75
    go_wp2_with (go_at_call 22; refine HT.out.mono ?_; rintro e w4 ⟨rfl, h4, hm4⟩; refine halt (fun XX hXX => ?_))
    · skip
      have hx := h4.getX (j := 0) rfl
      have hPX := blk_lt hx
      have hb4 := blk_cell hx
      have hfr := blk_free hx
      have x4 : w4.cell? ⟨PX, 4, none⟩ = some (.int .i64 xn) := hb4 4
      have x8 : w4.cell? ⟨PX, 8, none⟩ = some (.int .i64 q1) := hb4 8
      have x9 : w4.cell? ⟨PX, 9, none⟩ = some (.int .i64 q2) := hb4 9
      have HZ : Hid (∀ O, RS w0 ((((w4.setCell ⟨PX, 4, none⟩ (.int .i64 t.num)).setCell ⟨PX, 8, none⟩ (.int .i64 t.line)).setCell ⟨PX, 9, none⟩ (.int .i64 t.col)).alloc O).drew b r ds q.next (m - 1) (insX PX PR PA PB b rv ⟨op, xa, xb, xc, t.num, name, p1, p2, t.line, t.col⟩ ++ X) ∧ RS w0 ((((w4.setCell ⟨PX, 8, none⟩ (.int .i64 t.line)).setCell ⟨PX, 9, none⟩ (.int .i64 t.col)).setCell ⟨PX, 4, none⟩ (.int .i64 t.num)).alloc O).drew b r ds q.next (m - 1) (insX PX PR PA PB b rv ⟨op, xa, xb, xc, t.num, name, p1, p2, t.line, t.col⟩ ++ X)) := hid fun O =>
        ⟨(((h4.putX 0 rfl 4 (.int .i64 t.num) rfl).putX 0 rfl 8 (.int .i64 t.line) rfl).putX 0 rfl 9 (.int .i64 t.col) rfl).same (((Chg.refl [] _).alloc O).drew), (((h4.putX 0 rfl 8 (.int .i64 t.line) rfl).putX 0 rfl 9 (.int .i64 t.col) rfl).putX 0 rfl 4 (.int .i64 t.num) rfl).same (((Chg.refl [] _).alloc O).drew)⟩
      have nPX : PX ≠ w4.heap.size := by omega
      have nPX2 : w4.heap.size ≠ PX := by omega
      have HM4 := hid hm4
      clear h4 hx hb4 hm4
      rw [hXX.out]
      clear hXX XX
      go_wp2_with fail
      go_region
      all_goals
        go_end0
        first
          | exact OperP.good HG.out.symm HM4.out HRV.out (HZ.out _).1
          | exact OperP.good HG.out.symm HM4.out HRV.out (HZ.out _).2
  · rw [if_neg h1] at hG
    have HG := hid hG
    have HT := hid (take_bad h 2 (by omega))
    clear hG h1 h hv
    go_enter Tryz.func75, Tryz.ntmps75
    go_wp2_with (go_at_call 22; refine HT.out.mono ?_; rintro e w4 ⟨rfl, hc4⟩)
    exact ⟨rfl, OperP.bad HG.out.symm ⟨rfl, hc4⟩⟩
set_option maxHeartbeats 8000000 in
set_option maxRecDepth 100000 in
theorem oper_x_calls {k : Nat} {rv : Value} {x : ItD} (h : RS w0 w b (t :: r) ds q m (insX PX PR PA PB b rv x ++ X)) (hv : VarsP w0) (hrv : RvOk PA k rv) : Calls Tryz.prog 76 #[.pointer (some ⟨PB, 0, none⟩), .pointer (some ⟨PX, 0, none⟩)] w (OperP w0 b ds q m PX PR PA PB X (operD 120 k (t :: r) x)) := by
  obtain ⟨G, hG⟩ : ∃ G, operD 120 k (t :: r) x = G := ⟨_, rfl⟩
  rw [hG]
  rw [oper_x] at hG
  obtain ⟨op, xa, xb, xc, xn, name, p1, p2, q1, q2⟩ := x
  have HRV := hid hrv
  have hB0 : w.cell? ⟨PB, 0, none⟩ = some (.pointer (some ⟨b, 0, none⟩)) := blk_cell (h.getX (j := 3) rfl) 0
  clear hrv
  have HT := hid (name_tok h hv)
  cases hN : nameT (t :: r) with
  | error f =>
    rw [hN] at HT hG
    have HG := hid hG
    clear hG hN h hv
    go_enter Tryz.func76, Tryz.ntmps76
    go_wp2_with (go_at_call 47; refine HT.out.mono ?_; rintro e w4 ⟨rfl, hc4⟩)
    exact ⟨rfl, OperP.bad HG.out.symm ⟨rfl, hc4⟩⟩
  | ok p =>
    have hp : p = (t, r) := by
      rw [nameT_cons] at hN
      split at hN
      · cases hN
      · split at hN
        · cases hN
        · cases hN; rfl
    subst hp
    rw [hN] at HT hG
    have HG := hid hG
    clear hG hN h hv
    go_enter Tryz.func76, Tryz.ntmps76
    go_wp2_with (go_at_call 47; refine HT.out.mono ?_; rintro e w4 ⟨rfl, h4, hm4, _⟩; refine halt (fun XX hXX => ?_))
    · skip
      have hx := h4.getX (j := 0) rfl
      have hPX := blk_lt hx
      have hb4 := blk_cell hx
      have hfr := blk_free hx
      have x4 : w4.cell? ⟨PX, 5, none⟩ = some (.string name) := hb4 5
      have x8 : w4.cell? ⟨PX, 8, none⟩ = some (.int .i64 q1) := hb4 8
      have x9 : w4.cell? ⟨PX, 9, none⟩ = some (.int .i64 q2) := hb4 9
      have HZ : Hid (∀ O, RS w0 ((((w4.setCell ⟨PX, 5, none⟩ (.string (bA t.text))).setCell ⟨PX, 8, none⟩ (.int .i64 t.line)).setCell ⟨PX, 9, none⟩ (.int .i64 t.col)).alloc O).drew b r ds q.next (m - 1) (insX PX PR PA PB b rv ⟨op, xa, xb, xc, xn, bA t.text, p1, p2, t.line, t.col⟩ ++ X) ∧ RS w0 ((((w4.setCell ⟨PX, 8, none⟩ (.int .i64 t.line)).setCell ⟨PX, 9, none⟩ (.int .i64 t.col)).setCell ⟨PX, 5, none⟩ (.string (bA t.text))).alloc O).drew b r ds q.next (m - 1) (insX PX PR PA PB b rv ⟨op, xa, xb, xc, xn, bA t.text, p1, p2, t.line, t.col⟩ ++ X)) := hid fun O =>
        ⟨(((h4.putX 0 rfl 5 (.string (bA t.text)) rfl).putX 0 rfl 8 (.int .i64 t.line) rfl).putX 0 rfl 9 (.int .i64 t.col) rfl).same (((Chg.refl [] _).alloc O).drew), (((h4.putX 0 rfl 8 (.int .i64 t.line) rfl).putX 0 rfl 9 (.int .i64 t.col) rfl).putX 0 rfl 5 (.string (bA t.text)) rfl).same (((Chg.refl [] _).alloc O).drew)⟩
      have nPX : PX ≠ w4.heap.size := by omega
      have nPX2 : w4.heap.size ≠ PX := by omega
      have HM4 := hid hm4
      clear h4 hx hb4 hm4
      rw [hXX.out]
      clear hXX XX
      go_wp2_with fail
      go_region
      all_goals
        go_end0
        first
          | exact OperP.good HG.out.symm HM4.out HRV.out (HZ.out _).1
          | exact OperP.good HG.out.symm HM4.out HRV.out (HZ.out _).2
end
end Go.Proofs.YtmahcabidggmeaaGreatDoor
