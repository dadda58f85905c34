/- Walks of the trace layer: an event's text laid in a builder. -/
import Derived.Test.YtbghkodcfedebaaGreatDoorTrm
set_option linter.unusedVariables false
set_option linter.unusedSectionVars false
set_option linter.unusedSimpArgs false
namespace Go.AB
open Go.RowKit
theorem itoa_len {n : Int} (h : 0 ≤ n) (h2 : n < 65535) : (Lib.itoa n).length ≤ 5 := by
  obtain ⟨u, rfl⟩ : ∃ u : Nat, n = u := ⟨n.toNat, by omega⟩
  rw [itoa_nat]
  have h3 : ∀ (k u : Nat), u < 10 ^ (k + 1) → (Lib.decDigits u).length ≤ k + 1 := by
    intro k
    induction k with
    | zero => intro u hu; rw [Lib.decDigits, dif_pos (by omega)]; simp
    | succ k ih =>
      intro u hu
      by_cases h10 : u < 10
      · rw [Lib.decDigits, dif_pos h10]; simp
      · rw [Lib.decDigits, dif_neg h10]
        have := ih (u / 10) (by rw [Nat.div_lt_iff_lt_mul (by omega)]; rw [Nat.pow_succ] at hu; exact hu)
        simp only [List.length_append, List.length_cons, List.length_nil]
        omega
  exact h3 4 u (by omega)
theorem line_short {e : Ev} (h : plainE e = true) : (lineE e).length ≤ 19 ∧ (wordE e.k).length ≤ 6 := by
  obtain ⟨h1, h2, h3, _⟩ := plainE_out h
  have hw := (word_no _ (word_mem h1.1 h1.2)).2.2
  have ht := itoa_len h2.1 h2.2
  have ho := itoa_len h3.1 h3.2
  refine ⟨?_, hw⟩
  unfold lineE
  split <;> simp only [List.length_append, List.length_cons, List.length_nil] <;> omega
end Go.AB
namespace Go.Proofs.YtbghkodcfedebaaGreatDoor
open Go.RowKit Go.AB
set_option linter.unusedSimpArgs false
set_option linter.unusedVariables false
set_option linter.unusedSectionVars false

/-- A builder that was made behind a world. -/
structure BT (w0 w : World) (b : Nat) (l : List UInt8) (r : Option Nat) : Prop where
  bld : ∃ ao cap, Bld w b l r ao cap
  chg : Chg [] w0 w
  ge : w0.heap.size ≤ b
  rge : ∀ g, r = some g → w0.heap.size ≤ g
section
variable {w0 w w' : World} {b : Nat} {l l' : List UInt8} {r : Option Nat}
theorem BT.same (h : BT w0 w b l r) (hc : Chg [] w w') : BT w0 w' b l r := by
  obtain ⟨ao, cap, hb⟩ := h.bld
  exact ⟨⟨ao, cap, hb.keep hc (by simp) (by simp)⟩, h.chg.trans' hc, h.ge, h.rge⟩
theorem BT.lt (h : BT w0 w b l r) : b < w.heap.size ∧ ∀ g, r = some g → g < w.heap.size := by
  obtain ⟨ao, cap, hb⟩ := h.bld
  obtain ⟨p, _, hk⟩ := hb.blk
  exact ⟨blk_lt hk, hb.row.lt⟩
theorem BT.wrote (h : BT w0 w b l r) (hw : Wrote w b r l' w') : ∃ r', BT w0 w' b l' r' ∧ Chg (b :: r.toList) w w' ∧ Fresh w r r' := by
  obtain ⟨r', ao, cap, h1, h2, h3⟩ := hw
  refine ⟨r', ⟨⟨ao, cap, h1⟩, h.chg.trans h2 (fun x hx => .inr ?_), h.ge, fun g hg => ?_⟩, h2, h3⟩
  · rcases List.mem_cons.1 hx with rfl | hx
    · exact h.ge
    · exact h.rge x (by simpa using hx)
  · rcases h3 g hg with h4 | h4
    · exact h.rge g h4
    · have := h.chg.size; omega
/-- Written to: what put leaves. -/
def Put (w0 w : World) (b : Nat) (r : Option Nat) (l : List UInt8) (w' : World) : Prop := ∃ r', BT w0 w' b l r' ∧ Chg (b :: r.toList) w w' ∧ Fresh w r r'
theorem Put.step {w1 : World} {r1 : Option Nat} (hc : Chg (b :: r.toList) w w1) (hf : Fresh w r r1) (h : Put w0 w1 b r1 l w') : Put w0 w b r l w' := by
  obtain ⟨r', h1, h2, h3⟩ := h
  exact ⟨r', h1, chg_step hc hf h2, hf.trans hc.size h3⟩
theorem bt_string (h : BT w0 w b l r) (s : List UInt8) (hl : l.length + s.length ≤ 1073741824) : Calls Tryz.prog 67 #[.pointer (some ⟨b, 0, none⟩), .string (bA s)] w fun e w' => e = .returned (.tuple #[.int .i64 s.length, .nilIface]) ∧ Put w0 w b r (l ++ s) w' := by
  obtain ⟨ao, cap, hb⟩ := h.bld
  refine (wstring_calls s hb hl).mono ?_
  rintro e w' ⟨rfl, hw⟩
  exact ⟨rfl, h.wrote hw⟩
theorem bt_byte (h : BT w0 w b l r) (c : UInt8) (hl : l.length + 1 ≤ 1073741824) : Calls Tryz.prog 69 #[.pointer (some ⟨b, 0, none⟩), .int .u8 c.toNat] w fun e w' => e = .returned .nilIface ∧ Put w0 w b r (l ++ [c]) w' := by
  obtain ⟨ao, cap, hb⟩ := h.bld
  refine (wbyte_calls c hb hl).mono ?_
  rintro e w' ⟨rfl, hw⟩
  exact ⟨rfl, h.wrote hw⟩
theorem blen_calls (h : BT w0 w b l r) : Calls Tryz.prog 40 #[.pointer (some ⟨b, 0, none⟩)] w fun e w' => e = .returned (.int .i64 l.length) ∧ w' = w := by
  obtain ⟨ao, cap, hb⟩ := h.bld
  obtain ⟨p, _, hk⟩ := hb.blk
  have c1 := (blk_cell hk 1).trans rfl
  clear hb hk
  go_enter Tryz.func40, Tryz.ntmps40
  go_wp2
  go_ret
  exact ⟨rfl, rfl⟩
/-- Between the writes of one event: the builder, and the event's box. -/
structure PT (w0 wA : World) (b : Nat) (r : Option Nat) (B : Nat) (cs : Array Value) (w : World) (l : List UInt8) (r' : Option Nat) : Prop where
  bt : BT w0 w b l r'
  chg : Chg (b :: r.toList) wA w
  fr : Fresh wA r r'
  box : w.heap[B]? = some (.cells cs 28 (0, 0))
  ne : B ≠ b ∧ r ≠ some B
  lt : B < wA.heap.size
theorem PT.same {wA w w' : World} {B : Nat} {cs : Array Value} {r' : Option Nat} (h : PT w0 wA b r B cs w l r') (hc : Chg [] w w') : PT w0 wA b r B cs w' l r' :=
  ⟨h.bt.same hc, h.chg.trans' hc.nil, h.fr, hc.heap h.box (by simp), h.ne, h.lt⟩
theorem PT.step {wA w w' : World} {B : Nat} {cs : Array Value} {r' : Option Nat} (h : PT w0 wA b r B cs w l r') (hp : Put w0 w b r' l' w') : ∃ r2, PT w0 wA b r B cs w' l' r2 := by
  obtain ⟨r2, h1, h2, h3⟩ := hp
  refine ⟨r2, h1, chg_step h.chg h.fr h2, h.fr.trans h.chg.size h3, h2.heap h.box ?_, h.ne, h.lt⟩
  intro hm
  rcases List.mem_cons.1 hm with h4 | h4
  · exact h.ne.1 h4
  · rcases h.fr B (by simpa using h4) with h5 | h5
    · exact h.ne.2 h5
    · have := h.lt; omega
theorem PT.fin {wA w : World} {B : Nat} {cs : Array Value} {r' : Option Nat} (h : PT w0 wA b r B cs w l r') : Put w0 wA b r l w := ⟨r', h.bt, h.chg, h.fr⟩
set_option maxHeartbeats 8000000 in
set_option maxRecDepth 100000 in
theorem put_calls (x : Ev) (hx : plainE x = true) (h : BT w0 w b l r) (hv : VarsT w0) (hl : l.length ≤ 16777216) :
    Calls Tryz.prog 39 #[.pointer (some ⟨b, 0, none⟩), evV x] w fun e w' => e = .returned (.tuple #[]) ∧ Put w0 w b r (l ++ lineE x) w' := by
  obtain ⟨k, t, o⟩ := x
  obtain ⟨h1, h2, h3, _⟩ := plainE_out hx
  have hsh := line_short hx
  simp only at h1 h2 h3 hsh
  have hit := itoa_len h2.1 h2.2
  have hio := itoa_len h3.1 h3.2
  obtain ⟨i, rfl⟩ : ∃ i : Nat, k = (i : Int) + 1 := ⟨(k - 1).toNat, by omega⟩
  have hi : i < 11 := by omega
  have hwe : wordTab[i]'hi = wordE ((i : Int) + 1) := by
    unfold wordE
    rw [show ((i : Int) + 1 - 1).toNat = i from by omega]
    rw [List.getD_eq_getElem?_getD, List.getElem?_eq_getElem (show i < wordTab.length from hi)]
    rfl
  obtain ⟨W, hW⟩ : ∃ W, wordE ((i : Int) + 1) = W := ⟨_, rfl⟩
  obtain ⟨B, hB⟩ : ∃ B, w.heap.size = B := ⟨_, rfl⟩
  have hbx : (w.alloc (.cells #[.int .i64 ((i : Int) + 1), .int .i64 t, .int .i64 o] 28)).heap[B]? = some (.cells #[.int .i64 ((i : Int) + 1), .int .i64 t, .int .i64 o] 28 (0, 0)) := by rw [← hB]; exact heap_alloc_new w _
  have hcA := (Chg.refl [] w).alloc (.cells #[.int .i64 ((i : Int) + 1), .int .i64 t, .int .i64 o] 28)
  have hbl := h.lt
  have hBb : B ≠ b ∧ r ≠ some B := ⟨by omega, fun e => by have := hbl.2 _ e; omega⟩
  have h0 := h.same hcA
  have HV := hid hv
  have HX := hid hx
  have HBb := hid hBb
  have HCA := hid hcA
  have HB := hid hB
  have hfA : Fresh w r r := Fresh.refl _ _
  have HFin : Hid (∀ w', Put w0 (w.alloc (.cells #[.int .i64 ((i : Int) + 1), .int .i64 t, .int .i64 o] 28)) b r (l ++ lineE ⟨(i : Int) + 1, t, o⟩) w' → Put w0 w b r (l ++ lineE ⟨(i : Int) + 1, t, o⟩) w') := hid (fun w' hp => Put.step (hcA.nil) hfA hp)
  unfold evV
  simp only
  go_enter Tryz.func39, Tryz.ntmps39
  go_upto_region 1 with fail
  generalize w.alloc (.cells #[.int .i64 ((i : Int) + 1), .int .i64 t, .int .i64 o] 28) = wA at hbx h0 HFin HCA ⊢
  have x0 := (blk_cell hbx 0).trans rfl
  have HBX := hid hbx
  have H0 := hid h0
  have e1 : (i : Int) + 1 - 1 = (i : Int) := by omega
  have e4 : wrap64 ((i : Int) + 1 - 1) = (i : Int) := by rw [e1]; exact IntWalk.wrap64_in _ (by omega)
  have e5 : IntKind.i64.wrap (i : Int) = (i : Int) := by rw [IntKind.wrap_i64]; omega
  have e2 : (i : Int) < 11 := by omega
  have e3 : (0 : Int) ≤ (i : Int) := by omega
  rw [hW] at hsh hwe
  have HWE := hid hwe
  have HL : Hid (lineE ⟨(i : Int) + 1, t, o⟩ = W ++ [32] ++ Lib.itoa t ++ (if (i : Int) + 1 = 11 then [] else [32] ++ Lib.itoa o) ++ [10]) := hid (by rw [← hW]; rfl)
  have hwl := hsh.2
  clear hbx h0 hcA hbl hBb hx hfA hB h hwe hsh hW
  have HW := hid fun W (hc : Chg [] wA W) => words_calls W (HV.out.keep (H0.out.chg.trans' hc))
  have HS := hid fun w1 (hc : Chg [] wA w1) => bt_string (H0.out.same hc) W (by omega)
  have x0' : wA.cell? ⟨B, 0, none⟩ = some (.int .i64 ((i : Int) + 1)) := x0
  clear x0
  (refine wp_region_held_drew (S := (fun w' => w'.cell? ⟨B, 0, none⟩ = some (.int .i64 ((i : Int) + 1)))) (by kernel_rfl) (by exact x0') (fun hHeld => ?_); (refine wpAnyH_take (i := 0) (v := ?_) rfl (by kernel_rfl) (by kernel_rfl) (by kernel_rfl) (fun _ _ _ h => h) (Or.inl ⟨by rfl, ?_⟩) (by assumption) ?_; rotate_left 1; (focus (intro w hSw; (try dsimp only at hSw); go_simp; (try with_reducible rfl))); (try simp only [List.getElem_toArray, List.getElem_cons_zero, List.getElem_cons_succ, Act.put, List.setIfInBounds_toArray, List.set_cons_zero, List.set_cons_succ])); (refine wpAnyH_take (i := 2) (v := ?_) rfl (by kernel_rfl) (by kernel_rfl) (by kernel_rfl) (fun _ _ _ h => h) (Or.inl ⟨by rfl, ?_⟩) (by assumption) ?_; rotate_left 1; (focus (intro w hSw; (try dsimp only at hSw); go_simp; (try with_reducible rfl))); (try simp only [List.getElem_toArray, List.getElem_cons_zero, List.getElem_cons_succ, Act.put, List.setIfInBounds_toArray, List.set_cons_zero, List.set_cons_succ])); (refine wpAnyH_take (i := 3) (v := ?_) rfl (by kernel_rfl) (by kernel_rfl) (by kernel_rfl) (fun _ _ _ h => h) (Or.inl ⟨by rfl, ?_⟩) (by assumption) ?_; rotate_left 1; (focus (intro w hSw; (try dsimp only at hSw); go_simp; (try with_reducible rfl))); (try simp only [List.getElem_toArray, List.getElem_cons_zero, List.getElem_cons_succ, Act.put, List.setIfInBounds_toArray, List.set_cons_zero, List.set_cons_succ])); (refine wpAnyH_take (i := 4) (v := ?_) rfl (by kernel_rfl) (by kernel_rfl) (by kernel_rfl) (fun _ _ _ h => h) (Or.inl ⟨by rfl, ?_⟩) (by assumption) ?_; rotate_left 1; (focus (intro w hSw; (try dsimp only at hSw); go_simp; (try with_reducible rfl))); (try simp only [List.getElem_toArray, List.getElem_cons_zero, List.getElem_cons_succ, Act.put, List.setIfInBounds_toArray, List.set_cons_zero, List.set_cons_succ])); (refine wpAnyH_ready (rs := [1]) (by kernel_rfl) (by simp) ?_; refine AllReadyH.cons rfl (fun K hK => ?_) AllReadyH.nil; go_simp; go_at_call 68; refine (HW.out _ (Chg.refl [] wA).drew).mono ?_; rintro e w1 ⟨wb, rfl, hge, hc1, hcell⟩; have hc1' := (Chg.refl [] wA).drew.trans' hc1; have x1 := hc1'.cell x0' (by simp); have c1 := hcell i hi; rw [HWE.out] at c1; have HC1 := hid hc1'; clear hcell hc1 hc1'; (refine hK.out _ _ (by exact x1) (fun hHeld => ?_); clear hK K; (try simp only [List.getElem_toArray, List.getElem_cons_zero, List.getElem_cons_succ, Act.put, List.setIfInBounds_toArray, List.set_cons_zero, List.set_cons_succ]))); (refine wpAnyH_ready (rs := [5]) (by kernel_rfl) (by simp) ?_; refine AllReadyH.cons rfl (fun K hK => ?_) AllReadyH.nil; go_simp; (refine hK.out _ _ (by exact x1) (fun hHeld => ?_); clear hK K; (try simp only [List.getElem_toArray, List.getElem_cons_zero, List.getElem_cons_succ, Act.put, List.setIfInBounds_toArray, List.set_cons_zero, List.set_cons_succ]))); (refine wpAnyH_ready (rs := [6]) (by kernel_rfl) (by simp) ?_; refine AllReadyH.cons rfl (fun K hK => ?_) AllReadyH.nil; go_simp; (refine hK.out _ _ (by exact x1) (fun hHeld => ?_); clear hK K; (try simp only [List.getElem_toArray, List.getElem_cons_zero, List.getElem_cons_succ, Act.put, List.setIfInBounds_toArray, List.set_cons_zero, List.set_cons_succ]))); (refine wpAnyH_ready (rs := [7]) (by kernel_rfl) (by simp) ?_; refine AllReadyH.cons rfl (fun K hK => ?_) AllReadyH.nil; go_simp; go_at_call 67; refine (HS.out _ HC1.out).mono ?_; rintro e w2 ⟨rfl, r2, hb2, hcc, hff⟩; have hbx2 := hcc.heap (HC1.out.heap HBX.out (by simp)) (by simp; exact ⟨HBb.out.1, fun e => HBb.out.2 e⟩); have x2 := (blk_cell hbx2 0).trans rfl; (refine hK.out _ _ (by exact x2) (fun hHeld => ?_); clear hK K; (try simp only [List.getElem_toArray, List.getElem_cons_zero, List.getElem_cons_succ, Act.put, List.setIfInBounds_toArray, List.set_cons_zero, List.set_cons_succ]))); refine wpAnyH_done (by kernel_rfl) ?_ _)
  have hP2 : PT w0 wA b r B #[.int .i64 ((i : Int) + 1), .int .i64 t, .int .i64 o] w2 (l ++ W) r2 := ⟨hb2, HC1.out.nil.trans' hcc, fun g hg => by
    rcases hff g hg with h4 | h4
    · exact .inl h4
    · have := HC1.out.size; exact .inr (by omega), hbx2, HBb.out, blk_lt HBX.out⟩
  have HP2 := hid hP2
  have HWB := hid (bt_byte hP2.bt 32 (by simp only [List.length_append]; omega))
  clear hP2 hb2 hcc hff hbx2 x2 hHeld x1 c1 HW HS HWE x0'
  go_wp2_with (go_at_call 69; refine HWB.out.mono ?_; rintro e w3 ⟨rfl, hp3⟩; refine halt (fun XX hXX => ?_))
  obtain ⟨r3, hP3⟩ := HP2.out.step hp3
  have HP3 := hid hP3
  have y1 : w3.cell? ⟨B, 1, none⟩ = some (.int .i64 t) := (blk_cell hP3.box 1).trans rfl
  have HI3 := hid (itoaT t (by omega) (by omega) w3 (HV.out.keep hP3.bt.chg))
  have HS3 := hid fun w4 (hc : Chg [] w3 w4) => bt_string (HP3.out.same hc).bt (Lib.itoa t) (by simp only [List.length_append, List.length_cons, List.length_nil]; omega)
  clear hP3 hp3 HWB HP2
  rw [hXX.out]; clear hXX XX
  go_wp2_with (go_at_call 70; refine HI3.out.mono ?_; rintro e w4 ⟨rfl, hc4⟩; refine halt (fun XX hXX => ?_))
  have HC4 := hid hc4
  clear hc4 HI3
  rw [hXX.out]; clear hXX XX
  go_wp2_with (go_at_call 67; refine (HS3.out _ HC4.out).mono ?_; rintro e w5 ⟨rfl, hp5⟩; refine halt (fun XX hXX => ?_))
  obtain ⟨r5, hP5⟩ := (HP3.out.same HC4.out).step hp5
  have HP5 := hid hP5
  have y0 : w5.cell? ⟨B, 0, none⟩ = some (.int .i64 ((i : Int) + 1)) := (blk_cell hP5.box 0).trans rfl
  clear hP5 hp5 HC4 HP3 HS3 y1
  rw [hXX.out]; clear hXX XX
  by_cases hx11 : (i : Int) + 1 = 11
  · have hb : (((i : Int) + 1) != 11) = false := by simp [hx11]
    have HL2 : Hid (l ++ lineE ⟨(i : Int) + 1, t, o⟩ = l ++ W ++ [32] ++ Lib.itoa t ++ [10]) := hid (by rw [HL.out, if_pos hx11]; simp)
    have HWB := hid (bt_byte HP5.out.bt 10 (by simp only [List.length_append, List.length_cons, List.length_nil]; omega))
    clear hx11
    go_wp2_with (go_at_call 69; refine HWB.out.mono ?_; rintro e w6 ⟨rfl, hp6⟩; refine halt (fun XX hXX => ?_))
    obtain ⟨r6, hP6⟩ := HP5.out.step hp6
    have HF := hid (HFin.out _ (by rw [HL2.out]; exact hP6.fin))
    clear hP6 hp6
    rw [hXX.out]; clear hXX XX
    go_wp2_with fail
    go_end0
    exact ⟨rfl, HF.out⟩
  · have hb : (((i : Int) + 1) != 11) = true := by simp [hx11]
    have HL2 : Hid (l ++ lineE ⟨(i : Int) + 1, t, o⟩ = l ++ W ++ [32] ++ Lib.itoa t ++ [32] ++ Lib.itoa o ++ [10]) := hid (by rw [HL.out, if_neg hx11]; simp)
    have HWB := hid (bt_byte HP5.out.bt 32 (by simp only [List.length_append, List.length_cons, List.length_nil]; omega))
    clear hx11
    go_wp2_with (go_at_call 69; refine HWB.out.mono ?_; rintro e w6 ⟨rfl, hp6⟩; refine halt (fun XX hXX => ?_))
    obtain ⟨r6, hP6⟩ := HP5.out.step hp6
    have HP6 := hid hP6
    have y2 : w6.cell? ⟨B, 2, none⟩ = some (.int .i64 o) := (blk_cell hP6.box 2).trans rfl
    have HI6 := hid (itoaT o (by omega) (by omega) w6 (HV.out.keep hP6.bt.chg))
    have HS6 := hid fun w7 (hc : Chg [] w6 w7) => bt_string (HP6.out.same hc).bt (Lib.itoa o) (by simp only [List.length_append, List.length_cons, List.length_nil]; omega)
    clear hP6 hp6 HWB HP5
    rw [hXX.out]; clear hXX XX
    go_wp2_with (go_at_call 70; refine HI6.out.mono ?_; rintro e w7 ⟨rfl, hc7⟩; refine halt (fun XX hXX => ?_))
    have HC7 := hid hc7
    clear hc7 HI6
    rw [hXX.out]; clear hXX XX
    go_wp2_with (go_at_call 67; refine (HS6.out _ HC7.out).mono ?_; rintro e w8 ⟨rfl, hp8⟩; refine halt (fun XX hXX => ?_))
    obtain ⟨r8, hP8⟩ := (HP6.out.same HC7.out).step hp8
    have HP8 := hid hP8
    have HWB := hid (bt_byte hP8.bt 10 (by simp only [List.length_append, List.length_cons, List.length_nil]; omega))
    clear hP8 hp8 HC7 HP6 HS6 y2
    rw [hXX.out]; clear hXX XX
    go_wp2_with (go_at_call 69; refine HWB.out.mono ?_; rintro e w9 ⟨rfl, hp9⟩; refine halt (fun XX hXX => ?_))
    obtain ⟨r9, hP9⟩ := HP8.out.step hp9
    have HF := hid (HFin.out _ (by rw [HL2.out]; exact hP9.fin))
    clear hP9 hp9
    rw [hXX.out]; clear hXX XX
    go_wp2_with fail
    go_end0
    exact ⟨rfl, HF.out⟩
end
end Go.Proofs.YtbghkodcfedebaaGreatDoor
