/- Walks of the parser: a declaration. -/
import Derived.Test.YtmahcabidggmeaaGreatDoorVpi
import Derived.Deep.CutBlock
set_option linter.unusedVariables false
set_option linter.unusedSectionVars false
set_option linter.unusedSimpArgs false
namespace Go.AB
open Go.RowKit
section
variable {kind fuel : Nat} {ts ts2 ts3 r : List Tok} {ds : List DcD} {t c : Tok} {v : Int} {f : Flt}
def dclT (kind : Nat) (t : Tok) (v : Int) : DcD := ⟨kind, bA t.text, v, t.line, t.col⟩
theorem t5_keep {S : List Nat} {a b : World} {p : Nat} {v0 v1 v2 v3 v4 : Value} (hc : Chg S a b) (hS : p ∉ S) (h : a.cell? ⟨p, 0, none⟩ = some v0 ∧ a.cell? ⟨p, 1, none⟩ = some v1 ∧ a.cell? ⟨p, 2, none⟩ = some v2 ∧ a.cell? ⟨p, 3, none⟩ = some v3 ∧ a.cell? ⟨p, 4, none⟩ = some v4) :
    b.cell? ⟨p, 0, none⟩ = some v0 ∧ b.cell? ⟨p, 1, none⟩ = some v1 ∧ b.cell? ⟨p, 2, none⟩ = some v2 ∧ b.cell? ⟨p, 3, none⟩ = some v3 ∧ b.cell? ⟨p, 4, none⟩ = some v4 := by
  obtain ⟨h0, h1, h2, h3, h4⟩ := h
  exact ⟨hc.cell h0 hS, hc.cell h1 hS, hc.cell h2 hS, hc.cell h3 hS, hc.cell h4 hS⟩
theorem declG_name (h : nameT ts = .error f) : declG kind (fuel + 1) ts ds = .error f := by unfold declG; rw [h]
theorem declG_val (h : nameT ts = .ok (t, ts2)) (h2 : valueD kind ts2 = .error f) : declG kind (fuel + 1) ts ds = .error f := by unfold declG; rw [h]; simp only; rw [h2]
theorem declG_more (h : nameT ts = .ok (t, ts2)) (h2 : valueD kind ts2 = .ok (v, c :: r)) (h3 : c.kind = 3) : declG kind (fuel + 1) ts ds = declG kind fuel r (ds ++ [dclT kind t v]) := by
  conv => lhs; unfold declG
  rw [h]
  simp only
  rw [h2]
  simp only
  rw [if_pos h3]
  rfl
theorem declG_end (h : nameT ts = .ok (t, ts2)) (h2 : valueD kind ts2 = .ok (v, c :: r)) (h3 : c.kind ≠ 3) : declG kind (fuel + 1) ts ds = .ok (c :: r, ds ++ [dclT kind t v]) := by
  unfold declG
  rw [h]
  simp only
  rw [h2]
  simp only
  rw [if_neg h3]
  rfl
theorem takeK_cons {k : Nat} : takeK k (t :: r) = if t.kind = k then .ok (t, r) else .error (fltAt 82 t) := rfl
theorem valT_no (h : ¬ (kind = 4 ∨ (kind ≤ 2 ∧ t.kind = 5))) : valueD kind (t :: r) = .ok (0, t :: r) := by
  unfold valueD
  rw [if_neg (by simpa using h)]
theorem valT_eq (h : kind = 4 ∨ (kind ≤ 2 ∧ t.kind = 5)) : valueD kind (t :: r) = match takeK 5 (t :: r) with
    | .error e => .error e
    | .ok (_, ts) => match takeK 2 ts with
      | .error e => .error e
      | .ok (t, ts) => .ok (t.num, ts) := by
  unfold valueD
  rw [if_pos (by simpa using h)]
  cases takeK 5 (t :: r) <;> rfl
theorem valT_bad (h : kind = 4) (h5 : t.kind ≠ 5) : valueD kind (t :: r) = .error (fltAt 82 t) := by
  rw [valT_eq (.inl h), takeK_cons, if_neg h5]
theorem valT_bad2 (h : kind = 4 ∨ kind ≤ 2) (h5 : t.kind = 5) (h2 : c.kind ≠ 2) : valueD kind (t :: c :: r) = .error (fltAt 82 c) := by
  rw [valT_eq (by rcases h with h | h; exact .inl h; exact .inr ⟨h, h5⟩), takeK_cons, if_pos h5]
  simp only
  rw [takeK_cons, if_neg h2]
theorem valT_ok (h : kind = 4 ∨ kind ≤ 2) (h5 : t.kind = 5) (h2 : c.kind = 2) : valueD kind (t :: c :: r) = .ok (c.num, r) := by
  rw [valT_eq (by rcases h with h | h; exact .inl h; exact .inr ⟨h, h5⟩), takeK_cons, if_pos h5]
  simp only
  rw [takeK_cons, if_pos h2]
end
end Go.AB
namespace Go.Proofs.YtmahcabidggmeaaGreatDoor
open Go.RowKit Go.AB
set_option linter.unusedSimpArgs false
set_option linter.unusedVariables false
set_option linter.unusedSectionVars false

section
variable {w0 w : World} {b : Nat} {t : Tok} {ts r : List Tok} {ds : List DcD} {q : RQ} {m : Nat} {X : List It}
def DecP (w0 : World) (b : Nat) (bks : List BkD) (m : Nat) (X : List It) (x : Except Flt (List Tok × List DcD)) (e : Ending) (w' : World) : Prop :=
  OutP (badP w0) x (fun p e w' => e = .returned (.tuple #[]) ∧ ∃ q' : RQ, q'.bks = bks ∧ RS w0 w' b p.1 p.2 q' m X) e w'
theorem DecP.bad {bks : List BkD} {x : Except Flt (List Tok × List DcD)} {f : Flt} {e : Ending} {w' : World} (hx : x = .error f) (h : badP w0 f e w') : DecP w0 b bks m X x e w' := by subst hx; exact h
theorem DecP.good {bks : List BkD} {x : Except Flt (List Tok × List DcD)} {w' : World} (hx : x = .ok (ts, ds)) (hb : q.bks = bks) (h : RS w0 w' b ts ds q m X) : DecP w0 b bks m X x (.returned (.tuple #[])) w' := by subst hx; exact ⟨rfl, q, hb, h⟩
set_option maxHeartbeats 16000000 in
set_option maxRecDepth 100000 in
theorem decl_calls (h : RS w0 w b ts ds q m X) (hv : VarsP w0) (kind : Nat) (h1 : 1 ≤ kind) (h4 : kind ≤ 4) : Calls Tryz.prog 48 #[.pointer (some ⟨b, 0, none⟩), .int .i64 kind] w (DecP w0 b q.bks m X (declG kind ts.length ts ds)) := by
  obtain ⟨G, hG⟩ : ∃ G, declG kind ts.length ts ds = G := ⟨_, rfl⟩
  rw [hG]
  have HV := hid hv
  have HK := hid (And.intro h1 h4)
  have H0 := hid (And.intro h hG)
  clear h hG hv h1 h4
  go_enter Tryz.func48, Tryz.ntmps48
  go_wp2
  go_loopg [] ts.length (fun gk wr => ∃ (fuel : Nat) (ts' : List Tok) (ds' : List DcD) (q' : RQ), Hid (gk = ts'.length) ∧ Hid (ts'.length ≤ fuel ∧ declG kind fuel ts' ds' = G ∧ q'.bs = q.bs) ∧ Hid (RS w0 wr b ts' ds' q' m X))
  case atStart => exact ⟨ts.length, ts, ds, q, hid rfl, hid ⟨Nat.le_refl _, H0.out.2, rfl⟩, hid H0.out.1⟩
  case round =>
    obtain ⟨fuel, ts', ds', q', HGK, HI, HR⟩ := hrel
    obtain ⟨t, r, rfl⟩ := HR.out.cons
    obtain ⟨fl, rfl⟩ : ∃ fl, fuel = fl + 1 := ⟨fuel - 1, by have := HI.out.1; simp only [List.length_cons] at this; omega⟩
    have HNM := hid (name_tok HR.out HV.out)
    cases hN : nameT (t :: r) with
    | error f =>
      rw [hN] at HNM
      have HGE := hid ((declG_name hN).symm.trans HI.out.2.1)
      clear hN
      go_wp2_with (go_at_call 47; refine HNM.out.mono ?_; rintro e w1 ⟨rfl, hc⟩)
      exact ⟨rfl, DecP.bad HGE.out.symm ⟨rfl, hc⟩⟩
    | ok p =>
      have hp : p = (t, r) := by
        rw [nameT_cons] at hN
        split at hN
        · cases hN
        · split at hN
          · cases hN
          · cases hN; rfl
      subst hp
      rw [hN] at HNM
      have HN := hid hN
      clear hN
      go_upto_region 1 with (go_at_call 47; refine HNM.out.mono ?_; rintro e w1 ⟨rfl, h2, hm2, _⟩)
      go_cut [5] (fun v wx => ∃ PD PT : Nat, v = .pointer (some ⟨PD, 0, none⟩) ∧ Hid (RS w0 wx b r ds' q'.next (m - 1) (.box PD (.cells #[.int .i64 kind, .string (bA t.text), .int .i64 0, .int .i64 t.line, .int .i64 t.col] 47 (0, 0)) :: .box PT (.cells #[.int .i64 t.kind, .string (bA t.text), .int .i64 t.num, .int .i64 t.line, .int .i64 t.col] 63 (0, 0)) :: X) ∧ 0 < m))
      case first =>
        have h3 := (h2.box (.cells #[.int .i64 t.kind, .string (bA t.text), .int .i64 t.num, .int .i64 t.line, .int .i64 t.col] 63)).box (.cells #[.int .i64 kind, .string (bA t.text), .int .i64 0, .int .i64 t.line, .int .i64 t.col] 47)
        have e1 : ∀ (W : World) O, (W.alloc O).heap.size = W.heap.size + 1 := fun W O => by simp
        rw [e1] at h3
        have H3 := hid (And.intro h3 hm2)
        clear h2 h3 hm2
        go_wp2_with fail
        go_meet
        exact ⟨_, _, rfl, H3⟩
      case rest =>
        obtain ⟨PD, PT, rfl, h3⟩ := hcut
        clear HNM
        go_upto_block 2 with fail
        go_cut [29] from 14 to 29 (fun _ wx => Hid (∃ (v : Int) (ts3 : List Tok) (q3 : RQ), (valueD kind r = .ok (v, ts3) ∧ q3.bs = q.bs ∧ ts3.length ≤ r.length) ∧ RS w0 wx b ts3 ds' q3 (m - 1) (.box PD (.cells #[.int .i64 kind, .string (bA t.text), .int .i64 v, .int .i64 t.line, .int .i64 t.col] 47 (0, 0)) :: .box PT (.cells #[.int .i64 t.kind, .string (bA t.text), .int .i64 t.num, .int .i64 t.line, .int .i64 t.col] 63 (0, 0)) :: X)))
        case first =>
          have H3 := h3
          clear h3
          obtain ⟨t2, r2, rfl⟩ := H3.out.1.cons
          have hkk : kind = 1 ∨ kind = 2 ∨ kind = 3 ∨ kind = 4 := by have := HK.out; omega
          rcases hkk with hk | hk | hk | hk
          · subst hk
            have hf0 := field_kind t2
            have HH := hid fun W (hc : Chg [] wc W) => here_calls (H3.out.1.same hc)
            by_cases h5 : t2.kind = 5
            · have HE := hid h5
              have e5 : ((t2.kind : Int) == 5) = true := by simp; omega
              have HT5 := hid fun W (hc : Chg [] wc W) => take_ok (H3.out.1.same hc) 5 (by have := HE.out; omega) (by have := HE.out; omega)
              have HC3 := hid (H3.out.1.e7.two (by have := HE.out; omega))
              obtain ⟨c, r3, hr2⟩ := HC3.out
              subst hr2
              clear HC3
              by_cases h2n : c.kind = 2
              · have HE2 := hid h2n
                have HVO := hid (valT_ok (kind := 1) (t := t2) (c := c) (r := r3) (.inr (by omega)) h5 h2n)
                have hfn := field_num c
                have HT2 := hid fun W (h4 : RS w0 W b (c :: r3) ds' q'.next.next (m - 1 - 1) (.box PD (.cells #[.int .i64 ((1 : Nat) : Int), .string (bA t.text), .int .i64 0, .int .i64 t.line, .int .i64 t.col] 47 (0, 0)) :: .box PT (.cells #[.int .i64 t.kind, .string (bA t.text), .int .i64 t.num, .int .i64 t.line, .int .i64 t.col] 63 (0, 0)) :: X)) => take_ok h4 2 (by have := HE2.out; omega) (by have := HE2.out; omega)
                clear h5 h2n
                go_wp2_with (go_at_call 21; refine (HH.out _ (Chg.refl [] wc)).mono ?_; rintro e w3 ⟨rfl, hc1⟩)
                go_at_call 22
                have HT5' := HT5.out _ hc1
                with_reducible refine HT5'.mono ?_
                rintro e w4 ⟨rfl, h4, hm4⟩
                go_wp2_with fail
                go_at_call 22
                have HH4 := HT2.out _ h4
                with_reducible refine HH4.mono ?_
                rintro e w5 ⟨rfl, h6, hm6⟩
                have bd := h6.getX (j := 0) rfl
                have hd2 : w5.cell? ⟨PD, 2, none⟩ = some (.int .i64 0) := blk_cell bd 2
                have hfd := blk_free bd
                have hPDl := blk_lt bd
                have H6 := hid (h6.putX 0 rfl 2 (.int .i64 c.num) rfl)
                clear h6 bd
                go_wp2_with fail
                go_meet
                exact hid ⟨c.num, r3, q'.next.next.next, ⟨HVO.out, HI.out.2.2, by simp only [List.length_cons]; omega⟩, H6.out.mono (by omega) (by have := HR.out.sm; omega)⟩
              · have HVO := hid (valT_bad2 (kind := 1) (t := t2) (c := c) (r := r3) (.inr (by omega)) h5 h2n)
                have HE2 := hid h2n
                have HT2 := hid fun W (h4 : RS w0 W b (c :: r3) ds' q'.next.next (m - 1 - 1) (.box PD (.cells #[.int .i64 ((1 : Nat) : Int), .string (bA t.text), .int .i64 0, .int .i64 t.line, .int .i64 t.col] 47 (0, 0)) :: .box PT (.cells #[.int .i64 t.kind, .string (bA t.text), .int .i64 t.num, .int .i64 t.line, .int .i64 t.col] 63 (0, 0)) :: X)) => take_bad h4 2 (by have := HE2.out; omega)
                have HGE := hid ((declG_val (fuel := fl) (ds := ds') HN.out HVO.out).symm.trans HI.out.2.1)
                clear h5 h2n
                go_wp2_with (go_at_call 21; refine (HH.out _ (Chg.refl [] wc)).mono ?_; rintro e w3 ⟨rfl, hc1⟩)
                go_at_call 22
                have HT5' := HT5.out _ hc1
                with_reducible refine HT5'.mono ?_
                rintro e w4 ⟨rfl, h4, hm4⟩
                go_wp2_with fail
                go_at_call 22
                have HH4 := HT2.out _ h4
                with_reducible refine HH4.mono ?_
                rintro e w5 ⟨rfl, hc5⟩
                exact ⟨rfl, DecP.bad HGE.out.symm ⟨rfl, hc5⟩⟩
            · have HVO := hid (valT_no (kind := 1) (t := t2) (r := r2) (by omega))
              have e5 : ((t2.kind : Int) == 5) = false := by simp; omega
              clear h5
              go_wp2_with (go_at_call 21; refine (HH.out _ (Chg.refl [] wc)).mono ?_; rintro e w3 ⟨rfl, hc1⟩)
              go_meet
              exact hid ⟨0, t2 :: r2, q'.next, ⟨HVO.out, HI.out.2.2, Nat.le_refl _⟩, H3.out.1.same hc1⟩
          · subst hk
            have hf0 := field_kind t2
            have HH := hid fun W (hc : Chg [] wc W) => here_calls (H3.out.1.same hc)
            by_cases h5 : t2.kind = 5
            · have HE := hid h5
              have e5 : ((t2.kind : Int) == 5) = true := by simp; omega
              have HT5 := hid fun W (hc : Chg [] wc W) => take_ok (H3.out.1.same hc) 5 (by have := HE.out; omega) (by have := HE.out; omega)
              have HC3 := hid (H3.out.1.e7.two (by have := HE.out; omega))
              obtain ⟨c, r3, hr2⟩ := HC3.out
              subst hr2
              clear HC3
              by_cases h2n : c.kind = 2
              · have HE2 := hid h2n
                have HVO := hid (valT_ok (kind := 2) (t := t2) (c := c) (r := r3) (.inr (by omega)) h5 h2n)
                have hfn := field_num c
                have HT2 := hid fun W (h4 : RS w0 W b (c :: r3) ds' q'.next.next (m - 1 - 1) (.box PD (.cells #[.int .i64 ((2 : Nat) : Int), .string (bA t.text), .int .i64 0, .int .i64 t.line, .int .i64 t.col] 47 (0, 0)) :: .box PT (.cells #[.int .i64 t.kind, .string (bA t.text), .int .i64 t.num, .int .i64 t.line, .int .i64 t.col] 63 (0, 0)) :: X)) => take_ok h4 2 (by have := HE2.out; omega) (by have := HE2.out; omega)
                clear h5 h2n
                go_wp2_with (go_at_call 21; refine (HH.out _ (Chg.refl [] wc)).mono ?_; rintro e w3 ⟨rfl, hc1⟩)
                go_at_call 22
                have HT5' := HT5.out _ hc1
                with_reducible refine HT5'.mono ?_
                rintro e w4 ⟨rfl, h4, hm4⟩
                go_wp2_with fail
                go_at_call 22
                have HH4 := HT2.out _ h4
                with_reducible refine HH4.mono ?_
                rintro e w5 ⟨rfl, h6, hm6⟩
                have bd := h6.getX (j := 0) rfl
                have hd2 : w5.cell? ⟨PD, 2, none⟩ = some (.int .i64 0) := blk_cell bd 2
                have hfd := blk_free bd
                have hPDl := blk_lt bd
                have H6 := hid (h6.putX 0 rfl 2 (.int .i64 c.num) rfl)
                clear h6 bd
                go_wp2_with fail
                go_meet
                exact hid ⟨c.num, r3, q'.next.next.next, ⟨HVO.out, HI.out.2.2, by simp only [List.length_cons]; omega⟩, H6.out.mono (by omega) (by have := HR.out.sm; omega)⟩
              · have HVO := hid (valT_bad2 (kind := 2) (t := t2) (c := c) (r := r3) (.inr (by omega)) h5 h2n)
                have HE2 := hid h2n
                have HT2 := hid fun W (h4 : RS w0 W b (c :: r3) ds' q'.next.next (m - 1 - 1) (.box PD (.cells #[.int .i64 ((2 : Nat) : Int), .string (bA t.text), .int .i64 0, .int .i64 t.line, .int .i64 t.col] 47 (0, 0)) :: .box PT (.cells #[.int .i64 t.kind, .string (bA t.text), .int .i64 t.num, .int .i64 t.line, .int .i64 t.col] 63 (0, 0)) :: X)) => take_bad h4 2 (by have := HE2.out; omega)
                have HGE := hid ((declG_val (fuel := fl) (ds := ds') HN.out HVO.out).symm.trans HI.out.2.1)
                clear h5 h2n
                go_wp2_with (go_at_call 21; refine (HH.out _ (Chg.refl [] wc)).mono ?_; rintro e w3 ⟨rfl, hc1⟩)
                go_at_call 22
                have HT5' := HT5.out _ hc1
                with_reducible refine HT5'.mono ?_
                rintro e w4 ⟨rfl, h4, hm4⟩
                go_wp2_with fail
                go_at_call 22
                have HH4 := HT2.out _ h4
                with_reducible refine HH4.mono ?_
                rintro e w5 ⟨rfl, hc5⟩
                exact ⟨rfl, DecP.bad HGE.out.symm ⟨rfl, hc5⟩⟩
            · have HVO := hid (valT_no (kind := 2) (t := t2) (r := r2) (by omega))
              have e5 : ((t2.kind : Int) == 5) = false := by simp; omega
              clear h5
              go_wp2_with (go_at_call 21; refine (HH.out _ (Chg.refl [] wc)).mono ?_; rintro e w3 ⟨rfl, hc1⟩)
              go_meet
              exact hid ⟨0, t2 :: r2, q'.next, ⟨HVO.out, HI.out.2.2, Nat.le_refl _⟩, H3.out.1.same hc1⟩
          · subst hk
            have HVO := hid (valT_no (kind := 3) (t := t2) (r := r2) (by omega))
            go_wp2_with fail
            go_meet
            exact hid ⟨0, t2 :: r2, q'.next, ⟨HVO.out, HI.out.2.2, Nat.le_refl _⟩, H3.out.1⟩
          · subst hk
            by_cases h5 : t2.kind = 5
            · have HE := hid h5
              have e5 : ((t2.kind : Int) == 5) = true := by simp; omega
              have HT5 := hid fun W (hc : Chg [] wc W) => take_ok (H3.out.1.same hc) 5 (by have := HE.out; omega) (by have := HE.out; omega)
              have HC3 := hid (H3.out.1.e7.two (by have := HE.out; omega))
              obtain ⟨c, r3, hr2⟩ := HC3.out
              subst hr2
              clear HC3
              by_cases h2n : c.kind = 2
              · have HE2 := hid h2n
                have HVO := hid (valT_ok (kind := 4) (t := t2) (c := c) (r := r3) (.inl rfl) h5 h2n)
                have hfn := field_num c
                have HT2 := hid fun W (h4 : RS w0 W b (c :: r3) ds' q'.next.next (m - 1 - 1) (.box PD (.cells #[.int .i64 ((4 : Nat) : Int), .string (bA t.text), .int .i64 0, .int .i64 t.line, .int .i64 t.col] 47 (0, 0)) :: .box PT (.cells #[.int .i64 t.kind, .string (bA t.text), .int .i64 t.num, .int .i64 t.line, .int .i64 t.col] 63 (0, 0)) :: X)) => take_ok h4 2 (by have := HE2.out; omega) (by have := HE2.out; omega)
                clear h5 h2n
                go_wp2_with fail
                go_at_call 22
                have HT5' := HT5.out _ (Chg.refl _ _)
                with_reducible refine HT5'.mono ?_
                rintro e w4 ⟨rfl, h4, hm4⟩
                go_wp2_with fail
                go_at_call 22
                have HH4 := HT2.out _ h4
                with_reducible refine HH4.mono ?_
                rintro e w5 ⟨rfl, h6, hm6⟩
                have bd := h6.getX (j := 0) rfl
                have hd2 : w5.cell? ⟨PD, 2, none⟩ = some (.int .i64 0) := blk_cell bd 2
                have hfd := blk_free bd
                have hPDl := blk_lt bd
                have H6 := hid (h6.putX 0 rfl 2 (.int .i64 c.num) rfl)
                clear h6 bd
                go_wp2_with fail
                go_meet
                exact hid ⟨c.num, r3, q'.next.next.next, ⟨HVO.out, HI.out.2.2, by simp only [List.length_cons]; omega⟩, H6.out.mono (by omega) (by have := HR.out.sm; omega)⟩
              · have HVO := hid (valT_bad2 (kind := 4) (t := t2) (c := c) (r := r3) (.inl rfl) h5 h2n)
                have HE2 := hid h2n
                have HT2 := hid fun W (h4 : RS w0 W b (c :: r3) ds' q'.next.next (m - 1 - 1) (.box PD (.cells #[.int .i64 ((4 : Nat) : Int), .string (bA t.text), .int .i64 0, .int .i64 t.line, .int .i64 t.col] 47 (0, 0)) :: .box PT (.cells #[.int .i64 t.kind, .string (bA t.text), .int .i64 t.num, .int .i64 t.line, .int .i64 t.col] 63 (0, 0)) :: X)) => take_bad h4 2 (by have := HE2.out; omega)
                have HGE := hid ((declG_val (fuel := fl) (ds := ds') HN.out HVO.out).symm.trans HI.out.2.1)
                clear h5 h2n
                go_wp2_with fail
                go_at_call 22
                have HT5' := HT5.out _ (Chg.refl _ _)
                with_reducible refine HT5'.mono ?_
                rintro e w4 ⟨rfl, h4, hm4⟩
                go_wp2_with fail
                go_at_call 22
                have HH4 := HT2.out _ h4
                with_reducible refine HH4.mono ?_
                rintro e w5 ⟨rfl, hc5⟩
                exact ⟨rfl, DecP.bad HGE.out.symm ⟨rfl, hc5⟩⟩
            · have HVO := hid (valT_bad (kind := 4) (t := t2) (r := r2) rfl h5)
              have HTB := hid (take_bad H3.out.1 5 (by omega))
              have HGE := hid ((declG_val (fuel := fl) (ds := ds') HN.out HVO.out).symm.trans HI.out.2.1)
              clear h5
              go_wp2_with (go_at_call 22; refine HTB.out.mono ?_; rintro e w5 ⟨rfl, hc5⟩)
              exact ⟨rfl, DecP.bad HGE.out.symm ⟨rfl, hc5⟩⟩
        case rest =>
          obtain ⟨v, ts3, q3, HV3, h4⟩ := hcut.out
          clear hcut
          obtain ⟨c, r3, rfl⟩ := h4.cons
          have bd := h4.getX (j := 0) rfl
          have hPDb := h4.neX (j := 0) rfl (g := PD) rfl
          have hPDr : PD ∉ q3.r0.toList := fun hm => by
            exact h4.hp.ne (i := 1) (j := (rsI b (c :: r3).length ds' q3).length + 0) (x := rsDecls ds' q3) rfl (by rw [List.getElem?_append_right (by omega), Nat.add_sub_cancel_left]; rfl) (by unfold rsI; simp only [List.length_cons]; omega) (g := PD) (by simpa [rsDecls, It.blk] using hm) rfl
          have hbr : b ∉ q3.r0.toList := fun hm => by
            exact h4.hp.ne (i := 1) (j := 0) (x := rsDecls ds' q3) (y := rsBox b (c :: r3).length ds'.length q3) rfl rfl (by omega) (g := b) (by simpa [rsDecls, It.blk] using hm) rfl
          have hrow : Row wc 47 5 (.slice q3.a0 ds'.length q3.c0) q3.r0 ds'.length (ds'.flatMap dcC) := h4.hp.rowAt (i := 1) rfl
          have hp0 := h4.c1
          have hpf := h4.fr 1
          have hld := h4.ld
          have hsm := h4.sm
          simp only [List.length_cons] at hld
          obtain ⟨L, hL⟩ : ∃ L, ds'.length = L := ⟨_, rfl⟩
          obtain ⟨I, hII⟩ : ∃ I, ds'.flatMap dcC = I := ⟨_, rfl⟩
          rw [hL, hII] at hrow
          rw [hL] at hp0 hld
          have p0d : ∀ o, (wc.drew.alloc o).cell? ⟨b, 1, none⟩ = some (.slice q3.a0 L q3.c0) := fun o => (((Chg.refl [] wc).drew).alloc o).cell hp0 (by simp)
          have HU : Hid (wc.cell? ⟨PD, 0, none⟩ = some (.int .i64 kind) ∧ wc.cell? ⟨PD, 1, none⟩ = some (.string (bA t.text)) ∧ wc.cell? ⟨PD, 2, none⟩ = some (.int .i64 v) ∧ wc.cell? ⟨PD, 3, none⟩ = some (.int .i64 t.line) ∧ wc.cell? ⟨PD, 4, none⟩ = some (.int .i64 t.col)) := hid ⟨blk_cell bd 0, blk_cell bd 1, blk_cell bd 2, blk_cell bd 3, blk_cell bd 4⟩
          have hPDlt := blk_lt bd
          have hblt := h4.lt
          have HR0 := hid (And.intro hPDr hbr)
          have hL2 : L ≤ 2097152 := by omega
          have H4 := hid (And.intro h4 (And.intro hrow (And.intro hL (And.intro hII hld))))
          have HH := hid fun W (hc : Chg [] wc W) => here_calls (h4.same hc)
          clear h4 hrow hL hII hPDr hbr bd h3 hld HH
          go_upto_region 9 with fail
          go_cut [41] from 30 to 41 (fun _ wx => Hid (∃ q4 : RQ, q4.bs = q.bs ∧ RS w0 wx b (c :: r3) (ds' ++ [dclT kind t v]) q4 m X))
          case first =>
            (refine wp_region_held_drew (S := (fun w' => w'.cell? ⟨PD, 0, none⟩ = some (.int .i64 kind) ∧ w'.cell? ⟨PD, 1, none⟩ = some (.string (bA t.text)) ∧ w'.cell? ⟨PD, 2, none⟩ = some (.int .i64 v) ∧ w'.cell? ⟨PD, 3, none⟩ = some (.int .i64 t.line) ∧ w'.cell? ⟨PD, 4, none⟩ = some (.int .i64 t.col))) (by kernel_rfl) (by exact HU.out) (fun hHeld => ?_); (refine wpAnyH_take (i := 0) (v := ?_) rfl (by kernel_rfl) (by kernel_rfl) (by kernel_rfl) (fun _ _ _ h => h) (Or.inl ⟨by rfl, ?_⟩) (by assumption) ?_; rotate_left 1; (focus (intro w hSw; (try dsimp only at hSw); go_simp; (try with_reducible rfl))); (try simp only [List.getElem_toArray, List.getElem_cons_zero, List.getElem_cons_succ, Act.put, List.setIfInBounds_toArray, List.set_cons_zero, List.set_cons_succ])); (refine wpAnyH_take (i := 1) (v := ?_) rfl (by kernel_rfl) (by kernel_rfl) (by kernel_rfl) (fun _ _ _ h => h) (Or.inl ⟨by rfl, ?_⟩) (by assumption) ?_; rotate_left 1; (focus (intro w hSw; (try dsimp only at hSw); go_simp; (try with_reducible rfl))); (try simp only [List.getElem_toArray, List.getElem_cons_zero, List.getElem_cons_succ, Act.put, List.setIfInBounds_toArray, List.set_cons_zero, List.set_cons_succ])); (refine wpAnyH_take (i := 2) (v := ?_) rfl (by kernel_rfl) (by kernel_rfl) (by kernel_rfl) (fun _ _ _ h => h) (Or.inl ⟨by rfl, ?_⟩) (by assumption) ?_; rotate_left 1; (focus (intro w hSw; (try dsimp only at hSw); go_simp; (try with_reducible rfl))); (try simp only [List.getElem_toArray, List.getElem_cons_zero, List.getElem_cons_succ, Act.put, List.setIfInBounds_toArray, List.set_cons_zero, List.set_cons_succ])); (refine wpAnyH_take (i := 3) (v := ?_) rfl (by kernel_rfl) (by kernel_rfl) (by kernel_rfl) (fun _ _ _ h => h) (Or.inl ⟨by rfl, ?_⟩) (by assumption) ?_; rotate_left 1; (focus (intro w hSw; (try dsimp only at hSw); go_simp; (try with_reducible rfl))); (try simp only [List.getElem_toArray, List.getElem_cons_zero, List.getElem_cons_succ, Act.put, List.setIfInBounds_toArray, List.set_cons_zero, List.set_cons_succ])); (refine wpAnyH_take (i := 4) (v := ?_) rfl (by kernel_rfl) (by kernel_rfl) (by kernel_rfl) (fun _ _ _ h => h) (Or.inl ⟨by rfl, ?_⟩) (by assumption) ?_; rotate_left 1; (focus (intro w hSw; (try dsimp only at hSw); go_simp; (try with_reducible rfl))); (try simp only [List.getElem_toArray, List.getElem_cons_zero, List.getElem_cons_succ, Act.put, List.setIfInBounds_toArray, List.set_cons_zero, List.set_cons_succ])); (refine wpAnyH_take (i := 6) (v := ?_) rfl (by kernel_rfl) (by kernel_rfl) (by kernel_rfl) (fun _ _ _ h => h) (Or.inl ⟨by rfl, ?_⟩) (by assumption) ?_; rotate_left 1; (focus (intro w hSw; (try dsimp only at hSw); go_simp; (try with_reducible rfl))); (try simp only [List.getElem_toArray, List.getElem_cons_zero, List.getElem_cons_succ, Act.put, List.setIfInBounds_toArray, List.set_cons_zero, List.set_cons_succ])); (refine wpAnyH_ready (rs := [5, 7]) (by kernel_rfl) (by simp) ?_; refine AllReadyH.cons rfl (fun K hK => ?_) (AllReadyH.cons rfl (fun K hK => ?_) AllReadyH.nil)); (focus (go_simp; (refine hK.out _ _ (by exact hHeld) (fun hHeld => ?_); clear hK K; (try simp only [List.getElem_toArray, List.getElem_cons_zero, List.getElem_cons_succ, Act.put, List.setIfInBounds_toArray, List.set_cons_zero, List.set_cons_succ])); (refine wpAnyH_ready (rs := [7]) (by kernel_rfl) (by simp) ?_; refine AllReadyH.cons rfl (fun K hK => ?_) AllReadyH.nil; go_simp; (refine hK.out _ _ (by exact (t5_keep ((Chg.refl [] _).alloc _) (by simp; try omega) hHeld)) (fun hHeld => ?_); clear hK K; (try simp only [List.getElem_toArray, List.getElem_cons_zero, List.getElem_cons_succ, Act.put, List.setIfInBounds_toArray, List.set_cons_zero, List.set_cons_succ]))))); rotate_left 1; (focus (go_simp; (refine hK.out _ _ (by exact (t5_keep ((Chg.refl [] _).alloc _) (by simp; try omega) hHeld)) (fun hHeld => ?_); clear hK K; (try simp only [List.getElem_toArray, List.getElem_cons_zero, List.getElem_cons_succ, Act.put, List.setIfInBounds_toArray, List.set_cons_zero, List.set_cons_succ])); (refine wpAnyH_ready (rs := [5]) (by kernel_rfl) (by simp) ?_; refine AllReadyH.cons rfl (fun K hK => ?_) AllReadyH.nil; go_simp; (refine hK.out _ _ (by exact hHeld) (fun hHeld => ?_); clear hK K; (try simp only [List.getElem_toArray, List.getElem_cons_zero, List.getElem_cons_succ, Act.put, List.setIfInBounds_toArray, List.set_cons_zero, List.set_cons_succ]))))); (all_goals ((refine wpAnyH_ready (rs := [8]) (by kernel_rfl) (by simp) ?_; refine AllReadyH.cons rfl (fun K hK => ?_) AllReadyH.nil; refine step_grew rfl _ _ 22 rfl elem_dcl rfl (H4.out.2.1.keep (((Chg.refl [] wc).drew).alloc _) (by simp)) rfl (View.structAt wc.drew [.int .i64 kind, .string (bA t.text), .int .i64 v, .int .i64 t.line, .int .i64 t.col] 47 rfl rfl) (by simp [Value.oneCell']) (by unfold maxLen; omega) (by omega) (fun ao5 cap5 r5 w5 hr5 hg5 => ?_); (refine hK.out _ _ (by exact (t5_keep hg5.chg HR0.out.1 hHeld)) (fun hHeld => ?_); clear hK K; (try simp only [List.getElem_toArray, List.getElem_cons_zero, List.getElem_cons_succ, Act.put, List.setIfInBounds_toArray, List.set_cons_zero, List.set_cons_succ]))); (refine wpAnyH_take (i := 9) (v := ?_) rfl (by kernel_rfl) (by kernel_rfl) (by kernel_rfl) (fun _ _ _ h => h) (Or.inl ⟨by rfl, ?_⟩) (by assumption) ?_; rotate_left 1; (focus (intro w hSw; (try dsimp only at hSw); go_simp; (try with_reducible rfl))); (try simp only [List.getElem_toArray, List.getElem_cons_zero, List.getElem_cons_succ, Act.put, List.setIfInBounds_toArray, List.set_cons_zero, List.set_cons_succ])); (refine wpAnyH_take (i := 10) (v := ?_) rfl (by kernel_rfl) (by kernel_rfl) (by kernel_rfl) (fun _ _ _ h => h) (Or.inl ⟨by rfl, ?_⟩) (by assumption) ?_; rotate_left 1; (focus (intro w hSw; (try dsimp only at hSw); go_simp; (try with_reducible rfl))); (try simp only [List.getElem_toArray, List.getElem_cons_zero, List.getElem_cons_succ, Act.put, List.setIfInBounds_toArray, List.set_cons_zero, List.set_cons_succ])); (refine wpAnyH_take (i := 11) (v := ?_) rfl (by kernel_rfl) (by kernel_rfl) (by kernel_rfl) (fun _ _ _ h => h) (Or.inl ⟨by rfl, ?_⟩) (by assumption) ?_; rotate_left 1; (focus (intro w hSw; (try dsimp only at hSw); go_simp; (try with_reducible rfl))); (try simp only [List.getElem_toArray, List.getElem_cons_zero, List.getElem_cons_succ, Act.put, List.setIfInBounds_toArray, List.set_cons_zero, List.set_cons_succ])); (refine wpAnyH_ready (rs := [12]) (by kernel_rfl) (by simp) ?_; refine AllReadyH.cons rfl (fun K hK => ?_) AllReadyH.nil; go_simp; (have p5 : w5.cell? ⟨b, 1, none⟩ = some (.slice q3.a0 L q3.c0) := hg5.chg.cell (p0d _) HR0.out.2; have f5 : w5.frozen? ⟨b, 1, none⟩ = false := hg5.chg.free (p0d _) ((((Chg.refl [] wc).drew).alloc _).free hp0 hpf (by simp)) HR0.out.2; go_simp); (refine hK.out _ _ (by exact (t5_keep ((Chg.refl [b] w5).setCell (p := ⟨b, 1, none⟩) (.inl (by simp)) _) (by simp; omega) hHeld)) (fun hHeld => ?_); clear hK K; (try simp only [List.getElem_toArray, List.getElem_cons_zero, List.getElem_cons_succ, Act.put, List.setIfInBounds_toArray, List.set_cons_zero, List.set_cons_succ]))); refine wpAnyH_done (by kernel_rfl) ?_ _)))
            all_goals
              go_wp2_with fail
              go_meet
              obtain ⟨h4, hrow, hL, hII, hld⟩ := H4.out
              subst hL
              subst hII
              have h7 := h4.decl (d := dclT kind t v) (((Chg.refl [] wc).drew).alloc _) hr5 hg5 (by have := HR.out.sm; have := HR.out.len; have := HR.out.ld; simp only [List.length_cons] at this; omega)
              exact hid ⟨{ q3 with a0 := ao5, c0 := cap5, r0 := r5 }, HV3.2.1, (h7.subX (.cons _ (.cons _ (.refl _)))).mono (by have := HR.out.ld; simp only [List.length_cons] at this; omega) HR.out.sm⟩
          case rest =>
            obtain ⟨q4, hq4, h8⟩ := hcut.out
            have H8 := hid h8
            have hf0 := field_kind c
            have HHc := hid (here_calls h8)
            have HQ4 := hid hq4
            clear hcut h8 hq4 p0d hp0 hpf HU
            by_cases hc3 : c.kind = 3
            · have e3 : ((c.kind : Int) == 3) = true := by simp; omega
              have HE := hid hc3
              have HGE := hid ((declG_more (fuel := fl) (ds := ds') HN.out HV3.1 hc3).symm.trans HI.out.2.1)
              clear hc3
              go_wp2_with (first
                | (go_at_call 21; refine HHc.out.mono ?_; rintro e w8 ⟨rfl, hc8⟩)
                | (go_at_call 22; refine (take_ok (H8.out.same hc8) 3 (by have := HE.out; omega) (by have := HE.out; omega)).mono ?_; rintro e w9 ⟨rfl, h9, hm9⟩))
              have H9 := hid h9
              have hgn := HGK.out
              have hl3 := HV3.2.2
              simp only [List.length_cons] at hgn hl3
              have HL3 := hid hl3
              clear h9
              go_roundg r3.length
              case measure => have := HL3.out; omega
              case rel => exact ⟨fl, r3, ds' ++ [dclT kind t v], q4.next, hid rfl, hid ⟨by have := HI.out.1; have := HL3.out; simp only [List.length_cons] at *; omega, HGE.out, HQ4.out⟩, hid (H9.out.mono (by omega) HR.out.sm)⟩
            · have e3 : ((c.kind : Int) == 3) = false := by simp; omega
              have HGE := hid ((declG_end (fuel := fl) (ds := ds') HN.out HV3.1 hc3).symm.trans HI.out.2.1)
              clear hc3
              go_wp2_with (go_at_call 21; refine HHc.out.mono ?_; rintro e w8 ⟨rfl, hc8⟩)
              go_end0
              exact DecP.good HGE.out.symm (by unfold RQ.bks; rw [HQ4.out]) (H8.out.same hc8)
end
end Go.Proofs.YtmahcabidggmeaaGreatDoor
