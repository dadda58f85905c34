/- Walks of the parser: a line. (Printed by gen_pline.py.) -/
import Derived.Test.YtmahcabidggmeaaGreatDoorVpj
set_option linter.unusedVariables false
set_option linter.unusedSectionVars false
set_option linter.unusedSimpArgs false
namespace Go.AB
open Go.RowKit
def lineT (any : Bool) (t : Tok) (r : List Tok) (u : UnD) : Except Flt (List Tok × UnD) :=
  if endsB t = true then .ok (t :: r, u)
  else if t.kind = 1 ∧ opL t.text ≠ 0 then match instrD (opL t.text) (t :: r) u.blocks with
    | .error e => .error e
    | .ok (ts, bs) => endD ts ⟨u.decls, bs⟩
  else if t.kind ≠ 1 ∨ kindL t.text = 0 ∨ any = true then .error (fltAt 80 t)
  else if kindL t.text = 5 then match nameT r with
    | .error e => .error e
    | .ok (n, ts) => endD ts ⟨u.decls, u.blocks ++ [⟨bA n.text, [], n.line, n.col⟩]⟩
  else match declG (kindL t.text) r.length r u.decls with
    | .error e => .error e
    | .ok (ts, ds) => endD ts ⟨ds, u.blocks⟩
theorem line_bad {ts : List Tok} {u : UnD} {f : Flt} (h : labelsD ts u.blocks false = .error f) : lineD ts u = .error f := by unfold lineD; rw [h]
theorem line_on {ts : List Tok} {u : UnD} {t : Tok} {r : List Tok} {bs : List BkD} {any : Bool} (h : labelsD ts u.blocks false = .ok (t :: r, bs, any)) : lineD ts u = lineT any t r ⟨u.decls, bs⟩ := by
  unfold lineD
  rw [h]
  rfl
theorem end_cons {t : Tok} {r : List Tok} {u : UnD} : endD (t :: r) u = if endsB t = true then .ok (t :: r, u) else .error (fltAt 83 t) := rfl
theorem max_kl (kl : Nat) (h : kl ≤ 5) : max 0 (IntKind.i64.wrap (kl : Int)) = (kl : Int) := by
  rw [IntKind.wrap_i64]
  omega
theorem op_le (s : List UInt8) : opL s ≤ 20 := idx_le _ _
theorem kind_le (s : List UInt8) : kindL s ≤ 5 := idx_le _ _
theorem idx_kind (s : List UInt8) : Lib.idxOfS (kindTab.map bA) (bA s) + 1 = (kindL s : Int) := by
  have hb : ∀ a : List UInt8, (bA a = bA s) ↔ a = s := fun a => ⟨fun h => congrArg (fun b : ByteArray => b.data.toList) h, fun h => by rw [h]⟩
  have g : ∀ (l : List (List UInt8)) (i : Nat), (Lib.idxFromS (l.map bA) (bA s) i = -1 ∧ idxOf.go s l (i + 1) = 0) ∨ (Lib.idxFromS (l.map bA) (bA s) i + 1 = (idxOf.go s l (i + 1) : Int)) := by
    intro l
    induction l with
    | nil => intro i; exact .inl ⟨rfl, rfl⟩
    | cons a l ih =>
      intro i
      by_cases h : a = s
      · right
        simp only [List.map_cons]
        unfold Lib.idxFromS idxOf.go
        rw [if_pos ((hb a).2 h), if_pos h]
        simp
      · simp only [List.map_cons]
        unfold Lib.idxFromS idxOf.go
        rw [if_neg (fun e => h ((hb a).1 e)), if_neg h]
        exact ih (i + 1)
  rcases g kindTab 0 with ⟨h1, h2⟩ | h
  · show Lib.idxFromS _ _ 0 + 1 = ((idxOf.go s kindTab 1 : Nat) : Int)
    rw [h1, h2]; rfl
  · exact h
end Go.AB
namespace Go.Proofs.YtmahcabidggmeaaGreatDoor
open Go.RowKit Go.AB
set_option linter.unusedSimpArgs false
set_option linter.unusedVariables false
set_option linter.unusedSectionVars false

section
variable {w0 w : World} {b : Nat} {t : Tok} {ts r : List Tok} {ds : List DcD} {q : RQ} {m : Nat} {X : List It}
def LineP (w0 : World) (b : Nat) (m : Nat) (X : List It) (x : Except Flt (List Tok × UnD)) (e : Ending) (w' : World) : Prop :=
  OutP (badP w0) x (fun p e w' => e = .returned (.tuple #[]) ∧ ∃ q' : RQ, q'.bks = p.2.blocks ∧ RS w0 w' b p.1 p.2.decls q' m X) e w'
theorem LineP.bad {x : Except Flt (List Tok × UnD)} {f : Flt} {e : Ending} {w' : World} (hx : x = .error f) (h : badP w0 f e w') : LineP w0 b m X x e w' := by subst hx; exact h
theorem LineP.good {x : Except Flt (List Tok × UnD)} {bs : List BkD} {w' : World} (hx : x = .ok (ts, ⟨ds, bs⟩)) (hb : q.bks = bs) (h : RS w0 w' b ts ds q m X) : LineP w0 b m X x (.returned (.tuple #[])) w' := by subst hx; exact ⟨rfl, q, hb, h⟩
/-- What the line's head tells. -/
def opV (t : Tok) : Nat := if t.kind = 1 then opL t.text else 0
def stV (t : Tok) : Nat := if t.kind = 1 then kindL t.text else 0
set_option maxHeartbeats 4000000 in
set_option maxRecDepth 100000 in
theorem line_calls (h : RS w0 w b ts ds q m X) (hv : VarsP w0) : Calls Tryz.prog 20 #[.pointer (some ⟨b, 0, none⟩)] w (LineP w0 b m X (lineD ts ⟨ds, q.bks⟩)) := by
  obtain ⟨G, hG⟩ : ∃ G, lineD ts ⟨ds, q.bks⟩ = G := ⟨_, rfl⟩
  rw [hG]
  have HV := hid hv
  have HM := hid h.sm
  have HLB := hid (labels_calls h hv)
  cases hl : labelsD ts q.bks false with
  | error f =>
    rw [hl] at HLB
    have HGE := hid ((line_bad (u := ⟨ds, q.bks⟩) hl).symm.trans hG)
    clear hG hl h hv
    go_enter Tryz.func20, Tryz.ntmps20
    go_wp2_with (go_at_call 40; refine HLB.out.mono ?_; rintro e w1 ⟨rfl, hc⟩)
    exact ⟨rfl, LineP.bad HGE.out.symm ⟨rfl, hc⟩⟩
  | ok p =>
    obtain ⟨ts1, bs1, any⟩ := p
    rw [hl] at HLB
    have HL := hid hl
    have HG := hid hG
    clear hG hl h hv
    go_enter Tryz.func20, Tryz.ntmps20
    go_wp2_with (go_at_call 40; refine HLB.out.mono ?_; rintro e w1 ⟨rfl, q1, hq1, h1⟩; refine halt (fun XX hXX => ?_))
    obtain ⟨t, r, rfl⟩ := h1.cons
    have HT : Hid (lineT any t r ⟨ds, bs1⟩ = G) := hid ((line_on (u := ⟨ds, q.bks⟩) HL.out).symm.trans HG.out)
    have HE := hid (ends_calls h1)
    have HS := hid fun W (hc : Chg [] w1 W) => h1.same hc
    have HQ1 := hid hq1
    clear HLB h1 hq1 HL HG
    cases he : endsB t with
    | true =>
      rw [he] at HE
      have HGE : Hid (G = .ok (t :: r, ⟨ds, bs1⟩)) := hid (by rw [← HT.out]; unfold lineT; rw [if_pos he])
      clear he
      rw [hXX.out]; clear hXX XX
      go_wp2_with (go_at_call 41; refine HE.out.mono ?_; rintro e w2 ⟨rfl, hc2⟩)
      go_end0
      exact LineP.good HGE.out HQ1.out (HS.out _ hc2)
    | false =>
      rw [he] at HE
      have HTT : Hid (lineT any t r ⟨ds, bs1⟩ = (if t.kind = 1 ∧ opL t.text ≠ 0 then match instrD (opL t.text) (t :: r) bs1 with
    | .error e => .error e
    | .ok (ts, bs) => endD ts ⟨ds, bs⟩
  else if t.kind ≠ 1 ∨ kindL t.text = 0 ∨ any = true then .error (fltAt 80 t)
  else if kindL t.text = 5 then match nameT r with
    | .error e => .error e
    | .ok (n, ts) => endD ts ⟨ds, bs1 ++ [⟨bA n.text, [], n.line, n.col⟩]⟩
  else match declG (kindL t.text) r.length r ds with
    | .error e => .error e
    | .ok (ts, ds) => endD ts ⟨ds, bs1⟩)) := hid (by
        unfold lineT
        rw [if_neg (by simp [he])])
      have HNE : Hid (t.kind ≠ 7) := hid (fun e7 => by rw [show endsB t = true from by simp [endsB, e7]] at he; cases he)
      clear he
      rw [hXX.out]; clear hXX XX
      go_wp2_with (go_at_call 41; refine HE.out.mono ?_; rintro e w2 ⟨rfl, hc2⟩; refine halt (fun XX hXX => ?_))
      have HHR := hid (here_calls (HS.out _ hc2))
      have HC2 := hid hc2
      clear hc2
      rw [hXX.out]; clear hXX XX
      go_upto_region 3 with (go_at_call 21; refine HHR.out.mono ?_; rintro e w3 ⟨rfl, hc3⟩)
      have h3 := (HS.out _ (HC2.out.trans' hc3)).box (.cells #[.int .i64 t.kind, .string (bA t.text), .int .i64 t.num, .int .i64 t.line, .int .i64 t.col] 63)
      generalize w3.heap.size = PT at h3 ⊢
      generalize (w3.alloc (.cells #[.int .i64 t.kind, .string (bA t.text), .int .i64 t.num, .int .i64 t.line, .int .i64 t.col] 63)) = w4 at h3 ⊢
      have bt := h3.getX (j := 0) rfl
      have t0 : w4.cell? ⟨PT, 0, none⟩ = some (.int .i64 t.kind) := blk_cell bt 0
      have t1 : w4.cell? ⟨PT, 1, none⟩ = some (.string (bA t.text)) := blk_cell bt 1
      have HW4 := hid fun W (hc : Chg [] w4 W) => h3.same hc
      have HTX := hid (tx_small h3)
      have hc4 := Chg.refl [] w4
      clear h3 bt HHR hc3 HE
      go_upto_if 15 with fail
      go_cut [4, 5] from 15 to 25 (fun v4 v5 wx => v4 = .int .i64 (opV t : Nat) ∧ v5 = .int .i64 (stV t : Nat) ∧ Chg [] w4 wx)
      case first =>
        by_cases hk : t.kind = 1
        · have e1 : ((t.kind : Int) == 1) = true := by simp; omega
          have HOV : Hid (opV t = opL t.text ∧ stV t = kindL t.text) := hid ⟨by unfold opV; rw [if_pos hk], by unfold stV; rw [if_pos hk]⟩
          have HOP := hid (op_calls (bA t.text) w4)
          rw [show (bA t.text).data.toList = t.text from rfl] at HOP
          have HIX := hid fun (pb : Nat) W hcl => Tryz.slices_Index_string pb 1 5 5 (kindTab.map bA) (bA t.text) W (by decide) (by omega) hcl
          have hik := idx_kind t.text
          have e5 : List.take 5 (kindTab.map bA) = kindTab.map bA := rfl
          rw [e5] at HIX
          obtain ⟨iv, hiv⟩ : ∃ iv, Lib.idxOfS (kindTab.map bA) (bA t.text) = iv := ⟨_, rfl⟩
          rw [hiv] at hik HIX
          obtain ⟨kl, hkl⟩ : ∃ kl, kindL t.text = kl := ⟨_, rfl⟩
          have hkle := kind_le t.text
          rw [hkl] at hik HOV hkle
          obtain ⟨ol, hol⟩ : ∃ ol, opL t.text = ol := ⟨_, rfl⟩
          rw [hol] at HOV HOP
          clear hiv hkl hk hol e5
          go_upto_region 7 with (go_at_call 42; refine HOP.out.mono ?_; rintro e w5 ⟨rfl, hc5⟩)
          have t15 := hc5.cell t1 (by simp)
          have HC5 := hid hc5
          clear hc5
          have hw : IntKind.i64.wrap (iv + 1) = (kl : Int) := by rw [hik, IntKind.wrap_i64]; omega
          have HCL : Hid (∀ (pb : Nat) (W : World), (∀ j, j < startsL.length → W.cell? ⟨pb, 0 + j, none⟩ = some (.string (startsL.getD j ByteArray.empty))) → ∀ j, j < (kindTab.map bA).length → W.cell? ⟨pb, 1 + j, none⟩ = some (.string ((kindTab.map bA).getD j ByteArray.empty))) := hid (fun pb W hcl j hj => by
            have h := hcl (1 + j) (by show 1 + j < (_ :: kindTab.map bA).length; simp only [List.length_cons]; omega)
            rw [Nat.zero_add] at h
            rw [h, Nat.add_comm 1 j]
            rfl)
          (refine wp_region_held_drew (S := (fun w' => w'.cell? ⟨PT, 1, none⟩ = some (.string (bA t.text)))) (by kernel_rfl) (by exact t15) (fun hHeld => ?_); (refine wpAnyH_take (i := 2) (v := ?_) rfl (by kernel_rfl) (by kernel_rfl) (by kernel_rfl) (fun _ _ _ h => h) (Or.inl ⟨by rfl, ?_⟩) (by assumption) ?_; rotate_left 1; (focus (intro w hSw; (try dsimp only at hSw); go_simp; (try with_reducible rfl))); (try simp only [List.getElem_toArray, List.getElem_cons_zero, List.getElem_cons_succ, Act.put, List.setIfInBounds_toArray, List.set_cons_zero, List.set_cons_succ])); (refine wpAnyH_take (i := 3) (v := ?_) rfl (by kernel_rfl) (by kernel_rfl) (by kernel_rfl) (fun _ _ _ h => h) (Or.inl ⟨by rfl, ?_⟩) (by assumption) ?_; rotate_left 1; (focus (intro w hSw; (try dsimp only at hSw); go_simp; (try with_reducible rfl))); (try simp only [List.getElem_toArray, List.getElem_cons_zero, List.getElem_cons_succ, Act.put, List.setIfInBounds_toArray, List.set_cons_zero, List.set_cons_succ])); (refine wpAnyH_ready (rs := [0]) (by kernel_rfl) (by simp) ?_; refine AllReadyH.cons rfl (fun K hK => ?_) AllReadyH.nil; go_simp; go_at_call 44; refine (starts_calls _).mono ?_; rintro e w6 ⟨pb, rfl, hcl, hc6⟩; (refine hK.out _ _ (by exact (hc6.cell hHeld (by simp))) (fun hHeld => ?_); clear hK K; (try simp only [List.getElem_toArray, List.getElem_cons_zero, List.getElem_cons_succ, Act.put, List.setIfInBounds_toArray, List.set_cons_zero, List.set_cons_succ]))); (refine wpAnyH_take (i := 1) (v := ?_) rfl (by kernel_rfl) (by kernel_rfl) (by kernel_rfl) (fun _ _ _ h => h) (Or.inl ⟨by rfl, ?_⟩) (by assumption) ?_; rotate_left 1; (focus (intro w hSw; (try dsimp only at hSw); go_simp; (try with_reducible rfl))); (try simp only [List.getElem_toArray, List.getElem_cons_zero, List.getElem_cons_succ, Act.put, List.setIfInBounds_toArray, List.set_cons_zero, List.set_cons_succ])); (refine wpAnyH_ready (rs := [4]) (by kernel_rfl) (by simp) ?_; refine AllReadyH.cons rfl (fun K hK => ?_) AllReadyH.nil; go_simp; go_at_call 43; refine (HIX.out pb _ (HCL.out pb _ hcl)).mono ?_; rintro e w7 ⟨rfl, rfl⟩; (refine hK.out _ _ (by exact hHeld) (fun hHeld => ?_); clear hK K; (try simp only [List.getElem_toArray, List.getElem_cons_zero, List.getElem_cons_succ, Act.put, List.setIfInBounds_toArray, List.set_cons_zero, List.set_cons_succ]))); (refine wpAnyH_take (i := 5) (v := ?_) rfl (by kernel_rfl) (by kernel_rfl) (by kernel_rfl) (fun _ _ _ h => h) (Or.inl ⟨by rfl, ?_⟩) (by assumption) ?_; rotate_left 1; (focus (intro w hSw; (try dsimp only at hSw); go_simp; (try with_reducible rfl))); (try simp only [List.getElem_toArray, List.getElem_cons_zero, List.getElem_cons_succ, Act.put, List.setIfInBounds_toArray, List.set_cons_zero, List.set_cons_succ])); (refine wpAnyH_take (i := 6) (v := ?_) rfl (by kernel_rfl) (by kernel_rfl) (by kernel_rfl) (fun _ _ _ h => h) (Or.inl ⟨by rfl, ?_⟩) (by assumption) ?_; rotate_left 1; (focus (intro w hSw; (try dsimp only at hSw); go_simp; (try with_reducible rfl))); (try simp only [List.getElem_toArray, List.getElem_cons_zero, List.getElem_cons_succ, Act.put, List.setIfInBounds_toArray, List.set_cons_zero, List.set_cons_succ])); (refine wpAnyH_take (i := 7) (v := ?_) rfl (by kernel_rfl) (by kernel_rfl) (by kernel_rfl) (fun _ _ _ h => h) (Or.inl ⟨by rfl, ?_⟩) (by assumption) ?_; rotate_left 1; (focus (intro w hSw; (try dsimp only at hSw); go_simp; (try with_reducible rfl))); (try simp only [List.getElem_toArray, List.getElem_cons_zero, List.getElem_cons_succ, Act.put, List.setIfInBounds_toArray, List.set_cons_zero, List.set_cons_succ])); refine wpAnyH_done (by kernel_rfl) ?_ _)
          go_wp2_with fail
          go_meet
          refine ⟨by rw [HOV.out.1], ?_, ((HC5.out.trans' ((Chg.refl [] _).drew)).trans' hc6)⟩
          rw [HOV.out.2]
          exact congrArg (Value.int .i64) (max_kl kl hkle)
        · have e1 : ((t.kind : Int) == 1) = false := by simp; omega
          have HOV : Hid (opV t = 0 ∧ stV t = 0) := hid ⟨by unfold opV; rw [if_neg hk], by unfold stV; rw [if_neg hk]⟩
          clear hk
          go_wp2_with fail
          go_meet
          exact ⟨by rw [HOV.out.1]; rfl, by rw [HOV.out.2]; rfl, Chg.refl _ _⟩
      case rest =>
        obtain ⟨rfl, rfl, hc5⟩ := hcut
        obtain ⟨ov, hov⟩ : ∃ ov, opV t = ov := ⟨_, rfl⟩
        obtain ⟨sv, hsv⟩ : ∃ sv, stV t = sv := ⟨_, rfl⟩
        rw [hov, hsv]
        have H5 := hid (HW4.out _ hc5)
        by_cases ho : ov = 0
        · subst ho
          have hno : ¬ (t.kind = 1 ∧ opL t.text ≠ 0) := by
            rintro ⟨e1, e2⟩
            unfold opV at hov
            rw [if_pos e1] at hov
            exact e2 hov
          have HT2 := hid (HTT.out.symm.trans HT.out)
          rw [if_neg hno] at HT2
          by_cases hs : sv = 0 ∨ any = true
          · have hs2 : t.kind ≠ 1 ∨ kindL t.text = 0 ∨ any = true := by
              rcases hs with hs | hs
              · by_cases e1 : t.kind = 1
                · unfold stV at hsv
                  rw [if_pos e1] at hsv
                  exact .inr (.inl (hsv.trans hs))
                · exact .inl e1
              · exact .inr (.inr hs)
            have HGE : Hid (G = .error (fltAt 80 t)) := hid (by have h := HT2.out; rw [if_pos hs2] at h; exact h.symm)
            have HF := hid (fail_calls H5.out 80)
            by_cases hs0 : sv = 0
            · subst hs0
              clear hs hs2 hno hov hsv
              go_wp2_with (go_at_call 46; refine HF.out.mono ?_; rintro e w9 ⟨rfl, hc9⟩)
              exact ⟨rfl, LineP.bad HGE.out ⟨rfl, hc9⟩⟩
            · have es : ((sv : Int) == 0) = false := by simp; omega
              have ha : any = true := hs.resolve_left hs0
              subst ha
              clear hs hs2 hno hov hsv hs0
              go_wp2_with (go_at_call 46; refine HF.out.mono ?_; rintro e w9 ⟨rfl, hc9⟩)
              exact ⟨rfl, LineP.bad HGE.out ⟨rfl, hc9⟩⟩
          · have hs0 : sv ≠ 0 := fun e => hs (.inl e)
            have ha : any = false := by cases any; rfl; exact absurd (.inr rfl) hs
            subst ha
            have e1 : t.kind = 1 := by
              apply Decidable.byContradiction
              intro e
              unfold stV at hsv
              rw [if_neg e] at hsv
              exact hs0 hsv.symm
            have hkl : kindL t.text = sv := by unfold stV at hsv; rw [if_pos e1] at hsv; exact hsv
            have hle := kind_le t.text
            rw [hkl] at hle HT2
            have hn2 : ¬ (t.kind ≠ 1 ∨ sv = 0 ∨ false = true) := by simp [e1, hs0]
            have HT3 : Hid ((if sv = 5 then match nameT r with
    | .error e => .error e
    | .ok (n, ts) => endD ts ⟨ds, bs1 ++ [⟨bA n.text, [], n.line, n.col⟩]⟩
  else match declG sv r.length r ds with
    | .error e => .error e
    | .ok (ts, ds) => endD ts ⟨ds, bs1⟩) = G) := hid (by have h := HT2.out; rw [if_neg hn2] at h; exact h)
            have es : ((sv : Int) == 0) = false := by simp; omega
            have HTK := hid (take_ok H5.out 1 (by omega) (by omega))
            by_cases h5 : sv = 5
            · subst h5
              have es5 : ((5 : Int) == 5) = true := rfl
              have HT4 := HT3.out
              rw [if_pos rfl] at HT4
              have HTK2 := hid fun W (hc : Chg [] _ W) => take_ok (H5.out.same hc) 1 (by omega) (by omega)
              cases hN : nameT r with
              | error f =>
                rw [hN] at HT4
                have HGE := hid HT4
                obtain ⟨n, r2, rfl⟩ : ∃ n r2, r = n :: r2 := H5.out.e7.two (by omega)
                have HNM := hid fun W (h6 : RS w0 W b (n :: r2) ds q1.next (m - 1) (.box PT (.cells #[.int .i64 t.kind, .string (bA t.text), .int .i64 t.num, .int .i64 t.line, .int .i64 t.col] 63 (0, 0)) :: X)) => name_tok h6 HV.out
                rw [hN] at HNM
                clear hN HT4 hno hov hsv hs hn2 hkl HT2
                go_wp2_with (first
                  | (go_at_call 44; refine (starts_calls _).mono ?_; rintro e w6 ⟨pb, rfl, hcl, hc6⟩)
                  | (go_at_call 22; refine (HTK2.out _ hc6).mono ?_; rintro e w7 ⟨rfl, h7, hm7⟩)
                  | (go_at_call 47; refine (HNM.out _ h7).mono ?_; rintro e w8 ⟨rfl, hc8⟩))
                exact ⟨rfl, LineP.bad HGE.out.symm ⟨rfl, hc8⟩⟩
              | ok p2 =>
                obtain ⟨n, r2, rfl⟩ : ∃ n r2, r = n :: r2 := H5.out.e7.two (by omega)
                have hp : p2 = (n, r2) := by
                  rw [nameT_cons] at hN
                  split at hN
                  · cases hN
                  · split at hN
                    · cases hN
                    · cases hN; rfl
                subst hp
                rw [hN] at HT4
                have HGE := hid HT4.symm
                have HNM := hid fun W (h6 : RS w0 W b (n :: r2) ds q1.next (m - 1) (.box PT (.cells #[.int .i64 t.kind, .string (bA t.text), .int .i64 t.num, .int .i64 t.line, .int .i64 t.col] 63 (0, 0)) :: X)) => name_tok h6 HV.out
                rw [hN] at HNM
                clear hN HT4 hno hov hsv hs hn2 hkl HT2
                go_upto_region 17 with (first
                  | (go_at_call 44; refine (starts_calls _).mono ?_; rintro e w6 ⟨pb, rfl, hcl, hc6⟩)
                  | (go_at_call 22; refine (HTK2.out _ hc6).mono ?_; rintro e w7 ⟨rfl, h7, hm7⟩)
                  | (go_at_call 47; refine (HNM.out _ h7).mono ?_; rintro e w8 ⟨rfl, h8, hm8, _⟩))
                have h9 := h8.box (.cells #[.int .i64 n.kind, .string (bA n.text), .int .i64 n.num, .int .i64 n.line, .int .i64 n.col] 63)
                generalize w8.heap.size = PN at h9 ⊢
                generalize (w8.alloc (.cells #[.int .i64 n.kind, .string (bA n.text), .int .i64 n.num, .int .i64 n.line, .int .i64 n.col] 63)) = wd at h9 ⊢
                have bd := h9.getX (j := 0) rfl
                have hPNl : (rsI b r2.length ds q1.next.next ++ (.box PN (.cells #[.int .i64 n.kind, .string (bA n.text), .int .i64 n.num, .int .i64 n.line, .int .i64 n.col] 63 (0, 0)) :: .box PT (.cells #[.int .i64 t.kind, .string (bA t.text), .int .i64 t.num, .int .i64 t.line, .int .i64 t.col] 63 (0, 0)) :: X))[(rsI b r2.length ds q1.next.next).length + 0]? = some (.box PN (.cells #[.int .i64 n.kind, .string (bA n.text), .int .i64 n.num, .int .i64 n.line, .int .i64 n.col] 63 (0, 0))) := by
                  rw [List.getElem?_append_right (by omega), Nat.add_sub_cancel_left]; rfl
                have hPNb := h9.neX (j := 0) rfl (g := PN) rfl
                have hPNr : PN ∉ q1.r1.toList := fun hm => by
                  exact h9.hp.ne (i := 2) (x := rsBlocks q1.next.next) rfl hPNl (by unfold rsI; simp only [List.length_cons]; omega) (g := PN) (by simpa [rsBlocks, It.blk, RQ.next] using hm) rfl
                have hbr : b ∉ q1.r1.toList := fun hm => by
                  exact h9.hp.ne (i := 2) (j := 0) (x := rsBlocks q1.next.next) (y := rsBox b r2.length ds.length q1.next.next) rfl rfl (by omega) (g := b) (by simpa [rsBlocks, It.blk, RQ.next] using hm) rfl
                have hrow : Row wd 50 4 (.slice q1.a1 q1.bs.length q1.c1) q1.r1 q1.bs.length (q1.bs.flatMap blC) := h9.hp.rowAt (i := 2) rfl
                have hp0 : wd.cell? ⟨b, 2, none⟩ = some (.slice q1.a1 q1.bs.length q1.c1) := h9.c2
                have hpf := h9.fr 2
                have hlb : q1.bs.length + r2.length ≤ m - 1 - 1 := h9.lb
                have hsm := h9.sm
                obtain ⟨L, hL⟩ : ∃ L, q1.bs.length = L := ⟨_, rfl⟩
                obtain ⟨I, hII⟩ : ∃ I, q1.bs.flatMap blC = I := ⟨_, rfl⟩
                rw [hL, hII] at hrow
                rw [hL] at hp0 hlb
                have p0d : ∀ o, (wd.drew.alloc o).cell? ⟨b, 2, none⟩ = some (.slice q1.a1 L q1.c1) := fun o => (((Chg.refl [] wd).drew).alloc o).cell hp0 (by simp)
                have HU : Hid (wd.cell? ⟨PN, 1, none⟩ = some (.string (bA n.text)) ∧ wd.cell? ⟨PN, 3, none⟩ = some (.int .i64 n.line) ∧ wd.cell? ⟨PN, 4, none⟩ = some (.int .i64 n.col)) := hid ⟨blk_cell bd 1, blk_cell bd 3, blk_cell bd 4⟩
                have hPNlt := blk_lt bd
                have hblt := h9.lt
                have HR0 := hid (And.intro hPNr hbr)
                have hL2 : L ≤ 2097152 := by omega
                have hm7' : 0 < m := by omega
                have H9 := hid (And.intro h9 (And.intro hrow (And.intro hL (And.intro hII (And.intro hm7' hm8)))))
                clear h9 hrow hL hII hPNr hbr bd hlb hPNl h7 h8 hm7 hm8 hc6 hcl
                (refine wp_region_held_drew (S := (fun w' => w'.cell? ⟨PN, 1, none⟩ = some (.string (bA n.text)) ∧ w'.cell? ⟨PN, 3, none⟩ = some (.int .i64 n.line) ∧ w'.cell? ⟨PN, 4, none⟩ = some (.int .i64 n.col))) (by kernel_rfl) (by exact HU.out) (fun hHeld => ?_); (refine wpAnyH_take (i := 0) (v := ?_) rfl (by kernel_rfl) (by kernel_rfl) (by kernel_rfl) (fun _ _ _ h => h) (Or.inl ⟨by rfl, ?_⟩) (by assumption) ?_; rotate_left 1; (focus (intro w hSw; (try dsimp only at hSw); go_simp; (try with_reducible rfl))); (try simp only [List.getElem_toArray, List.getElem_cons_zero, List.getElem_cons_succ, Act.put, List.setIfInBounds_toArray, List.set_cons_zero, List.set_cons_succ])); (refine wpAnyH_take (i := 1) (v := ?_) rfl (by kernel_rfl) (by kernel_rfl) (by kernel_rfl) (fun _ _ _ h => h) (Or.inl ⟨by rfl, ?_⟩) (by assumption) ?_; rotate_left 1; (focus (intro w hSw; (try dsimp only at hSw); go_simp; (try with_reducible rfl))); (try simp only [List.getElem_toArray, List.getElem_cons_zero, List.getElem_cons_succ, Act.put, List.setIfInBounds_toArray, List.set_cons_zero, List.set_cons_succ])); (refine wpAnyH_take (i := 2) (v := ?_) rfl (by kernel_rfl) (by kernel_rfl) (by kernel_rfl) (fun _ _ _ h => h) (Or.inl ⟨by rfl, ?_⟩) (by assumption) ?_; rotate_left 1; (focus (intro w hSw; (try dsimp only at hSw); go_simp; (try with_reducible rfl))); (try simp only [List.getElem_toArray, List.getElem_cons_zero, List.getElem_cons_succ, Act.put, List.setIfInBounds_toArray, List.set_cons_zero, List.set_cons_succ])); (refine wpAnyH_take (i := 3) (v := ?_) rfl (by kernel_rfl) (by kernel_rfl) (by kernel_rfl) (fun _ _ _ h => h) (Or.inl ⟨by rfl, ?_⟩) (by assumption) ?_; rotate_left 1; (focus (intro w hSw; (try dsimp only at hSw); go_simp; (try with_reducible rfl))); (try simp only [List.getElem_toArray, List.getElem_cons_zero, List.getElem_cons_succ, Act.put, List.setIfInBounds_toArray, List.set_cons_zero, List.set_cons_succ])); (refine wpAnyH_take (i := 4) (v := ?_) rfl (by kernel_rfl) (by kernel_rfl) (by kernel_rfl) (fun _ _ _ h => h) (Or.inl ⟨by rfl, ?_⟩) (by assumption) ?_; rotate_left 1; (focus (intro w hSw; (try dsimp only at hSw); go_simp; (try with_reducible rfl))); (try simp only [List.getElem_toArray, List.getElem_cons_zero, List.getElem_cons_succ, Act.put, List.setIfInBounds_toArray, List.set_cons_zero, List.set_cons_succ])); (refine wpAnyH_take (i := 6) (v := ?_) rfl (by kernel_rfl) (by kernel_rfl) (by kernel_rfl) (fun _ _ _ h => h) (Or.inl ⟨by rfl, ?_⟩) (by assumption) ?_; rotate_left 1; (focus (intro w hSw; (try dsimp only at hSw); go_simp; (try with_reducible rfl))); (try simp only [List.getElem_toArray, List.getElem_cons_zero, List.getElem_cons_succ, Act.put, List.setIfInBounds_toArray, List.set_cons_zero, List.set_cons_succ])); (refine wpAnyH_take (i := 7) (v := ?_) rfl (by kernel_rfl) (by kernel_rfl) (by kernel_rfl) (fun _ _ _ h => h) (Or.inl ⟨by rfl, ?_⟩) (by assumption) ?_; rotate_left 1; (focus (intro w hSw; (try dsimp only at hSw); go_simp; (try with_reducible rfl))); (try simp only [List.getElem_toArray, List.getElem_cons_zero, List.getElem_cons_succ, Act.put, List.setIfInBounds_toArray, List.set_cons_zero, List.set_cons_succ])); (refine wpAnyH_take (i := 8) (v := ?_) rfl (by kernel_rfl) (by kernel_rfl) (by kernel_rfl) (fun _ _ _ h => h) (Or.inl ⟨by rfl, ?_⟩) (by assumption) ?_; rotate_left 1; (focus (intro w hSw; (try dsimp only at hSw); go_simp; (try with_reducible rfl))); (try simp only [List.getElem_toArray, List.getElem_cons_zero, List.getElem_cons_succ, Act.put, List.setIfInBounds_toArray, List.set_cons_zero, List.set_cons_succ])); (refine wpAnyH_take (i := 9) (v := ?_) rfl (by kernel_rfl) (by kernel_rfl) (by kernel_rfl) (fun _ _ _ h => h) (Or.inl ⟨by rfl, ?_⟩) (by assumption) ?_; rotate_left 1; (focus (intro w hSw; (try dsimp only at hSw); go_simp; (try with_reducible rfl))); (try simp only [List.getElem_toArray, List.getElem_cons_zero, List.getElem_cons_succ, Act.put, List.setIfInBounds_toArray, List.set_cons_zero, List.set_cons_succ])); (refine wpAnyH_take (i := 10) (v := ?_) rfl (by kernel_rfl) (by kernel_rfl) (by kernel_rfl) (fun _ _ _ h => h) (Or.inl ⟨by rfl, ?_⟩) (by assumption) ?_; rotate_left 1; (focus (intro w hSw; (try dsimp only at hSw); go_simp; (try with_reducible rfl))); (try simp only [List.getElem_toArray, List.getElem_cons_zero, List.getElem_cons_succ, Act.put, List.setIfInBounds_toArray, List.set_cons_zero, List.set_cons_succ])); (refine wpAnyH_ready (rs := [5, 11]) (by kernel_rfl) (by simp) ?_; refine AllReadyH.cons rfl (fun K hK => ?_) (AllReadyH.cons rfl (fun K hK => ?_) AllReadyH.nil)); (focus (go_simp; (refine hK.out _ _ (by exact hHeld) (fun hHeld => ?_); clear hK K; (try simp only [List.getElem_toArray, List.getElem_cons_zero, List.getElem_cons_succ, Act.put, List.setIfInBounds_toArray, List.set_cons_zero, List.set_cons_succ])); (refine wpAnyH_ready (rs := [11]) (by kernel_rfl) (by simp) ?_; refine AllReadyH.cons rfl (fun K hK => ?_) AllReadyH.nil; go_simp; (refine hK.out _ _ (by exact (t3_keep ((Chg.refl [] _).alloc _) (by simp; try omega) hHeld)) (fun hHeld => ?_); clear hK K; (try simp only [List.getElem_toArray, List.getElem_cons_zero, List.getElem_cons_succ, Act.put, List.setIfInBounds_toArray, List.set_cons_zero, List.set_cons_succ]))))); rotate_left 1; (focus (go_simp; (refine hK.out _ _ (by exact (t3_keep ((Chg.refl [] _).alloc _) (by simp; try omega) hHeld)) (fun hHeld => ?_); clear hK K; (try simp only [List.getElem_toArray, List.getElem_cons_zero, List.getElem_cons_succ, Act.put, List.setIfInBounds_toArray, List.set_cons_zero, List.set_cons_succ])); (refine wpAnyH_ready (rs := [5]) (by kernel_rfl) (by simp) ?_; refine AllReadyH.cons rfl (fun K hK => ?_) AllReadyH.nil; go_simp; (refine hK.out _ _ (by exact hHeld) (fun hHeld => ?_); clear hK K; (try simp only [List.getElem_toArray, List.getElem_cons_zero, List.getElem_cons_succ, Act.put, List.setIfInBounds_toArray, List.set_cons_zero, List.set_cons_succ]))))); (all_goals ((refine wpAnyH_ready (rs := [12]) (by kernel_rfl) (by simp) ?_; refine AllReadyH.cons rfl (fun K hK => ?_) AllReadyH.nil; refine step_grew rfl _ _ 23 rfl elem_blk rfl (H9.out.2.1.keep (((Chg.refl [] wd).drew).alloc _) (by simp)) rfl (View.structAt wd.drew [.string (bA n.text), .slice none 0 0, .int .i64 n.line, .int .i64 n.col] 50 rfl rfl) (by simp [Value.oneCell']) (by unfold maxLen; omega) (by omega) (fun ao5 cap5 r5 w5 hr5 hg5 => ?_); (refine hK.out _ _ (by exact (t3_keep hg5.chg HR0.out.1 hHeld)) (fun hHeld => ?_); clear hK K; (try simp only [List.getElem_toArray, List.getElem_cons_zero, List.getElem_cons_succ, Act.put, List.setIfInBounds_toArray, List.set_cons_zero, List.set_cons_succ]))); (refine wpAnyH_take (i := 13) (v := ?_) rfl (by kernel_rfl) (by kernel_rfl) (by kernel_rfl) (fun _ _ _ h => h) (Or.inl ⟨by rfl, ?_⟩) (by assumption) ?_; rotate_left 1; (focus (intro w hSw; (try dsimp only at hSw); go_simp; (try with_reducible rfl))); (try simp only [List.getElem_toArray, List.getElem_cons_zero, List.getElem_cons_succ, Act.put, List.setIfInBounds_toArray, List.set_cons_zero, List.set_cons_succ])); (refine wpAnyH_take (i := 14) (v := ?_) rfl (by kernel_rfl) (by kernel_rfl) (by kernel_rfl) (fun _ _ _ h => h) (Or.inl ⟨by rfl, ?_⟩) (by assumption) ?_; rotate_left 1; (focus (intro w hSw; (try dsimp only at hSw); go_simp; (try with_reducible rfl))); (try simp only [List.getElem_toArray, List.getElem_cons_zero, List.getElem_cons_succ, Act.put, List.setIfInBounds_toArray, List.set_cons_zero, List.set_cons_succ])); (refine wpAnyH_take (i := 15) (v := ?_) rfl (by kernel_rfl) (by kernel_rfl) (by kernel_rfl) (fun _ _ _ h => h) (Or.inl ⟨by rfl, ?_⟩) (by assumption) ?_; rotate_left 1; (focus (intro w hSw; (try dsimp only at hSw); go_simp; (try with_reducible rfl))); (try simp only [List.getElem_toArray, List.getElem_cons_zero, List.getElem_cons_succ, Act.put, List.setIfInBounds_toArray, List.set_cons_zero, List.set_cons_succ])); (refine wpAnyH_ready (rs := [16]) (by kernel_rfl) (by simp) ?_; refine AllReadyH.cons rfl (fun K hK => ?_) AllReadyH.nil; go_simp; (have p5 : w5.cell? ⟨b, 2, none⟩ = some (.slice q1.a1 L q1.c1) := hg5.chg.cell (p0d _) HR0.out.2; have f5 : w5.frozen? ⟨b, 2, none⟩ = false := hg5.chg.free (p0d _) ((((Chg.refl [] wd).drew).alloc _).free hp0 hpf (by simp)) HR0.out.2; go_simp); (refine hK.out _ _ (by exact (t3_keep ((Chg.refl [b] w5).setCell (p := ⟨b, 2, none⟩) (.inl (by simp)) _) (by simp; omega) hHeld)) (fun hHeld => ?_); clear hK K; (try simp only [List.getElem_toArray, List.getElem_cons_zero, List.getElem_cons_succ, Act.put, List.setIfInBounds_toArray, List.set_cons_zero, List.set_cons_succ]))); refine wpAnyH_done (by kernel_rfl) ?_ _)))
                all_goals
                  obtain ⟨h9, hrow, hL, hII, hmm7, hmm8⟩ := H9.out
                  subst hL
                  subst hII
                  have h10 := h9.block (k := ⟨bA n.text, [], n.line, n.col⟩) rfl (((Chg.refl [] wd).drew).alloc _) hr5 hg5 (by have := HM.out; omega)
                  have HR2 := hid ((h10.subX (.cons _ (.cons _ (.refl X)))).mono (m' := m) (by omega) HM.out)
                  have HQ2 : Hid (q1.bks ++ [⟨bA n.text, [], n.line, n.col⟩] = bs1 ++ [⟨bA n.text, [], n.line, n.col⟩]) := hid (by rw [HQ1.out])
                  have HQB : Hid (∀ (a : Option Addr) (c : Nat) (r' : Option Nat), RQ.bks { q1.next.next with a1 := a, c1 := c, r1 := r', bs := q1.next.next.bs ++ [⟨⟨bA n.text, [], n.line, n.col⟩, none, 0, none⟩] } = q1.bks ++ [⟨bA n.text, [], n.line, n.col⟩]) := hid (fun a c r' => by
                    unfold RQ.bks
                    simp only [List.map_append, List.map_cons, List.map_nil]
                    rfl)
                  clear h9 hrow h10 p0d hp0 hpf HU hHeld hr5 hg5
                  obtain ⟨t2, r2x, rfl⟩ := HR2.out.cons
                  have HE2 := hid (ends_calls HR2.out)
                  have HF2 := hid fun W (hc : Chg [] _ W) => fail_calls (HR2.out.same hc) 83
                  cases he2 : endsB t2 with
                  | true =>
                    rw [he2] at HE2
                    have HGF := hid (HGE.out.trans (by rw [end_cons, if_pos he2]))
                    clear he2
                    go_wp2_with fail
                    go_at_call 41
                    refine HE2.out.mono ?_
                    rintro e w8 ⟨rfl, hc8⟩
                    go_wp2_with fail
                    go_end0
                    exact LineP.good HGF.out ((HQB.out _ _ _).trans HQ2.out) (HR2.out.same hc8)
                  | false =>
                    rw [he2] at HE2
                    have HGF := hid (HGE.out.trans (by rw [end_cons, if_neg (by simp [he2])]))
                    clear he2
                    go_wp2_with fail
                    go_at_call 41
                    refine HE2.out.mono ?_
                    rintro e w8 ⟨rfl, hc8⟩
                    go_wp2_with (go_at_call 46; refine (HF2.out _ hc8).mono ?_; rintro e w9 ⟨rfl, hc9⟩)
                    exact ⟨rfl, LineP.bad HGF.out ⟨rfl, hc9⟩⟩
            · have es5 : ((sv : Int) == 5) = false := by simp; omega
              have HT4 := HT3.out
              rw [if_neg h5] at HT4
              cases hD : declG sv r.length r ds with
              | error f =>
                rw [hD] at HT4
                have HGE := hid HT4
                have HDC := hid fun W (h6 : RS w0 W b r ds q1.next (m - 1) (.box PT (.cells #[.int .i64 t.kind, .string (bA t.text), .int .i64 t.num, .int .i64 t.line, .int .i64 t.col] 63 (0, 0)) :: X)) => decl_calls h6 HV.out sv (by omega) (by omega)
                rw [hD] at HDC
                clear hD HT4 hno hov hsv hs hn2 hkl h5 HT2
                go_wp2_with (first
                  | (go_at_call 44; refine (starts_calls _).mono ?_; rintro e w6 ⟨pb, rfl, hcl, hc6⟩)
                  | (go_at_call 22; refine (take_ok (H5.out.same hc6) 1 (by omega) (by omega)).mono ?_; rintro e w7 ⟨rfl, h7, hm7⟩)
                  | (go_at_call 48; refine (HDC.out _ h7).mono ?_; rintro e w8 ⟨rfl, hc8⟩))
                exact ⟨rfl, LineP.bad HGE.out.symm ⟨rfl, hc8⟩⟩
              | ok p2 =>
                obtain ⟨ts2, ds2⟩ := p2
                rw [hD] at HT4
                have HGE := hid HT4.symm
                have HDC := hid fun W (h6 : RS w0 W b r ds q1.next (m - 1) (.box PT (.cells #[.int .i64 t.kind, .string (bA t.text), .int .i64 t.num, .int .i64 t.line, .int .i64 t.col] 63 (0, 0)) :: X)) => decl_calls h6 HV.out sv (by omega) (by omega)
                rw [hD] at HDC
                clear hD HT4 hno hov hsv hs hn2 hkl h5 HT2
                go_wp2_with (first
                  | (go_at_call 44; refine (starts_calls _).mono ?_; rintro e w6 ⟨pb, rfl, hcl, hc6⟩)
                  | (go_at_call 22; refine (take_ok (H5.out.same hc6) 1 (by omega) (by omega)).mono ?_; rintro e w7 ⟨rfl, h7, hm7⟩)
                  | (go_at_call 48; refine (HDC.out _ h7).mono ?_; rintro e w8 ⟨rfl, q2, hq2, h8⟩; refine halt (fun XX hXX => ?_)))
                have HR2 := hid (h8.mono (m' := m) (by omega) HM.out)
                have HQ2 := hid (hq2.trans ((RQ.next_bks q1).trans HQ1.out))
                clear h8 hq2
                rw [hXX.out]; clear hXX XX
                obtain ⟨t2, r2, rfl⟩ := HR2.out.cons
                have HE2 := hid (ends_calls HR2.out)
                have HF2 := hid fun W (hc : Chg [] _ W) => fail_calls (HR2.out.same hc) 83
                cases he2 : endsB t2 with
                | true =>
                  rw [he2] at HE2
                  have HGF := hid (HGE.out.trans (by rw [end_cons, if_pos he2]))
                  clear he2
                  go_wp2_with fail
                  go_at_call 41
                  refine HE2.out.mono ?_
                  rintro e w8 ⟨rfl, hc8⟩
                  go_wp2_with fail
                  go_end0
                  exact LineP.good HGF.out HQ2.out ((HR2.out.same hc8).subX (.cons _ (.refl _)))
                | false =>
                  rw [he2] at HE2
                  have HGF := hid (HGE.out.trans (by rw [end_cons, if_neg (by simp [he2])]))
                  clear he2
                  go_wp2_with fail
                  go_at_call 41
                  refine HE2.out.mono ?_
                  rintro e w8 ⟨rfl, hc8⟩
                  go_wp2_with (go_at_call 46; refine (HF2.out _ hc8).mono ?_; rintro e w9 ⟨rfl, hc9⟩)
                  exact ⟨rfl, LineP.bad HGF.out ⟨rfl, hc9⟩⟩
        · have e1 : t.kind = 1 := by
            apply Decidable.byContradiction
            intro e
            unfold opV at hov
            rw [if_neg e] at hov
            exact ho hov.symm
          have hol : opL t.text = ov := by unfold opV at hov; rw [if_pos e1] at hov; exact hov
          have hle := op_le t.text
          have HT2 := HTT.out.symm.trans HT.out
          rw [hol] at hle HT2
          rw [if_pos ⟨e1, ho⟩] at HT2
          have eo : ((ov : Int) == 0) = false := by simp; omega
          have HIN := hid (instr_calls H5.out HV.out ov (by omega) hle e1)
          rw [show q1.bks = bs1 from HQ1.out] at HIN
          cases hI : instrD ov (t :: r) bs1 with
          | error f =>
            rw [hI] at HIN HT2
            have HGE := hid HT2
            clear hI HT2 hol hov e1 ho hle
            go_wp2_with (go_at_call 45; refine HIN.out.mono ?_; rintro e w8 ⟨rfl, hc8⟩)
            exact ⟨rfl, LineP.bad HGE.out.symm ⟨rfl, hc8⟩⟩
          | ok p2 =>
            obtain ⟨ts2, bs2⟩ := p2
            rw [hI] at HIN HT2
            have HGE := hid HT2.symm
            clear hI HT2 hol hov e1 ho hle
            go_wp2_with (go_at_call 45; refine HIN.out.mono ?_; rintro e w8 ⟨rfl, q2, hq2, h8⟩; refine halt (fun XX hXX => ?_))
            have HR2 := hid h8
            have HQ2 := hid hq2
            clear h8 hq2
            rw [hXX.out]; clear hXX XX
            obtain ⟨t2, r2, rfl⟩ := HR2.out.cons
            have HE2 := hid (ends_calls HR2.out)
            have HF2 := hid fun W (hc : Chg [] _ W) => fail_calls (HR2.out.same hc) 83
            cases he2 : endsB t2 with
            | true =>
              rw [he2] at HE2
              have HGF := hid (HGE.out.trans (by rw [end_cons, if_pos he2]))
              clear he2
              go_wp2_with fail
              go_at_call 41
              refine HE2.out.mono ?_
              rintro e w8 ⟨rfl, hc8⟩
              go_wp2_with fail
              go_end0
              exact LineP.good HGF.out HQ2.out ((HR2.out.same hc8).subX (.cons _ (.refl _)))
            | false =>
              rw [he2] at HE2
              have HGF := hid (HGE.out.trans (by rw [end_cons, if_neg (by simp [he2])]))
              clear he2
              go_wp2_with fail
              go_at_call 41
              refine HE2.out.mono ?_
              rintro e w8 ⟨rfl, hc8⟩
              go_wp2_with (go_at_call 46; refine (HF2.out _ hc8).mono ?_; rintro e w9 ⟨rfl, hc9⟩)
              exact ⟨rfl, LineP.bad HGF.out ⟨rfl, hc9⟩⟩
end
end Go.Proofs.YtmahcabidggmeaaGreatDoor
