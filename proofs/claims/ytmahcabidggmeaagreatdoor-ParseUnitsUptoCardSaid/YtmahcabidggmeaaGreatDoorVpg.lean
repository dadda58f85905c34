/- Walks of the parser: labels. -/
import Derived.Test.YtmahcabidggmeaaGreatDoorPk6
import Derived.Deep.RegionHeld
set_option linter.unusedVariables false
set_option linter.unusedSectionVars false
set_option linter.unusedSimpArgs false
namespace Go.AB
open Go.RowKit
section
variable {t c : Tok} {r : List Tok} {bs init : List BkD} {k : BkD} {any : Bool}
theorem labels_no (h : freeB t = false) : labelsD (t :: r) bs any = .ok (t :: r, bs, any) := by
  cases r with
  | nil => rfl
  | cons c r =>
    unfold labelsD
    rw [if_neg (by simp [h])]
theorem labels_end (h : c.kind ≠ 4) : labelsD (t :: c :: r) bs any = .ok (t :: c :: r, bs, any) := by
  unfold labelsD
  rw [if_neg (fun e => h e.2)]
theorem labels_stray (h : freeB t = true) (h2 : c.kind = 4) (hb : bs = []) : labelsD (t :: c :: r) bs any = .error (fltAt 81 t) := by
  unfold labelsD
  rw [if_pos ⟨h, h2⟩, if_pos hb]
theorem labels_long (h : freeB t = true) (h2 : c.kind = 4) (hb : bs ≠ []) (hl : 24 < t.text.length) : labelsD (t :: c :: r) bs any = .error (fltAt 84 t) := by
  unfold labelsD
  rw [if_pos ⟨h, h2⟩, if_neg hb, if_pos hl]
theorem labels_more (h : freeB t = true) (h2 : c.kind = 4) (hb : bs ≠ []) (hl : ¬ 24 < t.text.length) : labelsD (t :: c :: r) bs any = labelsD r (putLast (labelI t) bs) true := by
  conv => lhs; unfold labelsD
  rw [if_pos ⟨h, h2⟩, if_neg hb, if_neg hl]
theorem Chg.free {S : List Nat} {a b : World} (h : Chg S a b) {p : Addr} {v : Value} (hc : a.cell? p = some v) (hf : a.frozen? p = false) (hp : p.block ∉ S) : b.frozen? p = false := by
  have h2 := h.block p.block (World.block_lt_of_cell? a p hc) hp
  unfold World.frozen? at hf ⊢
  rw [h2]
  exact hf
theorem t3_keep {S : List Nat} {a b : World} {p : Nat} {v1 v3 v4 : Value} (hc : Chg S a b) (hS : p ∉ S) (h : a.cell? ⟨p, 1, none⟩ = some v1 ∧ a.cell? ⟨p, 3, none⟩ = some v3 ∧ a.cell? ⟨p, 4, none⟩ = some v4) : b.cell? ⟨p, 1, none⟩ = some v1 ∧ b.cell? ⟨p, 3, none⟩ = some v3 ∧ b.cell? ⟨p, 4, none⟩ = some v4 :=
  ⟨hc.cell h.1 hS, hc.cell h.2.1 hS, hc.cell h.2.2 hS⟩
theorem putLast_snoc (x : ItD) : putLast x (init ++ [k]) = init ++ [⟨k.name, k.items ++ [x], k.l, k.c⟩] := by
  unfold putLast
  simp
end
end Go.AB
namespace Go.Proofs.YtmahcabidggmeaaGreatDoor
open Go.RowKit Go.AB
set_option linter.unusedSimpArgs false
set_option linter.unusedVariables false
set_option linter.unusedSectionVars false

section
variable {w0 w : World} {b : Nat} {t : Tok} {ts r : List Tok} {ds : List DcD} {q : RQ} {m : Nat} {X : List It}
theorem RS.mono {m' : Nat} (h : RS w0 w b ts ds q m X) (hm : m ≤ m') (hs : m' ≤ 2097152) : RS w0 w b ts ds q m' X :=
  ⟨h.hp, h.tok, h.e7, by have := h.ld; omega, by have := h.lb; omega, fun x hx => by have := h.li x hx; omega, hs, h.tx⟩
/-- What labels answers. -/
def LabP (w0 : World) (b : Nat) (ds : List DcD) (m : Nat) (X : List It) (x : Except Flt (List Tok × List BkD × Bool)) (e : Ending) (w' : World) : Prop :=
  OutP (badP w0) x (fun p e w' => e = .returned (.bool p.2.2) ∧ ∃ q' : RQ, q'.bks = p.2.1 ∧ RS w0 w' b p.1 ds q' m X) e w'
theorem LabP.bad {x : Except Flt (List Tok × List BkD × Bool)} {f : Flt} {e : Ending} {w' : World} (hx : x = .error f) (h : badP w0 f e w') : LabP w0 b ds m X x e w' := by subst hx; exact h
theorem LabP.good {x : Except Flt (List Tok × List BkD × Bool)} {bs : List BkD} {any : Bool} {w' : World} (hx : x = .ok (ts, bs, any)) (hb : q.bks = bs) (h : RS w0 w' b ts ds q m X) : LabP w0 b ds m X x (.returned (.bool any)) w' := by subst hx; exact ⟨rfl, q, hb, h⟩
theorem RS.cons (h : RS w0 w b ts ds q m X) : ∃ t r, ts = t :: r := by
  cases ts with
  | nil => exact absurd rfl h.e7.ne
  | cons t r => exact ⟨t, r, rfl⟩
theorem RS.snoc (q : RQ) (h : q.bks ≠ []) : ∃ init x, q.bs = init ++ [x] := by
  have h2 : q.bs ≠ [] := fun e => h (by unfold RQ.bks; rw [e]; rfl)
  exact ⟨q.bs.dropLast, q.bs.getLast h2, (List.dropLast_concat_getLast h2).symm⟩

/-- An Item joins the last block, as the walk has it. -/
theorem item_more {w4 w41 w5 : World} {q4 : RQ} {m4 g L nn cap5 : Nat} {init : List BlO} {xb : BkD} {xa ao5 : Option Addr} {xc : Nat} {xr r5 : Option Nat} {I : List Value} {it : ItD} (h4 : RS w0 w4 b ts ds q4 m4 X) (hq : q4.bs = init ++ [⟨xb, xa, xc, xr⟩]) (hg : q4.r1 = some g) (hm : m4 < m) (hm0 : m ≤ 2097152)
    (hL : xb.items.length = L) (hI : xb.items.flatMap itC = I) (hnn : init.length = nn) (hc1 : Chg [] w4 w41) (hr5 : Row w5 53 10 (.slice ao5 (L + 1) cap5) r5 (L + 1) (I ++ itC it)) (hg5 : Grew w41 w5 xr r5) :
    ∃ q'' : RQ, RS w0 (w5.setCell ⟨g, nn * 4 + 1, none⟩ (.slice ao5 (L + 1) cap5)) b ts ds q'' m X ∧ q''.bks = putLast it q4.bks := by
  subst hL
  subst hI
  subst hnn
  have h6 := h4.item (init := init) (x := ⟨xb, xa, xc, xr⟩) (it := it) hq hg hc1 hr5 hg5 (by omega)
  refine ⟨_, h6.mono (by omega) hm0, ?_⟩
  unfold RQ.bks
  rw [hq]
  simp only [List.map_append, List.map_cons, List.map_nil]
  rw [putLast_snoc]

set_option maxHeartbeats 16000000 in
set_option maxRecDepth 100000 in
theorem labels_calls (h : RS w0 w b ts ds q m X) (hv : VarsP w0) : Calls Tryz.prog 40 #[.pointer (some ⟨b, 0, none⟩)] w (LabP w0 b ds m X (labelsD ts q.bks false)) := by
  obtain ⟨G, hG⟩ : ∃ G, labelsD ts q.bks false = G := ⟨_, rfl⟩
  rw [hG]
  have HV := hid hv
  have H0 := hid (And.intro h hG)
  obtain ⟨n0, hn0⟩ : ∃ n0, ts.length = n0 := ⟨_, rfl⟩
  have HN0 := hid hn0
  clear h hG hn0
  go_enter Tryz.func40, Tryz.ntmps40
  go_wp2
  go_loopg [3] n0 (fun gk va wr => ∃ (ts' : List Tok) (q' : RQ) (any : Bool), va = .bool any ∧ Hid (gk = ts'.length) ∧ Hid (RS w0 wr b ts' ds q' m X ∧ labelsD ts' q'.bks any = G))
  case atStart => exact ⟨ts, q, false, rfl, hid HN0.out.symm, hid H0.out⟩
  case round =>
    obtain ⟨ts', q', any, rfl, HG, HR⟩ := hrel
    obtain ⟨t, r, rfl⟩ := HR.out.1.cons
    have HF := hid (free_calls HR.out.1 HV.out)
    have HS := hid fun W (hc : Chg [] wr W) => HR.out.1.same hc
    cases hf : freeB t with
    | false =>
      rw [hf] at HF
      have HQ := hid ((labels_no hf).symm.trans HR.out.2)
      clear hf
      go_wp2_with (go_at_call 70; refine HF.out.mono ?_; rintro e w1 ⟨rfl, hc⟩)
      go_ret
      exact LabP.good HQ.out.symm rfl (HS.out _ hc)
    | true =>
      rw [hf] at HF
      have HK := hid (free_kind hf)
      obtain ⟨c, r, rfl⟩ := HR.out.1.e7.two HK.out.2
      obtain ⟨N, hN⟩ : ∃ N, (t :: c :: r).length = N := ⟨_, rfl⟩
      have hN2 : 2 ≤ N := by rw [← hN]; simp
      have hN3 : (1 : Int) < (N : Int) := by omega
      have HT0 : Hid (∀ W, Chg [] wr W → W.cell? ⟨b, 0, none⟩ = some (.slice (some ⟨q'.tb, q'.off, none⟩) N q'.tc) ∧ W.cell? ⟨q'.tb, q'.off + 5, none⟩ = some (.int .i64 c.kind)) := hid (fun W hc => by
        have h1 := HS.out W hc
        have c0 := h1.c0
        rw [hN] at c0
        have g := h1.tk (i := 1) (x := c) rfl (j := 0) (by omega)
        simp only [Nat.one_mul, Nat.add_zero] at g
        exact ⟨c0, g⟩)
      by_cases h4 : c.kind = 4
      · have e4 : ((c.kind : Int) == 4) = true := by simp; omega
        have HC4 := hid h4
        have HFR := hid hf
        clear hf h4
        by_cases hb : q'.bks = []
        · have HQ := hid ((labels_stray HFR.out HC4.out hb).symm.trans HR.out.2)
          have hqb : q'.bs = [] := List.map_eq_nil_iff.1 hb
          have HB0 := hid hqb
          clear hb hqb hN
          go_wp2_with (first
            | (go_at_call 70; refine HF.out.mono ?_; rintro e w1 ⟨rfl, hc⟩; have hc0 := (HT0.out _ hc).1; have hc5 := (HT0.out _ hc).2)
            | (go_at_call 71; refine (block_none (HS.out _ hc) HB0.out).mono ?_; rintro e w2 ⟨rfl, hc2⟩))
          exact ⟨rfl, LabP.bad HQ.out.symm ⟨rfl, hc2⟩⟩
        · obtain ⟨init, x, hq⟩ := RS.snoc q' hb
          obtain ⟨g, hg, ha, hp0, hpf, hrow, hgb, hxr⟩ := HR.out.1.last hq
          have HBL := hid fun W (hc : Chg [] wr W) => block_some (HS.out W hc) hq hg
          by_cases hl : 24 < t.text.length
          · have HQ := hid ((labels_long HFR.out HC4.out hb hl).symm.trans HR.out.2)
            have hnm := nameT_cons t (c :: r)
            rw [if_neg (by simp [HFR.out]), if_pos hl] at hnm
            have HNM := hid fun W (hc : Chg [] wr W) => name_tok (HS.out W hc) HV.out
            rw [hnm] at HNM
            clear hb hq hg ha hp0 hpf hrow hgb hxr hl hnm hN
            go_wp2_with (first
              | (go_at_call 70; refine HF.out.mono ?_; rintro e w1 ⟨rfl, hc⟩; have hc0 := (HT0.out _ hc).1; have hc5 := (HT0.out _ hc).2)
              | (go_at_call 71; refine (HBL.out _ hc).mono ?_; rintro e w2 ⟨rfl, hc2⟩)
              | (go_at_call 47; refine (HNM.out _ (hc.trans' hc2)).mono ?_; rintro e w3 ⟨rfl, hc3⟩))
            exact ⟨rfl, LabP.bad HQ.out.symm ⟨rfl, hc3⟩⟩
          · have HQ := hid ((labels_more HFR.out HC4.out hb hl).symm.trans HR.out.2)
            have hnm := nameT_cons t (c :: r)
            rw [if_neg (by simp [HFR.out]), if_neg hl] at hnm
            have HNM := hid fun W (hc : Chg [] wr W) => name_tok (HS.out W hc) HV.out
            rw [hnm] at HNM
            have HX := hid (And.intro hq (And.intro hg (And.intro hb ha)))
            clear hb hq hg ha hp0 hpf hrow hgb hxr hl hnm hN
            go_wp2_with (first
              | (go_at_call 70; refine HF.out.mono ?_; rintro e w1 ⟨rfl, hc⟩; have hc0 := (HT0.out _ hc).1; have hc5 := (HT0.out _ hc).2)
              | (go_at_call 71; refine (HBL.out _ hc).mono ?_; rintro e w2 ⟨rfl, hc2⟩)
              | (go_at_call 47; refine (HNM.out _ (hc.trans' hc2)).mono ?_; rintro e w3 ⟨rfl, h3, hm3, _⟩)
              | (go_at_call 22; refine (take_ok (h3.box _) 4 (by have := HC4.out; omega) (by have := HC4.out; omega)).mono ?_; rintro e w4 ⟨rfl, h4, hm4⟩; refine halt (fun XX hXX => ?_)))
            obtain ⟨hq, hg, hb, ha⟩ := HX.out
            obtain ⟨g', hg', _, hp0, hpf, hrow, hgb, hxr⟩ := h4.last hq
            obtain rfl : g = g' := by
              have h5 : q'.r1 = some g' := hg'
              rw [hg] at h5
              exact Option.some.inj h5
            have bx := h4.getX (j := 0) rfl
            have hpx := h4.neX (j := 0) rfl (g := w3.heap.size) rfl
            have hgx : g ≠ w3.heap.size := by
              intro e
              exact h4.hp.ne (i := 2) (j := (rsI b r.length ds q'.next.next).length + 0) (x := rsBlocks q'.next.next) (y := .box w3.heap.size _) rfl (by rw [List.getElem?_append_right (by omega), Nat.add_sub_cancel_left]; rfl) (by unfold rsI; simp only [List.length_cons]; omega) (g := g) hg (by rw [e]; rfl)
            have u1 : w4.cell? ⟨w3.heap.size, 1, none⟩ = some (.string (bA t.text)) := blk_cell bx 1
            have u3 : w4.cell? ⟨w3.heap.size, 3, none⟩ = some (.int .i64 t.line) := blk_cell bx 3
            have u4 : w4.cell? ⟨w3.heap.size, 4, none⟩ = some (.int .i64 t.col) := blk_cell bx 4
            have hitl := h4.li x (by show x ∈ q'.bs; rw [hq]; simp)
            have hsm := h4.sm
            obtain ⟨xb, xa, xc, xr⟩ := x
            simp only [BlO.v] at hp0 hrow hxr hitl
            obtain ⟨L, hL⟩ : ∃ L, xb.items.length = L := ⟨_, rfl⟩
            obtain ⟨I, hI⟩ : ∃ I, xb.items.flatMap itC = I := ⟨_, rfl⟩
            obtain ⟨nn, hnn⟩ : ∃ nn, init.length = nn := ⟨_, rfl⟩
            rw [hL, hI] at hrow
            rw [hL] at hp0 hitl
            rw [hnn] at hp0 hpf hXX
            have hitl2 : L ≤ 2097152 := by omega
            have hglt := World.block_lt_of_cell? _ _ hp0
            simp only at hglt
            have p0d : ∀ o, (w4.drew.alloc o).cell? ⟨g, nn * 4 + 1, none⟩ = some (.slice xa L xc) := fun o => (((Chg.refl [] w4).drew).alloc o).cell hp0 (by simp)
            have HRX : Hid (w3.heap.size ∉ xr.toList) := hid (fun hm => by
              have hix : (rsI b r.length ds q'.next.next ++ .box w3.heap.size (.cells #[.int .i64 t.kind, .string (bA t.text), .int .i64 t.num, .int .i64 t.line, .int .i64 t.col] 63 (0, 0)) :: X)[3 + init.length]? = some (itRow ⟨xb, xa, xc, xr⟩) := by
                unfold rsI
                rw [show q'.next.next.bs = init ++ [⟨xb, xa, xc, xr⟩] from hq, show 3 + init.length = (((init.length + 1) + 1) + 1) from by omega]
                simp
              exact h4.hp.ne (i := 3 + init.length) (j := (rsI b r.length ds q'.next.next).length + 0) hix (by rw [List.getElem?_append_right (by omega), Nat.add_sub_cancel_left]; rfl) (by unfold rsI; rw [show q'.next.next.bs = init ++ [⟨xb, xa, xc, xr⟩] from hq]; simp; omega) (g := w3.heap.size) (by simpa [itRow, It.blk] using hm) rfl)
            have HH := hid (And.intro h4 (And.intro hrow (And.intro hL (And.intro hI hnn))))
            have HXR := hid hxr
            have hm0 := HR.out.1.sm
            have HM := hid (And.intro hm3 hm0)
            have HZF : Hid (∀ W, (∃ q'' : RQ, RS w0 W b r ds q'' m (.box w3.heap.size (.cells #[.int .i64 t.kind, .string (bA t.text), .int .i64 t.num, .int .i64 t.line, .int .i64 t.col] 63 (0, 0)) :: X) ∧ q''.bks = putLast (labelI t) q'.bks) → ∃ q'' : RQ, RS w0 W b r ds q'' m X ∧ labelsD r q''.bks true = G) := hid (by
              rintro W ⟨q'', h6, h7⟩
              exact ⟨q'', h6.subX (.cons _ (.refl _)), by rw [h7]; exact HQ.out⟩)
            clear h4 hrow hL hI hnn hxr hq hg hb ha hg' bx hitl hm3 hm4 hm0
            rw [hXX.out]
            clear hXX XX
            clear HF HK HS HBL HNM HT0 HC4 HFR HQ hN2 hN3 HR HN0 H0 HV hgb hpx
            go_upto_region 6 with fail
            go_cut [38] from 6 to 39 (fun _ wx => Hid (∃ q'' : RQ, RS w0 wx b r ds q'' m X ∧ labelsD r q''.bks true = G))
            case first =>
              (refine wp_region_held_drew (S := (fun w' => w'.cell? ⟨w3.heap.size, 1, none⟩ = some (.string (bA t.text)) ∧ w'.cell? ⟨w3.heap.size, 3, none⟩ = some (.int .i64 t.line) ∧ w'.cell? ⟨w3.heap.size, 4, none⟩ = some (.int .i64 t.col))) (by kernel_rfl) (by exact ⟨u1, u3, u4⟩) (fun hHeld => ?_); (refine wpAnyH_take (i := 0) (v := ?_) rfl (by kernel_rfl) (by kernel_rfl) (by kernel_rfl) (fun _ _ _ h => h) (Or.inl ⟨by rfl, ?_⟩) (by assumption) ?_; rotate_left 1; (focus (intro w hSw; (try dsimp only at hSw); go_simp; (try with_reducible rfl))); (try simp only [List.getElem_toArray, List.getElem_cons_zero, List.getElem_cons_succ, Act.put, List.setIfInBounds_toArray, List.set_cons_zero, List.set_cons_succ])); (refine wpAnyH_take (i := 1) (v := ?_) rfl (by kernel_rfl) (by kernel_rfl) (by kernel_rfl) (fun _ _ _ h => h) (Or.inl ⟨by rfl, ?_⟩) (by assumption) ?_; rotate_left 1; (focus (intro w hSw; (try dsimp only at hSw); go_simp; (try with_reducible rfl))); (try simp only [List.getElem_toArray, List.getElem_cons_zero, List.getElem_cons_succ, Act.put, List.setIfInBounds_toArray, List.set_cons_zero, List.set_cons_succ])); (refine wpAnyH_take (i := 2) (v := ?_) rfl (by kernel_rfl) (by kernel_rfl) (by kernel_rfl) (fun _ _ _ h => h) (Or.inl ⟨by rfl, ?_⟩) (by assumption) ?_; rotate_left 1; (focus (intro w hSw; (try dsimp only at hSw); go_simp; (try with_reducible rfl))); (try simp only [List.getElem_toArray, List.getElem_cons_zero, List.getElem_cons_succ, Act.put, List.setIfInBounds_toArray, List.set_cons_zero, List.set_cons_succ])); (refine wpAnyH_take (i := 3) (v := ?_) rfl (by kernel_rfl) (by kernel_rfl) (by kernel_rfl) (fun _ _ _ h => h) (Or.inl ⟨by rfl, ?_⟩) (by assumption) ?_; rotate_left 1; (focus (intro w hSw; (try dsimp only at hSw); go_simp; (try with_reducible rfl))); (try simp only [List.getElem_toArray, List.getElem_cons_zero, List.getElem_cons_succ, Act.put, List.setIfInBounds_toArray, List.set_cons_zero, List.set_cons_succ])); (refine wpAnyH_take (i := 5) (v := ?_) rfl (by kernel_rfl) (by kernel_rfl) (by kernel_rfl) (fun _ _ _ h => h) (Or.inl ⟨by rfl, ?_⟩) (by assumption) ?_; rotate_left 1; (focus (intro w hSw; (try dsimp only at hSw); go_simp; (try with_reducible rfl))); (try simp only [List.getElem_toArray, List.getElem_cons_zero, List.getElem_cons_succ, Act.put, List.setIfInBounds_toArray, List.set_cons_zero, List.set_cons_succ])); (refine wpAnyH_take (i := 6) (v := ?_) rfl (by kernel_rfl) (by kernel_rfl) (by kernel_rfl) (fun _ _ _ h => h) (Or.inl ⟨by rfl, ?_⟩) (by assumption) ?_; rotate_left 1; (focus (intro w hSw; (try dsimp only at hSw); go_simp; (try with_reducible rfl))); (try simp only [List.getElem_toArray, List.getElem_cons_zero, List.getElem_cons_succ, Act.put, List.setIfInBounds_toArray, List.set_cons_zero, List.set_cons_succ])); (refine wpAnyH_take (i := 7) (v := ?_) rfl (by kernel_rfl) (by kernel_rfl) (by kernel_rfl) (fun _ _ _ h => h) (Or.inl ⟨by rfl, ?_⟩) (by assumption) ?_; rotate_left 1; (focus (intro w hSw; (try dsimp only at hSw); go_simp; (try with_reducible rfl))); (try simp only [List.getElem_toArray, List.getElem_cons_zero, List.getElem_cons_succ, Act.put, List.setIfInBounds_toArray, List.set_cons_zero, List.set_cons_succ])); (refine wpAnyH_take (i := 8) (v := ?_) rfl (by kernel_rfl) (by kernel_rfl) (by kernel_rfl) (fun _ _ _ h => h) (Or.inl ⟨by rfl, ?_⟩) (by assumption) ?_; rotate_left 1; (focus (intro w hSw; (try dsimp only at hSw); go_simp; (try with_reducible rfl))); (try simp only [List.getElem_toArray, List.getElem_cons_zero, List.getElem_cons_succ, Act.put, List.setIfInBounds_toArray, List.set_cons_zero, List.set_cons_succ])); (refine wpAnyH_take (i := 9) (v := ?_) rfl (by kernel_rfl) (by kernel_rfl) (by kernel_rfl) (fun _ _ _ h => h) (Or.inl ⟨by rfl, ?_⟩) (by assumption) ?_; rotate_left 1; (focus (intro w hSw; (try dsimp only at hSw); go_simp; (try with_reducible rfl))); (try simp only [List.getElem_toArray, List.getElem_cons_zero, List.getElem_cons_succ, Act.put, List.setIfInBounds_toArray, List.set_cons_zero, List.set_cons_succ])); (refine wpAnyH_take (i := 10) (v := ?_) rfl (by kernel_rfl) (by kernel_rfl) (by kernel_rfl) (fun _ _ _ h => h) (Or.inl ⟨by rfl, ?_⟩) (by assumption) ?_; rotate_left 1; (focus (intro w hSw; (try dsimp only at hSw); go_simp; (try with_reducible rfl))); (try simp only [List.getElem_toArray, List.getElem_cons_zero, List.getElem_cons_succ, Act.put, List.setIfInBounds_toArray, List.set_cons_zero, List.set_cons_succ])); (refine wpAnyH_take (i := 11) (v := ?_) rfl (by kernel_rfl) (by kernel_rfl) (by kernel_rfl) (fun _ _ _ h => h) (Or.inl ⟨by rfl, ?_⟩) (by assumption) ?_; rotate_left 1; (focus (intro w hSw; (try dsimp only at hSw); go_simp; (try with_reducible rfl))); (try simp only [List.getElem_toArray, List.getElem_cons_zero, List.getElem_cons_succ, Act.put, List.setIfInBounds_toArray, List.set_cons_zero, List.set_cons_succ])); (refine wpAnyH_ready (rs := [4, 12]) (by kernel_rfl) (by simp) ?_; refine AllReadyH.cons rfl (fun K hK => ?_) (AllReadyH.cons rfl (fun K hK => ?_) AllReadyH.nil)); (focus (go_simp; (refine hK.out _ _ (by exact hHeld) (fun hHeld => ?_); clear hK K; (try simp only [List.getElem_toArray, List.getElem_cons_zero, List.getElem_cons_succ, Act.put, List.setIfInBounds_toArray, List.set_cons_zero, List.set_cons_succ])); (refine wpAnyH_ready (rs := [12]) (by kernel_rfl) (by simp) ?_; refine AllReadyH.cons rfl (fun K hK => ?_) AllReadyH.nil; go_simp; (refine hK.out _ _ (by exact (t3_keep ((Chg.refl [] _).alloc _) (by simp) hHeld)) (fun hHeld => ?_); clear hK K; (try simp only [List.getElem_toArray, List.getElem_cons_zero, List.getElem_cons_succ, Act.put, List.setIfInBounds_toArray, List.set_cons_zero, List.set_cons_succ]))))); rotate_left 1; (focus (go_simp; (refine hK.out _ _ (by exact (t3_keep ((Chg.refl [] _).alloc _) (by simp) hHeld)) (fun hHeld => ?_); clear hK K; (try simp only [List.getElem_toArray, List.getElem_cons_zero, List.getElem_cons_succ, Act.put, List.setIfInBounds_toArray, List.set_cons_zero, List.set_cons_succ])); (refine wpAnyH_ready (rs := [4]) (by kernel_rfl) (by simp) ?_; refine AllReadyH.cons rfl (fun K hK => ?_) AllReadyH.nil; go_simp; (refine hK.out _ _ (by exact hHeld) (fun hHeld => ?_); clear hK K; (try simp only [List.getElem_toArray, List.getElem_cons_zero, List.getElem_cons_succ, Act.put, List.setIfInBounds_toArray, List.set_cons_zero, List.set_cons_succ]))))); (all_goals ((refine wpAnyH_ready (rs := [13]) (by kernel_rfl) (by simp) ?_; refine AllReadyH.cons rfl (fun K hK => ?_) AllReadyH.nil; refine step_grew rfl _ _ 48 rfl elem_itm rfl (HH.out.2.1.keep (((Chg.refl [] w4).drew).alloc _) (by simp)) rfl (View.structAt w4.drew [.int .i64 0, .int .i64 0, .int .i64 0, .int .i64 0, .int .i64 0, .string (bA t.text), .int .i64 t.line, .int .i64 t.col, .int .i64 t.line, .int .i64 t.col] 53 rfl rfl) (by simp [Value.oneCell']) (by unfold maxLen; omega) (by omega) (fun ao5 cap5 r5 w5 hr5 hg5 => ?_); (refine hK.out _ _ (by exact (t3_keep hg5.chg HRX.out hHeld)) (fun hHeld => ?_); clear hK K; (try simp only [List.getElem_toArray, List.getElem_cons_zero, List.getElem_cons_succ, Act.put, List.setIfInBounds_toArray, List.set_cons_zero, List.set_cons_succ]))); (refine wpAnyH_take (i := 14) (v := ?_) rfl (by kernel_rfl) (by kernel_rfl) (by kernel_rfl) (fun _ _ _ h => h) (Or.inl ⟨by rfl, ?_⟩) (by assumption) ?_; rotate_left 1; (focus (intro w hSw; (try dsimp only at hSw); go_simp; (try with_reducible rfl))); (try simp only [List.getElem_toArray, List.getElem_cons_zero, List.getElem_cons_succ, Act.put, List.setIfInBounds_toArray, List.set_cons_zero, List.set_cons_succ])); (refine wpAnyH_take (i := 15) (v := ?_) rfl (by kernel_rfl) (by kernel_rfl) (by kernel_rfl) (fun _ _ _ h => h) (Or.inl ⟨by rfl, ?_⟩) (by assumption) ?_; rotate_left 1; (focus (intro w hSw; (try dsimp only at hSw); go_simp; (try with_reducible rfl))); (try simp only [List.getElem_toArray, List.getElem_cons_zero, List.getElem_cons_succ, Act.put, List.setIfInBounds_toArray, List.set_cons_zero, List.set_cons_succ])); (refine wpAnyH_ready (rs := [16]) (by kernel_rfl) (by simp) ?_; refine AllReadyH.cons rfl (fun K hK => ?_) AllReadyH.nil; go_simp; (have p5 : w5.cell? ⟨g, nn * 4 + 1, none⟩ = some (.slice xa L xc) := hg5.chg.cell (p0d _) (fun hm => HXR.out (by simpa using hm)); have f5 : w5.frozen? ⟨g, nn * 4 + 1, none⟩ = false := hg5.chg.free (p0d _) ((((Chg.refl [] w4).drew).alloc _).free hp0 hpf (by simp)) (fun hm => HXR.out (by simpa using hm)); go_simp); (refine hK.out _ _ (by exact (t3_keep ((Chg.refl [g] w5).setCell (p := ⟨g, nn * 4 + 1, none⟩) (.inl (by simp)) _) (by simp; omega) hHeld)) (fun hHeld => ?_); clear hK K; (try simp only [List.getElem_toArray, List.getElem_cons_zero, List.getElem_cons_succ, Act.put, List.setIfInBounds_toArray, List.set_cons_zero, List.set_cons_succ]))); refine wpAnyH_done (by kernel_rfl) ?_ _)))
              all_goals
                go_wp2_with fail
                go_meet
                have hz := item_more HH.out.1 HX.out.1 HX.out.2.1 (m := m) (by have := HM.out; omega) HM.out.2 HH.out.2.2.1 HH.out.2.2.2.1 HH.out.2.2.2.2 (((Chg.refl [] w4).drew).alloc _) (it := labelI t) hr5 hg5
                exact hid (HZF.out _ hz)
            case rest =>
            have HGN := HG.out
            go_wp2_with fail
            go_roundg (gk - 2)
            case measure => simp only [List.length_cons] at HGN; omega
            case rel =>
              obtain ⟨q'', h7, h8⟩ := hcut.out
              exact ⟨r, q'', true, rfl, hid (by simp only [List.length_cons] at HGN; omega), hid ⟨h7, h8⟩⟩
      · have e4 : ((c.kind : Int) == 4) = false := by simp; omega
        have HQ := hid ((labels_end h4).symm.trans HR.out.2)
        clear hf h4 hN
        go_wp2_with (go_at_call 70; refine HF.out.mono ?_; rintro e w1 ⟨rfl, hc⟩; have hc0 := (HT0.out _ hc).1; have hc5 := (HT0.out _ hc).2)
        go_ret
        exact LabP.good HQ.out.symm rfl (HS.out _ hc)
end
end Go.Proofs.YtmahcabidggmeaaGreatDoor
