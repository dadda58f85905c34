/- The reference's reader: instruction. (Printed by gen_yinstr.py.) -/
import Derived.Test.YtmahcabidggmeaaGreatDoorPk8
set_option linter.unusedVariables false
set_option linter.unusedSectionVars false
set_option linter.unusedSimpArgs false
namespace Go.AB
open Go.RowKit
def OI (f : Flt) (GO : Except Flt (List Tok × ItD)) (cs : List UInt8) (first : Bool) (rg : Nat) (ts : List Tok) (x : ItD) : Prop := (f.code = 0 ∧ opersD cs first rg ts x = GO) ∨ (f.code ≠ 0 ∧ GO = .error f)
def operThen (c : UInt8) (cs : List UInt8) (rg : Nat) (ts : List Tok) (x : ItD) : Except Flt (List Tok × ItD) := match operD c rg ts x with
  | .error e => .error e
  | .ok (ts, k, x) => opersD cs false k ts x
def OI2 (f : Flt) (GO : Except Flt (List Tok × ItD)) (c : UInt8) (cs : List UInt8) (rg : Nat) (ts : List Tok) (x : ItD) : Prop := (f.code = 0 ∧ operThen c cs rg ts x = GO) ∨ (f.code ≠ 0 ∧ GO = .error f)
section
variable {f f1 f2 : Flt} {GO : Except Flt (List Tok × ItD)} {c : UInt8} {cs : List UInt8} {rg : Nat} {ts ts1 ts2 : List Tok} {x : ItD} {n : Int} {t1 : Tok} {r : List Tok}
theorem oi_first (h : OI f GO (c :: cs) true rg ts x) : OI2 f GO c cs rg ts x := by
  rcases h with ⟨h0, h1⟩ | h
  · refine .inl ⟨h0, ?_⟩
    rw [← h1, opers_cons, comma_first]
    rfl
  · exact .inr h
theorem oi_comma {A : Tok × List Tok → Prop} (h : OI f GO (c :: cs) false rg ts x) (hs : Stp f (takeK 3 ts) f1 (fun p => ts1 = p.2 ∧ A p)) : OI2 f1 GO c cs rg ts1 x := by
  rcases h with ⟨h0, h1⟩ | ⟨h0, h1⟩
  · rcases hs with ⟨h2, _⟩ | ⟨_, h2⟩ | ⟨_, rfl, ⟨t, r⟩, h2, h3, _⟩
    · exact absurd h0 h2
    · have h4 : commaD false ts = .error f1 := by unfold commaD; rw [if_neg (by simp), h2]; rfl
      refine .inr ⟨takeK_err 3 ts f1 h2, ?_⟩
      rw [← h1, opers_bad h4]
    · have h4 : commaD false ts = .ok ts1 := by unfold commaD; rw [if_neg (by simp), h2, h3]; rfl
      refine .inl ⟨h0, ?_⟩
      rw [← h1, opers_cons, h4]
      rfl
  · rcases hs with ⟨_, rfl⟩ | ⟨h2, _⟩ | ⟨h2, _⟩
    · exact .inr ⟨h0, h1⟩
    · exact absurd h2 h0
    · exact absurd h2 h0
theorem oi_r {A : Int × List Tok → Prop} (h : OI2 f1 GO 114 cs rg ts x) (hs : Stp f1 (regT ts) f2 (fun p => ts2 = p.2 ∧ A p ∧ n = p.1)) : OI f2 GO cs false (rg + 1) ts2 (setReg x rg n) := by
  rcases h with ⟨h0, h1⟩ | ⟨h0, h1⟩
  · unfold operThen at h1
    cases ts with
    | nil =>
      rcases hs with ⟨h2, _⟩ | ⟨_, h2⟩ | ⟨_, rfl, ⟨t, r⟩, h2, h3, _⟩
      · exact absurd h0 h2
      · have h3 : noTok = f2 := by unfold regT at h2; cases h2; rfl
        subst h3
        exact .inr ⟨by decide, h1.symm⟩
      · unfold regT at h2; cases h2
    | cons t r =>
      rw [oper_r] at h1
      have hrt : regT (t :: r) = if t.kind = 1 ∧ 0 ≤ regL t.text then .ok (regL t.text, r) else .error (fltAt 82 t) := rfl
      rw [hrt] at hs
      by_cases hk : t.kind = 1 ∧ 0 ≤ regL t.text
      · rw [if_pos hk] at h1 hs
        rcases hs with ⟨h2, _⟩ | ⟨_, h2⟩ | ⟨_, rfl, ⟨nn, rr⟩, h2, h3, _, h4⟩
        · exact absurd h0 h2
        · cases h2
        · cases h2
          simp only at h3 h4
          subst h3
          subst h4
          exact .inl ⟨h0, h1⟩
      · rw [if_neg hk] at h1 hs
        rcases hs with ⟨h2, _⟩ | ⟨_, h2⟩ | ⟨_, rfl, ⟨nn, rr⟩, h2, _⟩
        · exact absurd h0 h2
        · cases h2
          exact .inr ⟨by show (82 : Int) ≠ 0; decide, h1.symm⟩
        · cases h2
  · rcases hs with ⟨_, rfl⟩ | ⟨h2, _⟩ | ⟨h2, _⟩
    · exact .inr ⟨h0, h1⟩
    · exact absurd h2 h0
    · exact absurd h2 h0
theorem oi_n {A : Tok × List Tok → Prop} (h : OI2 f1 GO 110 cs rg (t1 :: r) x) (hs : Stp f1 (takeK 2 (t1 :: r)) f2 (fun p => ts2 = p.2 ∧ A p ∧ n = p.1.num)) : OI f2 GO cs false rg ts2 ⟨x.op, x.a, x.b, x.c, n, x.name, x.p1, x.p2, t1.line, t1.col⟩ := by
  rcases h with ⟨h0, h1⟩ | ⟨h0, h1⟩
  · unfold operThen at h1
    rw [oper_n] at h1
    have hrt : takeK 2 (t1 :: r) = if t1.kind = 2 then .ok (t1, r) else .error (fltAt 82 t1) := rfl
    rw [hrt] at hs
    by_cases hk : t1.kind = 2
    · rw [if_pos hk] at h1 hs
      rcases hs with ⟨h2, _⟩ | ⟨_, h2⟩ | ⟨_, rfl, ⟨nn, rr⟩, h2, h3, _, h4⟩
      · exact absurd h0 h2
      · cases h2
      · cases h2
        simp only at h3 h4
        subst h3
        subst h4
        exact .inl ⟨h0, h1⟩
    · rw [if_neg hk] at h1 hs
      rcases hs with ⟨h2, _⟩ | ⟨_, h2⟩ | ⟨_, rfl, ⟨nn, rr⟩, h2, _⟩
      · exact absurd h0 h2
      · cases h2
        exact .inr ⟨by show (82 : Int) ≠ 0; decide, h1.symm⟩
      · cases h2
  · rcases hs with ⟨_, rfl⟩ | ⟨h2, _⟩ | ⟨h2, _⟩
    · exact .inr ⟨h0, h1⟩
    · exact absurd h2 h0
    · exact absurd h2 h0
theorem oi_x {s : ByteArray} {A B : Tok × List Tok → Prop} (h : OI2 f1 GO 120 cs rg (t1 :: r) x) (hs : Stp f1 (nameT (t1 :: r)) f2 (fun p => ts2 = p.2 ∧ A p ∧ s = bA p.1.text ∧ B p)) : OI f2 GO cs false rg ts2 ⟨x.op, x.a, x.b, x.c, x.n, s, x.p1, x.p2, t1.line, t1.col⟩ := by
  rcases h with ⟨h0, h1⟩ | ⟨h0, h1⟩
  · unfold operThen at h1
    rw [oper_x] at h1
    rcases hs with ⟨h2, _⟩ | ⟨_, h2⟩ | ⟨_, rfl, ⟨nn, rr⟩, h2, h3, _, h4, _⟩
    · exact absurd h0 h2
    · rw [h2] at h1
      exact .inr ⟨nameT_err _ _ h2, h1.symm⟩
    · have hn : nn = t1 := by
        rw [show nameT (t1 :: r) = if freeB t1 = false then .error (fltAt 82 t1) else if 24 < t1.text.length then .error (fltAt 84 t1) else .ok (t1, r) from rfl] at h2
        split at h2
        · cases h2
        · split at h2
          · cases h2
          · cases h2; rfl
      rw [h2] at h1
      simp only at h3 h4
      subst h3
      subst h4
      subst hn
      exact .inl ⟨h0, h1⟩
  · rcases hs with ⟨_, rfl⟩ | ⟨h2, _⟩ | ⟨h2, _⟩
    · exact .inr ⟨h0, h1⟩
    · exact absurd h2 h0
    · exact absurd h2 h0
theorem regT_err (ts : List Tok) (g : Flt) (h : regT ts = .error g) : g.code ≠ 0 := by
  unfold regT at h
  split at h
  · cases h; decide
  · split at h
    · cases h
    · cases h; show (82 : Int) ≠ 0; decide
theorem wrap64N {c : Nat} (h : c ≤ 2147483647) : wrap64 (c : Int) = (c : Int) := IntWalk.wrap64_in _ (by omega)
theorem sr_0 (n : Int) : setReg x 0 n = ⟨x.op, n, x.b, x.c, x.n, x.name, x.p1, x.p2, x.q1, x.q2⟩ := rfl
theorem sr_1 (n : Int) : setReg x 1 n = ⟨x.op, x.a, n, x.c, x.n, x.name, x.p1, x.p2, x.q1, x.q2⟩ := rfl
theorem sr_2 (h : 2 ≤ rg) (n : Int) : setReg x rg n = ⟨x.op, x.a, x.b, n, x.n, x.name, x.p1, x.p2, x.q1, x.q2⟩ := by
  unfold setReg
  rw [if_neg (by omega), if_neg (by omega)]
end
end Go.AB
namespace Go.Proofs.YtmahcabidggmeaaGreatDoor
open Go.RowKit Go.AB
set_option linter.unusedSimpArgs false
set_option linter.unusedVariables false
set_option linter.unusedSectionVars false
def xB (P : Nat) (x : ItD) : It := .box P (.cells #[.int .i64 x.op, .int .i64 x.a, .int .i64 x.b, .int .i64 x.c, .int .i64 x.n, .string x.name, .int .i64 x.p1, .int .i64 x.p2, .int .i64 x.q1, .int .i64 x.q2] 53 (0, 0))
section
variable {w0 w w' : World} {b k : Nat} {t : Tok} {all r : List Tok} {ds : List DcD} {q : RQ} {m : Nat} {f : Flt} {X : List It}
def YInsP (w0 : World) (b : Nat) (all : List Tok) (ds : List DcD) (m : Nat) (f : Flt) (X : List It) (G : Except Flt (List Tok × List BkD)) (e : Ending) (w' : World) : Prop :=
  ∃ (k' : Nat) (q' : RQ) (m' : Nat) (f' : Flt), e = .returned (.tuple #[]) ∧ RY w0 w' b all k' ds q' m' f' X ∧ m' ≤ m ∧ (G = .error f' ∨ (f' = f ∧ G = .ok (all.drop k', q'.bks)))
set_option maxHeartbeats 64000000 in
set_option maxRecDepth 100000 in
theorem y_instr_calls (h : RY w0 w b all k ds q m f X) (hi : all[k]? = some t) (hf : f.code = 0) (hv : VarsP w0) (op : Nat) (h1 : 1 ≤ op) (h20 : op ≤ 20) (hk : t.kind = 1) : Calls Tryz.prog 35 #[.pointer (some ⟨b, 0, none⟩), .int .i64 op] w (YInsP w0 b all ds m f X (instrD op (all.drop k) q.bks)) := by
  obtain ⟨G, hG⟩ : ∃ G, instrD op (all.drop k) q.bks = G := ⟨_, rfl⟩
  rw [hG]
  have hd := drop_cons hi
  rw [hd, instrD_cons] at hG
  have HV := hid hv
  have HF0 := hid hf
  have c3 := h.c3
  have hbsl : q.bs.length ≤ 2097152 := by have := h.lb; have := h.sm; omega
  by_cases hb : q.bks = []
  · rw [if_pos hb] at hG
    have hqb : q.bs = [] := List.map_eq_nil_iff.1 hb
    rw [hqb, List.length_nil] at c3
    have HB := hid (y_fails_calls h hi hf 81)
    have HG := hid hG
    clear hG hb hqb h hi hf hv hd
    go_enter Tryz.func35, Tryz.ntmps35
    go_wp2_with (go_at_call 37; refine HB.out.mono ?_; rintro e w4 ⟨rfl, h4⟩)
    go_end0
    exact ⟨k, q, m, _, rfl, h4, Nat.le_refl _, .inl HG.out.symm⟩
  · rw [if_neg hb] at hG
    have hbl : q.bs ≠ [] := fun e => hb (by unfold RQ.bks; rw [e]; rfl)
    have hbp := List.length_pos_iff.2 hbl
    obtain ⟨B, hB⟩ : ∃ B, q.bs.length = B := ⟨_, rfl⟩
    rw [hB] at c3 hbp hbsl
    have hB0 : ((B : Int) == 0) = false := by simp; omega
    have hB1 : (B == 0) = false := by simp; omega
    have hB2 : ¬ B = 0 := by omega
    have c0 := h.c0
    have c1 := h.c1
    obtain ⟨_, _, _, g3, g4⟩ := h.head_at hi
    have hlt := h.lt
    have hsm := h.sm.1
    have hki : (k : Int) < (all.length : Int) := by omega
    obtain ⟨N, hN⟩ : ∃ N, all.length = N := ⟨_, rfl⟩
    rw [hN] at c0 hlt hsm hki
    have HN := hid hN
    have a0 : ∀ o, (w.alloc o).cell? ⟨b, 0, none⟩ = some (.slice (some ⟨q.tb, q.off, none⟩) N q.tc) := fun o => ((Chg.refl [] w).alloc o).cell c0 (by simp)
    have a1 : ∀ o, (w.alloc o).cell? ⟨b, 1, none⟩ = some (.int .i64 k) := fun o => ((Chg.refl [] w).alloc o).cell c1 (by simp)
    have a3 : ∀ o, (w.alloc o).cell? ⟨q.tb, q.off + k * 5 + 3, none⟩ = some (.int .i64 t.line) := fun o => ((Chg.refl [] w).alloc o).cell g3 (by simp)
    have a4 : ∀ o, (w.alloc o).cell? ⟨q.tb, q.off + k * 5 + 4, none⟩ = some (.int .i64 t.col) := fun o => ((Chg.refl [] w).alloc o).cell g4 (by simp)
    have hfm := fun W => r_form_calls (op : Int) (by omega) (by omega) W
    unfold FormP at hfm
    obtain ⟨wd, hwd⟩ : ∃ wd, wordAt (op : Int) = wd := ⟨_, rfl⟩
    obtain ⟨fm, hfmm⟩ : ∃ fm, formAt (op : Int) = fm := ⟨_, rfl⟩
    rw [hwd] at hfm
    simp only [hfmm] at hfm hG
    obtain ⟨s, hs⟩ : ∃ s, bA fm = s := ⟨_, rfl⟩
    rw [hs] at hfm
    have HFM := hid hfm
    have hssz : s.size = fm.length := by rw [← hs]; exact bA_size _
    have hsF : s.size ≤ 3 := by
      rw [hssz, ← hfmm]
      have : ∀ o : Fin 21, (formAt (o.val : Int)).length ≤ 3 := by decide +kernel
      exact this ⟨op, by omega⟩
    have HGET : Hid (∀ i (h : i < s.size) (h2 : i < fm.length), s[i] = fm[i]) := hid (by subst hs; intro i h h2; rfl)
    have HCH : Hid (∀ c ∈ fm, c = 114 ∨ c = 110 ∨ c = 120) := hid (fun c hc => form_char (op := op) (by omega) (by rw [hfmm]; exact hc))
    have HSZ := hid hssz
    obtain ⟨GO, hGO⟩ : ∃ GO, opersD fm true 0 (all.drop (k + 1)) ⟨op, 0, 0, 0, 0, ⟨#[]⟩, t.line, t.col, 0, 0⟩ = GO := ⟨_, rfl⟩
    rw [hGO] at hG
    have HGO := hid hGO
    have HG0 := hid hG
    have hb0 := (h.box (.cells #[.int .i64 op, .int .i64 0, .int .i64 0, .int .i64 0, .int .i64 0, .string ⟨#[]⟩, .int .i64 t.line, .int .i64 t.col, .int .i64 0, .int .i64 0] 53)).same (Chg.refl [] _).drew
    have hm0 := (hb0.next hi (by omega) (z := (k : Int) + 1) rfl).2
    have HM := hid (And.intro hm0 h.sm.2)
    have HI := hid (And.intro hi hk)
    have HBK := hid hb
    clear hG hb hbl hd hi hf hv h hN hfm hwd hfmm hs hssz hGO hB hk
    go_enter Tryz.func35, Tryz.ntmps35
    go_upto_region 2 with fail
    go_region
    obtain ⟨wB, hwB⟩ : ∃ wB, (w.alloc (.cells #[.int .i64 op, .int .i64 0, .int .i64 0, .int .i64 0, .int .i64 0, .string ⟨#[]⟩, .int .i64 t.line, .int .i64 t.col, .int .i64 0, .int .i64 0] 53)).drew = wB := ⟨_, rfl⟩
    obtain ⟨P, hP⟩ : ∃ P, w.heap.size = P := ⟨_, rfl⟩
    rw [hwB, hP] at hb0
    rw [hwB, hP]
    clear hwB hP a0 a1 a3 a4 c0 c1 c3 g3 g4
    have u1 := hb0.c1
    have uf := hb0.fr 1
    have HB := hid hb0
    clear hb0
    go_upto_region 4 with fail
    have hnx := (HB.out.next HI.out.1 (by have := HI.out.2; omega) (z := (k : Int) + 1) rfl).1
    obtain ⟨wC, hwC⟩ : ∃ wC, wB.setCell ⟨b, 1, none⟩ (.int .i64 ((k : Int) + 1)) = wC := ⟨_, rfl⟩
    rw [hwC] at hnx ⊢
    clear hwC u1 uf
    have HC := hid hnx
    clear hnx
    go_upto_region 7 with (go_at_call 56; refine (HFM.out _).mono ?_; rintro e wD ⟨rfl, hcD⟩)
    have HD := hid (HC.out.same hcD)
    clear hcD
    go_loopg [7, 8] s.size (fun gk v7 v8 wr => ∃ (i rg : Nat) (x : ItD) (k' m' : Nat) (f' : Flt), v7 = .int .i64 rg ∧ v8 = .int .i64 i ∧ Hid (gk + i = s.size) ∧ Hid (rg ≤ i ∧ m' + 1 ≤ m ∧ (f'.code = 0 → f' = f) ∧ RY w0 wr b all k' ds q m' f' (xB P x :: X) ∧ OI f' GO (fm.drop i) (decide (i = 0)) rg (all.drop k') x))
    case atStart => exact ⟨0, 0, ⟨op, 0, 0, 0, 0, ⟨#[]⟩, t.line, t.col, 0, 0⟩, k + 1, m - 1, f, rfl, rfl, hid (by omega), hid ⟨Nat.le_refl _, by have := HM.out.1; omega, fun _ => rfl, HD.out, .inl ⟨HF0.out, HGO.out⟩⟩⟩
    case round =>
      obtain ⟨i, rg, x, k', m', f', rfl, rfl, HG, HR⟩ := hrel
      by_cases hlt : i < s.size
      · obtain ⟨y, hy⟩ : ∃ y, s[i] = y := ⟨_, rfl⟩
        have hlf : i < fm.length := by rw [← HSZ.out]; exact hlt
        have hyf : fm[i] = y := by rw [← HGET.out i hlt hlf]; exact hy
        have hyc := HCH.out y (by rw [← hyf]; exact List.getElem_mem _)
        have hdr : fm.drop i = y :: fm.drop (i + 1) := by rw [List.drop_eq_getElem_cons hlf, hyf]
        obtain ⟨hrg, hmm, hff, hr, hoi⟩ := HR.out
        rw [hdr] at hoi
        have hrg2 : rg ≤ 2 := by omega
        have HM2 := hid (And.intro hrg (And.intro hmm hff))
        have HY := hid hyc
        obtain ⟨yn, hyn⟩ : ∃ yn : Nat, y.toNat = yn := ⟨_, rfl⟩
        have HYN := hid hyn
        by_cases h0 : i = 0
        · subst h0
          have ho2 := oi_first hoi
          have HO2 := hid ho2
          have H1 := hid hr
          have HK1 := hid (And.intro (Nat.le_refl m') (id : f'.code = 0 → f'.code = 0))
          clear hoi ho2 hr hdr hyf hlf hrg hmm hff HR hyc hyn
          obtain ⟨k1, hk1⟩ : ∃ k1, k1 = k' := ⟨_, rfl⟩
          obtain ⟨m1, hm1⟩ : ∃ m1, m1 = m' := ⟨_, rfl⟩
          obtain ⟨f1, hf1⟩ : ∃ f1, f1 = f' := ⟨_, rfl⟩
          have hmle : m1 ≤ m' := by omega
          have hfle : f1.code = 0 → f1 = f' := fun _ => hf1
          rw [← hk1] at H1 HO2
          rw [← hm1] at H1
          rw [← hf1] at H1 HO2
          have HL := hid (And.intro hmle hfle)
          clear hk1 hm1 hf1 HK1 hmle hfle
          go_upto_region 11 with fail
          obtain ⟨t1, hi1, hd1⟩ := H1.out.cons
          rw [hd1] at HO2
          have hlt1 := H1.out.lt
          have c0 := H1.out.c0
          have c1 := H1.out.c1
          obtain ⟨_, _, _, g3, g4⟩ := H1.out.head_at hi1
          rw [HN.out] at hlt1 c0
          have hki1 : (k1 : Int) < (N : Int) := by omega
          have a0 : ∀ o, (wr.alloc o).cell? ⟨b, 0, none⟩ = some (.slice (some ⟨q.tb, q.off, none⟩) N q.tc) := fun o => ((Chg.refl [] wr).alloc o).cell c0 (by simp)
          have a1 : ∀ o, (wr.alloc o).cell? ⟨b, 1, none⟩ = some (.int .i64 k1) := fun o => ((Chg.refl [] wr).alloc o).cell c1 (by simp)
          have a3 : ∀ o, (wr.alloc o).cell? ⟨q.tb, q.off + k1 * 5 + 3, none⟩ = some (.int .i64 t1.line) := fun o => ((Chg.refl [] wr).alloc o).cell g3 (by simp)
          have a4 : ∀ o, (wr.alloc o).cell? ⟨q.tb, q.off + k1 * 5 + 4, none⟩ = some (.int .i64 t1.col) := fun o => ((Chg.refl [] wr).alloc o).cell g4 (by simp)
          have HD1 := hid hd1
          clear hd1 hi1
          go_region
          have hb1 := (H1.out.box (.cells #[.int .i64 t1.line, .int .i64 t1.col] 28)).same (Chg.refl [] _).drew
          obtain ⟨wE, hwE⟩ : ∃ wE, (wr.alloc (.cells #[.int .i64 t1.line, .int .i64 t1.col] 28)).drew = wE := ⟨_, rfl⟩
          obtain ⟨PP, hPP⟩ : ∃ PP, wr.heap.size = PP := ⟨_, rfl⟩
          rw [hwE, hPP] at hb1
          rw [hwE, hPP]
          clear hwE hPP a0 a1 a3 a4 c0 c1 g3 g4 hlt1 hki1
          have HB1 := hid hb1
          clear hb1 H1
          obtain ⟨xo, xa, xb, xc, xn, xs, p1, p2, q1, q2⟩ := x
          rcases HY.out with hyv | hyv | hyv
          · have hyn : yn = 114 := by rw [← HYN.out, hyv]; rfl
            have e1 : ((y.toNat : Int) == 114) = true := by rw [HYN.out]; simp; omega
            rw [hyv] at HO2
            clear hyv
            rcases (show rg = 0 ∨ rg = 1 ∨ 2 ≤ rg from by omega) with hr0 | hr0 | hr0
            · subst hr0
              go_wp2_with (go_at_call 63; refine (y_reg_calls HB1.out HV.out).mono ?_; rintro e w2 ⟨n, k2, m2, f2, rfl, h2, hm2, hst2⟩; have bx := h2.getX (j := 1) rfl; have v1 : w2.cell? ⟨P, 1, none⟩ = some (.int .i64 xa) := blk_cell bx 1; have vf := blk_free bx 1; have H2 := hid (And.intro h2 (And.intro hm2 hst2)); clear h2 hm2 hst2 bx)
              obtain ⟨h2, hm2, hst2⟩ := H2.out
              have h3 := h2.putX 1 rfl 1 (.int .i64 n) (X' := _ :: xB P ⟨xo, n, xb, xc, xn, xs, p1, p2, q1, q2⟩ :: X) rfl
              rw [HD1.out] at hst2
              have ho := oi_r HO2.out hst2
              rw [sr_0] at ho
              have hf2 : f2.code = 0 → f2 = f := fun hz => by
                rcases hst2 with ⟨h9, h8⟩ | ⟨_, h8⟩ | ⟨h9, h8, _⟩
                · exact absurd (by rw [← h8]; exact hz) h9
                · exfalso
                  rcases ho with ⟨_, h7⟩ | ⟨h7, _⟩
                  · exact absurd hz (regT_err _ _ h8)
                  · exact h7 hz
                · rw [h8]; exact (HL.out.2 h9).trans (HM2.out.2.2 (by rw [← HL.out.2 h9]; exact h9))
              have hmx : m2 + 1 ≤ m := by have := HL.out.1; have := HM2.out.2.1; omega
              have hrx := HM2.out.1
              have H9 := hid (And.intro hmx (And.intro hf2 (And.intro (h3.subX (.cons _ (.refl _))) ho)))
              clear h2 hm2 hst2 h3 ho hf2 hmx v1 vf H2 HO2 HB1
              go_roundg (gk - 1)
              case measure => have := HG.out; omega
              case rel => exact ⟨0 + 1, 0 + 1, ⟨xo, n, xb, xc, xn, xs, p1, p2, q1, q2⟩, k2, m2, f2, by first | go_num | (rw [wrap64N (by omega)]) | (rw [show ((0 : Nat) : Int) + 1 = ((0 + 1 : Nat) : Int) from by omega, wrap64N (by omega)]), by first | go_num | (rw [show ((0 : Nat) : Int) + 1 = ((0 + 1 : Nat) : Int) from by omega, wrap64N (by omega)]), hid (by have := HG.out; omega), hid ⟨by omega, H9.out.1, H9.out.2.1, H9.out.2.2.1, by first | exact H9.out.2.2.2 | (have h9 := H9.out.2.2.2; simpa using h9)⟩⟩
            · subst hr0
              go_wp2_with (go_at_call 63; refine (y_reg_calls HB1.out HV.out).mono ?_; rintro e w2 ⟨n, k2, m2, f2, rfl, h2, hm2, hst2⟩; have bx := h2.getX (j := 1) rfl; have v1 : w2.cell? ⟨P, 2, none⟩ = some (.int .i64 xb) := blk_cell bx 2; have vf := blk_free bx 2; have H2 := hid (And.intro h2 (And.intro hm2 hst2)); clear h2 hm2 hst2 bx)
              obtain ⟨h2, hm2, hst2⟩ := H2.out
              have h3 := h2.putX 1 rfl 2 (.int .i64 n) (X' := _ :: xB P ⟨xo, xa, n, xc, xn, xs, p1, p2, q1, q2⟩ :: X) rfl
              rw [HD1.out] at hst2
              have ho := oi_r HO2.out hst2
              rw [sr_1] at ho
              have hf2 : f2.code = 0 → f2 = f := fun hz => by
                rcases hst2 with ⟨h9, h8⟩ | ⟨_, h8⟩ | ⟨h9, h8, _⟩
                · exact absurd (by rw [← h8]; exact hz) h9
                · exfalso
                  rcases ho with ⟨_, h7⟩ | ⟨h7, _⟩
                  · exact absurd hz (regT_err _ _ h8)
                  · exact h7 hz
                · rw [h8]; exact (HL.out.2 h9).trans (HM2.out.2.2 (by rw [← HL.out.2 h9]; exact h9))
              have hmx : m2 + 1 ≤ m := by have := HL.out.1; have := HM2.out.2.1; omega
              have hrx := HM2.out.1
              have H9 := hid (And.intro hmx (And.intro hf2 (And.intro (h3.subX (.cons _ (.refl _))) ho)))
              clear h2 hm2 hst2 h3 ho hf2 hmx v1 vf H2 HO2 HB1
              go_roundg (gk - 1)
              case measure => have := HG.out; omega
              case rel => exact ⟨0 + 1, 1 + 1, ⟨xo, xa, n, xc, xn, xs, p1, p2, q1, q2⟩, k2, m2, f2, by first | go_num | (rw [wrap64N (by omega)]) | (rw [show ((1 : Nat) : Int) + 1 = ((1 + 1 : Nat) : Int) from by omega, wrap64N (by omega)]), by first | go_num | (rw [show ((0 : Nat) : Int) + 1 = ((0 + 1 : Nat) : Int) from by omega, wrap64N (by omega)]), hid (by have := HG.out; omega), hid ⟨by omega, H9.out.1, H9.out.2.1, H9.out.2.2.1, by first | exact H9.out.2.2.2 | (have h9 := H9.out.2.2.2; simpa using h9)⟩⟩
            · have e2 : ((rg : Int) == 0) = false := by simp; omega
              have e3 : ((rg : Int) == 1) = false := by simp; omega
              have e4 : (rg == 0) = false := by simp; omega
              have e5 : (rg == 1) = false := by simp; omega
              have e6 : ¬ rg = 0 := by omega
              have e7 : ¬ rg = 1 := by omega
              go_wp2_with (go_at_call 63; refine (y_reg_calls HB1.out HV.out).mono ?_; rintro e w2 ⟨n, k2, m2, f2, rfl, h2, hm2, hst2⟩; have bx := h2.getX (j := 1) rfl; have v1 : w2.cell? ⟨P, 3, none⟩ = some (.int .i64 xc) := blk_cell bx 3; have vf := blk_free bx 3; have H2 := hid (And.intro h2 (And.intro hm2 hst2)); clear h2 hm2 hst2 bx)
              obtain ⟨h2, hm2, hst2⟩ := H2.out
              have h3 := h2.putX 1 rfl 3 (.int .i64 n) (X' := _ :: xB P ⟨xo, xa, xb, n, xn, xs, p1, p2, q1, q2⟩ :: X) rfl
              rw [HD1.out] at hst2
              have ho := oi_r HO2.out hst2
              rw [sr_2 hr0] at ho
              have hf2 : f2.code = 0 → f2 = f := fun hz => by
                rcases hst2 with ⟨h9, h8⟩ | ⟨_, h8⟩ | ⟨h9, h8, _⟩
                · exact absurd (by rw [← h8]; exact hz) h9
                · exfalso
                  rcases ho with ⟨_, h7⟩ | ⟨h7, _⟩
                  · exact absurd hz (regT_err _ _ h8)
                  · exact h7 hz
                · rw [h8]; exact (HL.out.2 h9).trans (HM2.out.2.2 (by rw [← HL.out.2 h9]; exact h9))
              have hmx : m2 + 1 ≤ m := by have := HL.out.1; have := HM2.out.2.1; omega
              have hrx := HM2.out.1
              have H9 := hid (And.intro hmx (And.intro hf2 (And.intro (h3.subX (.cons _ (.refl _))) ho)))
              clear h2 hm2 hst2 h3 ho hf2 hmx v1 vf H2 HO2 HB1
              go_roundg (gk - 1)
              case measure => have := HG.out; omega
              case rel => exact ⟨0 + 1, rg + 1, ⟨xo, xa, xb, n, xn, xs, p1, p2, q1, q2⟩, k2, m2, f2, by first | go_num | (rw [wrap64N (by omega)]) | (rw [show ((rg : Nat) : Int) + 1 = ((rg + 1 : Nat) : Int) from by omega, wrap64N (by omega)]), by first | go_num | (rw [show ((0 : Nat) : Int) + 1 = ((0 + 1 : Nat) : Int) from by omega, wrap64N (by omega)]), hid (by have := HG.out; omega), hid ⟨by omega, H9.out.1, H9.out.2.1, H9.out.2.2.1, by first | exact H9.out.2.2.2 | (have h9 := H9.out.2.2.2; simpa using h9)⟩⟩
          · have hyn : yn = 110 := by rw [← HYN.out, hyv]; rfl
            have e1 : ((y.toNat : Int) == 114) = false := by rw [HYN.out]; simp; omega
            have e2 : ((y.toNat : Int) == 110) = true := by rw [HYN.out]; simp; omega
            rw [hyv] at HO2
            clear hyv
            go_wp2_with (go_at_call 64; refine (y_number_calls HB1.out).mono ?_; rintro e w2 ⟨n, k2, m2, f2, rfl, h2, hm2, hst2⟩; have bx := h2.getX (j := 1) rfl; have v1 : w2.cell? ⟨P, 4, none⟩ = some (.int .i64 xn) := blk_cell bx 4; have v7 : w2.cell? ⟨P, 8, none⟩ = some (.int .i64 q1) := blk_cell bx 8; have v8 : w2.cell? ⟨P, 9, none⟩ = some (.int .i64 q2) := blk_cell bx 9; have vf := fun j => blk_free bx j; have by1 := h2.getX (j := 0) rfl; have z0 : w2.cell? ⟨PP, 0, none⟩ = some (.int .i64 t1.line) := blk_cell by1 0; have z1 : w2.cell? ⟨PP, 1, none⟩ = some (.int .i64 t1.col) := blk_cell by1 1; have hne : PP ≠ P := (fun e => h2.hp.ne (i := (ryI b all.length k2 ds q f2).length + 0) (j := (ryI b all.length k2 ds q f2).length + 1) (by rw [List.getElem?_append_right (by omega), Nat.add_sub_cancel_left]; rfl) (by rw [List.getElem?_append_right (by omega), Nat.add_sub_cancel_left]; rfl) (by omega) (g := PP) rfl (by rw [e]; rfl)); have H2 := hid (And.intro h2 (And.intro hm2 hst2)); clear h2 hm2 hst2 bx by1)
            obtain ⟨h2, hm2, hst2⟩ := H2.out
            have h3 := ((h2.putX 1 rfl 4 (.int .i64 n) rfl).putX 1 rfl 8 (.int .i64 t1.line) rfl).putX 1 rfl 9 (.int .i64 t1.col) (X' := _ :: xB P ⟨xo, xa, xb, xc, n, xs, p1, p2, t1.line, t1.col⟩ :: X) rfl
            rw [HD1.out] at hst2
            have ho := oi_n HO2.out hst2
            have hf2 : f2.code = 0 → f2 = f := fun hz => by
              rcases hst2 with ⟨h9, h8⟩ | ⟨_, h8⟩ | ⟨h9, h8, _⟩
              · exact absurd (by rw [← h8]; exact hz) h9
              · exact absurd hz (takeK_err _ _ _ h8)
              · rw [h8]; exact (HL.out.2 h9).trans (HM2.out.2.2 (by rw [← HL.out.2 h9]; exact h9))
            have hmx : m2 + 1 ≤ m := by have := HL.out.1; have := HM2.out.2.1; omega
            have hrx := HM2.out.1
            have H9 := hid (And.intro hmx (And.intro hf2 (And.intro (h3.subX (.cons _ (.refl _))) ho)))
            clear h2 hm2 hst2 h3 ho hf2 hmx v1 v7 v8 vf z0 z1 H2 HO2 HB1
            go_roundg (gk - 1)
            case measure => have := HG.out; omega
            case rel => exact ⟨0 + 1, rg, ⟨xo, xa, xb, xc, n, xs, p1, p2, t1.line, t1.col⟩, k2, m2, f2, rfl, by first | go_num | (rw [show ((0 : Nat) : Int) + 1 = ((0 + 1 : Nat) : Int) from by omega, wrap64N (by omega)]), hid (by have := HG.out; omega), hid ⟨by omega, H9.out.1, H9.out.2.1, H9.out.2.2.1, by first | exact H9.out.2.2.2 | (have h9 := H9.out.2.2.2; simpa using h9)⟩⟩
          · have hyn : yn = 120 := by rw [← HYN.out, hyv]; rfl
            have e1 : ((y.toNat : Int) == 114) = false := by rw [HYN.out]; simp; omega
            have e2 : ((y.toNat : Int) == 110) = false := by rw [HYN.out]; simp; omega
            rw [hyv] at HO2
            clear hyv
            go_wp2_with (go_at_call 65; refine (y_name_calls HB1.out HV.out).mono ?_; rintro e w2 ⟨nm, k2, m2, f2, rfl, h2, hm2, hst2⟩; have bx := h2.getX (j := 1) rfl; have v1 : w2.cell? ⟨P, 5, none⟩ = some (.string xs) := blk_cell bx 5; have v7 : w2.cell? ⟨P, 8, none⟩ = some (.int .i64 q1) := blk_cell bx 8; have v8 : w2.cell? ⟨P, 9, none⟩ = some (.int .i64 q2) := blk_cell bx 9; have vf := fun j => blk_free bx j; have by1 := h2.getX (j := 0) rfl; have z0 : w2.cell? ⟨PP, 0, none⟩ = some (.int .i64 t1.line) := blk_cell by1 0; have z1 : w2.cell? ⟨PP, 1, none⟩ = some (.int .i64 t1.col) := blk_cell by1 1; have hne : PP ≠ P := (fun e => h2.hp.ne (i := (ryI b all.length k2 ds q f2).length + 0) (j := (ryI b all.length k2 ds q f2).length + 1) (by rw [List.getElem?_append_right (by omega), Nat.add_sub_cancel_left]; rfl) (by rw [List.getElem?_append_right (by omega), Nat.add_sub_cancel_left]; rfl) (by omega) (g := PP) rfl (by rw [e]; rfl)); have H2 := hid (And.intro h2 (And.intro hm2 hst2)); clear h2 hm2 hst2 bx by1)
            obtain ⟨h2, hm2, hst2⟩ := H2.out
            have h3 := ((h2.putX 1 rfl 5 (.string nm) rfl).putX 1 rfl 8 (.int .i64 t1.line) rfl).putX 1 rfl 9 (.int .i64 t1.col) (X' := _ :: xB P ⟨xo, xa, xb, xc, xn, nm, p1, p2, t1.line, t1.col⟩ :: X) rfl
            rw [HD1.out] at hst2
            have ho := oi_x HO2.out hst2
            have hf2 : f2.code = 0 → f2 = f := fun hz => by
              rcases hst2 with ⟨h9, h8⟩ | ⟨_, h8⟩ | ⟨h9, h8, _⟩
              · exact absurd (by rw [← h8]; exact hz) h9
              · exact absurd hz (nameT_err _ _ h8)
              · rw [h8]; exact (HL.out.2 h9).trans (HM2.out.2.2 (by rw [← HL.out.2 h9]; exact h9))
            have hmx : m2 + 1 ≤ m := by have := HL.out.1; have := HM2.out.2.1; omega
            have hrx := HM2.out.1
            have H9 := hid (And.intro hmx (And.intro hf2 (And.intro (h3.subX (.cons _ (.refl _))) ho)))
            clear h2 hm2 hst2 h3 ho hf2 hmx v1 v7 v8 vf z0 z1 H2 HO2 HB1
            go_roundg (gk - 1)
            case measure => have := HG.out; omega
            case rel => exact ⟨0 + 1, rg, ⟨xo, xa, xb, xc, xn, nm, p1, p2, t1.line, t1.col⟩, k2, m2, f2, rfl, by first | go_num | (rw [show ((0 : Nat) : Int) + 1 = ((0 + 1 : Nat) : Int) from by omega, wrap64N (by omega)]), hid (by have := HG.out; omega), hid ⟨by omega, H9.out.1, H9.out.2.1, H9.out.2.2.1, by first | exact H9.out.2.2.2 | (have h9 := H9.out.2.2.2; simpa using h9)⟩⟩

        · have hip : 0 < i := by omega
          have hpos : decide ((0 : Int) < (i : Int)) = true := decide_eq_true (by omega)
          have hpos2 : decide (0 < i) = true := decide_eq_true hip
          rw [decide_eq_false h0] at hoi
          have HMK := hid (y_mark_calls hr 3 (by decide))
          have HOI := hid hoi
          clear hoi hr hdr hyf hlf hrg hmm hff HR hyc hyn h0
          go_upto_region 11 with (go_at_call 62; refine HMK.out.mono ?_; rintro e w1 ⟨k1, m1, f1, rfl, h1, hm1, hst⟩; have HO2 := hid (oi_comma HOI.out hst); have HL := hid (And.intro hm1 (show f1.code = 0 → f1 = f' from fun hz => by rcases hst with ⟨_, h2⟩ | ⟨_, h2⟩ | ⟨_, h2, _⟩ <;> first | exact h2 | exact absurd hz (takeK_err _ _ _ h2))); have H1 := hid h1; clear h1 hm1 hst)
          obtain ⟨t1, hi1, hd1⟩ := H1.out.cons
          rw [hd1] at HO2
          have hlt1 := H1.out.lt
          have c0 := H1.out.c0
          have c1 := H1.out.c1
          obtain ⟨_, _, _, g3, g4⟩ := H1.out.head_at hi1
          rw [HN.out] at hlt1 c0
          have hki1 : (k1 : Int) < (N : Int) := by omega
          have a0 : ∀ o, (w1.alloc o).cell? ⟨b, 0, none⟩ = some (.slice (some ⟨q.tb, q.off, none⟩) N q.tc) := fun o => ((Chg.refl [] w1).alloc o).cell c0 (by simp)
          have a1 : ∀ o, (w1.alloc o).cell? ⟨b, 1, none⟩ = some (.int .i64 k1) := fun o => ((Chg.refl [] w1).alloc o).cell c1 (by simp)
          have a3 : ∀ o, (w1.alloc o).cell? ⟨q.tb, q.off + k1 * 5 + 3, none⟩ = some (.int .i64 t1.line) := fun o => ((Chg.refl [] w1).alloc o).cell g3 (by simp)
          have a4 : ∀ o, (w1.alloc o).cell? ⟨q.tb, q.off + k1 * 5 + 4, none⟩ = some (.int .i64 t1.col) := fun o => ((Chg.refl [] w1).alloc o).cell g4 (by simp)
          have HD1 := hid hd1
          clear hd1 hi1
          go_region
          have hb1 := (H1.out.box (.cells #[.int .i64 t1.line, .int .i64 t1.col] 28)).same (Chg.refl [] _).drew
          obtain ⟨wE, hwE⟩ : ∃ wE, (w1.alloc (.cells #[.int .i64 t1.line, .int .i64 t1.col] 28)).drew = wE := ⟨_, rfl⟩
          obtain ⟨PP, hPP⟩ : ∃ PP, w1.heap.size = PP := ⟨_, rfl⟩
          rw [hwE, hPP] at hb1
          rw [hwE, hPP]
          clear hwE hPP a0 a1 a3 a4 c0 c1 g3 g4 hlt1 hki1
          have HB1 := hid hb1
          clear hb1 H1
          obtain ⟨xo, xa, xb, xc, xn, xs, p1, p2, q1, q2⟩ := x
          rcases HY.out with hyv | hyv | hyv
          · have hyn : yn = 114 := by rw [← HYN.out, hyv]; rfl
            have e1 : ((y.toNat : Int) == 114) = true := by rw [HYN.out]; simp; omega
            rw [hyv] at HO2
            clear hyv
            rcases (show rg = 0 ∨ rg = 1 ∨ 2 ≤ rg from by omega) with hr0 | hr0 | hr0
            · subst hr0
              go_wp2_with (go_at_call 63; refine (y_reg_calls HB1.out HV.out).mono ?_; rintro e w2 ⟨n, k2, m2, f2, rfl, h2, hm2, hst2⟩; have bx := h2.getX (j := 1) rfl; have v1 : w2.cell? ⟨P, 1, none⟩ = some (.int .i64 xa) := blk_cell bx 1; have vf := blk_free bx 1; have H2 := hid (And.intro h2 (And.intro hm2 hst2)); clear h2 hm2 hst2 bx)
              obtain ⟨h2, hm2, hst2⟩ := H2.out
              have h3 := h2.putX 1 rfl 1 (.int .i64 n) (X' := _ :: xB P ⟨xo, n, xb, xc, xn, xs, p1, p2, q1, q2⟩ :: X) rfl
              rw [HD1.out] at hst2
              have ho := oi_r HO2.out hst2
              rw [sr_0] at ho
              have hf2 : f2.code = 0 → f2 = f := fun hz => by
                rcases hst2 with ⟨h9, h8⟩ | ⟨_, h8⟩ | ⟨h9, h8, _⟩
                · exact absurd (by rw [← h8]; exact hz) h9
                · exfalso
                  rcases ho with ⟨_, h7⟩ | ⟨h7, _⟩
                  · exact absurd hz (regT_err _ _ h8)
                  · exact h7 hz
                · rw [h8]; exact (HL.out.2 h9).trans (HM2.out.2.2 (by rw [← HL.out.2 h9]; exact h9))
              have hmx : m2 + 1 ≤ m := by have := HL.out.1; have := HM2.out.2.1; omega
              have hrx := HM2.out.1
              have H9 := hid (And.intro hmx (And.intro hf2 (And.intro (h3.subX (.cons _ (.refl _))) ho)))
              clear h2 hm2 hst2 h3 ho hf2 hmx v1 vf H2 HO2 HB1
              go_roundg (gk - 1)
              case measure => have := HG.out; omega
              case rel => exact ⟨i + 1, 0 + 1, ⟨xo, n, xb, xc, xn, xs, p1, p2, q1, q2⟩, k2, m2, f2, by first | go_num | (rw [wrap64N (by omega)]) | (rw [show ((0 : Nat) : Int) + 1 = ((0 + 1 : Nat) : Int) from by omega, wrap64N (by omega)]), by first | go_num | (rw [show ((i : Nat) : Int) + 1 = ((i + 1 : Nat) : Int) from by omega, wrap64N (by omega)]), hid (by have := HG.out; omega), hid ⟨by omega, H9.out.1, H9.out.2.1, H9.out.2.2.1, by first | exact H9.out.2.2.2 | (have h9 := H9.out.2.2.2; simpa using h9)⟩⟩
            · subst hr0
              go_wp2_with (go_at_call 63; refine (y_reg_calls HB1.out HV.out).mono ?_; rintro e w2 ⟨n, k2, m2, f2, rfl, h2, hm2, hst2⟩; have bx := h2.getX (j := 1) rfl; have v1 : w2.cell? ⟨P, 2, none⟩ = some (.int .i64 xb) := blk_cell bx 2; have vf := blk_free bx 2; have H2 := hid (And.intro h2 (And.intro hm2 hst2)); clear h2 hm2 hst2 bx)
              obtain ⟨h2, hm2, hst2⟩ := H2.out
              have h3 := h2.putX 1 rfl 2 (.int .i64 n) (X' := _ :: xB P ⟨xo, xa, n, xc, xn, xs, p1, p2, q1, q2⟩ :: X) rfl
              rw [HD1.out] at hst2
              have ho := oi_r HO2.out hst2
              rw [sr_1] at ho
              have hf2 : f2.code = 0 → f2 = f := fun hz => by
                rcases hst2 with ⟨h9, h8⟩ | ⟨_, h8⟩ | ⟨h9, h8, _⟩
                · exact absurd (by rw [← h8]; exact hz) h9
                · exfalso
                  rcases ho with ⟨_, h7⟩ | ⟨h7, _⟩
                  · exact absurd hz (regT_err _ _ h8)
                  · exact h7 hz
                · rw [h8]; exact (HL.out.2 h9).trans (HM2.out.2.2 (by rw [← HL.out.2 h9]; exact h9))
              have hmx : m2 + 1 ≤ m := by have := HL.out.1; have := HM2.out.2.1; omega
              have hrx := HM2.out.1
              have H9 := hid (And.intro hmx (And.intro hf2 (And.intro (h3.subX (.cons _ (.refl _))) ho)))
              clear h2 hm2 hst2 h3 ho hf2 hmx v1 vf H2 HO2 HB1
              go_roundg (gk - 1)
              case measure => have := HG.out; omega
              case rel => exact ⟨i + 1, 1 + 1, ⟨xo, xa, n, xc, xn, xs, p1, p2, q1, q2⟩, k2, m2, f2, by first | go_num | (rw [wrap64N (by omega)]) | (rw [show ((1 : Nat) : Int) + 1 = ((1 + 1 : Nat) : Int) from by omega, wrap64N (by omega)]), by first | go_num | (rw [show ((i : Nat) : Int) + 1 = ((i + 1 : Nat) : Int) from by omega, wrap64N (by omega)]), hid (by have := HG.out; omega), hid ⟨by omega, H9.out.1, H9.out.2.1, H9.out.2.2.1, by first | exact H9.out.2.2.2 | (have h9 := H9.out.2.2.2; simpa using h9)⟩⟩
            · have e2 : ((rg : Int) == 0) = false := by simp; omega
              have e3 : ((rg : Int) == 1) = false := by simp; omega
              have e4 : (rg == 0) = false := by simp; omega
              have e5 : (rg == 1) = false := by simp; omega
              have e6 : ¬ rg = 0 := by omega
              have e7 : ¬ rg = 1 := by omega
              go_wp2_with (go_at_call 63; refine (y_reg_calls HB1.out HV.out).mono ?_; rintro e w2 ⟨n, k2, m2, f2, rfl, h2, hm2, hst2⟩; have bx := h2.getX (j := 1) rfl; have v1 : w2.cell? ⟨P, 3, none⟩ = some (.int .i64 xc) := blk_cell bx 3; have vf := blk_free bx 3; have H2 := hid (And.intro h2 (And.intro hm2 hst2)); clear h2 hm2 hst2 bx)
              obtain ⟨h2, hm2, hst2⟩ := H2.out
              have h3 := h2.putX 1 rfl 3 (.int .i64 n) (X' := _ :: xB P ⟨xo, xa, xb, n, xn, xs, p1, p2, q1, q2⟩ :: X) rfl
              rw [HD1.out] at hst2
              have ho := oi_r HO2.out hst2
              rw [sr_2 hr0] at ho
              have hf2 : f2.code = 0 → f2 = f := fun hz => by
                rcases hst2 with ⟨h9, h8⟩ | ⟨_, h8⟩ | ⟨h9, h8, _⟩
                · exact absurd (by rw [← h8]; exact hz) h9
                · exfalso
                  rcases ho with ⟨_, h7⟩ | ⟨h7, _⟩
                  · exact absurd hz (regT_err _ _ h8)
                  · exact h7 hz
                · rw [h8]; exact (HL.out.2 h9).trans (HM2.out.2.2 (by rw [← HL.out.2 h9]; exact h9))
              have hmx : m2 + 1 ≤ m := by have := HL.out.1; have := HM2.out.2.1; omega
              have hrx := HM2.out.1
              have H9 := hid (And.intro hmx (And.intro hf2 (And.intro (h3.subX (.cons _ (.refl _))) ho)))
              clear h2 hm2 hst2 h3 ho hf2 hmx v1 vf H2 HO2 HB1
              go_roundg (gk - 1)
              case measure => have := HG.out; omega
              case rel => exact ⟨i + 1, rg + 1, ⟨xo, xa, xb, n, xn, xs, p1, p2, q1, q2⟩, k2, m2, f2, by first | go_num | (rw [wrap64N (by omega)]) | (rw [show ((rg : Nat) : Int) + 1 = ((rg + 1 : Nat) : Int) from by omega, wrap64N (by omega)]), by first | go_num | (rw [show ((i : Nat) : Int) + 1 = ((i + 1 : Nat) : Int) from by omega, wrap64N (by omega)]), hid (by have := HG.out; omega), hid ⟨by omega, H9.out.1, H9.out.2.1, H9.out.2.2.1, by first | exact H9.out.2.2.2 | (have h9 := H9.out.2.2.2; simpa using h9)⟩⟩
          · have hyn : yn = 110 := by rw [← HYN.out, hyv]; rfl
            have e1 : ((y.toNat : Int) == 114) = false := by rw [HYN.out]; simp; omega
            have e2 : ((y.toNat : Int) == 110) = true := by rw [HYN.out]; simp; omega
            rw [hyv] at HO2
            clear hyv
            go_wp2_with (go_at_call 64; refine (y_number_calls HB1.out).mono ?_; rintro e w2 ⟨n, k2, m2, f2, rfl, h2, hm2, hst2⟩; have bx := h2.getX (j := 1) rfl; have v1 : w2.cell? ⟨P, 4, none⟩ = some (.int .i64 xn) := blk_cell bx 4; have v7 : w2.cell? ⟨P, 8, none⟩ = some (.int .i64 q1) := blk_cell bx 8; have v8 : w2.cell? ⟨P, 9, none⟩ = some (.int .i64 q2) := blk_cell bx 9; have vf := fun j => blk_free bx j; have by1 := h2.getX (j := 0) rfl; have z0 : w2.cell? ⟨PP, 0, none⟩ = some (.int .i64 t1.line) := blk_cell by1 0; have z1 : w2.cell? ⟨PP, 1, none⟩ = some (.int .i64 t1.col) := blk_cell by1 1; have hne : PP ≠ P := (fun e => h2.hp.ne (i := (ryI b all.length k2 ds q f2).length + 0) (j := (ryI b all.length k2 ds q f2).length + 1) (by rw [List.getElem?_append_right (by omega), Nat.add_sub_cancel_left]; rfl) (by rw [List.getElem?_append_right (by omega), Nat.add_sub_cancel_left]; rfl) (by omega) (g := PP) rfl (by rw [e]; rfl)); have H2 := hid (And.intro h2 (And.intro hm2 hst2)); clear h2 hm2 hst2 bx by1)
            obtain ⟨h2, hm2, hst2⟩ := H2.out
            have h3 := ((h2.putX 1 rfl 4 (.int .i64 n) rfl).putX 1 rfl 8 (.int .i64 t1.line) rfl).putX 1 rfl 9 (.int .i64 t1.col) (X' := _ :: xB P ⟨xo, xa, xb, xc, n, xs, p1, p2, t1.line, t1.col⟩ :: X) rfl
            rw [HD1.out] at hst2
            have ho := oi_n HO2.out hst2
            have hf2 : f2.code = 0 → f2 = f := fun hz => by
              rcases hst2 with ⟨h9, h8⟩ | ⟨_, h8⟩ | ⟨h9, h8, _⟩
              · exact absurd (by rw [← h8]; exact hz) h9
              · exact absurd hz (takeK_err _ _ _ h8)
              · rw [h8]; exact (HL.out.2 h9).trans (HM2.out.2.2 (by rw [← HL.out.2 h9]; exact h9))
            have hmx : m2 + 1 ≤ m := by have := HL.out.1; have := HM2.out.2.1; omega
            have hrx := HM2.out.1
            have H9 := hid (And.intro hmx (And.intro hf2 (And.intro (h3.subX (.cons _ (.refl _))) ho)))
            clear h2 hm2 hst2 h3 ho hf2 hmx v1 v7 v8 vf z0 z1 H2 HO2 HB1
            go_roundg (gk - 1)
            case measure => have := HG.out; omega
            case rel => exact ⟨i + 1, rg, ⟨xo, xa, xb, xc, n, xs, p1, p2, t1.line, t1.col⟩, k2, m2, f2, rfl, by first | go_num | (rw [show ((i : Nat) : Int) + 1 = ((i + 1 : Nat) : Int) from by omega, wrap64N (by omega)]), hid (by have := HG.out; omega), hid ⟨by omega, H9.out.1, H9.out.2.1, H9.out.2.2.1, by first | exact H9.out.2.2.2 | (have h9 := H9.out.2.2.2; simpa using h9)⟩⟩
          · have hyn : yn = 120 := by rw [← HYN.out, hyv]; rfl
            have e1 : ((y.toNat : Int) == 114) = false := by rw [HYN.out]; simp; omega
            have e2 : ((y.toNat : Int) == 110) = false := by rw [HYN.out]; simp; omega
            rw [hyv] at HO2
            clear hyv
            go_wp2_with (go_at_call 65; refine (y_name_calls HB1.out HV.out).mono ?_; rintro e w2 ⟨nm, k2, m2, f2, rfl, h2, hm2, hst2⟩; have bx := h2.getX (j := 1) rfl; have v1 : w2.cell? ⟨P, 5, none⟩ = some (.string xs) := blk_cell bx 5; have v7 : w2.cell? ⟨P, 8, none⟩ = some (.int .i64 q1) := blk_cell bx 8; have v8 : w2.cell? ⟨P, 9, none⟩ = some (.int .i64 q2) := blk_cell bx 9; have vf := fun j => blk_free bx j; have by1 := h2.getX (j := 0) rfl; have z0 : w2.cell? ⟨PP, 0, none⟩ = some (.int .i64 t1.line) := blk_cell by1 0; have z1 : w2.cell? ⟨PP, 1, none⟩ = some (.int .i64 t1.col) := blk_cell by1 1; have hne : PP ≠ P := (fun e => h2.hp.ne (i := (ryI b all.length k2 ds q f2).length + 0) (j := (ryI b all.length k2 ds q f2).length + 1) (by rw [List.getElem?_append_right (by omega), Nat.add_sub_cancel_left]; rfl) (by rw [List.getElem?_append_right (by omega), Nat.add_sub_cancel_left]; rfl) (by omega) (g := PP) rfl (by rw [e]; rfl)); have H2 := hid (And.intro h2 (And.intro hm2 hst2)); clear h2 hm2 hst2 bx by1)
            obtain ⟨h2, hm2, hst2⟩ := H2.out
            have h3 := ((h2.putX 1 rfl 5 (.string nm) rfl).putX 1 rfl 8 (.int .i64 t1.line) rfl).putX 1 rfl 9 (.int .i64 t1.col) (X' := _ :: xB P ⟨xo, xa, xb, xc, xn, nm, p1, p2, t1.line, t1.col⟩ :: X) rfl
            rw [HD1.out] at hst2
            have ho := oi_x HO2.out hst2
            have hf2 : f2.code = 0 → f2 = f := fun hz => by
              rcases hst2 with ⟨h9, h8⟩ | ⟨_, h8⟩ | ⟨h9, h8, _⟩
              · exact absurd (by rw [← h8]; exact hz) h9
              · exact absurd hz (nameT_err _ _ h8)
              · rw [h8]; exact (HL.out.2 h9).trans (HM2.out.2.2 (by rw [← HL.out.2 h9]; exact h9))
            have hmx : m2 + 1 ≤ m := by have := HL.out.1; have := HM2.out.2.1; omega
            have hrx := HM2.out.1
            have H9 := hid (And.intro hmx (And.intro hf2 (And.intro (h3.subX (.cons _ (.refl _))) ho)))
            clear h2 hm2 hst2 h3 ho hf2 hmx v1 v7 v8 vf z0 z1 H2 HO2 HB1
            go_roundg (gk - 1)
            case measure => have := HG.out; omega
            case rel => exact ⟨i + 1, rg, ⟨xo, xa, xb, xc, xn, nm, p1, p2, t1.line, t1.col⟩, k2, m2, f2, rfl, by first | go_num | (rw [show ((i : Nat) : Int) + 1 = ((i + 1 : Nat) : Int) from by omega, wrap64N (by omega)]), hid (by have := HG.out; omega), hid ⟨by omega, H9.out.1, H9.out.2.1, H9.out.2.2.1, by first | exact H9.out.2.2.2 | (have h9 := H9.out.2.2.2; simpa using h9)⟩⟩

      · have hge : i = s.size := by have := HG.out; omega
        obtain ⟨hrg, hmm, hff, hr, hoi⟩ := HR.out
        have hdr : fm.drop i = [] := List.drop_of_length_le (by rw [hge, HSZ.out]; exact Nat.le_refl _)
        rw [hdr] at hoi
        have HGE := hid hge
        clear hge hdr
        obtain ⟨xo, xa, xb, xc, xn, xs, p1, p2, q1, q2⟩ := x
        rcases hoi with ⟨hz, hoi⟩ | ⟨hz, hoi⟩
        · rw [opers_nil] at hoi
          have HOI := hid hoi
          obtain rfl := hff hz
          have bx := hr.getX (j := 0) rfl
          have x0 : wr.cell? ⟨P, 0, none⟩ = some (.int .i64 xo) := blk_cell bx 0
          have x1 : wr.cell? ⟨P, 1, none⟩ = some (.int .i64 xa) := blk_cell bx 1
          have x2 : wr.cell? ⟨P, 2, none⟩ = some (.int .i64 xb) := blk_cell bx 2
          have x3 : wr.cell? ⟨P, 3, none⟩ = some (.int .i64 xc) := blk_cell bx 3
          have x4 : wr.cell? ⟨P, 4, none⟩ = some (.int .i64 xn) := blk_cell bx 4
          have x5 : wr.cell? ⟨P, 5, none⟩ = some (.string xs) := blk_cell bx 5
          have x6 : wr.cell? ⟨P, 6, none⟩ = some (.int .i64 p1) := blk_cell bx 6
          have x7 : wr.cell? ⟨P, 7, none⟩ = some (.int .i64 p2) := blk_cell bx 7
          have x8 : wr.cell? ⟨P, 8, none⟩ = some (.int .i64 q1) := blk_cell bx 8
          have x9 : wr.cell? ⟨P, 9, none⟩ = some (.int .i64 q2) := blk_cell bx 9
          have HOK := hid (y_ok_yes hr hz)
          have HP := hid (show Calls Tryz.prog 60 #[.pointer (some ⟨b, 0, none⟩), .agg #[.int .i64 xo, .int .i64 xa, .int .i64 xb, .int .i64 xc, .int .i64 xn, .string xs, .int .i64 p1, .int .i64 p2, .int .i64 q1, .int .i64 q2]] wr (YPutP w0 b all k' ds q m' f' (xB P ⟨xo, xa, xb, xc, xn, xs, p1, p2, q1, q2⟩ :: X) ⟨xo, xa, xb, xc, xn, xs, p1, p2, q1, q2⟩) from y_put_calls hr HBK.out (by have := HM.out; omega) ⟨xo, xa, xb, xc, xn, xs, p1, p2, q1, q2⟩)
          have HMM := hid hmm
          clear hr bx hoi hz hff HR hrg hmm
          go_wp2_with (first
            | (go_at_call 17; refine HOK.out.mono ?_; rintro e w1 ⟨rfl, rfl⟩)
            | (go_at_call 60; refine HP.out.mono ?_; rintro e w4 ⟨rfl, q'', h4, h5⟩))
          go_end0
          refine ⟨k', q'', m' + 1, f', rfl, h4.subX (.cons _ (.refl _)), HMM.out, .inr ⟨rfl, ?_⟩⟩
          rw [← HG0.out, ← HOI.out, h5]
        · have HOK := hid (y_ok_no hr hz)
          have HE := hid (And.intro hr (And.intro hoi hmm))
          clear hr hoi hz hff HR hrg hmm
          go_wp2_with (go_at_call 17; refine HOK.out.mono ?_; rintro e w1 ⟨rfl, rfl⟩)
          go_end0
          refine ⟨k', q, m', f', rfl, HE.out.1.subX (.cons _ (.refl _)), by have := HE.out.2.2; omega, .inl ?_⟩
          rw [← HG0.out, HE.out.2.1]
end
end Go.Proofs.YtmahcabidggmeaaGreatDoor
