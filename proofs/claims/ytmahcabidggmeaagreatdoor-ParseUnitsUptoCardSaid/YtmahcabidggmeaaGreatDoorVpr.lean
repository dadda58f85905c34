/- Walks of the printer: an instruction's operands. -/
import Derived.Test.YtmahcabidggmeaaGreatDoorVpn
set_option linter.unusedVariables false
set_option linter.unusedSectionVars false
set_option linter.unusedSimpArgs false
namespace Go.AB
open Go.RowKit
def regOf (x : ItD) (k : Nat) : Int := if k = 0 then x.a else if k = 1 then x.b else x.c
/-- An Item is small. -/
structure SmallI (x : ItD) : Prop where
  nm : x.name.size ≤ 1048576
  n0 : -9223372036854775808 ≤ x.n
  n1 : x.n ≤ 9223372036854775807
  rg : ∀ k, k < 3 → -9223372036854775808 ≤ regOf x k ∧ regOf x k ≤ 9223372036854775807
/-- Are the fields right, by the form? -/
def opsOk (x : ItD) : Bool :=
  (if 1 ≤ (formAt x.op).count 114 then regB x.a else decide (x.a = 0)) && (if 2 ≤ (formAt x.op).count 114 then regB x.b else decide (x.b = 0)) && (if 3 ≤ (formAt x.op).count 114 then regB x.c else decide (x.c = 0)) &&
  (decide (110 ∈ formAt x.op) || decide (x.n = 0)) && (if 120 ∈ formAt x.op then nameP x.name.data.toList else decide (x.name.size = 0))
theorem itemOk_op {x : ItD} (h : x.op ≠ 0) : itemOk x = (!(wordAt x.op).isEmpty && opsOk x) := by
  unfold itemOk opsOk
  simp only [if_neg h, decide_eq_false h, Bool.false_or, Bool.and_assoc]
theorem opsOk_iff (x : ItD) : opsOk x = true ↔ (∀ k, k < 3 → if k < (formAt x.op).count 114 then regB (regOf x k) = true else regOf x k = 0) ∧ (110 ∈ formAt x.op ∨ x.n = 0) ∧ (if 120 ∈ formAt x.op then nameP x.name.data.toList = true else x.name.size = 0) := by
  unfold opsOk
  simp only [Bool.and_eq_true, Bool.or_eq_true, decide_eq_true_eq]
  constructor
  · rintro ⟨⟨⟨⟨h1, h2⟩, h3⟩, h4⟩, h5⟩
    refine ⟨fun k hk => ?_, h4, ?_⟩
    · have : k = 0 ∨ k = 1 ∨ k = 2 := by omega
      rcases this with rfl | rfl | rfl
      · split at h1
        · rw [if_pos (by omega)]; exact h1
        · rw [if_neg (by omega)]; exact of_decide_eq_true h1
      · split at h2
        · rw [if_pos (by omega)]; exact h2
        · rw [if_neg (by omega)]; exact of_decide_eq_true h2
      · split at h3
        · rw [if_pos (by omega)]; exact h3
        · rw [if_neg (by omega)]; exact of_decide_eq_true h3
    · split at h5
      · rename_i h6; rw [if_pos h6]; exact h5
      · rename_i h6; rw [if_neg h6]; exact of_decide_eq_true h5
  · rintro ⟨h, h4, h5⟩
    refine ⟨⟨⟨⟨?_, ?_⟩, ?_⟩, h4⟩, ?_⟩
    · have := h 0 (by omega)
      split at this
      · rw [if_pos (by omega)]; exact this
      · rw [if_neg (by omega)]; exact decide_eq_true this
    · have := h 1 (by omega)
      split at this
      · rw [if_pos (by omega)]; exact this
      · rw [if_neg (by omega)]; exact decide_eq_true this
    · have := h 2 (by omega)
      split at this
      · rw [if_pos (by omega)]; exact this
      · rw [if_neg (by omega)]; exact decide_eq_true this
    · split at h5
      · rename_i h6; rw [if_pos h6]; exact h5
      · rename_i h6; rw [if_neg h6]; exact decide_eq_true h5
theorem form_regsV : ∀ op : Nat, op < 21 → ∀ i : Nat, i < 3 → (formAt op)[i]? = some 114 → ((formAt op).take i).count 114 = i := by decide +kernel
theorem form_len : ∀ op : Nat, op < 21 → (formAt op).length ≤ 3 := by decide +kernel
theorem form_off {op : Int} (h : op < 1 ∨ 20 < op) : formAt op = [] := by
  unfold formAt
  rcases h with h | h
  · rw [if_pos h]
  · rw [if_neg (by omega), List.getElem?_eq_none (by show 20 ≤ (op - 1).toNat; omega)]; rfl
theorem form_all (op : Int) : (∀ c ∈ formAt op, c = 114 ∨ c = 110 ∨ c = 120) ∧ (formAt op).count 114 ≤ 3 ∧ (formAt op).length ≤ 3 ∧ ∀ i, (formAt op)[i]? = some 114 → ((formAt op).take i).count 114 = i := by
  by_cases h : op < 1 ∨ 20 < op
  · rw [form_off h]
    exact ⟨by simp, by simp, by simp, by simp⟩
  · obtain ⟨n, rfl⟩ : ∃ n : Nat, op = n := ⟨op.toNat, by omega⟩
    have hn : n < 21 := by omega
    refine ⟨fun c hc => form_char hn hc, (form_chars n hn).2, form_len n hn, fun i hi => ?_⟩
    have hl := form_len n hn
    have h3 : i < 3 := by have := (List.getElem?_eq_some_iff.1 hi).1; omega
    exact form_regsV n hn i h3 hi
/-- The operands' texts. -/
def operL (F : List UInt8) (x : ItD) : List (List UInt8) := (List.range F.length).map fun i => operS (F.getD i 0) i x
theorem operS_reg (k : Nat) (x : ItD) : operS 114 k x = 114 :: Lib.itoa (regOf x k) := by
  unfold operS regOf numS
  rw [if_pos rfl]
theorem operL_succ {F : List UInt8} {x : ItD} {i : Nat} (hi : i < F.length) : operL (F.take (i + 1)) x = operL (F.take i) x ++ [operS F[i] i x] := by
  unfold operL
  rw [List.length_take, List.length_take, Nat.min_eq_left (by omega), Nat.min_eq_left (by omega), List.range_succ, List.map_append]
  congr 1
  · refine List.map_congr_left fun j hj => ?_
    have hj2 := List.mem_range.1 hj
    congr 1
    simp [List.getD, List.getElem?_take, hj2, show j < i + 1 by omega]
  · simp [List.getD, List.getElem?_take, hi]
theorem flat_str (ss : List (List UInt8)) : (ss.map bA).flatMap strC = ss.map fun s => Value.string (bA s) := by
  induction ss with
  | nil => rfl
  | cons s r ih => rw [List.map_cons, List.flatMap_cons, ih]; rfl
end Go.AB
namespace Go.Proofs.YtmahcabidggmeaaGreatDoor
open Go.RowKit Go.AB
set_option linter.unusedSimpArgs false
set_option linter.unusedVariables false
set_option linter.unusedSectionVars false

theorem info_str : (Tryz.prog.info? 9).map (fun i => (i.zero, i.size, i.bytes)) = some (some (.string ⟨#[]⟩), 1, 16) := by kernel_rfl
theorem elem_str : ElemOk Tryz.prog 75 9 1 16 := .of Tryz.underlying75 info_str rfl (by decide)
def RvS (PA k : Nat) (rv : Value) : Prop := (k < 3 → rv = .slice (some ⟨PA, k, none⟩) (3 - k) (3 - k)) ∧ (k = 3 → ∃ o, rv = .slice (some ⟨PA, o, none⟩) 0 0)
/-- What operands answers. -/
def OprP (w : World) (x : ItD) (e : Ending) (w' : World) : Prop :=
  (opsOk x = false ∧ e = .returned (.tuple #[.slice none 0 0, .bool false]) ∧ Chg [] w w') ∨
  (opsOk x = true ∧ ∃ ao cap, e = .returned (.tuple #[.slice ao (formAt x.op).length cap, .bool true]) ∧ View w' 1 (.slice ao (formAt x.op).length cap) (formAt x.op).length ((operL (formAt x.op) x).map fun s => Value.string (bA s)) ∧ Chg [] w w')
set_option maxHeartbeats 16000000 in
set_option maxRecDepth 100000 in
theorem operands_calls (x : ItD) (hx : SmallI x) (w : World) (hv : VarsP w) : Calls Tryz.prog 78 #[.agg #[.int .i64 x.op, .int .i64 x.a, .int .i64 x.b, .int .i64 x.c, .int .i64 x.n, .string x.name, .int .i64 x.p1, .int .i64 x.p2, .int .i64 x.q1, .int .i64 x.q2]] w (OprP w x) := by
  obtain ⟨L, hL⟩ : ∃ L, x.name.data.toList = L := ⟨_, rfl⟩
  have hname := bA_eq hL
  have hc1 := (Chg.refl [] w).alloc (.cells #[.int .i64 x.op, .int .i64 x.a, .int .i64 x.b, .int .i64 x.c, .int .i64 x.n, .string x.name, .int .i64 x.p1, .int .i64 x.p2, .int .i64 x.q1, .int .i64 x.q2] 53)
  have hp1 := (Hp.start (S0 := []) w (by simp)).box (.cells #[.int .i64 x.op, .int .i64 x.a, .int .i64 x.b, .int .i64 x.c, .int .i64 x.n, .string x.name, .int .i64 x.p1, .int .i64 x.p2, .int .i64 x.q1, .int .i64 x.q2] 53)
  have HV := hid hv
  have HX := hid hx
  have HNL := hid (And.intro hL hname)
  have HP1 := hid hp1
  have HFA := hid (form_all x.op)
  have HPX := hid (show w.heap.size = w.heap.size from rfl)
  clear hp1 hx hv hL hname hc1
  go_enter Tryz.func78, Tryz.ntmps78
  go_upto_region 2 with (go_at_call 72; refine (form_calls _ _).mono ?_; rintro e w2 ⟨rfl, hc2⟩)
  have h2 := HP1.out.same hc2
  have b2 := h2.get (i := 0) rfl
  obtain ⟨F, hF⟩ : ∃ F, formAt x.op = F := ⟨_, rfl⟩
  rw [hF] at HFA ⊢
  have HF := hid hF
  have x1 : w2.cell? ⟨w.heap.size, 1, none⟩ = some (.int .i64 x.a) := blk_cell b2 1
  have x2 : w2.cell? ⟨w.heap.size, 2, none⟩ = some (.int .i64 x.b) := blk_cell b2 2
  have x3 : w2.cell? ⟨w.heap.size, 3, none⟩ = some (.int .i64 x.c) := blk_cell b2 3
  have H2 := hid h2
  clear h2 b2 hc2 hF
  go_upto_region 6 with fail
  have h3 := (((H2.out.box (.cells #[.int .i64 x.a, .int .i64 x.b, .int .i64 x.c] 3)).box (.stringIter (bA F) 0)).nil 9 1)
  rw [show (w2.alloc (.cells #[.int .i64 x.a, .int .i64 x.b, .int .i64 x.c] 3)).heap.size = w2.heap.size + 1 from by simp] at h3
  have H3 := hid h3
  clear h3 x1 x2 x3
  generalize w2.heap.size + 1 = IB at H3 ⊢
  generalize w2.heap.size = PA at H3 ⊢
  generalize w.heap.size = PX at H3 ⊢
  go_loopg [6, 7, 8, 9] F.length (fun gk v6 v7 v8 v9 wr => ∃ (pos : Nat) (rv : Value) (ao : Option Addr) (cap : Nat) (r : Option Nat), v6 = rv ∧ v7 = .slice ao pos cap ∧ v8 = .bool (decide ((110 : UInt8) ∈ F.take pos)) ∧ v9 = .bool (decide ((120 : UInt8) ∈ F.take pos)) ∧ Hid (gk + pos = F.length) ∧
    Hid (RvS PA ((F.take pos).count 114) rv ∧ ∀ j, j < (F.take pos).count 114 → regB (regOf x j) = true) ∧ Hid (Hp [] w wr [.row 9 1 (.slice ao pos cap) r pos ((operL (F.take pos) x).map fun s => Value.string (bA s)), .box IB (.stringIter (bA F) pos), .box PA (.cells #[.int .i64 x.a, .int .i64 x.b, .int .i64 x.c] 3 (0, 0)), .box PX (.cells #[.int .i64 x.op, .int .i64 x.a, .int .i64 x.b, .int .i64 x.c, .int .i64 x.n, .string x.name, .int .i64 x.p1, .int .i64 x.p2, .int .i64 x.q1, .int .i64 x.q2] 53 (0, 0))]))
  case atStart => exact ⟨0, _, none, 0, none, rfl, rfl, by simp, by simp, hid (by omega), hid ⟨⟨fun _ => by simp, fun h => by simp at h⟩, fun j hj => by simp at hj⟩, H3⟩
  case round =>
    obtain ⟨pos, rv, ao, cap, r, hv6, rfl, rfl, rfl, HGK, HI, HR⟩ := hrel
    have hv7 := hv6.symm
    clear hv6
    subst hv7
    have hib : wr.heap[IB]? = some (.stringIter (bA F) pos) := HR.out.get (i := 1) rfl
    by_cases hlt : pos < F.length
    · have hl3 := HFA.out.2.2.1
      have hcc := HFA.out.1 F[pos] (List.getElem_mem _)
      have hnx := fun ty => Lib.run_next_ascii_at (P := Tryz.prog) wr IB (bA F) pos ty hib (by rw [bA_size]; exact hlt) (by
        show F[pos].toNat < 128
        rcases hcc with e | e | e <;> rw [e] <;> decide)
      have hcv : ((bA F)[pos]'(by rw [bA_size]; exact hlt)) = F[pos] := rfl
      rw [hcv] at hnx
      have h2 := HR.out.set (i := 1) rfl (.box IB (.stringIter (bA F) (pos + 1))) (iter_chg wr IB (bA F) (pos + 1)) (fun g hg => by simp only [List.mem_singleton] at hg; subst hg; rfl) (Lib.iterAt_heap _ _ _ _ _ hib) (fun g hg => .inl hg) rfl
      generalize wr.iterAt IB (bA F) (pos + 1) = wn at h2 hnx
      have HN := hid h2
      have hrow : Row wn 9 1 (.slice ao pos cap) r pos ((operL (F.take pos) x).map fun s => Value.string (bA s)) := h2.rowAt (i := 0) rfl
      have hbx := h2.get (i := 3) rfl
      have hba := h2.get (i := 2) rfl
      have HRW := hid hrow
      have HTK := hid (List.take_succ_eq_append_getElem hlt)
      have HOL := hid (operL_succ (x := x) hlt)
      have HSL : Hid (∀ (l : List UInt8) w5 ao5 cap5 r5, operS F[pos] pos x = l → Row w5 9 1 (.slice ao5 (pos + 1) cap5) r5 (pos + 1) (((operL (F.take pos) x).map fun s => Value.string (bA s)) ++ [.string (bA l)]) → Row w5 9 1 (.slice ao5 (pos + 1) cap5) r5 (pos + 1) ((operL (F.take (pos + 1)) x).map fun s => Value.string (bA s))) := hid (fun l w5 ao5 cap5 r5 e h => by
        rw [HOL.out, List.map_append, e]
        exact h)
      clear h2 hib hcv hrow
      have hlp : pos < 3 := by omega
      rcases hcc with hc | hc | hc
      · have hkc : (F.take pos).count 114 = pos := HFA.out.2.2.2 pos (by rw [List.getElem?_eq_getElem hlt, hc])
        have hrv := HI.out.1.1 (by omega)
        rw [hkc] at hrv
        have hp3 : pos = 0 ∨ pos = 1 ∨ pos = 2 := by omega
        have HOS : Hid (operS F[pos] pos x = 114 :: Lib.itoa (regOf x pos)) := hid (by rw [hc]; exact operS_reg pos x)
        have HMM : Hid ((F.take (pos + 1)).count 114 = pos + 1 ∧ (110 ∈ F.take (pos + 1) ↔ 110 ∈ F.take pos) ∧ (120 ∈ F.take (pos + 1) ↔ 120 ∈ F.take pos)) := hid (by rw [HTK.out, hc]; refine ⟨?_, ?_, ?_⟩ <;> simp; exact hkc)
        have HBAD : Hid (regB (regOf x pos) = false → opsOk x = false) := hid (fun hb => by
          rw [← Bool.not_eq_true, opsOk_iff]
          rintro ⟨h1, _⟩
          have h2 := h1 pos hlp
          rw [HF.out, if_pos] at h2
          · rw [hb] at h2; cases h2
          · have h3 : (F.take (pos + 1)).count 114 ≤ F.count 114 := (List.take_sublist _ _).count_le _
            rw [HMM.out.1] at h3
            omega)
        rw [hc] at hnx
        have HHI : Hid (∀ j, j < pos → regB (regOf x j) = true) := hid (fun j hj => HI.out.2 j (by rw [hkc]; exact hj))
        clear hc hbx hkc
        obtain ⟨ps, hps⟩ : ∃ ps, pos = ps := ⟨_, rfl⟩
        have hrv2 := hrv
        rcases hp3 with e | e | e
        · have hrk : regOf x pos = x.a := by rw [e]; rfl
          have hrv3 : rv = .slice (some ⟨PA, 0, none⟩) 3 3 := by rw [hrv, e]
          subst hrv3
          rw [hrk] at HOS HBAD
          have ha : wn.cell? ⟨PA, 0, none⟩ = some (.int .i64 x.a) := blk_cell hba 0
          have HRS : Hid (RvS PA (pos + 1) (.slice (some ⟨PA, 1, none⟩) 2 2)) := hid (by rw [e]; exact ⟨fun h => by first | rfl | (exact absurd h (by decide)), fun h => by first | (exact absurd h (by decide)) | exact ⟨_, rfl⟩⟩)
          have HE := hid e
          clear e hrv hrv2 hrk hps hba
          by_cases hb0 : x.a < 0
          · have HO := hid (HBAD.out (by unfold regB; exact decide_eq_false (by omega)))
            have g1 : decide (x.a < 0) = true := decide_eq_true hb0
            clear hb0
            go_wp2
            go_ret2
            exact .inl ⟨HO.out, rfl, HN.out.chg⟩
          · have g1 : decide (x.a < 0) = false := decide_eq_false hb0
            by_cases hb16 : 16 ≤ x.a
            · have HO := hid (HBAD.out (by unfold regB; exact decide_eq_false (by omega)))
              have g2 : decide (16 ≤ x.a) = true := decide_eq_true hb16
              clear hb0 hb16
              go_wp2
              go_ret2
              exact .inl ⟨HO.out, rfl, HN.out.chg⟩
            · have g2 : decide (16 ≤ x.a) = false := decide_eq_false hb16
              have HIT := hid fun W (hc : Chg [] wn W) => itoaI_calls x.a (by omega) (by omega) W (HV.out.keep (HN.out.chg.trans' hc))
              have hil := itoa_small (n := x.a) (by omega) (by omega)
              have hisz : (bA (Lib.itoa x.a)).size = (Lib.itoa x.a).length := bA_size _
              have hz1 : ¬ (9223372036854775807 < 1 + (Lib.itoa x.a).length) := by omega
              have HGD : Hid (∀ j, j < pos + 1 → regB (regOf x j) = true) := hid (fun j hj => by
                by_cases hj2 : j < pos
                · exact HHI.out j hj2
                · have : j = pos := by omega
                  subst this
                  rw [show regOf x j = x.a from by rw [HE.out]; rfl]
                  unfold regB
                  exact decide_eq_true (by omega))
              clear hb0 hb16 hil
              go_wp2_with (first
                | (go_at_call 28; refine (HIT.out _ (Chg.refl _ _)).mono ?_; rintro e w3 ⟨rfl, hc3⟩)
                | (at_builtin; refine wpList_grew rfl _ _ 75 rfl elem_str rfl ((HRW.out.keep hc3 (by simp)).keep ((Chg.refl [] w3).alloc _) (by simp)) rfl (View.one _ _ _) (by simp [Value.oneCell']) (by unfold maxLen; omega) (by omega) (fun ao5 cap5 r5 w5 hr5 hg5 => halt (fun XX hXX => ?_))))
              have HZ := hid (HN.out.grow 0 rfl (hc3.trans' ((Chg.refl [] w3).alloc _)) (HSL.out _ _ _ _ _ HOS.out (by rw [show bA (114 :: Lib.itoa x.a) = (⟨#[114]⟩ ++ bA (Lib.itoa x.a)) from (bA_app [114] _).symm]; exact hr5)) hg5.chg hg5.fresh rfl)
              clear hr5 hg5 hc3
              rw [hXX.out]; clear hXX XX
              go_wp2_with fail
              go_roundg (gk - 1)
              case measure => have := HGK.out; omega
              case rel => exact ⟨pos + 1, _, _, _, _, rfl, rfl, by rw [decide_eq_decide.2 HMM.out.2.1], by rw [decide_eq_decide.2 HMM.out.2.2], hid (by have := HGK.out; omega), hid ⟨by rw [HMM.out.1]; exact HRS.out, by rw [HMM.out.1]; exact HGD.out⟩, hid HZ.out⟩
        · have hrk : regOf x pos = x.b := by rw [e]; rfl
          have hrv3 : rv = .slice (some ⟨PA, 1, none⟩) 2 2 := by rw [hrv, e]
          subst hrv3
          rw [hrk] at HOS HBAD
          have ha : wn.cell? ⟨PA, 1, none⟩ = some (.int .i64 x.b) := blk_cell hba 1
          have HRS : Hid (RvS PA (pos + 1) (.slice (some ⟨PA, 2, none⟩) 1 1)) := hid (by rw [e]; exact ⟨fun h => by first | rfl | (exact absurd h (by decide)), fun h => by first | (exact absurd h (by decide)) | exact ⟨_, rfl⟩⟩)
          have HE := hid e
          clear e hrv hrv2 hrk hps hba
          by_cases hb0 : x.b < 0
          · have HO := hid (HBAD.out (by unfold regB; exact decide_eq_false (by omega)))
            have g1 : decide (x.b < 0) = true := decide_eq_true hb0
            clear hb0
            go_wp2
            go_ret2
            exact .inl ⟨HO.out, rfl, HN.out.chg⟩
          · have g1 : decide (x.b < 0) = false := decide_eq_false hb0
            by_cases hb16 : 16 ≤ x.b
            · have HO := hid (HBAD.out (by unfold regB; exact decide_eq_false (by omega)))
              have g2 : decide (16 ≤ x.b) = true := decide_eq_true hb16
              clear hb0 hb16
              go_wp2
              go_ret2
              exact .inl ⟨HO.out, rfl, HN.out.chg⟩
            · have g2 : decide (16 ≤ x.b) = false := decide_eq_false hb16
              have HIT := hid fun W (hc : Chg [] wn W) => itoaI_calls x.b (by omega) (by omega) W (HV.out.keep (HN.out.chg.trans' hc))
              have hil := itoa_small (n := x.b) (by omega) (by omega)
              have hisz : (bA (Lib.itoa x.b)).size = (Lib.itoa x.b).length := bA_size _
              have hz1 : ¬ (9223372036854775807 < 1 + (Lib.itoa x.b).length) := by omega
              have HGD : Hid (∀ j, j < pos + 1 → regB (regOf x j) = true) := hid (fun j hj => by
                by_cases hj2 : j < pos
                · exact HHI.out j hj2
                · have : j = pos := by omega
                  subst this
                  rw [show regOf x j = x.b from by rw [HE.out]; rfl]
                  unfold regB
                  exact decide_eq_true (by omega))
              clear hb0 hb16 hil
              go_wp2_with (first
                | (go_at_call 28; refine (HIT.out _ (Chg.refl _ _)).mono ?_; rintro e w3 ⟨rfl, hc3⟩)
                | (at_builtin; refine wpList_grew rfl _ _ 75 rfl elem_str rfl ((HRW.out.keep hc3 (by simp)).keep ((Chg.refl [] w3).alloc _) (by simp)) rfl (View.one _ _ _) (by simp [Value.oneCell']) (by unfold maxLen; omega) (by omega) (fun ao5 cap5 r5 w5 hr5 hg5 => halt (fun XX hXX => ?_))))
              have HZ := hid (HN.out.grow 0 rfl (hc3.trans' ((Chg.refl [] w3).alloc _)) (HSL.out _ _ _ _ _ HOS.out (by rw [show bA (114 :: Lib.itoa x.b) = (⟨#[114]⟩ ++ bA (Lib.itoa x.b)) from (bA_app [114] _).symm]; exact hr5)) hg5.chg hg5.fresh rfl)
              clear hr5 hg5 hc3
              rw [hXX.out]; clear hXX XX
              go_wp2_with fail
              go_roundg (gk - 1)
              case measure => have := HGK.out; omega
              case rel => exact ⟨pos + 1, _, _, _, _, rfl, rfl, by rw [decide_eq_decide.2 HMM.out.2.1], by rw [decide_eq_decide.2 HMM.out.2.2], hid (by have := HGK.out; omega), hid ⟨by rw [HMM.out.1]; exact HRS.out, by rw [HMM.out.1]; exact HGD.out⟩, hid HZ.out⟩
        · have hrk : regOf x pos = x.c := by rw [e]; rfl
          have hrv3 : rv = .slice (some ⟨PA, 2, none⟩) 1 1 := by rw [hrv, e]
          subst hrv3
          rw [hrk] at HOS HBAD
          have ha : wn.cell? ⟨PA, 2, none⟩ = some (.int .i64 x.c) := blk_cell hba 2
          have HRS : Hid (RvS PA (pos + 1) (.slice (some ⟨PA, 2, none⟩) 0 0)) := hid (by rw [e]; exact ⟨fun h => by first | rfl | (exact absurd h (by decide)), fun h => by first | (exact absurd h (by decide)) | exact ⟨_, rfl⟩⟩)
          have HE := hid e
          clear e hrv hrv2 hrk hps hba
          by_cases hb0 : x.c < 0
          · have HO := hid (HBAD.out (by unfold regB; exact decide_eq_false (by omega)))
            have g1 : decide (x.c < 0) = true := decide_eq_true hb0
            clear hb0
            go_wp2
            go_ret2
            exact .inl ⟨HO.out, rfl, HN.out.chg⟩
          · have g1 : decide (x.c < 0) = false := decide_eq_false hb0
            by_cases hb16 : 16 ≤ x.c
            · have HO := hid (HBAD.out (by unfold regB; exact decide_eq_false (by omega)))
              have g2 : decide (16 ≤ x.c) = true := decide_eq_true hb16
              clear hb0 hb16
              go_wp2
              go_ret2
              exact .inl ⟨HO.out, rfl, HN.out.chg⟩
            · have g2 : decide (16 ≤ x.c) = false := decide_eq_false hb16
              have HIT := hid fun W (hc : Chg [] wn W) => itoaI_calls x.c (by omega) (by omega) W (HV.out.keep (HN.out.chg.trans' hc))
              have hil := itoa_small (n := x.c) (by omega) (by omega)
              have hisz : (bA (Lib.itoa x.c)).size = (Lib.itoa x.c).length := bA_size _
              have hz1 : ¬ (9223372036854775807 < 1 + (Lib.itoa x.c).length) := by omega
              have HGD : Hid (∀ j, j < pos + 1 → regB (regOf x j) = true) := hid (fun j hj => by
                by_cases hj2 : j < pos
                · exact HHI.out j hj2
                · have : j = pos := by omega
                  subst this
                  rw [show regOf x j = x.c from by rw [HE.out]; rfl]
                  unfold regB
                  exact decide_eq_true (by omega))
              clear hb0 hb16 hil
              go_wp2_with (first
                | (go_at_call 28; refine (HIT.out _ (Chg.refl _ _)).mono ?_; rintro e w3 ⟨rfl, hc3⟩)
                | (at_builtin; refine wpList_grew rfl _ _ 75 rfl elem_str rfl ((HRW.out.keep hc3 (by simp)).keep ((Chg.refl [] w3).alloc _) (by simp)) rfl (View.one _ _ _) (by simp [Value.oneCell']) (by unfold maxLen; omega) (by omega) (fun ao5 cap5 r5 w5 hr5 hg5 => halt (fun XX hXX => ?_))))
              have HZ := hid (HN.out.grow 0 rfl (hc3.trans' ((Chg.refl [] w3).alloc _)) (HSL.out _ _ _ _ _ HOS.out (by rw [show bA (114 :: Lib.itoa x.c) = (⟨#[114]⟩ ++ bA (Lib.itoa x.c)) from (bA_app [114] _).symm]; exact hr5)) hg5.chg hg5.fresh rfl)
              clear hr5 hg5 hc3
              rw [hXX.out]; clear hXX XX
              go_wp2_with fail
              go_roundg (gk - 1)
              case measure => have := HGK.out; omega
              case rel => exact ⟨pos + 1, _, _, _, _, rfl, rfl, by rw [decide_eq_decide.2 HMM.out.2.1], by rw [decide_eq_decide.2 HMM.out.2.2], hid (by have := HGK.out; omega), hid ⟨by rw [HMM.out.1]; exact HRS.out, by rw [HMM.out.1]; exact HGD.out⟩, hid HZ.out⟩
      · have hn4 : wn.cell? ⟨PX, 4, none⟩ = some (.int .i64 x.n) := blk_cell hbx 4
        have HIT := hid fun W (hc : Chg [] wn W) => itoaI_calls x.n HX.out.n0 HX.out.n1 W (HV.out.keep (HN.out.chg.trans' hc))
        have HOS : Hid (operS F[pos] pos x = Lib.itoa x.n) := hid (by rw [hc]; rfl)
        have HMM : Hid ((F.take (pos + 1)).count 114 = (F.take pos).count 114 ∧ (110 ∈ F.take (pos + 1)) ∧ (120 ∈ F.take (pos + 1) ↔ 120 ∈ F.take pos)) := hid (by rw [HTK.out, hc]; refine ⟨?_, ?_, ?_⟩ <;> simp)
        rw [hc] at hnx
        clear hc hba
        go_wp2_with (first
          | (go_at_call 28; refine (HIT.out _ (Chg.refl _ _)).mono ?_; rintro e w3 ⟨rfl, hc3⟩)
          | (at_builtin; refine wpList_grew rfl _ _ 75 rfl elem_str rfl ((HRW.out.keep hc3 (by simp)).keep ((Chg.refl [] w3).alloc _) (by simp)) rfl (View.one _ _ _) (by simp [Value.oneCell']) (by unfold maxLen; omega) (by omega) (fun ao5 cap5 r5 w5 hr5 hg5 => halt (fun XX hXX => ?_))))
        have HZ := hid (And.intro (HN.out.grow 0 rfl (hc3.trans' ((Chg.refl [] w3).alloc _)) (HSL.out _ _ _ _ _ HOS.out hr5) hg5.chg hg5.fresh rfl) hc3)
        clear hr5 hg5 hc3
        rw [hXX.out]; clear hXX XX
        go_wp2_with fail
        go_roundg (gk - 1)
        case measure => have := HGK.out; omega
        case rel => exact ⟨pos + 1, _, _, _, _, rfl, rfl, by rw [decide_eq_true HMM.out.2.1], by rw [decide_eq_decide.2 HMM.out.2.2], hid (by have := HGK.out; omega), hid ⟨by rw [HMM.out.1]; exact HI.out.1, by rw [HMM.out.1]; exact HI.out.2⟩, hid HZ.out.1⟩
      · have hn5 : wn.cell? ⟨PX, 5, none⟩ = some (.string (bA L)) := by rw [← HNL.out.2]; exact blk_cell hbx 5
        have HOS : Hid (operS F[pos] pos x = L) := hid (by rw [hc, ← HNL.out.1]; rfl)
        have HMM : Hid ((F.take (pos + 1)).count 114 = (F.take pos).count 114 ∧ (120 ∈ F.take (pos + 1)) ∧ (110 ∈ F.take (pos + 1) ↔ 110 ∈ F.take pos)) := hid (by rw [HTK.out, hc]; refine ⟨?_, ?_, ?_⟩ <;> simp)
        rw [hc] at hnx
        clear hc hba
        go_wp2_with (at_builtin; refine wpList_grew rfl _ _ 75 rfl elem_str rfl (HRW.out.keep ((Chg.refl [] wn).alloc _) (by simp)) rfl (View.one _ _ _) (by simp [Value.oneCell']) (by unfold maxLen; omega) (by omega) (fun ao5 cap5 r5 w5 hr5 hg5 => halt (fun XX hXX => ?_)))
        have HZ := hid (HN.out.grow 0 rfl ((Chg.refl [] wn).alloc _) (HSL.out _ _ _ _ _ HOS.out hr5) hg5.chg hg5.fresh rfl)
        clear hr5 hg5
        rw [hXX.out]; clear hXX XX
        go_wp2_with fail
        go_roundg (gk - 1)
        case measure => have := HGK.out; omega
        case rel => exact ⟨pos + 1, _, _, _, _, rfl, rfl, by rw [decide_eq_decide.2 HMM.out.2.2], by rw [decide_eq_true HMM.out.2.1], hid (by have := HGK.out; omega), hid ⟨by rw [HMM.out.1]; exact HI.out.1, by rw [HMM.out.1]; exact HI.out.2⟩, hid HZ.out⟩
    · have hnx := fun ty => Lib.run_next_end_at (P := Tryz.prog) wr IB (bA F) pos ty hib (by rw [bA_size]; exact hlt)
      have hpe : F.length ≤ pos := by omega
      have hpl : pos = F.length := by have := HGK.out; omega
      have htk : F.take pos = F := List.take_of_length_le hpe
      rw [htk] at HI HR ⊢
      have HPL := hid hpl
      have hc3 := HFA.out.2.1
      obtain ⟨k, hk⟩ : ∃ k, F.count 114 = k := ⟨_, rfl⟩
      rw [hk] at HI hc3
      have HK := hid hk
      obtain ⟨o, N, hrv, hkN, hoN⟩ : ∃ o N, rv = .slice (some ⟨PA, o, none⟩) N N ∧ k + N = 3 ∧ (0 < N → o = k) := by
        by_cases h : k < 3
        · exact ⟨k, 3 - k, HI.out.1.1 h, by omega, fun _ => rfl⟩
        · obtain ⟨o, ho⟩ := HI.out.1.2 (by omega)
          exact ⟨o, 0, ho, by omega, fun h => by omega⟩
      subst hrv
      have hba := HR.out.get (i := 2) rfl
      have hbx := HR.out.get (i := 3) rfl
      have HCL : Hid (∀ j, j < 3 → wr.cell? ⟨PA, j, none⟩ = some (.int .i64 (regOf x j))) := hid (fun j hj => by
        have : j = 0 ∨ j = 1 ∨ j = 2 := by omega
        rcases this with rfl | rfl | rfl
        · exact blk_cell hba 0
        · exact blk_cell hba 1
        · exact blk_cell hba 2)
      have hn4 : wr.cell? ⟨PX, 4, none⟩ = some (.int .i64 x.n) := blk_cell hbx 4
      have hn5 : wr.cell? ⟨PX, 5, none⟩ = some (.string (bA L)) := by rw [← HNL.out.2]; exact blk_cell hbx 5
      have HVW : Hid (View wr 1 (.slice ao F.length cap) F.length ((operL F x).map fun s => Value.string (bA s))) := hid (by
        have h := (HR.out.rowAt (i := 0) rfl).view
        rw [hpl] at h
        exact h)
      have HNM := hid fun W (hc : Chg [] wr W) => name_calls L (by have := HX.out.nm; rw [HNL.out.2, bA_size] at this; exact this) W (HV.out.keep (HR.out.chg.trans' hc))
      have hCW := HR.out.chg
      have HCW := hid hCW
      obtain ⟨nb, hnb⟩ : ∃ nb, decide ((110 : UInt8) ∈ F) = nb := ⟨_, rfl⟩
      obtain ⟨nm, hnm⟩ : ∃ nm, decide ((120 : UInt8) ∈ F) = nm := ⟨_, rfl⟩
      rw [hnb, hnm]
      have HNB := hid (And.intro hnb hnm)
      clear hba hbx hib htk hpe hk hnb hnm hCW hpl hlt
      go_upto_region 20 with fail
      go_wp2_with fail
      go_loopw [72] (fun vi wx => ∃ i : Nat, i ≤ N ∧ vi = .int .i64 i ∧ wx = wr ∧ Hid (∀ j, j < i → regOf x (k + j) = 0)) (fun vi _ => N - (intOf vi).toNat)
      case atStart => exact ⟨0, by omega, rfl, rfl, hid (fun j hj => by omega)⟩
      case round =>
        obtain ⟨i, hi, rfl, hw, HZ⟩ := hrel
        subst hw
        by_cases hin : i < N
        · have ho := hoN (by omega)
          subst ho
          have hcl := HCL.out (o + i) (by omega)
          obtain ⟨rg, hrg⟩ : ∃ rg, regOf x (o + i) = rg := ⟨_, rfl⟩
          rw [hrg] at hcl
          by_cases hz : rg = 0
          · have hz0 : (rg == 0) = true := by simp [hz]
            have HZ2 : Hid (∀ j, j < i + 1 → regOf x (o + j) = 0) := hid (fun j hj => by
              by_cases e : j = i
              · subst e; rw [hrg, hz]
              · exact HZ.out j (by omega))
            clear hrg hz
            go_wp2
            go_roundw
            case rel => exact ⟨i + 1, by omega, by go_num, by trivial, HZ2⟩
            case measure => simp [intOf]; omega
          · have hz0 : (rg == 0) = false := by simp [hz]
            have HO : Hid (opsOk x = false) := hid (by
              rw [← Bool.not_eq_true, opsOk_iff]
              rintro ⟨h1, _⟩
              have h2 := h1 (o + i) (by omega)
              rw [HF.out, if_neg (by rw [HK.out]; omega)] at h2
              exact hz (hrg.symm.trans h2))
            clear hrg hz
            go_wp2
            go_ret2
            exact .inl ⟨HO.out, rfl, HCW.out⟩
        · have hiN : i = N := by omega
          subst hiN
          have HALL : Hid (∀ j, j < 3 → if j < F.count 114 then regB (regOf x j) = true else regOf x j = 0) := hid (fun j hj => by
            rw [HK.out]
            by_cases h : j < k
            · rw [if_pos h]; exact HI.out.2 j h
            · rw [if_neg h]
              have h2 := HZ.out (j - k) (by omega)
              rwa [show k + (j - k) = j from by omega] at h2)
          have HOK : Hid (opsOk x = true ↔ (110 ∈ F ∨ x.n = 0) ∧ (if 120 ∈ F then nameP L = true else L.length = 0)) := hid (by
            rw [opsOk_iff, HF.out, HNL.out.1]
            have hsz : x.name.size = L.length := by rw [HNL.out.2, bA_size]
            rw [hsz]
            exact ⟨fun h => h.2, fun h => ⟨HALL.out, h⟩⟩)
          have hlen : (bA L).size = L.length := bA_size L
          clear hin
          by_cases hA : nb = false ∧ x.n ≠ 0
          · obtain ⟨rfl, hn0⟩ := hA
            have g1 : (x.n == 0) = false := by simp [hn0]
            have HO : Hid (opsOk x = false) := hid (by
              rw [← Bool.not_eq_true, HOK.out]
              rintro ⟨h1 | h1, _⟩
              · have := HNB.out.1; rw [decide_eq_true h1] at this; cases this
              · exact hn0 h1)
            go_wp2
            go_ret2
            exact .inl ⟨HO.out, rfl, HCW.out⟩
          · have HA : Hid (110 ∈ F ∨ x.n = 0) := hid (by
              by_cases h : x.n = 0
              · exact .inr h
              · left
                have h2 : nb = true := by cases nb; exact absurd ⟨rfl, h⟩ hA; rfl
                exact of_decide_eq_true (HNB.out.1.trans h2))
            have hB : nb = true ∨ (nb = false ∧ x.n = 0) := by
              cases nb with
              | true => exact .inl rfl
              | false => exact .inr ⟨rfl, Decidable.byContradiction fun h => hA ⟨rfl, h⟩⟩
            clear hA
            cases nm with
            | true =>
              have h120 : 120 ∈ F := of_decide_eq_true HNB.out.2
              cases hN : nameP L with
              | true =>
                rw [hN] at HNM
                have HO : Hid (opsOk x = true) := hid (HOK.out.2 ⟨HA.out, by rw [if_pos h120]; exact hN⟩)
                clear hN h120
                rcases hB with rfl | ⟨rfl, g1⟩
                all_goals
                  go_wp2_with (go_at_call 50; refine (HNM.out _ (Chg.refl _ _)).mono ?_; rintro e w7 ⟨rfl, hc7⟩)
                  go_ret2
                  refine .inr ⟨HO.out, ao, cap, ?_, ?_, HCW.out.trans' hc7⟩
                  · rw [HF.out, ← HPL.out]; rfl
                  · rw [HF.out]; exact HVW.out.keep hc7 (by simp)
              | false =>
                rw [hN] at HNM
                have HO : Hid (opsOk x = false) := hid (by
                  rw [← Bool.not_eq_true, HOK.out]
                  rintro ⟨_, h1⟩
                  rw [if_pos h120, hN] at h1
                  cases h1)
                clear hN h120
                rcases hB with rfl | ⟨rfl, g1⟩
                all_goals
                  go_wp2_with (go_at_call 50; refine (HNM.out _ (Chg.refl _ _)).mono ?_; rintro e w7 ⟨rfl, hc7⟩)
                  go_ret2
                  exact .inl ⟨HO.out, rfl, HCW.out.trans' hc7⟩
            | false =>
              have h120 : ¬ 120 ∈ F := of_decide_eq_false HNB.out.2
              by_cases hle : L = []
              · have he : (bA L).toList.isEmpty = true := by rw [bA_toList, hle]; rfl
                have HO : Hid (opsOk x = true) := hid (HOK.out.2 ⟨HA.out, by rw [if_neg h120, hle]; rfl⟩)
                clear h120 hle
                rcases hB with rfl | ⟨rfl, g1⟩
                all_goals
                  go_wp2
                  go_ret2
                  refine .inr ⟨HO.out, ao, cap, ?_, ?_, HCW.out⟩
                  · rw [HF.out, ← HPL.out]; rfl
                  · rw [HF.out]; exact HVW.out
              · have he : (bA L).toList.isEmpty = false := bA_emp hle
                have HO : Hid (opsOk x = false) := hid (by
                  rw [← Bool.not_eq_true, HOK.out]
                  rintro ⟨_, h1⟩
                  rw [if_neg h120] at h1
                  exact hle (List.eq_nil_of_length_eq_zero h1))
                clear h120 hle
                rcases hB with rfl | ⟨rfl, g1⟩
                all_goals
                  go_wp2
                  go_ret2
                  exact .inl ⟨HO.out, rfl, HCW.out⟩
end Go.Proofs.YtmahcabidggmeaaGreatDoor
