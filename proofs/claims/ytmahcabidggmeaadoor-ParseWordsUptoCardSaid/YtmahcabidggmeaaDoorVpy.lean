/- The law ParseAgain: its walk. -/
import Derived.Test.YtmahcabidggmeaaDoorVpx
set_option linter.unusedVariables false
set_option linter.unusedSectionVars false
set_option linter.unusedSimpArgs false
namespace Go.AB
open Go.RowKit
/-- A fault has a number. -/
def ErrN {α : Type} (x : Except Flt α) : Prop := ∀ f, x = .error f → f.code ≠ 0
theorem err_at (c : Int) (h : c ≠ 0) (t : Tok) : (fltAt c t).code ≠ 0 := h
theorem takeK_err (k : Nat) (ts : List Tok) : ErrN (takeK k ts) := by
  intro f hf
  unfold takeK at hf
  split at hf
  · cases hf; decide
  · split at hf <;> cases hf
    exact err_at 82 (by decide) _
theorem nameT_err (ts : List Tok) : ErrN (nameT ts) := by
  intro f hf
  unfold nameT at hf
  split at hf
  · cases hf; decide
  · split at hf
    · cases hf; exact err_at 82 (by decide) _
    · split at hf <;> cases hf
      exact err_at 84 (by decide) _
theorem labels_err : ∀ (n : Nat) {ts : List Tok} {bs : List BkD} {any : Bool}, ts.length ≤ n → ErrN (labelsD ts bs any)
  | n, [], bs, any, hn => fun f hf => by cases hf
  | n, [t], bs, any, hn => fun f hf => by cases hf
  | n, t :: c :: q, bs, any, hn => fun f hf => by
    unfold labelsD at hf
    split at hf
    · split at hf
      · cases hf; exact err_at 81 (by decide) _
      · split at hf
        · cases hf; exact err_at 84 (by decide) _
        · match n, hn with
          | n + 1, hn => exact labels_err n (by simp only [List.length_cons] at hn; omega) f hf
    · cases hf
theorem oper_err (c : UInt8) (k : Nat) (ts : List Tok) (x : ItD) : ErrN (operD c k ts x) := by
  intro f hf
  unfold operD at hf
  split at hf
  · split at hf
    · cases hf; decide
    · split at hf <;> cases hf
      exact err_at 82 (by decide) _
  · split at hf
    · split at hf
      · rename_i e; cases hf; exact takeK_err _ _ _ e
      · cases hf
    · split at hf
      · rename_i e; cases hf; exact nameT_err _ _ e
      · cases hf
theorem opers_err : ∀ (f : List UInt8) (first : Bool) (k : Nat) (ts : List Tok) (x : ItD), ErrN (opersD f first k ts x)
  | [], _, _, ts, x => fun f hf => by cases hf
  | c :: f, first, k, ts, x => fun g hg => by
    unfold opersD at hg
    split at hg
    · rename_i e
      cases hg
      split at e
      · cases e
      · cases e2 : takeK 3 ts with
        | error f2 => rw [e2] at e; cases e; exact takeK_err _ _ _ e2
        | ok p => rw [e2] at e; cases e
    · split at hg
      · rename_i e; cases hg; exact oper_err _ _ _ _ _ e
      · exact opers_err f false _ _ _ g hg
theorem instr_err (op : Nat) (ts : List Tok) (bs : List BkD) : ErrN (instrD op ts bs) := by
  intro f hf
  unfold instrD at hf
  split at hf
  · cases hf; decide
  · split at hf
    · cases hf; exact err_at 81 (by decide) _
    · split at hf
      · rename_i e; cases hf; exact opers_err _ _ _ _ _ _ e
      · cases hf
theorem value_err (kind : Nat) (ts : List Tok) : ErrN (valueD kind ts) := by
  intro f hf
  unfold valueD at hf
  split at hf
  · split at hf
    · rename_i e; cases hf; exact takeK_err _ _ _ e
    · split at hf
      · rename_i e; cases hf; exact takeK_err _ _ _ e
      · cases hf
  · cases hf
theorem declG_err (kind : Nat) : ∀ (fuel : Nat) (ts : List Tok) (ds : List DcD), ErrN (declG kind fuel ts ds)
  | 0, ts, ds => fun f hf => by cases hf
  | fuel + 1, ts, ds => fun f hf => by
    unfold declG at hf
    split at hf
    · rename_i e; cases hf; exact nameT_err _ _ e
    · split at hf
      · rename_i e; cases hf; exact value_err _ _ _ e
      · split at hf
        · split at hf
          · exact declG_err kind fuel _ _ f hf
          · cases hf
        · cases hf
theorem end_err {α : Type} (ts : List Tok) (a : α) : ErrN (endD ts a) := by
  intro f hf
  unfold endD at hf
  split at hf
  · cases hf; decide
  · split at hf <;> cases hf
    exact err_at 83 (by decide) _
theorem line_err (ts : List Tok) (u : UnD) : ErrN (lineD ts u) := by
  intro f hf
  unfold lineD at hf
  split at hf
  · rename_i e; cases hf; exact labels_err _ (Nat.le_refl _) _ e
  · cases hf; decide
  · split at hf
    · cases hf
    · split at hf
      · split at hf
        · rename_i e; cases hf; exact instr_err _ _ _ _ e
        · exact end_err _ _ f hf
      · split at hf
        · cases hf; exact err_at 80 (by decide) _
        · split at hf
          · split at hf
            · rename_i e; cases hf; exact nameT_err _ _ e
            · exact end_err _ _ f hf
          · split at hf
            · rename_i e; cases hf; exact declG_err _ _ _ _ _ e
            · exact end_err _ _ f hf
theorem lines_err : ∀ (fuel : Nat) (ts : List Tok) (u : UnD), ErrN (linesD fuel ts u)
  | 0, ts, u => fun f hf => by cases hf
  | fuel + 1, ts, u => fun f hf => by
    unfold linesD at hf
    split at hf
    · rename_i e; cases hf; exact line_err _ _ _ e
    · split at hf
      · exact lines_err fuel _ _ f hf
      · cases hf
    · cases hf
theorem source_err {L : List UInt8} {f : Flt} (h : sourceD L = .error f) : f.code ≠ 0 := by
  by_cases hz : (scanD L 1 1).2.1 = 0
  · rw [source_ok hz] at h
    exact lines_err _ _ _ f h
  · rw [source_bad hz] at h
    cases h
    show ((_ : Nat) : Int) ≠ 0
    omega
end Go.AB
namespace Go.Proofs.YtmahcabidggmeaaDoor
open Go.RowKit Go.AB
set_option linter.unusedSimpArgs false
set_option linter.unusedVariables false
set_option linter.unusedSectionVars false

theorem prn_err {w w' : World} {k : Nat} {e : Ending} (h : PrnP w (.error k) e w') : e = .returned (.tuple #[.string ⟨#[]⟩, .int .i64 k]) ∧ Chg [] w w' := by
  rcases h with ⟨k2, hk, h1, h2⟩ | ⟨s, hs, _⟩
  · cases hk
    exact ⟨h1, h2⟩
  · cases hs
theorem prn_ok {w w' : World} {s : List UInt8} {e : Ending} (h : PrnP w (.ok s) e w') : e = .returned (.tuple #[.string (bA s), .int .i64 0]) ∧ Chg [] w w' := by
  rcases h with ⟨k2, hk, _⟩ | ⟨s2, hs, _, h1, h2⟩
  · cases hk
  · cases hs
    exact ⟨h1, h2⟩
/-- A unit and a fault, each in a box of its own. -/
structure UF (w : World) (P : Nat) (a b : Value) (x y z : Int) : Prop where
  u : w.heap[P]? = some (.cells #[a, b] 32 (0, 0))
  f : w.heap[P + 1]? = some (.cells #[.int .i64 x, .int .i64 y, .int .i64 z] 40 (0, 0))
theorem UF.mk' (w : World) (a b : Value) (x y z : Int) : UF ((w.alloc (.cells #[a, b] 32)).alloc (.cells #[.int .i64 x, .int .i64 y, .int .i64 z] 40)) w.heap.size a b x y z := by
  refine ⟨blk_alloc_old (heap_alloc_new w _) _, ?_⟩
  have h := heap_alloc_new (w.alloc (.cells #[a, b] 32)) (.cells #[.int .i64 x, .int .i64 y, .int .i64 z] 40)
  simpa only [World.size_alloc] using h
theorem UF.keep {w w' : World} {P : Nat} {a b : Value} {x y z : Int} (h : UF w P a b x y z) (hc : Chg [] w w') : UF w' P a b x y z := ⟨hc.heap h.u (by simp), hc.heap h.f (by simp)⟩
theorem uf_chg (w : World) (a b : Value) (x y z : Int) : Chg [] w ((w.alloc (.cells #[a, b] 32)).alloc (.cells #[.int .i64 x, .int .i64 y, .int .i64 z] 40)) := ((Chg.refl [] w).alloc _).alloc _

set_option maxHeartbeats 16000000 in
set_option maxRecDepth 100000 in
theorem again_walk (L : List UInt8) (hL : L.length ≤ 1048576) (w : World) (hv : VarsP w) : Calls Tryd.prog 5 #[.string (bA L)] w fun e w' => e = .returned (.bool true) ∧ Chg [] w w' := by
  have HV := hid hv
  clear hv
  go_enter Tryd.func5, Tryd.ntmps5
  go_wp2_with (go_at_call 16; refine (lives_calls _ HV.out).mono ?_; rintro e w1 ⟨rfl, hc1⟩; refine halt (fun XX hXX => ?_))
  have HC1 := hid hc1
  clear hc1
  rw [hXX.out]; clear hXX XX
  cases hd : sourceD L with
  | error f =>
    have hf := source_err hd
    go_wp2_with (go_at_call 19; refine (unit_calls L hL _ (HV.out.keep HC1.out)).mono ?_; rw [hd]; rintro e w2 ⟨rfl, hc2⟩; refine halt (fun XX hXX => ?_))
    have HC2 := hid (HC1.out.trans' hc2)
    clear hc2
    rw [hXX.out]; clear hXX XX
    obtain ⟨fc, fl, fk⟩ := f
    simp only at hf
    go_upto_region 4 with fail
    have HU := hid (UF.mk' w2 (.slice none 0 0) (.slice none 0 0) fc fl fk)
    have HC3 := hid (HC2.out.trans' (uf_chg w2 (.slice none 0 0) (.slice none 0 0) fc fl fk))
    obtain ⟨w3, hw3⟩ : ∃ w3, (w2.alloc (.cells #[.slice none 0 0, .slice none 0 0] 32)).alloc (.cells #[.int .i64 fc, .int .i64 fl, .int .i64 fk] 40) = w3 := ⟨_, rfl⟩
    obtain ⟨P, hP⟩ : ∃ P, w2.heap.size = P := ⟨_, rfl⟩
    rw [hP, hw3] at HU
    rw [hw3] at HC3 ⊢
    rw [hP]
    have a0 : w3.cell? ⟨P + 1, 0, none⟩ = some (.int .i64 fc) := blk_cell HU.out.f 0
    have a1 : w3.cell? ⟨P + 1, 1, none⟩ = some (.int .i64 fl) := blk_cell HU.out.f 1
    have a2 : w3.cell? ⟨P + 1, 2, none⟩ = some (.int .i64 fk) := blk_cell HU.out.f 2
    have b0 : w3.cell? ⟨P, 0, none⟩ = some (.slice none 0 0) := blk_cell HU.out.u 0
    have b1 : w3.cell? ⟨P, 1, none⟩ = some (.slice none 0 0) := blk_cell HU.out.u 1
    have hd1 : decide (fc = 0) = false := decide_eq_false hf
    have hd2 : (fc == 0) = false := by simpa using hf
    clear hw3 hP
    go_wp2
    go_ret
    exact ⟨rfl, HC3.out⟩
  | ok u =>
    obtain ⟨hu1, hu2, hu3⟩ := source_unit hL hd
    have HA := hid (read_again hL hd)
    have HU3 := hid hu3
    clear hu1 hu2 hu3
    go_wp2_with (go_at_call 19; refine (unit_calls L hL _ (HV.out.keep HC1.out)).mono ?_; rw [hd]; rintro e w2 ⟨v, rfl, hu⟩; refine halt (fun XX hXX => ?_))
    have hc2 : Chg [] w1 w2 := by obtain ⟨q, _, _, hp⟩ := hu; exact hp.chg
    have hvu := hu.unV
    obtain ⟨va, vb, bs, rfl, hda, hbb, _, _⟩ := id hvu
    obtain ⟨ad, cd, rfl, _⟩ := hda.len
    obtain ⟨ab, cb, rfl, _⟩ := hbb.len
    obtain ⟨D, hD⟩ : ∃ D, u.decls.length = D := ⟨_, rfl⟩
    obtain ⟨M, hM⟩ : ∃ M, bs.length = M := ⟨_, rfl⟩
    rw [hD, hM] at hvu hXX
    have HC2 := hid (HC1.out.trans' hc2)
    have HVU := hid hvu
    clear hu hc2 hvu hda hbb hD hM
    rw [hXX.out]; clear hXX XX
    go_upto_region 4 with fail
    have HB := hid (UF.mk' w2 (.slice ad D cd) (.slice ab M cb) 0 0 0)
    have HK3 := hid (uf_chg w2 (.slice ad D cd) (.slice ab M cb) 0 0 0)
    obtain ⟨w3, hw3⟩ : ∃ w3, (w2.alloc (.cells #[.slice ad D cd, .slice ab M cb] 32)).alloc (.cells #[.int .i64 0, .int .i64 0, .int .i64 0] 40) = w3 := ⟨_, rfl⟩
    obtain ⟨P, hP⟩ : ∃ P, w2.heap.size = P := ⟨_, rfl⟩
    rw [hP, hw3] at HB
    rw [hw3] at HK3 ⊢
    rw [hP]
    have HC3 := hid (HC2.out.trans' HK3.out)
    have HV3 := hid (HVU.out.keep HK3.out)
    have a0 : w3.cell? ⟨P + 1, 0, none⟩ = some (.int .i64 0) := blk_cell HB.out.f 0
    have a1 : w3.cell? ⟨P + 1, 1, none⟩ = some (.int .i64 0) := blk_cell HB.out.f 1
    have a2 : w3.cell? ⟨P + 1, 2, none⟩ = some (.int .i64 0) := blk_cell HB.out.f 2
    have b0 : w3.cell? ⟨P, 0, none⟩ = some (.slice ad D cd) := blk_cell HB.out.u 0
    have b1 : w3.cell? ⟨P, 1, none⟩ = some (.slice ab M cb) := blk_cell HB.out.u 1
    clear hw3 hP HVU HK3
    have HPR := hid (print_calls u HU3.out w3 HV3.out (HV.out.keep HC3.out))
    rcases HA.out with ⟨hl, hp⟩ | ⟨hl, hp, v, hs, hsame⟩
    · rw [hp] at HPR
      go_wp2_with (go_at_call 17; refine HPR.out.mono ?_; rintro e w4 hP4; obtain ⟨rfl, hc4⟩ := prn_err hP4; refine halt (fun XX hXX => ?_))
      clear hP4
      have HC4 := hid (HC3.out.trans' hc4)
      rw [hXX.out]; clear hXX XX
      go_wp2
      go_ret
      exact ⟨rfl, HC4.out⟩
    · rw [hp] at HPR
      go_wp2_with (go_at_call 17; refine HPR.out.mono ?_; rintro e w4 hP4; obtain ⟨rfl, hc4⟩ := prn_ok hP4; refine halt (fun XX hXX => ?_))
      clear hP4
      have HC4 := hid (HC3.out.trans' hc4)
      have HB4 := hid (HB.out.keep hc4)
      have HV4 := hid (HV3.out.keep hc4)
      have HUC := hid (unit_calls (textS u) hl w4 (HV.out.keep HC4.out))
      rw [hs] at HUC
      clear hc4 a0 a1 a2 b0 b1
      rw [hXX.out]; clear hXX XX
      go_wp2_with (go_at_call 19; refine HUC.out.mono ?_; rintro e w5 ⟨v5, rfl, hu⟩; refine halt (fun XX hXX => ?_))
      have hc5 : Chg [] w4 w5 := by obtain ⟨q, _, _, hp⟩ := hu; exact hp.chg
      have hvu := hu.unV
      obtain ⟨va5, vb5, bs5, rfl, hda, hbb, _, _⟩ := id hvu
      obtain ⟨ad5, cd5, rfl, _⟩ := hda.len
      obtain ⟨ab5, cb5, rfl, _⟩ := hbb.len
      obtain ⟨D5, hD⟩ : ∃ D, v.decls.length = D := ⟨_, rfl⟩
      obtain ⟨M5, hM⟩ : ∃ M, bs5.length = M := ⟨_, rfl⟩
      rw [hD, hM] at hvu hXX
      have HC5 := hid (HC4.out.trans' hc5)
      have HB5 := hid (HB4.out.keep hc5)
      have HV5 := hid (HV4.out.keep hc5)
      have HVU := hid hvu
      clear hu hc5 hvu hda hbb hD hM
      rw [hXX.out]; clear hXX XX
      go_upto_region 10 with fail
      have HD := hid (UF.mk' w5 (.slice ad5 D5 cd5) (.slice ab5 M5 cb5) 0 0 0)
      have HK6 := hid (uf_chg w5 (.slice ad5 D5 cd5) (.slice ab5 M5 cb5) 0 0 0)
      obtain ⟨w6, hw6⟩ : ∃ w6, (w5.alloc (.cells #[.slice ad5 D5 cd5, .slice ab5 M5 cb5] 32)).alloc (.cells #[.int .i64 0, .int .i64 0, .int .i64 0] 40) = w6 := ⟨_, rfl⟩
      obtain ⟨P5, hP⟩ : ∃ P, w5.heap.size = P := ⟨_, rfl⟩
      rw [hP, hw6] at HD
      rw [hw6] at HK6 ⊢
      rw [hP]
      have HC6 := hid (HC5.out.trans' HK6.out)
      have HB6 := hid (HB5.out.keep HK6.out)
      have HV6 := hid (HV5.out.keep HK6.out)
      have HVU6 := hid (HVU.out.keep HK6.out)
      have HS := hid fun W (hc : Chg [] w6 W) => same_calls false hsame HU3.out W (HV6.out.keep hc) (HVU6.out.keep hc)
      have a0 : w6.cell? ⟨P5 + 1, 0, none⟩ = some (.int .i64 0) := blk_cell HD.out.f 0
      have a1 : w6.cell? ⟨P5 + 1, 1, none⟩ = some (.int .i64 0) := blk_cell HD.out.f 1
      have a2 : w6.cell? ⟨P5 + 1, 2, none⟩ = some (.int .i64 0) := blk_cell HD.out.f 2
      have b0 : w6.cell? ⟨P, 0, none⟩ = some (.slice ad D cd) := blk_cell HB6.out.u 0
      have b1 : w6.cell? ⟨P, 1, none⟩ = some (.slice ab M cb) := blk_cell HB6.out.u 1
      have d0 : w6.cell? ⟨P5, 0, none⟩ = some (.slice ad5 D5 cd5) := blk_cell HD.out.u 0
      have d1 : w6.cell? ⟨P5, 1, none⟩ = some (.slice ab5 M5 cb5) := blk_cell HD.out.u 1
      clear hw6 hP HUC HPR HV5 HV4 HB5 HB4 HVU HK6
      go_wp2_with (go_at_call 20; refine (HS.out _ (Chg.refl _ _)).mono ?_; rintro e w7 ⟨rfl, hc7⟩)
      go_ret
      exact ⟨rfl, HC6.out.trans' hc7⟩
end Go.Proofs.YtmahcabidggmeaaDoor
