/- What is read may be printed: its sizes; the law's own test (lives). -/
import Derived.Test.YtmahcabidggmeaaGreatDoorVpu
import Derived.Test.YtmahcabidggmeaaGreatDoorPk4
set_option linter.unusedVariables false
set_option linter.unusedSectionVars false
set_option linter.unusedSimpArgs false
namespace Go.AB
open Go.RowKit
theorem num_at64 {d : List UInt8} {v : Int} {n : Nat} (h : numAt d = some (v, n)) : Num64 v := by
  unfold numAt at h
  split at h
  · split at h
    · rename_i hx
      simp only [Option.some.injEq, Prod.mk.injEq] at h
      obtain ⟨rfl, _⟩ := h
      have h1 := hexNat_lt ((d.drop 2).take (runLen isHex (d.drop 2))) (by rw [List.length_take]; omega)
      unfold asI64
      constructor <;> split <;> omega
    · cases h
  · split at h
    · split at h
      · simp only [Option.some.injEq, Prod.mk.injEq] at h
        obtain ⟨rfl, _⟩ := h
        constructor <;> omega
      · cases h
    · split at h
      · simp only [Option.some.injEq, Prod.mk.injEq] at h
        obtain ⟨rfl, _⟩ := h
        constructor <;> omega
      · cases h
theorem tok_num {d : List UInt8} {k : Nat} {t : List UInt8} {v : Int} {n : Nat} (h : act1 d = .tok k t v n) : Num64 v := by
  cases d with
  | nil =>
    have h1 : act1 [] = .tok 7 [] 0 0 := rfl
    rw [h1] at h
    cases h
    exact num64_0
  | cons c r =>
    obtain ⟨_, _, h3⟩ := act1_tokAt h
    unfold tokAt at h3
    simp only at h3
    split at h3
    · simp only [Prod.mk.injEq] at h3
      obtain ⟨_, _, _, rfl, _⟩ := h3
      exact num64_0
    · split at h3
      · split at h3
        · simp at h3
        · rename_i v2 n2 hn
          simp only [Prod.mk.injEq] at h3
          obtain ⟨_, _, _, rfl, _⟩ := h3
          exact num_at64 (numTok_some hn).1
      · repeat' split at h3
        all_goals (simp at h3; try (obtain ⟨_, _, rfl, _⟩ := h3; exact num64_0))
theorem lexed_num {d : List UInt8} {p : Nat × Nat} {ts : List Tok} (h : Lexed d p ts) : TokN ts := by
  induction h with
  | stop p => exact fun t ht => by rw [List.mem_singleton] at ht; subst ht; exact num64_0
  | pass _ _ ih => exact ih
  | tok h hk _ ih =>
    intro t ht
    rcases List.mem_cons.1 ht with rfl | ht
    · exact tok_num h
    · exact ih t ht
theorem name_size {s : ByteArray} (h : nameP s.data.toList = true) : s.size ≤ 24 := by
  have := name_short h
  rw [data_len] at this
  exact this
theorem item_name {x : ItD} (h : itemOk x = true) : x.name.size ≤ 24 := by
  unfold itemOk at h
  simp only [Bool.and_eq_true] at h
  have h2 := h.2
  generalize (if x.op = 0 then [120] else formAt x.op) = F at h2
  split at h2
  · exact name_size h2
  · have := of_decide_eq_true h2
    omega
theorem item_regs {x : ItD} (h : itemOk x = true) : (0 ≤ x.a ∧ x.a < 16) ∧ (0 ≤ x.b ∧ x.b < 16) ∧ (0 ≤ x.c ∧ x.c < 16) := by
  unfold itemOk at h
  simp only [Bool.and_eq_true] at h
  obtain ⟨⟨⟨⟨⟨_, h1⟩, h2⟩, h3⟩, _⟩, _⟩ := h
  generalize (if x.op = 0 then [120] else formAt x.op) = F at h1 h2 h3
  refine ⟨?_, ?_, ?_⟩
  · split at h1
    · exact of_decide_eq_true h1
    · have := of_decide_eq_true h1; omega
  · split at h2
    · exact of_decide_eq_true h2
    · have := of_decide_eq_true h2; omega
  · split at h3
    · exact of_decide_eq_true h3
    · have := of_decide_eq_true h3; omega
theorem item_small {x : ItD} (h : itemOk x = true) (hn : Num64 x.n) : SmallI x := by
  obtain ⟨h1, h2, h3⟩ := item_regs h
  refine ⟨by have := item_name h; omega, hn.1, hn.2, fun k hk => ?_⟩
  unfold regOf
  constructor <;> (repeat' split) <;> omega
/-- A unit that may be printed, of few lines, is small. -/
theorem small_unit {u : UnD} (h : unitOk u = true) (hw : UnW u) (hn : u.decls.length + bsz u.blocks ≤ 1048577) : SmallN u := by
  unfold unitOk at h
  simp only [Bool.and_eq_true, List.all_eq_true] at h
  obtain ⟨h1, h2⟩ := bsz_len u.blocks
  refine ⟨by omega, by omega, fun b hb => by have := h2 b hb; omega, fun d hd => ?_, fun b hb => ?_, fun b hb x hx => ?_⟩
  · have hk := h.1 d hd
    unfold declOk at hk
    simp only [Bool.and_eq_true] at hk
    exact ⟨by have := name_size hk.1.2; omega, hw.d d hd⟩
  · have hk := h.2 b hb
    unfold blockOk at hk
    simp only [Bool.and_eq_true] at hk
    have := name_size hk.1
    omega
  · have hk := h.2 b hb
    unfold blockOk at hk
    simp only [Bool.and_eq_true, List.all_eq_true] at hk
    exact item_small (hk.2 x hx) (hw.i b hb x hx)
/-- What is read. -/
theorem source_unit {L : List UInt8} {u : UnD} (hL : L.length ≤ 1048576) (h : sourceD L = .ok u) : unitOk u = true ∧ UnW u ∧ SmallN u := by
  by_cases hz : (scanD L 1 1).2.1 = 0
  · rw [source_ok hz] at h
    have hlx := lexed_of_scan (L.length + 1) L (1, 1) (by omega) hz
    have hll := scanD_len L 1 1
    have h1 := unitT_ok (lexed_shape hlx) h
    have h2 := unitT_w (lexed_num hlx) h
    have h3 : u.decls.length + bsz u.blocks ≤ (scanD L 1 1).1.length := h2.2
    exact ⟨h1, h2.1, small_unit h1 h2.1 (by omega)⟩
  · rw [source_bad hz] at h
    cases h
def liveT : List UInt8 := [118, 97, 114, 32, 120, 10, 116, 104, 114, 101, 97, 100, 32, 116, 10, 108, 58, 32, 122, 101, 114, 111, 32, 114, 48, 44, 108, 32, 59, 32, 97, 119, 97, 121, 10, 101, 120, 105, 116]
def liveG : List UInt8 := [116, 104, 114, 101, 97, 100, 32, 116, 10, 97, 100, 100, 32, 114, 49, 44, 32, 114, 50]
def liveS : List UInt8 := [118, 97, 114, 32, 120, 32, 61, 32, 48, 10, 116, 104, 114, 101, 97, 100, 32, 116, 10, 108, 58, 10, 32, 32, 122, 101, 114, 111, 32, 114, 48, 44, 32, 108, 10, 32, 32, 101, 120, 105, 116, 10]
def liveU : UnD := match sourceD liveT with | .ok u => u | .error _ => ⟨[], []⟩
theorem live_ok : sourceD liveT = .ok liveU := by kernel_rfl
theorem live_bad : sourceD liveG = .error ⟨82, 2, 11⟩ := by kernel_rfl
theorem live_print : printD liveU = .ok liveS := by kernel_rfl
end Go.AB
namespace Go.Proofs.YtmahcabidggmeaaGreatDoor
open Go.RowKit Go.AB
set_option linter.unusedSimpArgs false
set_option linter.unusedVariables false
set_option linter.unusedSectionVars false

theorem UnH.unV {w0 w : World} {v : Value} {u : UnD} (h : UnH w0 w v u) : UnV w v u := by
  obtain ⟨q, hq, rfl, hp⟩ := h
  refine ⟨_, _, q.bs.map fun x => ⟨x.b, x.v⟩, rfl, (hp.rowAt (i := 0) rfl).view, ?_, by rw [← hq, List.map_map]; rfl, fun x hx => ?_⟩
  · have h1 := (hp.rowAt (i := 1) rfl).view
    have h2 : q.bs.flatMap blC = (q.bs.map fun x => (⟨x.b, x.v⟩ : BkV)).flatMap bkC := by rw [List.flatMap_map]; rfl
    rw [h2] at h1
    simpa [Lst] using h1
  · obtain ⟨y, hy, rfl⟩ := List.mem_map.1 hx
    have hm : itRow y ∈ unI u.decls q := by unfold unI; simp only [List.mem_cons, List.mem_map]; exact .inr (.inr ⟨y, hy, rfl⟩)
    exact Row.view (hp.ok _ hm)
theorem num_calls (x : Int) (w : World) : Calls Tryz.prog 13 #[.int .i64 x] w fun e w' => e = .returned (.int .i64 x) ∧ w = w' := by
  go_enter Tryz.func13, Tryz.ntmps13
  go_wp2
  go_ret
  exact ⟨rfl, rfl⟩
theorem live_u (W : World) (hv : VarsP W) : Calls Tryz.prog 6 #[.string ⟨#[118, 97, 114, 32, 120, 10, 116, 104, 114, 101, 97, 100, 32, 116, 10, 108, 58, 32, 122, 101, 114, 111, 32, 114, 48, 44, 108, 32, 59, 32, 97, 119, 97, 121, 10, 101, 120, 105, 116]⟩] W fun e w' => ∃ v, e = .returned (.tuple #[v, .agg #[.int .i64 0, .int .i64 0, .int .i64 0]]) ∧ UnH W w' v liveU := by
  have h := unit_calls liveT (by decide) W hv
  rw [live_ok] at h
  exact h
theorem live_g (W : World) (hv : VarsP W) : Calls Tryz.prog 6 #[.string ⟨#[116, 104, 114, 101, 97, 100, 32, 116, 10, 97, 100, 100, 32, 114, 49, 44, 32, 114, 50]⟩] W fun e w' => e = .returned (.tuple #[.agg #[.slice none 0 0, .slice none 0 0], .agg #[.int .i64 82, .int .i64 2, .int .i64 11]]) ∧ Chg [] W w' := by
  have h := unit_calls liveG (by decide) W hv
  rw [live_bad] at h
  exact h
theorem live_p {v : Value} (W : World) (hu : UnV W v liveU) (hv : VarsP W) : Calls Tryz.prog 11 #[v] W fun e w' => e = .returned (.tuple #[.string ⟨#[118, 97, 114, 32, 120, 32, 61, 32, 48, 10, 116, 104, 114, 101, 97, 100, 32, 116, 10, 108, 58, 10, 32, 32, 122, 101, 114, 111, 32, 114, 48, 44, 32, 108, 10, 32, 32, 101, 120, 105, 116, 10]⟩, .int .i64 0]) ∧ Chg [] W w' := by
  have h := print_calls liveU (source_unit (L := liveT) (by decide) live_ok).2.2 W hu hv
  rw [live_print] at h
  refine h.mono ?_
  rintro e w' (⟨k, hk, _⟩ | ⟨s, hs, _, rfl, hc⟩)
  · cases hk
  · cases hs
    exact ⟨rfl, hc⟩
set_option maxHeartbeats 16000000 in
set_option maxRecDepth 100000 in
theorem lives_calls (w : World) (hv : VarsP w) : Calls Tryz.prog 9 #[] w fun e w' => e = .returned (.bool true) ∧ Chg [] w w' := by
  have HV := hid hv
  clear hv
  go_enter Tryz.func9, Tryz.ntmps9
  go_wp2_with (go_at_call 6; refine (live_u _ HV.out).mono ?_; rintro e w1 ⟨v, rfl, hu⟩; refine halt (fun XX hXX => ?_))
  have hc1 : Chg [] w w1 := by obtain ⟨q, _, _, hp⟩ := hu; exact hp.chg
  have hvu := hu.unV
  obtain ⟨va, vb, bs, rfl, hda, hbb, _, _⟩ := id hvu
  obtain ⟨ad, cd, rfl, _⟩ := hda.len
  obtain ⟨ab, cb, rfl, _⟩ := hbb.len
  generalize liveU.decls.length = D at *
  generalize bs.length = M at *
  have H1 := hid (And.intro hc1 hvu)
  clear hu hc1 hvu hda hbb
  rw [hXX.out]; clear hXX XX
  go_upto_region 2 with fail
  obtain ⟨w2, hw2⟩ : ∃ w2, (w1.alloc (.cells #[.slice ad D cd, .slice ab M cb] 25)).alloc (.cells #[.int .i64 0, .int .i64 0, .int .i64 0] 30) = w2 := ⟨_, rfl⟩
  have hc2 : Chg [] w1 w2 := by rw [← hw2]; exact ((Chg.refl [] w1).alloc _).alloc _
  have hPU : w2.heap[w1.heap.size]? = some (.cells #[.slice ad D cd, .slice ab M cb] 25 (0, 0)) := by rw [← hw2]; exact blk_alloc_old (heap_alloc_new w1 _) _
  have hPF : w2.heap[w1.heap.size + 1]? = some (.cells #[.int .i64 0, .int .i64 0, .int .i64 0] 30 (0, 0)) := by
    rw [← hw2]
    have h := heap_alloc_new (w1.alloc (.cells #[.slice ad D cd, .slice ab M cb] 25)) (.cells #[.int .i64 0, .int .i64 0, .int .i64 0] 30)
    simpa only [World.size_alloc] using h
  obtain ⟨P, hP⟩ : ∃ P, w1.heap.size = P := ⟨_, rfl⟩
  rw [hP] at hPU hPF ⊢
  rw [hw2]
  have HC2 := hid (H1.out.1.trans' hc2)
  have HP2 := hid (live_p w2 (H1.out.2.keep hc2) (HV.out.keep HC2.out))
  have HPF := hid hPF
  have u0 : w2.cell? ⟨P, 0, none⟩ = some (.slice ad D cd) := blk_cell hPU 0
  have u1 : w2.cell? ⟨P, 1, none⟩ = some (.slice ab M cb) := blk_cell hPU 1
  clear hw2 hc2 hPU hPF hP H1
  go_wp2_with (go_at_call 11; refine HP2.out.mono ?_; rintro e w3 ⟨rfl, hc3⟩; refine halt (fun XX hXX => ?_))
  have HC3 := hid (HC2.out.trans' hc3)
  have HPF3 := hid (hc3.heap HPF.out (by simp))
  clear hc3 u0 u1
  rw [hXX.out]; clear hXX XX
  go_wp2_with (go_at_call 6; refine (live_g _ (HV.out.keep HC3.out)).mono ?_; rintro e w4 ⟨rfl, hc4⟩; refine halt (fun XX hXX => ?_))
  have HC4 := hid (HC3.out.trans' hc4)
  have HPF4 := hid (hc4.heap HPF3.out (by simp))
  clear hc4
  rw [hXX.out]; clear hXX XX
  go_upto_region 4 with fail
  obtain ⟨w5, hw5⟩ : ∃ w5, (w4.alloc (.cells #[.slice none 0 0, .slice none 0 0] 25)).alloc (.cells #[.int .i64 82, .int .i64 2, .int .i64 11] 30) = w5 := ⟨_, rfl⟩
  have hc5 : Chg [] w4 w5 := by rw [← hw5]; exact ((Chg.refl [] w4).alloc _).alloc _
  have hPG : w5.heap[w4.heap.size + 1]? = some (.cells #[.int .i64 82, .int .i64 2, .int .i64 11] 30 (0, 0)) := by
    rw [← hw5]
    have h := heap_alloc_new (w4.alloc (.cells #[.slice none 0 0, .slice none 0 0] 25)) (.cells #[.int .i64 82, .int .i64 2, .int .i64 11] 30)
    simpa only [World.size_alloc] using h
  obtain ⟨P2, hP2⟩ : ∃ P2, w4.heap.size + 1 = P2 := ⟨_, rfl⟩
  rw [hP2] at hPG ⊢
  rw [hw5]
  have hPF5 := hc5.heap HPF4.out (by simp)
  have a0 : w5.cell? ⟨P + 1, 0, none⟩ = some (.int .i64 0) := blk_cell hPF5 0
  have a1 : w5.cell? ⟨P + 1, 1, none⟩ = some (.int .i64 0) := blk_cell hPF5 1
  have a2 : w5.cell? ⟨P + 1, 2, none⟩ = some (.int .i64 0) := blk_cell hPF5 2
  have b0 : w5.cell? ⟨P2, 0, none⟩ = some (.int .i64 82) := blk_cell hPG 0
  have b1 : w5.cell? ⟨P2, 1, none⟩ = some (.int .i64 2) := blk_cell hPG 1
  have b2 : w5.cell? ⟨P2, 2, none⟩ = some (.int .i64 11) := blk_cell hPG 2
  have HC5 := hid (HC4.out.trans' hc5)
  clear hw5 hc5 hPG hP2 hPF5 HP2 HPF HPF3 HPF4
  go_wp2_with (go_at_call 13; refine (num_calls _ _).mono ?_; rintro e w' ⟨rfl, rfl⟩)
  go_ret
  exact ⟨rfl, HC5.out⟩
end Go.Proofs.YtmahcabidggmeaaGreatDoor
