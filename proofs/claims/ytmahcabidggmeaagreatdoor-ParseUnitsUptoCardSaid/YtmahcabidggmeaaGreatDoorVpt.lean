/- Walks of the printer: a unit's lines. (Printed by gen_plines.py.) -/
import Derived.Test.YtmahcabidggmeaaGreatDoorVps
set_option linter.unusedVariables false
set_option linter.unusedSectionVars false
set_option linter.unusedSimpArgs false
namespace Go.AB
open Go.RowKit
/-- A unit is small. -/
structure SmallN (u : UnD) : Prop where
  dl : u.decls.length ≤ 4194304
  bl : u.blocks.length ≤ 2097152
  il : ∀ b ∈ u.blocks, b.items.length ≤ 2097152
  ds : ∀ d ∈ u.decls, SmallD d
  bn : ∀ b ∈ u.blocks, b.name.size ≤ 1048576
  is : ∀ b ∈ u.blocks, ∀ x ∈ b.items, SmallI x
theorem unit_bad_d {u : UnD} {d : DcD} (hd : d ∈ u.decls) (h : declOk d = false) : unitOk u = false := by
  unfold unitOk
  rw [Bool.and_eq_false_iff]
  left
  rw [← Bool.not_eq_true, List.all_eq_true]
  intro h2
  rw [h2 d hd] at h
  cases h
theorem unit_bad_b {u : UnD} {b : BkD} (hb : b ∈ u.blocks) (h : blockOk b = false) : unitOk u = false := by
  unfold unitOk
  rw [Bool.and_eq_false_iff]
  right
  rw [← Bool.not_eq_true, List.all_eq_true]
  intro h2
  rw [h2 b hb] at h
  cases h
theorem block_bad_n {b : BkD} (h : nameP b.name.data.toList = false) : blockOk b = false := by unfold blockOk; rw [h]; rfl
theorem block_bad_i {b : BkD} {x : ItD} (hx : x ∈ b.items) (h : itemOk x = false) : blockOk b = false := by
  unfold blockOk
  rw [Bool.and_eq_false_iff]
  right
  rw [← Bool.not_eq_true, List.all_eq_true]
  intro h2
  rw [h2 x hx] at h
  cases h
theorem mem_take_at {α : Type} {l : List α} {i : Nat} (hi : i < l.length) {p : α → Prop} (h : ∀ x ∈ l.take i, p x) (h2 : p l[i]) : ∀ x ∈ l.take (i + 1), p x := by
  intro x hx
  rw [List.take_succ_eq_append_getElem hi] at hx
  rcases List.mem_append.1 hx with hx | hx
  · exact h x hx
  · simp only [List.mem_singleton] at hx; subst hx; exact h2
end Go.AB
namespace Go.Proofs.YtmahcabidggmeaaGreatDoor
open Go.RowKit Go.AB
set_option linter.unusedSimpArgs false
set_option linter.unusedVariables false
set_option linter.unusedSectionVars false

/-- What lines answers. -/
def LnsP (w : World) (u : UnD) (e : Ending) (w' : World) : Prop :=
  (unitOk u = false ∧ e = .returned (.tuple #[.slice none 0 0, .bool false]) ∧ Chg [] w w') ∨
  (unitOk u = true ∧ ∃ ao n cap, e = .returned (.tuple #[.slice ao n cap, .bool true]) ∧ View w' 1 (.slice ao n cap) n ((linesS u).map fun s => Value.string (bA s)) ∧ Chg [] w w')
def rowS (ao : Option Addr) (n cap : Nat) (r : Option Nat) (acc : List (List UInt8)) : It := .row 9 1 (.slice ao n cap) r n (acc.map fun s => Value.string (bA s))
theorem rowS_more {w : World} {ao : Option Addr} {n cap : Nat} {r : Option Nat} {acc : List (List UInt8)} {s : List UInt8} (h : Row w 9 1 (.slice ao (n + 1) cap) r (n + 1) ((acc.map fun s => Value.string (bA s)) ++ [.string (bA s)])) : (rowS ao (n + 1) cap r (acc ++ [s])).ok w := by
  show Row _ _ _ _ _ _ _
  rw [List.map_append]
  exact h
set_option maxHeartbeats 16000000 in
set_option maxRecDepth 100000 in
theorem lines_calls {v : Value} (u : UnD) (hu : SmallN u) (w : World) (hvu : UnV w v u) (hv : VarsP w) : Calls Tryz.prog 23 #[v] w (LnsP w u) := by
  obtain ⟨va, vb, bs, rfl, hda, hbb, hbs, hit⟩ := id hvu
  obtain ⟨ad, cd, rfl, _⟩ := hda.len
  obtain ⟨ab, cb, rfl, _⟩ := hbb.len
  have hbl : bs.length = u.blocks.length := by rw [← hbs, List.length_map]
  obtain ⟨D, hD⟩ : ∃ D, u.decls.length = D := ⟨_, rfl⟩
  obtain ⟨M, hM⟩ : ∃ M, bs.length = M := ⟨_, rfl⟩
  have hDl := hu.dl
  have hMl := hu.bl
  rw [hD] at hDl
  rw [← hbl, hM] at hMl
  have HDA := hid hda
  have HBB := hid hbb
  have HIT := hid hit
  have HBS := hid hbs
  have HU := hid hu
  have HV := hid hv
  rw [hD, hM]
  have HD := hid hD
  have HM := hid hM
  have hp0 := ((Hp.start (S0 := []) w (by simp)).box (.cells #[.slice ad D cd, .slice ab M cb] 25)).nil 9 1
  have HP0 : Hid (Hp [] w (w.alloc (.cells #[.slice ad D cd, .slice ab M cb] 25)) [rowS none 0 0 none [], .box w.heap.size (.cells #[.slice ad D cd, .slice ab M cb] 25 (0, 0))]) := hid hp0
  clear hda hbb hit hbs hu hv hD hM hp0 hvu hbl
  go_enter Tryz.func23, Tryz.ntmps23
  go_upto_region 3 with fail
  generalize w.alloc (.cells #[.slice ad D cd, .slice ab M cb] 25) = w1 at HP0 ⊢
  generalize w.heap.size = PU at HP0 ⊢
  go_loopg [4, 18] D (fun gk v4 v18 wr => ∃ (i : Nat) (ao : Option Addr) (cap : Nat) (r : Option Nat) (acc : List (List UInt8)), v4 = .slice ao i cap ∧ v18 = .int .i64 i ∧ Hid (gk + i = D) ∧ Hid (acc = (u.decls.take i).map declS ∧ ∀ d ∈ u.decls.take i, declOk d = true) ∧ Hid (Hp [] w wr [rowS ao i cap r acc, .box PU (.cells #[.slice ad D cd, .slice ab M cb] 25 (0, 0))]))
  case atStart => exact ⟨0, none, 0, none, [], rfl, rfl, hid (by omega), hid ⟨rfl, by simp⟩, HP0⟩
  case round =>
    obtain ⟨i, ao, cap, r, acc, rfl, rfl, HGK, HA, HR⟩ := hrel
    by_cases hlt : i < D
    · have hltd : i < u.decls.length := by rw [HD.out]; exact hlt
      obtain ⟨bd, od, had, hcd⟩ := (HDA.out.keep HR.out.chg).at dcC_len hltd (by omega)
      obtain ⟨d, hd⟩ : ∃ d, u.decls[i] = d := ⟨_, rfl⟩
      have hdm : d ∈ u.decls := by rw [← hd]; exact List.getElem_mem _
      rw [hd] at hcd
      subst had
      have x0 : wr.cell? ⟨bd, od + i * 5, none⟩ = some (.int .i64 d.kind) := hcd 0 (by omega)
      have x1 : wr.cell? ⟨bd, od + i * 5 + 1, none⟩ = some (.string d.name) := hcd 1 (by omega)
      have x2 : wr.cell? ⟨bd, od + i * 5 + 2, none⟩ = some (.int .i64 d.val) := hcd 2 (by omega)
      have x3 : wr.cell? ⟨bd, od + i * 5 + 3, none⟩ = some (.int .i64 d.l) := hcd 3 (by omega)
      have x4 : wr.cell? ⟨bd, od + i * 5 + 4, none⟩ = some (.int .i64 d.c) := hcd 4 (by omega)
      have HDL := hid fun W (hc : Chg [] wr W) => decl_line d (HU.out.ds d hdm) W (HV.out.keep (HR.out.chg.trans' hc))
      have HDM := hid hdm
      have HTK : Hid (u.decls.take (i + 1) = u.decls.take i ++ [d]) := hid (by rw [List.take_succ_eq_append_getElem hltd, hd])
      clear hcd hdm hd hltd
      go_wp2_with (go_at_call 49; refine (HDL.out _ ((Chg.refl [] wr).alloc _)).mono ?_; rintro e w3 ⟨s, ok, rfl, HSO, hc3⟩; refine halt (fun X hX => ?_))
      have hc3' := ((Chg.refl [] wr).alloc (.cells #[.int .i64 d.kind, .string d.name, .int .i64 d.val, .int .i64 d.l, .int .i64 d.c] 47)).trans' hc3
      have HC3 := hid hc3'
      clear hc3 hc3' x0 x1 x2 x3 x4
      cases ok with
      | false =>
        have HO : Hid (unitOk u = false) := hid (unit_bad_d HDM.out (by have h := HSO.out.1; first | exact h.symm | simpa using h))
        rw [hX.out]; clear hX
        go_wp2
        go_ret2
        exact .inl ⟨HO.out, rfl, HR.out.chg.trans' HC3.out⟩
      | true =>
        have HRW := hid (Row.keep (S := []) (HR.out.rowAt (i := 0) rfl) HC3.out (by simp))
        have hi2 : i ≤ 4194304 := by omega
        rw [hX.out]; clear hX
        go_wp2_with (at_builtin; refine wpList_grew rfl _ _ 75 rfl elem_str rfl (HRW.out.keep ((Chg.refl [] w3).alloc _) (by simp)) rfl (View.one _ _ _) (by simp [Value.oneCell']) (by unfold maxLen; omega) (by omega) (fun ao5 cap5 r5 w5 hr5 hg5 => halt (fun XX hXX => ?_)))
        have HZ := hid (HR.out.grow 0 rfl (HC3.out.trans' ((Chg.refl [] w3).alloc _)) (rowS_more hr5) hg5.chg hg5.fresh rfl)
        clear hr5 hg5
        rw [hXX.out]; clear hXX XX
        go_wp2_with fail
        go_roundg (gk - 1)
        case measure => have := HGK.out; omega
        case rel => exact ⟨i + 1, ao5, cap5, r5, acc ++ [s], rfl, rfl, hid (by have := HGK.out; omega), hid ⟨by rw [HTK.out, List.map_append, ← HA.out.1, (HSO.out.2 (by first | rfl | trivial))]; rfl, fun y hy => by
          rw [HTK.out] at hy
          rcases List.mem_append.1 hy with hy | hy
          · exact HA.out.2 y hy
          · simp only [List.mem_singleton] at hy; subst hy; (have h := HSO.out.1; first | exact h.symm | exact h | simpa using h)⟩, hid HZ.out⟩
    · have hiD : i = D := by have := HGK.out; omega
      have hta : u.decls.take i = u.decls := List.take_of_length_le (by rw [HD.out]; omega)
      rw [hta] at HA
      have HDO := hid HA.out.2
      have hbu := HR.out.get (i := 1) rfl
      have u1 : wr.cell? ⟨PU, 1, none⟩ = some (.slice ab M cb) := blk_cell hbu 1
      have HR1 := hid HR.out
      have HA1 := hid HA.out.1
      have hi2 : i ≤ 4194304 := by omega
      clear hbu hta hiD HR HA HGK HP0
      obtain ⟨wo1, rfl⟩ : ∃ wo1 : World, wo1 = wr := ⟨_, rfl⟩
      go_upto_region 11 with fail
      go_loopg [4, 37] M (fun gk v4 v37 wx => ∃ (j n : Nat) (ao : Option Addr) (cap : Nat) (r : Option Nat) (acc : List (List UInt8)), v4 = .slice ao n cap ∧ v37 = .int .i64 j ∧ Hid (gk + j = M) ∧ Hid (n ≤ 4194304 + j * 2097153 ∧ acc = u.decls.map declS ++ (u.blocks.take j).flatMap blockS ∧ ∀ b ∈ u.blocks.take j, blockOk b = true) ∧ Hid (Hp [] w wx [rowS ao n cap r acc, .box PU (.cells #[.slice ad D cd, .slice ab M cb] 25 (0, 0))]))
      case atStart => exact ⟨0, i, ao, cap, r, acc, rfl, rfl, hid (by omega), hid ⟨by omega, by rw [HA1.out]; simp, by simp⟩, HR1⟩
      case round =>
        obtain ⟨j, n, ao, cap, r, acc, rfl, rfl, HGJ, HA, HR⟩ := hrel
        by_cases hlj : j < M
        · have hltb : j < bs.length := by rw [HM.out]; exact hlj
          have hltu : j < u.blocks.length := by rw [← HBS.out, List.length_map]; exact hltb
          obtain ⟨bb, ob, hab, hcb⟩ := (HBB.out.keep HR.out.chg).at bkC_len hltb (by omega)
          obtain ⟨kv, hkv⟩ : ∃ kv, bs[j] = kv := ⟨_, rfl⟩
          have hkm : kv ∈ bs := by rw [← hkv]; exact List.getElem_mem _
          have hub : u.blocks[j] = kv.b := by
            have h := hkv
            have h2 : (bs.map BkV.b)[j]'(by rw [List.length_map]; exact hltb) = kv.b := by rw [List.getElem_map, hkv]
            rw [← h2]
            congr 1
            exact HBS.out.symm
          have hbm : kv.b ∈ u.blocks := by rw [← hub]; exact List.getElem_mem _
          rw [hkv] at hcb
          subst hab
          obtain ⟨Ln, hLn⟩ : ∃ Ln, kv.b.name.data.toList = Ln := ⟨_, rfl⟩
          have hnm := bA_eq hLn
          have hli := HIT.out kv hkm
          have hilen := HU.out.il kv.b hbm
          obtain ⟨ai, ci, hvi, _⟩ := hli.len
          have x0 : wr.cell? ⟨bb, ob + j * 4, none⟩ = some (.string (bA Ln)) := by rw [← hnm]; exact hcb 0 (by omega)
          have x1 : wr.cell? ⟨bb, ob + j * 4 + 1, none⟩ = some (.slice ai kv.b.items.length ci) := by rw [← hvi]; exact hcb 1 (by omega)
          have x2 : wr.cell? ⟨bb, ob + j * 4 + 2, none⟩ = some (.int .i64 kv.b.l) := hcb 2 (by omega)
          have x3 : wr.cell? ⟨bb, ob + j * 4 + 3, none⟩ = some (.int .i64 kv.b.c) := hcb 3 (by omega)
          rw [hvi] at hli
          have hnl : Ln.length ≤ 1048576 := by have := HU.out.bn kv.b hbm; rw [hnm, bA_size] at this; exact this
          have hns : (bA Ln).size = Ln.length := bA_size Ln
          have HNC := hid fun W (hc : Chg [] wr W) => name_calls Ln hnl W (HV.out.keep (HR.out.chg.trans' hc))
          have HLI := hid hli
          have HBM := hid (And.intro hbm hLn)
          have HTK : Hid (u.blocks.take (j + 1) = u.blocks.take j ++ [kv.b]) := hid (by rw [List.take_succ_eq_append_getElem hltu, hub])
          obtain ⟨N, hN⟩ : ∃ N, kv.b.items.length = N := ⟨_, rfl⟩
          rw [hN] at x1 hilen
          have HN := hid hN
          have hz1 : ¬ (9223372036854775807 < 7 + Ln.length) := by omega
          clear hcb hkm hub hbm hkv hltb hltu hli hLn hnm hN hvi hnl
          cases hnp : nameP Ln with
          | false =>
            rw [hnp] at HNC
            have HO : Hid (unitOk u = false) := hid (unit_bad_b HBM.out.1 (block_bad_n (by rw [HBM.out.2]; exact hnp)))
            clear hnp
            go_wp2_with (go_at_call 50; refine (HNC.out _ ((Chg.refl [] wr).alloc _)).mono ?_; rintro e w3 ⟨rfl, hc3⟩)
            go_ret2
            exact .inl ⟨HO.out, rfl, HR.out.chg.trans' (((Chg.refl [] wr).alloc _).trans' hc3)⟩
          | true =>
            rw [hnp] at HNC
            have HNP := hid hnp
            have hn43 : n ≤ 4194304 + j * 2097153 := HA.out.1
            have hn44 : n ≤ 4398052802560 := by
              have : j * 2097153 ≤ 2097152 * 2097153 := Nat.mul_le_mul_right _ (by omega)
              omega
            clear hnp hn43
            go_wp2_with (go_at_call 50; refine (HNC.out _ ((Chg.refl [] wr).alloc _)).mono ?_; rintro e w3 ⟨rfl, hc3⟩; refine halt (fun XX hXX => ?_))
            have hbk := hc3.heap (heap_alloc_new wr (.cells #[.string (bA Ln), .slice ai N ci, .int .i64 kv.b.l, .int .i64 kv.b.c] 50)) (by simp)
            have y0 : w3.cell? ⟨wr.heap.size, 0, none⟩ = some (.string (bA Ln)) := blk_cell hbk 0
            have y0a : ∀ o, (w3.alloc o).cell? ⟨wr.heap.size, 0, none⟩ = some (.string (bA Ln)) := fun o => blk_cell (blk_alloc_old hbk o) 0
            have HC3 := hid (((Chg.refl [] wr).alloc (.cells #[.string (bA Ln), .slice ai N ci, .int .i64 kv.b.l, .int .i64 kv.b.c] 50)).trans' hc3)
            have HBK := hid hbk
            have HRW := hid (Row.keep (S := []) (HR.out.rowAt (i := 0) rfl) HC3.out (by simp))
            clear hc3 hbk x0 x1 x2 x3
            rw [hXX.out]; clear hXX XX
            go_wp2_with (at_builtin; refine wpList_grew rfl _ _ 75 rfl elem_str rfl (HRW.out.keep ((Chg.refl [] w3).alloc _) (by simp)) rfl (View.one _ _ _) (by simp [Value.oneCell']) (by unfold maxLen; omega) (by omega) (fun ao5 cap5 r5 w5 hr5 hg5 => halt (fun XX hXX => ?_)))
            have hbs' : (⟨#[116, 104, 114, 101, 97, 100, 32]⟩ : ByteArray) ++ bA Ln = bA ([116, 104, 114, 101, 97, 100, 32] ++ Ln) := bA_app [116, 104, 114, 101, 97, 100, 32] Ln
            rw [hbs'] at hr5
            have hz5 := HR.out.grow 0 rfl (HC3.out.trans' ((Chg.refl [] w3).alloc _)) (rowS_more hr5) hg5.chg hg5.fresh rfl
            have hbk5 := hg5.chg.heap (((Chg.refl [] w3).alloc (.cells #[.string (bA ([116, 104, 114, 101, 97, 100, 32] ++ Ln))] 9)).heap HBK.out (by simp)) (fun hm => by
              have hlo := HR.out.lt (x := rowS ao n cap r acc) (by simp) (g := wr.heap.size) (by simpa [rowS, It.blk] using hm)
              omega)
            have y1 : w5.cell? ⟨wr.heap.size, 1, none⟩ = some (.slice ai N ci) := blk_cell hbk5 1
            have HZ := hid hz5
            clear hr5 hg5 hz5 hbk5 y0 y0a hbs'
            rw [hXX.out]; clear hXX XX
            go_upto_region 17 with fail
            obtain ⟨wo, rfl⟩ : ∃ wo : World, wo = wr := ⟨_, rfl⟩
            obtain ⟨gj, rfl⟩ : ∃ x, x = gk := ⟨_, rfl⟩
            go_loopg [4, 54] N (fun gk v4 v54 wy => ∃ (k n2 : Nat) (ao : Option Addr) (cap : Nat) (r : Option Nat) (acc2 : List (List UInt8)), v4 = .slice ao n2 cap ∧ v54 = .int .i64 k ∧ Hid (gk + k = N) ∧ Hid (n2 ≤ n + 1 + k ∧ acc2 = acc ++ ([116, 104, 114, 101, 97, 100, 32] ++ Ln) :: (kv.b.items.take k).map itemS ∧ ∀ x ∈ kv.b.items.take k, itemOk x = true) ∧ Hid (Hp [] w wy [rowS ao n2 cap r acc2, .box PU (.cells #[.slice ad D cd, .slice (some ⟨bb, ob, none⟩) M cb] 25 (0, 0))]))
            case atStart => exact ⟨0, n + 1, ao5, cap5, r5, acc ++ [[116, 104, 114, 101, 97, 100, 32] ++ Ln], rfl, rfl, hid (by omega), hid ⟨by omega, by simp, by simp⟩, HZ⟩
            case round =>
              obtain ⟨k, n2, ao2, cap2, r2, acc2, rfl, rfl, HGK, HB, HY⟩ := hrel
              by_cases hlk : k < N
              · have hlti : k < kv.b.items.length := by rw [HN.out]; exact hlk
                obtain ⟨bi, oi, hai, hci⟩ := (HLI.out.keep HY.out.chg).at itC_len hlti (by omega)
                obtain ⟨x, hx⟩ : ∃ x, kv.b.items[k] = x := ⟨_, rfl⟩
                have hxm : x ∈ kv.b.items := by rw [← hx]; exact List.getElem_mem _
                rw [hx] at hci
                subst hai
                have z0 : wr.cell? ⟨bi, oi + k * 10, none⟩ = some (.int .i64 x.op) := hci 0 (by omega)
                have z1 : wr.cell? ⟨bi, oi + k * 10 + 1, none⟩ = some (.int .i64 x.a) := hci 1 (by omega)
                have z2 : wr.cell? ⟨bi, oi + k * 10 + 2, none⟩ = some (.int .i64 x.b) := hci 2 (by omega)
                have z3 : wr.cell? ⟨bi, oi + k * 10 + 3, none⟩ = some (.int .i64 x.c) := hci 3 (by omega)
                have z4 : wr.cell? ⟨bi, oi + k * 10 + 4, none⟩ = some (.int .i64 x.n) := hci 4 (by omega)
                have z5 : wr.cell? ⟨bi, oi + k * 10 + 5, none⟩ = some (.string x.name) := hci 5 (by omega)
                have z6 : wr.cell? ⟨bi, oi + k * 10 + 6, none⟩ = some (.int .i64 x.p1) := hci 6 (by omega)
                have z7 : wr.cell? ⟨bi, oi + k * 10 + 7, none⟩ = some (.int .i64 x.p2) := hci 7 (by omega)
                have z8 : wr.cell? ⟨bi, oi + k * 10 + 8, none⟩ = some (.int .i64 x.q1) := hci 8 (by omega)
                have z9 : wr.cell? ⟨bi, oi + k * 10 + 9, none⟩ = some (.int .i64 x.q2) := hci 9 (by omega)
                have HIL := hid fun W (hc : Chg [] wr W) => item_line x (HU.out.is kv.b HBM.out.1 x hxm) W (HV.out.keep (HY.out.chg.trans' hc))
                have HXM := hid hxm
                have HTI : Hid (kv.b.items.take (k + 1) = kv.b.items.take k ++ [x]) := hid (by rw [List.take_succ_eq_append_getElem hlti, hx])
                clear hci hxm hx hlti
                go_wp2_with (go_at_call 51; refine (HIL.out _ ((Chg.refl [] wr).alloc _)).mono ?_; rintro e w6 ⟨s, ok, rfl, HSO, hc6⟩; refine halt (fun XX hXX => ?_))
                have HC6 := hid (((Chg.refl [] wr).alloc (.cells #[.int .i64 x.op, .int .i64 x.a, .int .i64 x.b, .int .i64 x.c, .int .i64 x.n, .string x.name, .int .i64 x.p1, .int .i64 x.p2, .int .i64 x.q1, .int .i64 x.q2] 53)).trans' hc6)
                clear hc6 z0 z1 z2 z3 z4 z5 z6 z7 z8 z9
                cases ok with
                | false =>
                  have HO : Hid (unitOk u = false) := hid (unit_bad_b HBM.out.1 (block_bad_i HXM.out (by have h := HSO.out.1; first | exact h.symm | simpa using h)))
                  rw [hXX.out]; clear hXX XX
                  go_wp2
                  go_ret2
                  exact .inl ⟨HO.out, rfl, HY.out.chg.trans' HC6.out⟩
                | true =>
                  have HRX := hid (Row.keep (S := []) (HY.out.rowAt (i := 0) rfl) HC6.out (by simp))
                  have hn2 : n2 ≤ 4398056996864 := by have := HB.out.1; omega
                  rw [hXX.out]; clear hXX XX
                  go_wp2_with (at_builtin; refine wpList_grew rfl _ _ 75 rfl elem_str rfl (HRX.out.keep ((Chg.refl [] w6).alloc _) (by simp)) rfl (View.one _ _ _) (by simp [Value.oneCell']) (by unfold maxLen; omega) (by omega) (fun ao7 cap7 r7 w7 hr7 hg7 => halt (fun XX hXX => ?_)))
                  have HZ7 := hid (HY.out.grow 0 rfl (HC6.out.trans' ((Chg.refl [] w6).alloc _)) (rowS_more hr7) hg7.chg hg7.fresh rfl)
                  clear hr7 hg7
                  rw [hXX.out]; clear hXX XX
                  go_wp2_with fail
                  go_roundg (gk - 1)
                  case measure => have := HGK.out; omega
                  case rel => exact ⟨k + 1, n2 + 1, ao7, cap7, r7, acc2 ++ [s], rfl, rfl, hid (by have := HGK.out; omega), hid ⟨by have := HB.out.1; omega, by rw [HTI.out, List.map_append, HB.out.2.1, (HSO.out.2 (by first | rfl | trivial))]; simp, fun y hy => by
                    rw [HTI.out] at hy
                    rcases List.mem_append.1 hy with hy | hy
                    · exact HB.out.2.2 y hy
                    · simp only [List.mem_singleton] at hy; subst hy; (have h := HSO.out.1; first | exact h.symm | exact h | simpa using h)⟩, hid HZ7.out⟩
              · have hkN : k = N := by have := HGK.out; omega
                have hti : kv.b.items.take k = kv.b.items := List.take_of_length_le (by rw [HN.out]; omega)
                have HB2 : Hid (n2 ≤ 4194304 + (j + 1) * 2097153 ∧ acc2 = u.decls.map declS ++ (u.blocks.take (j + 1)).flatMap blockS ∧ ∀ b ∈ u.blocks.take (j + 1), blockOk b = true) := hid (by
                  obtain ⟨a1, a2, a3⟩ := HB.out
                  obtain ⟨c1, c2, c3⟩ := HA.out
                  rw [hti] at a2 a3
                  refine ⟨by omega, ?_, fun y hy => ?_⟩
                  · rw [a2, c2, HTK.out, List.flatMap_append, List.append_assoc]
                    congr 2
                    simp [blockS, HBM.out.2]
                  · rw [HTK.out] at hy
                    rcases List.mem_append.1 hy with hy | hy
                    · exact c3 y hy
                    · simp only [List.mem_singleton] at hy
                      subst hy
                      unfold blockOk
                      rw [HBM.out.2, HNP.out, Bool.true_and, List.all_eq_true]
                      exact a3)
                clear hti hkN
                go_wp2_with fail
                go_roundg (gj - 1)
                case measure => have := HGJ.out; omega
                case rel => exact ⟨j + 1, n2, ao2, cap2, r2, acc2, rfl, rfl, hid (by have := HGJ.out; omega), HB2, HY⟩
        · have hjM : u.blocks.take j = u.blocks := List.take_of_length_le (by rw [← HBS.out, List.length_map, HM.out]; omega)
          have HUO : Hid (unitOk u = true) := hid (by
            unfold unitOk
            rw [Bool.and_eq_true, List.all_eq_true, List.all_eq_true]
            have h := HA.out.2.2
            rw [hjM] at h
            exact ⟨HDO.out, h⟩)
          have HVW := hid (HR.out.rowAt (i := 0) rfl).view
          have HAC : Hid (acc = linesS u) := hid (by have h := HA.out.2.1; rw [hjM] at h; exact h)
          clear hjM
          go_wp2
          go_ret2
          refine .inr ⟨HUO.out, ao, n, cap, rfl, ?_, HR.out.chg⟩
          rw [← HAC.out]
          exact HVW.out
end Go.Proofs.YtmahcabidggmeaaGreatDoor
