/- Walks of the builder's laws: renamed, a unit with other names. -/
import Derived.Test.YtaknmhipaifdkaaJk
set_option linter.unusedSimpArgs false
set_option linter.unusedSectionVars false
namespace Go.AB
open Go.RowKit
set_option linter.unusedVariables false
def zN (s : ByteArray) : ByteArray := ⟨#[122]⟩ ++ s
def yN (s : ByteArray) : ByteArray := ⟨#[121]⟩ ++ s
def rnD (d : DcD) : DcD := ⟨d.kind, zN d.name, d.val, d.l, d.c⟩
theorem Row.slice {w : World} {e k n : Nat} {a : Option Addr} {c : Nat} {r : Option Nat} {xs : List Value} (h : Row w e k (.slice a n c) r n xs) (hn : 0 < n) : ∃ g, r = Option.some g ∧ a = Option.some ⟨g, 0, none⟩ ∧ n ≤ c := by
  obtain ⟨g, c', h1, h2, h3⟩ := Row.some h hn
  simp only [Value.slice.injEq, true_and] at h2
  obtain ⟨rfl, rfl⟩ := h2
  exact ⟨g, h1, rfl, h3⟩
end Go.AB
namespace Go.Proofs.Ytaknmhipaifdkaa
open Go.RowKit Go.AB
set_option linter.unusedSimpArgs false
set_option linter.unusedVariables false
set_option linter.unusedSectionVars false

def rnI (x : ItD) : ItD := ⟨x.op, x.a, x.b, x.c, x.n, if ledB x.op then yN x.name else if x.name.size = 0 then x.name else zN x.name, x.p1, x.p2, x.q1, x.q2⟩
def rnB (k : BkD) : BkD := ⟨zN k.name, k.items.map rnI, k.l, k.c⟩
theorem map_set_same {α β : Type} (f : α → β) (l : List α) {n : Nat} (hn : n < l.length) {z : α} (h : f z = f l[n]) : (l.set n z).map f = l.map f := by
  rw [List.map_set, h]
  apply List.ext_getElem?
  intro i
  by_cases hi : n = i
  · subst hi
    simp [hn]
  · rw [List.getElem?_set_ne hi]
def rnO (y : BkO) : BkO := (⟨rnB y.1.b, y.1.items⟩, y.2)
def partO (y : BkO) (k : Nat) : BkO := (⟨⟨zN y.1.b.name, mapTo rnI y.1.b.items k, y.1.b.l, y.1.b.c⟩, y.1.items⟩, y.2)

set_option maxHeartbeats 8000000 in
set_option maxRecDepth 100000 in
theorem renamed_calls {v : Value} {u : UnD} (w : World) (hv : UnV w v u) (hu : SmallU u) : Calls Try.prog 11 #[v] w fun e w' => ∃ vd rd vt rt bs, e = .returned (.agg #[vd, vt]) ∧ UnH w w' vd rd (u.decls.map rnD) vt rt bs ∧ blks bs = u.blocks.map rnB := by
  obtain ⟨ad, D, cd, ab, L, cb, bs0, rfl, hub, hD, hL, hdc, hbc⟩ := unv_boxed hv
  have hlD : D ≤ 1048576 := by have := hu.decls; omega
  have hlL : L ≤ 1048576 := by have := hu.blocks; omega
  have hp0 := ((Hp.start (S0 := []) w (by simp)).box (.cells #[.slice ad D cd, .slice ab L cb] 25)).box (.cells #[.slice none 0 0, .slice none 0 0] 25)
  simp only [World.size_alloc] at hp0
  obtain ⟨wA, hwA⟩ : ∃ wA, (w.alloc (.cells #[.slice ad D cd, .slice ab L cb] 25)).alloc (.cells #[.slice none 0 0, .slice none 0 0] 25) = wA := ⟨_, rfl⟩
  have hsA : wA.heap.size = w.heap.size + 2 := by rw [← hwA]; simp
  rw [hwA] at hp0
  have HL := hid (lend_calls wA (hv.keep hp0.chg) hu)
  have u0 := hp0.cell (i := 1) rfl 0
  have u1 := hp0.cell (i := 1) rfl 1
  simp only [List.getElem?_toArray, List.getElem?_cons_zero, List.getElem?_cons_succ] at u0 u1
  have HP0 := hid hp0
  have HU := hid hu
  have HDL := hid (And.intro hD hL)
  clear hub hv hp0 hu hD hL
  go_enter Try.func11, Try.ntmps11
  go_upto_region 1 with fail
  try rw [hwA]
  clear hwA
  go_wp2_with (go_at_call 9; refine halt (fun X hX => ?_))
  rw [hX.out]; clear hX
  refine HL.out.mono ?_
  rintro e w1 ⟨vd, rd, vt, rt, os, rfl, hun, hbk⟩
  have hol : os.length = L := by rw [HDL.out.2, ← hbk]; simp [blks]
  have hj := (HP0.out.join hun.hp).front2
  simp only [dRow, tRow, ← HDL.out.1, hol] at hj
  obtain ⟨avd, cvd, rfl⟩ := (hj.rowAt (i := 2) rfl).shape
  obtain ⟨avt, cvt, rfl⟩ := (hj.rowAt (i := 3) rfl).shape
  have hj1 := hj.box (.cells #[.slice avd D cvd, .slice avt L cvt] 25)
  have HJ := hid hj1
  have HOS := hid (And.intro hbk hol)
  clear hj hj1 hun hbk hol HP0 HL u0 u1
  go_upto_region 3 with fail
  go_loopg [4] D (fun gk vi wr => ∃ i : Nat, gk + i = D ∧ vi = .int .i64 i ∧ Hid (Hp [] w wr (.box w1.heap.size (.cells #[.slice avd D cvd, .slice avt L cvt] 25) :: .box (w.heap.size + 1) (.cells #[.slice none 0 0, .slice none 0 0] 25) :: .box w.heap.size (.cells #[.slice ad D cd, .slice ab L cb] 25) ::
    .row 52 5 (.slice avd D cvd) rd D ((mapTo rnD u.decls i).flatMap dcC) :: .row 48 4 (.slice avt L cvt) rt L (os.flatMap bkoC) :: os.map itRow)))
  case atStart => exact ⟨0, rfl, rfl, hid (by rw [mapTo_zero]; exact HJ.out)⟩
  case round =>
    obtain ⟨i, hgi, rfl, H⟩ := hrel
    have u0 := H.out.cell (i := 0) rfl 0
    have u1 := H.out.cell (i := 0) rfl 1
    simp only [List.getElem?_toArray, List.getElem?_cons_zero, List.getElem?_cons_succ] at u0 u1
    by_cases hlt : i < D
    · obtain ⟨g, rfl, rfl, hcv⟩ := (H.out.rowAt (i := 3) rfl).slice (by omega)
      have hiu : i < u.decls.length := by rw [← HDL.out.1]; exact hlt
      obtain ⟨d, hd⟩ : ∃ d, u.decls[i]'hiu = d := ⟨_, rfl⟩
      have hgd : (mapTo rnD u.decls i)[i]'(by rw [mapTo_len]; exact hiu) = d := by rw [mapTo_get _ _ hiu, hd]
      have y1 := Row.atf dcC_len (H.out.rowAt (i := 3) rfl) (by rw [mapTo_len]; exact HDL.out.1.symm) (i := i) (by rw [mapTo_len]; exact hiu) (j := 1) (by omega)
      rw [hgd] at y1
      have x1 : wr.cell? ⟨g, i * 5 + 1, none⟩ = some (.string d.name) := y1
      clear y1
      have gf := (Row.cellk (H.out.rowAt (i := 3) rfl)).2.1
      have HX := hid (And.intro hd hgd)
      have hdn : d.name.size ≤ 4294967296 := HU.out.dn d (by rw [← hd]; exact List.getElem_mem _)
      have hng : g ≠ w1.heap.size := fun e => H.out.ne (i := 0) (j := 3) rfl rfl (by decide) rfl (by rw [e]; rfl)
      clear hd hgd
      go_upto_region 5 with fail
      go_region
      have hf := (H.out.putf dcC_len 3 rfl (i := i) (by rw [mapTo_len]; exact hiu) (rnD d) (j := 1) (by omega) (u := .string (zN d.name)) (by rw [HX.out.2]; rfl) rfl).same (Chg.refl [] _).drew
      simp only [List.set_cons_succ, List.set_cons_zero] at hf
      rw [← HX.out.1, mapTo_set _ _ hiu] at hf
      have HF := hid hf
      clear hf
      go_wp2_with fail
      go_roundg (gk - 1)
      case measure => omega
      case rel => exact ⟨i + 1, by omega, by go_num, hid (by rw [HX.out.1] at HF; exact HF.out)⟩
    · obtain rfl : i = D := by omega
      have h1 := H.out
      rw [mapTo_all _ _ (by rw [← HDL.out.1]; exact Nat.le_refl _)] at h1
      have HJ2 := hid h1
      clear h1
      go_upto_region 7 with fail
      go_loopg [5] L (fun gk vi wr => ∃ n : Nat, gk + n = L ∧ vi = .int .i64 n ∧ Hid (Hp [] w wr (.box w1.heap.size (.cells #[.slice avd i cvd, .slice avt L cvt] 25) :: .box (w.heap.size + 1) (.cells #[.slice none 0 0, .slice none 0 0] 25) :: .box w.heap.size (.cells #[.slice ad i cd, .slice ab L cb] 25) ::
        .row 52 5 (.slice avd i cvd) rd i ((u.decls.map rnD).flatMap dcC) :: .row 48 4 (.slice avt L cvt) rt L ((mapTo rnO os n).flatMap bkoC) :: (mapTo rnO os n).map itRow)))
      case atStart => exact ⟨0, by omega, rfl, hid (by rw [mapTo_zero]; exact HJ2.out)⟩
      case round =>
        obtain ⟨n, hgn, rfl, H⟩ := hrel
        have u0 := H.out.cell (i := 0) rfl 0
        have u1 := H.out.cell (i := 0) rfl 1
        simp only [List.getElem?_toArray, List.getElem?_cons_zero, List.getElem?_cons_succ] at u0 u1
        by_cases hlt2 : n < L
        · obtain ⟨g, rfl, rfl, hcv⟩ := (H.out.rowAt (i := 4) rfl).slice (by omega)
          have hno : n < os.length := by rw [HOS.out.2]; exact hlt2
          obtain ⟨y, hy⟩ : ∃ y, os[n]'hno = y := ⟨_, rfl⟩
          have hgy : (mapTo rnO os n)[n]'(by rw [mapTo_len]; exact hno) = y := by rw [mapTo_get _ _ hno, hy]
          have hln : (mapTo rnO os n).length = L := by rw [mapTo_len]; exact HOS.out.2
          have y0 := Row.atf (f := bkoC) (k := 4) (fun x => bkC_len x.1) (H.out.rowAt (i := 4) rfl) hln (i := n) (by rw [hln]; exact hlt2) (j := 0) (by omega)
          have y1 := Row.atf (f := bkoC) (k := 4) (fun x => bkC_len x.1) (H.out.rowAt (i := 4) rfl) hln (i := n) (by rw [hln]; exact hlt2) (j := 1) (by omega)
          rw [hgy] at y0 y1
          have hyrow : It.ok wr (itRow y) := H.out.ok (itRow y) (by
            have hm : y ∈ mapTo rnO os n := by rw [← hgy]; exact List.getElem_mem _
            simp only [List.mem_cons]
            exact .inr (.inr (.inr (.inr (.inr (List.mem_map.2 ⟨y, hm, rfl⟩))))))
          obtain ⟨ai, ci, hyi⟩ := Row.shape hyrow
          obtain ⟨m, hm⟩ : ∃ m, y.1.b.items.length = m := ⟨_, rfl⟩
          rw [hm] at hyi
          have x0 : wr.cell? ⟨g, n * 4, none⟩ = some (.string y.1.b.name) := y0
          have x1 : wr.cell? ⟨g, n * 4 + 1, none⟩ = some (.slice ai m ci) := y1.trans (by rw [← hyi]; rfl)
          have gf := (Row.cellk (H.out.rowAt (i := 4) rfl)).2.1
          have hyb : y.1.b ∈ u.blocks := by
            rw [← HOS.out.1, ← hy]
            exact List.mem_map.2 ⟨_, List.getElem_mem _, rfl⟩
          have hyn := (HU.out.bn y.1.b hyb).1
          have hmb : m ≤ 1048576 := by
            have := (HU.out.bn y.1.b hyb).2.1
            omega
          have hiw : ∀ x ∈ y.1.b.items, x.name.size ≤ 4294967296 := (HU.out.bn y.1.b hyb).2.2
          have HIW := hid hiw
          have HX := hid (And.intro hy (And.intro hgy (And.intro hm hyi)))
          have hng : g ≠ w1.heap.size := fun e => H.out.ne (i := 0) (j := 4) rfl rfl (by decide) rfl (by rw [e]; rfl)
          clear hy hgy y0 y1 hyrow hyi hm hiw hyb
          go_upto_region 9 with fail
          go_region
          have hz := map_set_same itRow (mapTo rnO os n) (n := n) (z := partO y 0) (by rw [hln]; exact hlt2) (by rw [HX.out.2.1]; simp only [itRow, partO, mapTo_zero])
          have hf := (H.out.putf (f := bkoC) (k := 4) (fun x => bkC_len x.1) 4 rfl (i := n) (by rw [hln]; exact hlt2) (partO y 0) (j := 0) (by omega) (u := .string (zN y.1.b.name)) (by rw [HX.out.2.1]; rfl) rfl).same (Chg.refl [] _).drew
          simp only [List.set_cons_succ, List.set_cons_zero] at hf
          rw [← hz] at hf
          have HF := hid hf
          obtain ⟨wB, hwB⟩ : ∃ wB, (wr.setCell ⟨g, n * 4, none⟩ (.string (zN y.1.b.name))).drew = wB := ⟨_, rfl⟩
          have x1 : wB.cell? ⟨g, n * 4 + 1, none⟩ = some (.slice ai m ci) := by
            have h1 := Row.atf (f := bkoC) (k := 4) (fun x => bkC_len x.1) (hf.rowAt (i := 4) rfl) (by rw [List.length_set, hln]) (i := n) (by rw [List.length_set, hln]; exact hlt2) (j := 1) (by omega)
            rw [← hwB]
            refine h1.trans ?_
            rw [List.getElem_set_self]
            show some y.1.items = _
            rw [HX.out.2.2.2]
          have u1 := hf.cell (i := 0) rfl 1
          simp only [List.getElem?_toArray, List.getElem?_cons_zero, List.getElem?_cons_succ] at u1
          have hwB' : (wr.setCell ⟨g, n * 4, none⟩ (.string (⟨#[122]⟩ ++ y.1.b.name))).drew = wB := hwB
          rw [show n * 4 + 0 = n * 4 from rfl, hwB] at HF u1
          try rw [hwB']
          clear hf hz hwB hwB' x0 gf u0 H
          obtain ⟨go, hgo⟩ : ∃ go, go = gk := ⟨_, rfl⟩
          rw [← hgo] at hgn
          go_upto_region 12 with fail
          go_loopg [7] m (fun gj vj wr => ∃ k : Nat, gj + k = m ∧ vj = .int .i64 k ∧ Hid (Hp [] w wr (.box w1.heap.size (.cells #[.slice avd i cvd, .slice (some ⟨g, 0, none⟩) L cvt] 25) :: .box (w.heap.size + 1) (.cells #[.slice none 0 0, .slice none 0 0] 25) :: .box w.heap.size (.cells #[.slice ad i cd, .slice ab L cb] 25) ::
            .row 52 5 (.slice avd i cvd) rd i ((u.decls.map rnD).flatMap dcC) :: .row 48 4 (.slice (some ⟨g, 0, none⟩) L cvt) (some g) L (((mapTo rnO os n).set n (partO y k)).flatMap bkoC) :: ((mapTo rnO os n).set n (partO y k)).map itRow)))
          case atStart => exact ⟨0, by omega, rfl, HF⟩
          case round =>
            subst hgo
            obtain ⟨k, hgk, rfl, H⟩ := hrel
            have hnl : n < (mapTo rnO os n).length := by rw [mapTo_len]; exact hno
            by_cases hkm : k < m
            · have hki : k < y.1.b.items.length := by rw [HX.out.2.2.1]; exact hkm
              have hrow := H.out.rowAt (i := 5 + n) (e := 55) (k := 10) (v := y.1.items) (r := y.2) (n := (mapTo rnI y.1.b.items k).length) (xs := (mapTo rnI y.1.b.items k).flatMap itC) (by
                rw [show 5 + n = n + 5 from by omega]
                show (((mapTo rnO os n).set n (partO y k)).map itRow)[n]? = _
                rw [List.getElem?_map, List.getElem?_set_self hnl]
                rfl)
              have hyi := HX.out.2.2.2
              rw [hyi, mapTo_len, HX.out.2.2.1] at hrow
              obtain ⟨gi, hgi2, rfl, hci⟩ := hrow.slice (by omega)
              rw [hgi2] at hrow
              obtain ⟨z, hz⟩ : ∃ z, y.1.b.items[k]'hki = z := ⟨_, rfl⟩
              have hgz : (mapTo rnI y.1.b.items k)[k]'(by rw [mapTo_len]; exact hki) = z := by rw [mapTo_get _ _ hki, hz]
              have hzc := fun (j : Nat) (hj : j < 10) => Row.atf itC_len hrow (by rw [mapTo_len]; exact HX.out.2.2.1) (i := k) (by rw [mapTo_len]; exact hki) hj
              rw [hgz] at hzc
              have z0 : wr.cell? ⟨gi, k * 10, none⟩ = some (.int .i64 z.op) := hzc 0 (by omega)
              have z5 : wr.cell? ⟨gi, k * 10 + 5, none⟩ = some (.string z.name) := hzc 5 (by omega)
              have gf := (Row.cellk hrow).2.1
              have hzn : z.name.size ≤ 4294967296 := HIW.out z (by rw [← hz]; exact List.getElem_mem _)
              have HZ := hid (And.intro hz (And.intro hgz hgi2))
              have hset : ∀ (W : World), Hp [] w W (.box w1.heap.size (.cells #[.slice avd i cvd, .slice (some ⟨g, 0, none⟩) L cvt] 25) :: .box (w.heap.size + 1) (.cells #[.slice none 0 0, .slice none 0 0] 25) :: .box w.heap.size (.cells #[.slice ad i cd, .slice ab L cb] 25) ::
                  .row 52 5 (.slice avd i cvd) rd i ((u.decls.map rnD).flatMap dcC) :: .row 48 4 (.slice (some ⟨g, 0, none⟩) L cvt) (some g) L (((mapTo rnO os n).set n (partO y k)).flatMap bkoC) :: (((mapTo rnO os n).set n (partO y k)).map itRow).set n (.row 55 10 y.1.items y.2 (mapTo rnI y.1.b.items k).length (((mapTo rnI y.1.b.items k).set k (rnI z)).flatMap itC))) →
                  Hp [] w W (.box w1.heap.size (.cells #[.slice avd i cvd, .slice (some ⟨g, 0, none⟩) L cvt] 25) :: .box (w.heap.size + 1) (.cells #[.slice none 0 0, .slice none 0 0] 25) :: .box w.heap.size (.cells #[.slice ad i cd, .slice ab L cb] 25) ::
                  .row 52 5 (.slice avd i cvd) rd i ((u.decls.map rnD).flatMap dcC) :: .row 48 4 (.slice (some ⟨g, 0, none⟩) L cvt) (some g) L (((mapTo rnO os n).set n (partO y (k + 1))).flatMap bkoC) :: ((mapTo rnO os n).set n (partO y (k + 1))).map itRow) := by
                intro W h
                have e1 : ((mapTo rnO os n).set n (partO y k)).flatMap bkoC = ((mapTo rnO os n).set n (partO y (k + 1))).flatMap bkoC := by
                  simp only [List.flatMap_def, List.map_set]
                  rfl
                have e2 : (((mapTo rnO os n).set n (partO y k)).map itRow).set n (.row 55 10 y.1.items y.2 (mapTo rnI y.1.b.items k).length (((mapTo rnI y.1.b.items k).set k (rnI z)).flatMap itC)) = ((mapTo rnO os n).set n (partO y (k + 1))).map itRow := by
                  simp only [List.map_set, List.set_set]
                  congr 1
                  rw [← hz, mapTo_set _ _ hki]
                  simp only [itRow, partO, mapTo_len]
                rw [e1, e2] at h
                exact h
              have HSET := hid hset
              clear hz hgz hzc hset hyi hgi2
              cases hL : ledB z.op with
              | true =>
                have HR := hid (show rnI z = ⟨z.op, z.a, z.b, z.c, z.n, yN z.name, z.p1, z.p2, z.q1, z.q2⟩ from by unfold rnI; rw [if_pos hL])
                go_wp2_with (go_at_call 23; refine (led_calls _ _).mono ?_; rintro e w' ⟨rfl, rfl⟩; rw [hL])
                have hI : (.box w1.heap.size (.cells #[.slice avd i cvd, .slice (some ⟨g, 0, none⟩) L cvt] 25) :: .box (w.heap.size + 1) (.cells #[.slice none 0 0, .slice none 0 0] 25) :: .box w.heap.size (.cells #[.slice ad i cd, .slice ab L cb] 25) ::
                    .row 52 5 (.slice avd i cvd) rd i ((u.decls.map rnD).flatMap dcC) :: .row 48 4 (.slice (some ⟨g, 0, none⟩) L cvt) (some g) L (((mapTo rnO os n).set n (partO y k)).flatMap bkoC) :: ((mapTo rnO os n).set n (partO y k)).map itRow)[n + 5]? = some (.row 55 10 y.1.items (some gi) (mapTo rnI y.1.b.items k).length ((mapTo rnI y.1.b.items k).flatMap itC)) := by
                  show (((mapTo rnO os n).set n (partO y k)).map itRow)[n]? = _
                  rw [List.getElem?_map, List.getElem?_set_self hnl, ← HZ.out.2.2]
                  rfl
                have hf := H.out.putf itC_len (n + 5) hI (i := k) (by rw [mapTo_len]; exact hki) (rnI z) (j := 5) (by omega) (u := .string (yN z.name)) (by rw [HZ.out.2.1, HR.out]; rfl) rfl
                rw [← HZ.out.2.2] at hf
                have HF2 := hid (HSET.out _ hf)
                clear hI hf
                go_roundg (gk - 1)
                case measure => omega
                case rel => exact ⟨k + 1, by omega, by go_num, HF2⟩
              | false =>
                by_cases hzs : z.name.size = 0
                · have HR := hid (show rnI z = z from by
                    unfold rnI
                    rw [if_neg (by simp [hL]), if_pos hzs])
                  have t1 : z.name.toList.isEmpty = true := by rw [isEmpty_size]; exact decide_eq_true hzs
                  have t2 : z.name.toList = [] := by simpa using t1
                  clear hzs
                  go_wp2_with (go_at_call 23; refine (led_calls _ _).mono ?_; rintro e w' ⟨rfl, rfl⟩; rw [hL])
                  have e8 : mapTo rnI y.1.b.items (k + 1) = mapTo rnI y.1.b.items k := by
                    have h1 := mapTo_set rnI y.1.b.items hki
                    rw [← h1, HZ.out.1, HR.out]
                    apply List.ext_getElem?
                    intro j
                    by_cases hj : k = j
                    · subst hj
                      rw [List.getElem?_set_self (by rw [mapTo_len]; exact hki), List.getElem?_eq_getElem (by rw [mapTo_len]; exact hki), HZ.out.2.1]
                    · rw [List.getElem?_set_ne hj]
                  have e9 : partO y (k + 1) = partO y k := by unfold partO; rw [e8]
                  have HE := hid e9
                  clear e8 e9
                  go_roundg (gk - 1)
                  case measure => omega
                  case rel => exact ⟨k + 1, by omega, by go_num, hid (by rw [HE.out]; exact H.out)⟩
                · have HR := hid (show rnI z = ⟨z.op, z.a, z.b, z.c, z.n, zN z.name, z.p1, z.p2, z.q1, z.q2⟩ from by
                    unfold rnI
                    rw [if_neg (by simp [hL]), if_neg hzs])
                  have t1 : z.name.toList.isEmpty = false := by rw [isEmpty_size]; exact decide_eq_false hzs
                  have t2 : ¬ z.name.toList = [] := by intro e; rw [e] at t1; simp at t1
                  clear hzs
                  go_wp2_with (go_at_call 23; refine (led_calls _ _).mono ?_; rintro e w' ⟨rfl, rfl⟩; rw [hL])
                  have hI : (.box w1.heap.size (.cells #[.slice avd i cvd, .slice (some ⟨g, 0, none⟩) L cvt] 25) :: .box (w.heap.size + 1) (.cells #[.slice none 0 0, .slice none 0 0] 25) :: .box w.heap.size (.cells #[.slice ad i cd, .slice ab L cb] 25) ::
                      .row 52 5 (.slice avd i cvd) rd i ((u.decls.map rnD).flatMap dcC) :: .row 48 4 (.slice (some ⟨g, 0, none⟩) L cvt) (some g) L (((mapTo rnO os n).set n (partO y k)).flatMap bkoC) :: ((mapTo rnO os n).set n (partO y k)).map itRow)[n + 5]? = some (.row 55 10 y.1.items (some gi) (mapTo rnI y.1.b.items k).length ((mapTo rnI y.1.b.items k).flatMap itC)) := by
                    show (((mapTo rnO os n).set n (partO y k)).map itRow)[n]? = _
                    rw [List.getElem?_map, List.getElem?_set_self hnl, ← HZ.out.2.2]
                    rfl
                  have hf := H.out.putf itC_len (n + 5) hI (i := k) (by rw [mapTo_len]; exact hki) (rnI z) (j := 5) (by omega) (u := .string (zN z.name)) (by rw [HZ.out.2.1, HR.out]; rfl) rfl
                  rw [← HZ.out.2.2] at hf
                  have HF2 := hid (HSET.out _ hf)
                  clear hI hf
                  go_roundg (gk - 1)
                  case measure => omega
                  case rel => exact ⟨k + 1, by omega, by go_num, HF2⟩
            · obtain rfl : k = m := by omega
              have e9 : partO y k = rnO y := by
                unfold partO rnO rnB
                rw [mapTo_all _ _ (by rw [HX.out.2.2.1]; exact Nat.le_refl _)]
              have h1 := H.out
              rw [e9, ← HX.out.1, mapTo_set _ _ hno] at h1
              have HN := hid h1
              clear h1 e9
              go_wp2_with fail
              go_roundg (go - 1)
              case measure => omega
              case rel => exact ⟨n + 1, by omega, by go_num, HN⟩
        · obtain rfl : n = L := by omega
          have h1 := H.out
          rw [mapTo_all _ _ (by rw [HOS.out.2]; exact Nat.le_refl _)] at h1
          have hp2 := (h1.put 1 rfl 0 (.slice avd i cvd) rfl).put 1 rfl 1 (.slice avt n cvt) rfl
          obtain ⟨W, hW⟩ : ∃ W, ((wr.setCell ⟨w.heap.size + 1, 0, none⟩ (.slice avd i cvd)).setCell ⟨w.heap.size + 1, 1, none⟩ (.slice avt n cvt)) = W := ⟨_, rfl⟩
          have r0 := h1.cell (i := 1) rfl 0
          have r1 := h1.cell (i := 1) rfl 1
          have f0 := h1.free (i := 1) rfl
          rw [hW] at hp2
          have c0 := hp2.cell (i := 1) rfl 0
          have c1 := hp2.cell (i := 1) rfl 1
          simp only [List.set_cons_zero, List.set_cons_succ, List.getElem?_toArray, List.getElem?_cons_zero, List.getElem?_cons_succ, List.setIfInBounds_toArray] at c0 c1 r0 r1
          have hz : UnH w W (.slice avd i cvd) rd (u.decls.map rnD) (.slice avt n cvt) rt (os.map rnO) := ⟨by
            unfold dRow tRow
            rw [List.length_map, List.length_map, ← HDL.out.1, HOS.out.2]
            exact hp2.sub (.cons _ (.cons _ (.cons _ (.refl _))))⟩
          have hbk : blks (os.map rnO) = u.blocks.map rnB := by
            rw [← HOS.out.1]
            simp only [blks, List.map_map]
            rfl
          have HZ := hid (And.intro hz hbk)
          clear hp2 hz hbk h1
          go_wp2_with fail
          try simp only [hW]
          exact bodyPost_ret (v := .agg #[.slice avd i cvd, .slice avt n cvt]) (by simp [results, Try.results11, go_sem, c0, c1]) rfl ⟨_, rd, _, rt, _, rfl, HZ.out.1, HZ.out.2⟩
end Go.Proofs.Ytaknmhipaifdkaa
