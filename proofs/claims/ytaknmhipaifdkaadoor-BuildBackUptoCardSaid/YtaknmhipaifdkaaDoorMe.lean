/- Walks of the reference: Bare, a program without its places. (Printed by gen_bare.py.) -/
import Derived.Test.YtaknmhipaifdkaaDoorMd
set_option linter.unusedSimpArgs false
set_option linter.unusedVariables false
set_option linter.unusedSectionVars false
namespace Go.Proofs.YtaknmhipaifdkaaDoor
open Go.RowKit Go.AB

def erD (t : ThrD) : ThrD := ⟨t.name, t.code, []⟩
def erT (x : ThrV) : ThrV := ⟨erD x.t, x.code, .slice none 0 0⟩
/-- A program without its places. -/
def bareE (p : PrgD) : PrgD := ⟨p.vars, p.vols, p.locks, p.bars, p.thrs.map erD⟩
theorem bareE_Z (p : PrgD) : bareE (bareZ p) = bareE p := by
  unfold bareE bareZ
  simp only [List.map_map]
  rfl

set_option maxHeartbeats 8000000 in
set_option maxRecDepth 100000 in
theorem bare_calls {v : Value} {p : PrgD} (w : World) (hv : PrgV w v p) (hp : SmallP p) : Calls Tryd.prog 12 #[v] w fun e w' => ∃ v', e = .returned v' ∧ PrgV w' v' (bareE p) ∧ Chg [] w w' := by
  obtain ⟨x0, n0, c0, x1, n1, c1, x2, n2, c2, x3, n3, c3, x4, n4, c4, ts, rfl, hb⟩ := prgv_boxed hv
  have hn4 : n4 ≤ 1048576 := by
    have h1 := hp.thrs
    rw [← hb.th, List.length_map, hb.e4] at h1
    exact h1
  have hp0 := (((Hp.start (S0 := []) w (by simp)).box (.cells #[.slice x0 n0 c0, .slice x1 n1 c1, .slice x2 n2 c2, .slice x3 n3 c3, .slice x4 n4 c4] 32)).box (.cells #[.slice none 0 0, .slice none 0 0, .slice none 0 0, .slice none 0 0, .slice none 0 0] 32)).box (.cells #[.slice x0 n0 c0, .slice x1 n1 c1, .slice x2 n2 c2, .slice x3 n3 c3, .slice none 0 0] 32)
  simp only [World.size_alloc] at hp0
  have HP0 := hid (hp0.nil 50 3)
  have hv0 := hv
  have HV := hid (fun W (h : Chg [] w W) => hv0.keep h)
  have hbx := hb
  have HLEN := hid (And.intro hb.e4 hb.th)
  have hl4 : Lst thrC 3 (w.alloc (.cells #[.slice x0 n0 c0, .slice x1 n1 c1, .slice x2 n2 c2, .slice x3 n3 c3, .slice x4 n4 c4] 32)) (.slice x4 n4 c4) ts := hb.l4
  have hth := hb.in'
  have HL := hid (And.intro hl4 hth)
  have u0 := hb.u0
  have u1 := hb.u1
  have u2 := hb.u2
  have u3 := hb.u3
  have hcz : Chg [] (w.alloc (.cells #[.slice x0 n0 c0, .slice x1 n1 c1, .slice x2 n2 c2, .slice x3 n3 c3, .slice x4 n4 c4] 32)) ((w.alloc (.cells #[.slice x0 n0 c0, .slice x1 n1 c1, .slice x2 n2 c2, .slice x3 n3 c3, .slice x4 n4 c4] 32)).alloc (.cells #[.slice none 0 0, .slice none 0 0, .slice none 0 0, .slice none 0 0, .slice none 0 0] 32)) := (Chg.refl [] _).alloc _
  have u0 := hcz.cell u0 (by simp)
  have u1 := hcz.cell u1 (by simp)
  have u2 := hcz.cell u2 (by simp)
  have u3 := hcz.cell u3 (by simp)
  obtain ⟨wb, hwb⟩ : ∃ wb, w.alloc (.cells #[.slice x0 n0 c0, .slice x1 n1 c1, .slice x2 n2 c2, .slice x3 n3 c3, .slice x4 n4 c4] 32) = wb := ⟨_, rfl⟩
  have hszb : wb.heap.size = w.heap.size + 1 := by rw [← hwb]; simp
  have hb1 := hb
  rw [hwb] at HL hb1
  have HPB := hid (fun W (h : Chg [] wb W) => hb1.keep h)
  have HSB := hid hszb
  have HWB := hid hwb
  have hcb : Chg [] wb ((wb.alloc (.cells #[.slice none 0 0, .slice none 0 0, .slice none 0 0, .slice none 0 0, .slice none 0 0] 32)).alloc (.cells #[.slice x0 n0 c0, .slice x1 n1 c1, .slice x2 n2 c2, .slice x3 n3 c3, .slice none 0 0] 32)) := ((Chg.refl [] wb).alloc _).alloc _
  have HCB := hid hcb
  rw [hwb] at HP0
  clear hv hv0 hb hbx hb1 hp hp0 hl4 hth hcz hwb hszb hcb
  go_enter Tryd.func12, Tryd.ntmps12
  go_upto_region 3 with fail
  rw [HWB.out]
  clear u0 u1 u2 u3
  go_loopg [4] n4 (fun gk vi wr => ∃ (k L : Nat) (at' : Option Addr) (ct : Nat) (rt : Option Nat), gk + k = n4 ∧ vi = .int .i64 k ∧ L ≤ k ∧ Hid (((ts.take k).map erT).length = L) ∧ Hid (Chg [] wb wr) ∧ Hid (Hp [] w wr (.row 50 3 (.slice at' L ct) rt L (((ts.take k).map erT).flatMap thrC) :: .box (w.heap.size + 1 + 1) (.cells #[.slice x0 n0 c0, .slice x1 n1 c1, .slice x2 n2 c2, .slice x3 n3 c3, .slice at' L ct] 32) :: .box (w.heap.size + 1) (.cells #[.slice none 0 0, .slice none 0 0, .slice none 0 0, .slice none 0 0, .slice none 0 0] 32) :: .box w.heap.size (.cells #[.slice x0 n0 c0, .slice x1 n1 c1, .slice x2 n2 c2, .slice x3 n3 c3, .slice x4 n4 c4] 32) :: [])))
  case atStart => exact ⟨0, 0, none, 0, none, by omega, rfl, by omega, hid rfl, HCB, HP0⟩
  case round =>
    obtain ⟨k, L, at', ct, rt, hgk, rfl, hL, HLL, HCW, H⟩ := hrel
    have hpb := HPB.out wr HCW.out
    have p4 := hpb.u4
    by_cases hk : k < n4
    · have hkl : k < ts.length := by rw [HLEN.out.1]; exact hk
      obtain ⟨x, hx⟩ : ∃ x, ts[k]'hkl = x := ⟨_, rfl⟩
      have hl4 := hpb.l4
      rw [show (.slice x4 n4 c4 : Value) = .slice x4 ts.length c4 from by rw [HLEN.out.1]] at hl4
      obtain ⟨b1, o1, e1, z0, z1, z2⟩ := thrs_at' hl4 hkl hx
      have hxm : x ∈ ts := by rw [← hx]; exact List.getElem_mem _
      obtain ⟨ac, kc, hxc, _⟩ := (hpb.in' x hxm).1.len
      obtain ⟨nc, hnc⟩ : ∃ nc, x.t.code.length = nc := ⟨_, rfl⟩
      rw [hxc, hnc] at z1
      have v4 := H.out.cell (i := 1) rfl 4
      simp only [List.getElem?_toArray, List.getElem?_cons_zero, List.getElem?_cons_succ] at v4
      have v4a : ∀ o, (wr.alloc o).cell? ⟨w.heap.size + 1 + 1, 4, none⟩ = some (.slice at' L ct) := fun o => ((Chg.refl [] wr).alloc o).cell v4 (by simp)
      have hrow := H.out.rowAt (i := 0) rfl
      have hnp : w.heap.size ∉ rt.toList := fun hm => H.out.ne (i := 3) (j := 0) rfl rfl (by decide) rfl (by simpa [It.blk] using hm)
      have hb1w : b1 < wb.heap.size := by
        obtain ⟨b9, o9, e9, q9, _⟩ := thrs_at' (show Lst thrC 3 wb (.slice x4 ts.length c4) ts from by have h9 := HL.out.1; rw [← HLEN.out.1] at h9; exact h9) hkl hx
        rw [e1] at e9
        simp only [Option.some.injEq, Addr.mk.injEq, and_true] at e9
        have := World.block_lt_of_cell? _ _ q9
        simp only at this
        omega
      have hsz := HSB.out
      have hnb : b1 ∉ rt.toList := fun hm => by
        have h7 := H.out.lo _ (List.mem_cons_self ..) b1 (by simpa [It.blk] using hm)
        have : b1 = w.heap.size := by omega
        rw [this] at hm
        exact hnp hm
      have HX := hid (show (ts.take (k + 1)).map erT = (ts.take k).map erT ++ [erT x] from by rw [List.take_succ_eq_append_getElem hkl, hx, List.map_append]; rfl)
      have hxe : thrC (erT x) = [.string x.t.name, .slice ac nc kc, .slice none 0 0] := by unfold thrC erT; rw [hxc, hnc]; rfl
      have HXE := hid hxe
      subst e1
      clear hx hxm hxc hnc hpb hl4 hxe z2
      go_upto_region 5 with fail
      (refine wp_region_held_drew (S := (fun w' => w'.cell? ⟨w.heap.size, 4, none⟩ = some (.slice (some ⟨b1, o1, none⟩) n4 c4) ∧ w'.cell? ⟨b1, o1 + k * 3, none⟩ = some (.string x.t.name) ∧ w'.cell? ⟨b1, o1 + k * 3 + 1, none⟩ = some (.slice ac nc kc))) (by kernel_rfl) (by exact ⟨p4, z0, z1⟩) (fun hHeld => ?_); (refine wpAnyH_take (i := 0) (v := ?_) rfl (by kernel_rfl) (by kernel_rfl) (by kernel_rfl) (fun _ _ _ h => h) (Or.inl ⟨by rfl, ?_⟩) (by assumption) ?_; rotate_left 1; (focus (intro w hSw; (try dsimp only at hSw); go_simp; (try with_reducible rfl))); (try simp only [List.getElem_toArray, List.getElem_cons_zero, List.getElem_cons_succ, Act.put, List.setIfInBounds_toArray, List.set_cons_zero, List.set_cons_succ])); (refine wpAnyH_take (i := 2) (v := ?_) rfl (by kernel_rfl) (by kernel_rfl) (by kernel_rfl) (fun _ _ _ h => h) (Or.inl ⟨by rfl, ?_⟩) (by assumption) ?_; rotate_left 1; (focus (intro w hSw; (try dsimp only at hSw); go_simp; (try with_reducible rfl))); (try simp only [List.getElem_toArray, List.getElem_cons_zero, List.getElem_cons_succ, Act.put, List.setIfInBounds_toArray, List.set_cons_zero, List.set_cons_succ])); (refine wpAnyH_take (i := 3) (v := ?_) rfl (by kernel_rfl) (by kernel_rfl) (by kernel_rfl) (fun _ _ _ h => h) (Or.inl ⟨by rfl, ?_⟩) (by assumption) ?_; rotate_left 1; (focus (intro w hSw; (try dsimp only at hSw); go_simp; (try with_reducible rfl))); (try simp only [List.getElem_toArray, List.getElem_cons_zero, List.getElem_cons_succ, Act.put, List.setIfInBounds_toArray, List.set_cons_zero, List.set_cons_succ])); (refine wpAnyH_take (i := 4) (v := ?_) rfl (by kernel_rfl) (by kernel_rfl) (by kernel_rfl) (fun _ _ _ h => h) (Or.inl ⟨by rfl, ?_⟩) (by assumption) ?_; rotate_left 1; (focus (intro w hSw; (try dsimp only at hSw); go_simp; (try with_reducible rfl))); (try simp only [List.getElem_toArray, List.getElem_cons_zero, List.getElem_cons_succ, Act.put, List.setIfInBounds_toArray, List.set_cons_zero, List.set_cons_succ])); (refine wpAnyH_take (i := 5) (v := ?_) rfl (by kernel_rfl) (by kernel_rfl) (by kernel_rfl) (fun _ _ _ h => h) (Or.inl ⟨by rfl, ?_⟩) (by assumption) ?_; rotate_left 1; (focus (intro w hSw; (try dsimp only at hSw); go_simp; (try with_reducible rfl))); (try simp only [List.getElem_toArray, List.getElem_cons_zero, List.getElem_cons_succ, Act.put, List.setIfInBounds_toArray, List.set_cons_zero, List.set_cons_succ])); (refine wpAnyH_take (i := 6) (v := ?_) rfl (by kernel_rfl) (by kernel_rfl) (by kernel_rfl) (fun _ _ _ h => h) (Or.inl ⟨by rfl, ?_⟩) (by assumption) ?_; rotate_left 1; (focus (intro w hSw; (try dsimp only at hSw); go_simp; (try with_reducible rfl))); (try simp only [List.getElem_toArray, List.getElem_cons_zero, List.getElem_cons_succ, Act.put, List.setIfInBounds_toArray, List.set_cons_zero, List.set_cons_succ])); (refine wpAnyH_take (i := 7) (v := ?_) rfl (by kernel_rfl) (by kernel_rfl) (by kernel_rfl) (fun _ _ _ h => h) (Or.inl ⟨by rfl, ?_⟩) (by assumption) ?_; rotate_left 1; (focus (intro w hSw; (try dsimp only at hSw); go_simp; (try with_reducible rfl))); (try simp only [List.getElem_toArray, List.getElem_cons_zero, List.getElem_cons_succ, Act.put, List.setIfInBounds_toArray, List.set_cons_zero, List.set_cons_succ])); (refine wpAnyH_take (i := 8) (v := ?_) rfl (by kernel_rfl) (by kernel_rfl) (by kernel_rfl) (fun _ _ _ h => h) (Or.inl ⟨by rfl, ?_⟩) (by assumption) ?_; rotate_left 1; (focus (intro w hSw; (try dsimp only at hSw); go_simp; (try with_reducible rfl))); (try simp only [List.getElem_toArray, List.getElem_cons_zero, List.getElem_cons_succ, Act.put, List.setIfInBounds_toArray, List.set_cons_zero, List.set_cons_succ])); (refine wpAnyH_take (i := 9) (v := ?_) rfl (by kernel_rfl) (by kernel_rfl) (by kernel_rfl) (fun _ _ _ h => h) (Or.inl ⟨by rfl, ?_⟩) (by assumption) ?_; rotate_left 1; (focus (intro w hSw; (try dsimp only at hSw); go_simp; (try with_reducible rfl))); (try simp only [List.getElem_toArray, List.getElem_cons_zero, List.getElem_cons_succ, Act.put, List.setIfInBounds_toArray, List.set_cons_zero, List.set_cons_succ])); (refine wpAnyH_take (i := 10) (v := ?_) rfl (by kernel_rfl) (by kernel_rfl) (by kernel_rfl) (fun _ _ _ h => h) (Or.inl ⟨by rfl, ?_⟩) (by assumption) ?_; rotate_left 1; (focus (intro w hSw; (try dsimp only at hSw); go_simp; (try with_reducible rfl))); (try simp only [List.getElem_toArray, List.getElem_cons_zero, List.getElem_cons_succ, Act.put, List.setIfInBounds_toArray, List.set_cons_zero, List.set_cons_succ])); (refine wpAnyH_take (i := 11) (v := ?_) rfl (by kernel_rfl) (by kernel_rfl) (by kernel_rfl) (fun _ _ _ h => h) (Or.inl ⟨by rfl, ?_⟩) (by assumption) ?_; rotate_left 1; (focus (intro w hSw; (try dsimp only at hSw); go_simp; (try with_reducible rfl))); (try simp only [List.getElem_toArray, List.getElem_cons_zero, List.getElem_cons_succ, Act.put, List.setIfInBounds_toArray, List.set_cons_zero, List.set_cons_succ])); (refine wpAnyH_take (i := 12) (v := ?_) rfl (by kernel_rfl) (by kernel_rfl) (by kernel_rfl) (fun _ _ _ h => h) (Or.inl ⟨by rfl, ?_⟩) (by assumption) ?_; rotate_left 1; (focus (intro w hSw; (try dsimp only at hSw); go_simp; (try with_reducible rfl))); (try simp only [List.getElem_toArray, List.getElem_cons_zero, List.getElem_cons_succ, Act.put, List.setIfInBounds_toArray, List.set_cons_zero, List.set_cons_succ])); (refine wpAnyH_take (i := 13) (v := ?_) rfl (by kernel_rfl) (by kernel_rfl) (by kernel_rfl) (fun _ _ _ h => h) (Or.inl ⟨by rfl, ?_⟩) (by assumption) ?_; rotate_left 1; (focus (intro w hSw; (try dsimp only at hSw); go_simp; (try with_reducible rfl))); (try simp only [List.getElem_toArray, List.getElem_cons_zero, List.getElem_cons_succ, Act.put, List.setIfInBounds_toArray, List.set_cons_zero, List.set_cons_succ])); (refine wpAnyH_take (i := 14) (v := ?_) rfl (by kernel_rfl) (by kernel_rfl) (by kernel_rfl) (fun _ _ _ h => h) (Or.inl ⟨by rfl, ?_⟩) (by assumption) ?_; rotate_left 1; (focus (intro w hSw; (try dsimp only at hSw); go_simp; (try with_reducible rfl))); (try simp only [List.getElem_toArray, List.getElem_cons_zero, List.getElem_cons_succ, Act.put, List.setIfInBounds_toArray, List.set_cons_zero, List.set_cons_succ])); (refine wpAnyH_ready (rs := [1, 15]) (by kernel_rfl) (by simp) ?_; refine AllReadyH.cons rfl (fun K hK => ?_) (AllReadyH.cons rfl (fun K hK => ?_) AllReadyH.nil)); (focus (go_simp; (refine hK.out _ _ (by exact hHeld) (fun hHeld => ?_); clear hK K; (try simp only [List.getElem_toArray, List.getElem_cons_zero, List.getElem_cons_succ, Act.put, List.setIfInBounds_toArray, List.set_cons_zero, List.set_cons_succ])); (refine wpAnyH_ready (rs := [15]) (by kernel_rfl) (by simp) ?_; refine AllReadyH.cons rfl (fun K hK => ?_) AllReadyH.nil; go_simp; (refine hK.out _ _ (by exact (by exact ⟨((Chg.refl [] _).alloc _).cell hHeld.1 (by simp), ((Chg.refl [] _).alloc _).cell hHeld.2.1 (by simp), ((Chg.refl [] _).alloc _).cell hHeld.2.2 (by simp)⟩)) (fun hHeld => ?_); clear hK K; (try simp only [List.getElem_toArray, List.getElem_cons_zero, List.getElem_cons_succ, Act.put, List.setIfInBounds_toArray, List.set_cons_zero, List.set_cons_succ]))))); rotate_left 1; (focus (go_simp; (refine hK.out _ _ (by exact (by exact ⟨((Chg.refl [] _).alloc _).cell hHeld.1 (by simp), ((Chg.refl [] _).alloc _).cell hHeld.2.1 (by simp), ((Chg.refl [] _).alloc _).cell hHeld.2.2 (by simp)⟩)) (fun hHeld => ?_); clear hK K; (try simp only [List.getElem_toArray, List.getElem_cons_zero, List.getElem_cons_succ, Act.put, List.setIfInBounds_toArray, List.set_cons_zero, List.set_cons_succ])); (refine wpAnyH_ready (rs := [1]) (by kernel_rfl) (by simp) ?_; refine AllReadyH.cons rfl (fun K hK => ?_) AllReadyH.nil; go_simp; (refine hK.out _ _ (by exact hHeld) (fun hHeld => ?_); clear hK K; (try simp only [List.getElem_toArray, List.getElem_cons_zero, List.getElem_cons_succ, Act.put, List.setIfInBounds_toArray, List.set_cons_zero, List.set_cons_succ]))))); (all_goals ((refine wpAnyH_ready (rs := [16]) (by kernel_rfl) (by simp) ?_; refine AllReadyH.cons rfl (fun K hK => ?_) AllReadyH.nil; refine step_grew rfl _ _ 30 rfl elem_thr rfl (hrow.keep (((Chg.refl [] wr).drew).alloc _) (by simp)) rfl (View.structAt wr.drew [.string x.t.name, .slice ac nc kc, .slice none 0 0] 50 rfl rfl) (by simp [Value.oneCell']) (by unfold maxLen; omega) (by omega) (fun ao5 cap5 r5 w5 hr5 hg5 => ?_); (refine hK.out _ _ (by exact (by exact ⟨hg5.chg.cell hHeld.1 hnp, hg5.chg.cell hHeld.2.1 hnb, hg5.chg.cell hHeld.2.2 hnb⟩)) (fun hHeld => ?_); clear hK K; (try simp only [List.getElem_toArray, List.getElem_cons_zero, List.getElem_cons_succ, Act.put, List.setIfInBounds_toArray, List.set_cons_zero, List.set_cons_succ]))); (refine wpAnyH_take (i := 17) (v := ?_) rfl (by kernel_rfl) (by kernel_rfl) (by kernel_rfl) (fun _ _ _ h => h) (Or.inl ⟨by rfl, ?_⟩) (by assumption) ?_; rotate_left 1; (focus (intro w hSw; (try dsimp only at hSw); go_simp; (try with_reducible rfl))); (try simp only [List.getElem_toArray, List.getElem_cons_zero, List.getElem_cons_succ, Act.put, List.setIfInBounds_toArray, List.set_cons_zero, List.set_cons_succ])); (refine wpAnyH_ready (rs := [18]) (by kernel_rfl) (by simp) ?_; refine AllReadyH.cons rfl (fun K hK => ?_) AllReadyH.nil; go_simp; (have hH5 := (H.out.same (Chg.refl [] wr).drew).grow 0 rfl ((Chg.refl [] _).alloc _) hr5 hg5.chg hg5.fresh rfl; have v5 := hH5.cell (i := 1) rfl 4; have f5 := hH5.free (i := 1) rfl; simp only [List.set_cons_zero, List.set_cons_succ, List.getElem?_toArray, List.getElem?_cons_zero, List.getElem?_cons_succ] at v5; go_simp); (refine hK.out _ _ (by exact (by have h9 : Chg [w.heap.size + 1 + 1] w5 (w5.setCell ⟨w.heap.size + 1 + 1, 4, none⟩ (.slice ao5 (L + 1) cap5)) := (Chg.refl _ w5).setCell (p := ⟨w.heap.size + 1 + 1, 4, none⟩) (.inl (by simp)) _; exact ⟨h9.cell hHeld.1 (by simp; omega), h9.cell hHeld.2.1 (by simp; omega), h9.cell hHeld.2.2 (by simp; omega)⟩)) (fun hHeld => ?_); clear hK K; (try simp only [List.getElem_toArray, List.getElem_cons_zero, List.getElem_cons_succ, Act.put, List.setIfInBounds_toArray, List.set_cons_zero, List.set_cons_succ]))); refine wpAnyH_done (by kernel_rfl) ?_ _)))
      all_goals
        have hH5 := (H.out.same (Chg.refl [] wr).drew).grow 0 rfl ((Chg.refl [] _).alloc _) hr5 hg5.chg hg5.fresh rfl
        have hP := hH5.put 1 rfl 4 (.slice ao5 (L + 1) cap5) rfl
        simp only [List.set_cons_zero, List.set_cons_succ, List.setIfInBounds_toArray] at hP
        have hcw8 : Chg [] wb (w5.setCell ⟨w.heap.size + 1 + 1, 4, none⟩ (.slice ao5 (L + 1) cap5)) := by
          refine Chg.setCell (HCW.out.trans (((Chg.refl [] wr).drew.alloc (.cells #[.string x.t.name, .slice ac nc kc, .slice none 0 0] 50)).nil.trans' hg5.chg) (fun y hy => .inr ?_)) (.inr ?_) _
          · have h9 := H.out.lo _ (List.mem_of_getElem? (i := 0) rfl) y (by simpa [It.blk] using hy)
            have h6 : y ≠ w.heap.size := fun e => hnp (by rw [← e]; exact hy)
            omega
          · simp only; omega
        have HP := hid hP
        have HCW8 := hid hcw8
        clear hP hH5 hcw8
        go_wp2_with fail
        go_roundg (gk - 1)
        case measure => omega
        case rel =>
          refine ⟨k + 1, L + 1, ao5, cap5, r5, by omega, by go_num, by omega, hid (by rw [HX.out, List.length_append, HLL.out]; rfl), HCW8, hid ?_⟩
          rw [HX.out, List.flatMap_append, List.flatMap_cons, List.flatMap_nil, List.append_nil, HXE.out]
          exact HP.out
    · obtain rfl : k = n4 := by omega
      have h1 := H.out
      have hl1 := HLL.out
      rw [List.take_of_length_le (by rw [HLEN.out.1]; exact Nat.le_refl _)] at h1 hl1
      have q0 := h1.cell (i := 1) rfl 0
      have q1 := h1.cell (i := 1) rfl 1
      have q2 := h1.cell (i := 1) rfl 2
      have q3 := h1.cell (i := 1) rfl 3
      have q4 := h1.cell (i := 1) rfl 4
      have z0 := h1.cell (i := 2) rfl 0
      have z1 := h1.cell (i := 2) rfl 1
      have z2 := h1.cell (i := 2) rfl 2
      have z3 := h1.cell (i := 2) rfl 3
      have z4 := h1.cell (i := 2) rfl 4
      have zf := h1.free (i := 2) rfl
      simp only [List.getElem?_toArray, List.getElem?_cons_zero, List.getElem?_cons_succ] at q0 q1 q2 q3 q4 z0 z1 z2 z3 z4
      have q5 := ((((h1.put 2 rfl 0 (.slice x0 n0 c0) rfl).put 2 rfl 1 (.slice x1 n1 c1) rfl).put 2 rfl 2 (.slice x2 n2 c2) rfl).put 2 rfl 3 (.slice x3 n3 c3) rfl).put 2 rfl 4 (.slice at' L ct) rfl
      simp only [List.set_cons_zero, List.set_cons_succ, List.setIfInBounds_toArray] at q5
      have HQ5 := hid q5
      have HLN := hid hl1
      have HPB2 := hid hpb
      clear q5 h1 hl1 hpb
      go_wp2_with fail
      obtain ⟨wC, hwC⟩ : ∃ wC, (((((wr.setCell ⟨w.heap.size + 1, 0, none⟩ (.slice x0 n0 c0)).setCell ⟨w.heap.size + 1, 1, none⟩ (.slice x1 n1 c1)).setCell ⟨w.heap.size + 1, 2, none⟩ (.slice x2 n2 c2)).setCell ⟨w.heap.size + 1, 3, none⟩ (.slice x3 n3 c3)).setCell ⟨w.heap.size + 1, 4, none⟩ (.slice at' L ct)) = wC := ⟨_, rfl⟩
      have hcC := ((((HCW.out.setCell (p := ⟨w.heap.size + 1, 0, none⟩) (.inr (by rw [HSB.out]; exact Nat.le_refl _)) (.slice x0 n0 c0)).setCell (p := ⟨w.heap.size + 1, 1, none⟩) (.inr (by rw [HSB.out]; exact Nat.le_refl _)) (.slice x1 n1 c1)).setCell (p := ⟨w.heap.size + 1, 2, none⟩) (.inr (by rw [HSB.out]; exact Nat.le_refl _)) (.slice x2 n2 c2)).setCell (p := ⟨w.heap.size + 1, 3, none⟩) (.inr (by rw [HSB.out]; exact Nat.le_refl _)) (.slice x3 n3 c3)).setCell (p := ⟨w.heap.size + 1, 4, none⟩) (.inr (by rw [HSB.out]; exact Nat.le_refl _)) (.slice at' L ct)
      rw [hwC] at hcC
      have HCC := hid hcC
      clear hcC
      rw [hwC] at HQ5
      try rw [hwC]
      clear hwC
      have d0 := HQ5.out.cell (i := 2) rfl 0
      have d1 := HQ5.out.cell (i := 2) rfl 1
      have d2 := HQ5.out.cell (i := 2) rfl 2
      have d3 := HQ5.out.cell (i := 2) rfl 3
      have d4 := HQ5.out.cell (i := 2) rfl 4
      simp only [List.getElem?_toArray, List.getElem?_cons_zero, List.getElem?_cons_succ] at d0 d1 d2 d3 d4
      refine bodyPost_ret (v := .agg #[.slice x0 n0 c0, .slice x1 n1 c1, .slice x2 n2 c2, .slice x3 n3 c3, .slice at' L ct]) (by simp [results, Tryd.results12, go_sem, d0, d1, d2, d3, d4]) rfl ⟨_, rfl, ?_, HQ5.out.chg⟩
      have hpv := HV.out wC HQ5.out.chg
      obtain ⟨_, _, _, _, _, ts', e9, l0, l1, l2, l3, l4, h6, h7⟩ := hpv
      simp only [Value.agg.injEq, Array.mk.injEq, List.cons.injEq, and_true] at e9
      obtain ⟨rfl, rfl, rfl, rfl, rfl⟩ := e9
      refine ⟨_, _, _, _, _, ts.map erT, rfl, l0, l1, l2, l3, ?_, ?_, fun y hy => ?_⟩
      · unfold Lst
        rw [HLN.out]
        exact (HQ5.out.rowAt (i := 0) rfl).view
      · show (ts.map erT).map ThrV.t = p.thrs.map erD
        rw [← HLEN.out.2, List.map_map, List.map_map]
        rfl
      · obtain ⟨x, hx, rfl⟩ := List.mem_map.1 hy
        have h8 : Chg [] wb wC := HCC.out
        exact ⟨(HL.out.2 x hx).1.keep h8, (Row.nil wC 35 2).view⟩
end Go.Proofs.YtaknmhipaifdkaaDoor
