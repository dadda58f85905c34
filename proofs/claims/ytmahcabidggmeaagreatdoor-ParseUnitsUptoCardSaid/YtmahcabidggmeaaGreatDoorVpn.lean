/- Walks of the printer: a declaration's line. (Printed by gen_pdecl.py.) -/
import Derived.Test.YtmahcabidggmeaaGreatDoorVpm
import Derived.Deep.RegionHeld
import Derived.Lib.ItoaLen
set_option linter.unusedVariables false
set_option linter.unusedSectionVars false
set_option linter.unusedSimpArgs false
namespace Go.AB
open Go.RowKit
theorem bA_app (a b : List UInt8) : bA a ++ bA b = bA (a ++ b) := by
  apply ByteArray.ext
  show (bA a ++ bA b).data = (a ++ b).toArray
  rw [ByteArray.data_append]
  simp [bA]
/-- A declaration is small. -/
def SmallD (d : DcD) : Prop := d.name.size ≤ 1048576 ∧ -9223372036854775808 ≤ d.val ∧ d.val ≤ 9223372036854775807
def kindAt (k : Nat) : List UInt8 := (kindTab[k - 1]?).getD []
end Go.AB
namespace Go.Proofs.YtmahcabidggmeaaGreatDoor
open Go.RowKit Go.AB
set_option linter.unusedSimpArgs false
set_option linter.unusedVariables false
set_option linter.unusedSectionVars false

theorem itoa_small {n : Int} (h0 : -9223372036854775808 ≤ n) (h1 : n ≤ 9223372036854775807) : (Lib.itoa n).length ≤ 21 := Lib.itoa_length_le n h0 h1
/-- What decl answers. -/
def DlnP (w : World) (d : DcD) (e : Ending) (w' : World) : Prop := ∃ (s : List UInt8) (ok : Bool), e = .returned (.tuple #[.string (bA s), .bool ok]) ∧ Hid (ok = declOk d ∧ (ok = true → s = declS d)) ∧ Chg [] w w'
set_option maxHeartbeats 4000000 in
set_option maxRecDepth 100000 in
theorem decl_line (d : DcD) (hd : SmallD d) (w : World) (hv : VarsP w) : Calls Tryz.prog 49 #[.agg #[.int .i64 d.kind, .string d.name, .int .i64 d.val, .int .i64 d.l, .int .i64 d.c]] w (DlnP w d) := by
  obtain ⟨kind, name, val, l, c⟩ := d
  obtain ⟨hn, hv0, hv1⟩ := hd
  simp only at hn hv0 hv1
  obtain ⟨L, hL⟩ : ∃ L, name.data.toList = L := ⟨_, rfl⟩
  obtain rfl := bA_eq hL
  clear hL
  rw [bA_size] at hn
  have hca := (Chg.refl [] w).alloc (.cells #[.int .i64 kind, .string (bA L), .int .i64 val, .int .i64 l, .int .i64 c] 47)
  have hba := heap_alloc_new w (.cells #[.int .i64 kind, .string (bA L), .int .i64 val, .int .i64 l, .int .i64 c] 47)
  have HNC := hid fun W (hc : Chg [] w W) => name_calls L hn W (hv.keep hc)
  have HIT := hid fun W (hc : Chg [] w W) => itoaI_calls val hv0 hv1 W (hv.keep hc)
  have HB := hid (And.intro hba hca)
  clear hba hv
  by_cases h1 : kind < 1
  · have HO : Hid (declOk ⟨kind, bA L, val, l, c⟩ = false) := hid (by unfold declOk; simp only; rw [show decide (1 ≤ kind ∧ kind ≤ 4) = false from decide_eq_false (by omega)]; rfl)
    go_enter Tryz.func49, Tryz.ntmps49
    go_wp2
    go_ret2
    exact ⟨[], false, rfl, hid ⟨HO.out.symm, (fun h => by cases h)⟩, hca⟩
  by_cases h2 : 4 < kind
  · have HO : Hid (declOk ⟨kind, bA L, val, l, c⟩ = false) := hid (by unfold declOk; simp only; rw [show decide (1 ≤ kind ∧ kind ≤ 4) = false from decide_eq_false (by omega)]; rfl)
    go_enter Tryz.func49, Tryz.ntmps49
    go_wp2
    go_ret2
    exact ⟨[], false, rfl, hid ⟨HO.out.symm, (fun h => by cases h)⟩, hca⟩
  cases hN : nameP L with
  | false =>
    rw [hN] at HNC
    have HO : Hid (declOk ⟨kind, bA L, val, l, c⟩ = false) := hid (by unfold declOk; simp only; rw [show nameP (bA L).data.toList = false from hN]; simp)
    clear hN
    go_enter Tryz.func49, Tryz.ntmps49
    go_wp2_with (go_at_call 50; refine (HNC.out _ hca).mono ?_; rintro e w1 ⟨rfl, hc1⟩)
    go_ret2
    exact ⟨[], false, rfl, hid ⟨HO.out.symm, (fun h => by cases h)⟩, hca.trans' hc1⟩
  | true =>
    rw [hN] at HNC
    have HNM := hid hN
    have hsz : (bA L).size = L.length := bA_size L
    have hL24 : L.length ≤ 24 := by
      have h := nameP_eq L
      rw [hN] at h
      have h3 : nameB (bA L) = true := by revert h; cases nameB (bA L) <;> simp
      have h4 := ((nameB_iff _).1 h3).2.1
      omega
    clear hN hn
    have hkk : kind = 1 ∨ kind = 2 ∨ kind = 3 ∨ kind = 4 := by omega
    clear h1 h2
    rcases hkk with rfl | rfl | rfl | rfl
    · have HOK : Hid (declOk ⟨1, bA L, val, l, c⟩ = true) := hid (by unfold declOk; simp only; rw [show nameP (bA L).data.toList = true from HNM.out]; simp)
      have HDS : Hid (declS ⟨1, bA L, val, l, c⟩ = [118, 97, 114] ++ [32] ++ L ++ ([32, 61, 32] ++ Lib.itoa val)) := hid (by rfl)
      go_enter Tryz.func49, Tryz.ntmps49
      go_upto_region 3 with (go_at_call 50; refine (HNC.out _ hca).mono ?_; rintro e w1 ⟨rfl, hc1⟩)
      have hb1 := hc1.heap HB.out.1 (by simp)
      have c0 : w1.cell? ⟨w.heap.size, 0, none⟩ = some (.int .i64 1) := blk_cell hb1 0
      have c1 : w1.cell? ⟨w.heap.size, 1, none⟩ = some (.string (bA L)) := blk_cell hb1 1
      have H1 := hid (And.intro hc1 hb1)
      clear hc1 hb1
      have hz0 : (bA [118, 97, 114]).size = 3 := by rw [bA_size]; rfl
      have hz1 : ¬ (9223372036854775807 < (bA [118, 97, 114]).size + 1) := by rw [hz0]; omega
      have hz2 : ¬ (9223372036854775807 < (bA [118, 97, 114]).size + 1 + L.length) := by rw [hz0]; omega
      clear hz0
      go_cut [4] from 19 to 27 (fun v wx => v = .string (bA ([118, 97, 114] ++ [32] ++ L)) ∧ Chg [] w1 wx)
      case first =>
        (refine wp_region_held_drew (S := (fun w' => w'.cell? ⟨w.heap.size, 0, none⟩ = some (.int .i64 1) ∧ w'.cell? ⟨w.heap.size, 1, none⟩ = some (.string (bA L)))) (by kernel_rfl) (by exact ⟨c0, c1⟩) (fun hHeld => ?_); (refine wpAnyH_take (i := 1) (v := ?_) rfl (by kernel_rfl) (by kernel_rfl) (by kernel_rfl) (fun _ _ _ h => h) (Or.inl ⟨by rfl, ?_⟩) (by assumption) ?_; rotate_left 1; (focus (intro w hSw; (try dsimp only at hSw); go_simp; (try with_reducible rfl))); (try simp only [List.getElem_toArray, List.getElem_cons_zero, List.getElem_cons_succ, Act.put, List.setIfInBounds_toArray, List.set_cons_zero, List.set_cons_succ])); (refine wpAnyH_take (i := 2) (v := ?_) rfl (by kernel_rfl) (by kernel_rfl) (by kernel_rfl) (fun _ _ _ h => h) (Or.inl ⟨by rfl, ?_⟩) (by assumption) ?_; rotate_left 1; (focus (intro w hSw; (try dsimp only at hSw); go_simp; (try with_reducible rfl))); (try simp only [List.getElem_toArray, List.getElem_cons_zero, List.getElem_cons_succ, Act.put, List.setIfInBounds_toArray, List.set_cons_zero, List.set_cons_succ])); (refine wpAnyH_take (i := 6) (v := ?_) rfl (by kernel_rfl) (by kernel_rfl) (by kernel_rfl) (fun _ _ _ h => h) (Or.inl ⟨by rfl, ?_⟩) (by assumption) ?_; rotate_left 1; (focus (intro w hSw; (try dsimp only at hSw); go_simp; (try with_reducible rfl))); (try simp only [List.getElem_toArray, List.getElem_cons_zero, List.getElem_cons_succ, Act.put, List.setIfInBounds_toArray, List.set_cons_zero, List.set_cons_succ])); (refine wpAnyH_take (i := 7) (v := ?_) rfl (by kernel_rfl) (by kernel_rfl) (by kernel_rfl) (fun _ _ _ h => h) (Or.inl ⟨by rfl, ?_⟩) (by assumption) ?_; rotate_left 1; (focus (intro w hSw; (try dsimp only at hSw); go_simp; (try with_reducible rfl))); (try simp only [List.getElem_toArray, List.getElem_cons_zero, List.getElem_cons_succ, Act.put, List.setIfInBounds_toArray, List.set_cons_zero, List.set_cons_succ])); (refine wpAnyH_ready (rs := [0]) (by kernel_rfl) (by simp) ?_; refine AllReadyH.cons rfl (fun K hK => ?_) AllReadyH.nil; go_simp; go_at_call 44; refine (starts_calls _).mono ?_; rintro e w6 ⟨pb, rfl, hcl, hc6⟩; have hs1 : w6.cell? ⟨pb, 1, none⟩ = some (.string (bA [118, 97, 114])) := (hcl 1 (by decide)).trans rfl; (refine hK.out _ _ (by exact ⟨hc6.cell hHeld.1 (by simp), hc6.cell hHeld.2 (by simp)⟩) (fun hHeld => ?_); clear hK K; (try simp only [List.getElem_toArray, List.getElem_cons_zero, List.getElem_cons_succ, Act.put, List.setIfInBounds_toArray, List.set_cons_zero, List.set_cons_succ]))); (refine wpAnyH_take (i := 3) (v := ?_) rfl (by kernel_rfl) (by kernel_rfl) (by kernel_rfl) (fun _ _ _ h => h) (Or.inl ⟨by rfl, ?_⟩) (by assumption) ?_; rotate_left 1; (focus (intro w hSw; (try dsimp only at hSw); go_simp; (try with_reducible rfl))); (try simp only [List.getElem_toArray, List.getElem_cons_zero, List.getElem_cons_succ, Act.put, List.setIfInBounds_toArray, List.set_cons_zero, List.set_cons_succ])); (refine wpAnyH_ready (rs := [4]) (by kernel_rfl) (by simp) ?_; refine AllReadyH.cons rfl (fun K hK => ?_) AllReadyH.nil; go_simp; (refine hK.out _ _ (by exact hHeld) (fun hHeld => ?_); clear hK K; (try simp only [List.getElem_toArray, List.getElem_cons_zero, List.getElem_cons_succ, Act.put, List.setIfInBounds_toArray, List.set_cons_zero, List.set_cons_succ]))); (refine wpAnyH_take (i := 5) (v := ?_) rfl (by kernel_rfl) (by kernel_rfl) (by kernel_rfl) (fun _ _ _ h => h) (Or.inl ⟨by rfl, ?_⟩) (by assumption) ?_; rotate_left 1; (focus (intro w hSw; (try dsimp only at hSw); go_simp; (try with_reducible rfl))); (try simp only [List.getElem_toArray, List.getElem_cons_zero, List.getElem_cons_succ, Act.put, List.setIfInBounds_toArray, List.set_cons_zero, List.set_cons_succ])); (refine wpAnyH_take (i := 8) (v := ?_) rfl (by kernel_rfl) (by kernel_rfl) (by kernel_rfl) (fun _ _ _ h => h) (Or.inl ⟨by rfl, ?_⟩) (by assumption) ?_; rotate_left 1; (focus (intro w hSw; (try dsimp only at hSw); go_simp; (try with_reducible rfl))); (try simp only [List.getElem_toArray, List.getElem_cons_zero, List.getElem_cons_succ, Act.put, List.setIfInBounds_toArray, List.set_cons_zero, List.set_cons_succ])); (refine wpAnyH_take (i := 9) (v := ?_) rfl (by kernel_rfl) (by kernel_rfl) (by kernel_rfl) (fun _ _ _ h => h) (Or.inl ⟨by rfl, ?_⟩) (by assumption) ?_; rotate_left 1; (focus (intro w hSw; (try dsimp only at hSw); go_simp; (try with_reducible rfl))); (try simp only [List.getElem_toArray, List.getElem_cons_zero, List.getElem_cons_succ, Act.put, List.setIfInBounds_toArray, List.set_cons_zero, List.set_cons_succ])); refine wpAnyH_done (by kernel_rfl) ?_ _)
        all_goals
          go_wp2_with fail
          go_meet
          exact ⟨by rw [show ({ data := #[32] } : ByteArray) = bA [32] from rfl, bA_app, bA_app], ((Chg.refl [] _).drew).trans' hc6⟩
      case rest =>
        obtain ⟨rfl, hc2⟩ := hcut
        have hb2 := hc2.heap H1.out.2 (by simp)
        have e0 : wc.cell? ⟨w.heap.size, 0, none⟩ = some (.int .i64 1) := blk_cell hb2 0
        have e2 : wc.cell? ⟨w.heap.size, 2, none⟩ = some (.int .i64 val) := blk_cell hb2 2
        have HC2 := hid ((hca.trans' H1.out.1).trans' hc2)
        obtain ⟨S, hS⟩ : ∃ S, [118, 97, 114] ++ [32] ++ L = S := ⟨_, rfl⟩
        have hSl : S.length ≤ 40 := by rw [← hS]; simp; omega
        rw [hS] at HDS ⊢
        have hz4 : (bA S).size = S.length := bA_size S
        have hil := itoa_small hv0 hv1
        have hz5 : (bA (Lib.itoa val)).size = (Lib.itoa val).length := bA_size _
        have hz6 : ¬ (9223372036854775807 < S.length + 3) := by omega
        have hz7 : ¬ (9223372036854775807 < S.length + 3 + (Lib.itoa val).length) := by omega
        clear hb2 hc2 hS hz1 hz2 c0 c1 hL24 hsz hil hSl
        go_wp2_with (go_at_call 28; refine (HIT.out _ HC2.out).mono ?_; rintro e w7 ⟨rfl, hc7⟩)
        go_ret2
        exact ⟨S ++ [32, 61, 32] ++ Lib.itoa val, true, by rw [show ({ data := #[32, 61, 32] } : ByteArray) = bA [32, 61, 32] from rfl, bA_app, bA_app]; rfl, hid ⟨HOK.out.symm, fun _ => by rw [HDS.out]; simp⟩, HC2.out.trans' hc7⟩
    · have HOK : Hid (declOk ⟨2, bA L, val, l, c⟩ = true) := hid (by unfold declOk; simp only; rw [show nameP (bA L).data.toList = true from HNM.out]; simp)
      have HDS : Hid (declS ⟨2, bA L, val, l, c⟩ = [118, 111, 108] ++ [32] ++ L ++ ([32, 61, 32] ++ Lib.itoa val)) := hid (by rfl)
      go_enter Tryz.func49, Tryz.ntmps49
      go_upto_region 3 with (go_at_call 50; refine (HNC.out _ hca).mono ?_; rintro e w1 ⟨rfl, hc1⟩)
      have hb1 := hc1.heap HB.out.1 (by simp)
      have c0 : w1.cell? ⟨w.heap.size, 0, none⟩ = some (.int .i64 2) := blk_cell hb1 0
      have c1 : w1.cell? ⟨w.heap.size, 1, none⟩ = some (.string (bA L)) := blk_cell hb1 1
      have H1 := hid (And.intro hc1 hb1)
      clear hc1 hb1
      have hz0 : (bA [118, 111, 108]).size = 3 := by rw [bA_size]; rfl
      have hz1 : ¬ (9223372036854775807 < (bA [118, 111, 108]).size + 1) := by rw [hz0]; omega
      have hz2 : ¬ (9223372036854775807 < (bA [118, 111, 108]).size + 1 + L.length) := by rw [hz0]; omega
      clear hz0
      go_cut [4] from 19 to 27 (fun v wx => v = .string (bA ([118, 111, 108] ++ [32] ++ L)) ∧ Chg [] w1 wx)
      case first =>
        (refine wp_region_held_drew (S := (fun w' => w'.cell? ⟨w.heap.size, 0, none⟩ = some (.int .i64 2) ∧ w'.cell? ⟨w.heap.size, 1, none⟩ = some (.string (bA L)))) (by kernel_rfl) (by exact ⟨c0, c1⟩) (fun hHeld => ?_); (refine wpAnyH_take (i := 1) (v := ?_) rfl (by kernel_rfl) (by kernel_rfl) (by kernel_rfl) (fun _ _ _ h => h) (Or.inl ⟨by rfl, ?_⟩) (by assumption) ?_; rotate_left 1; (focus (intro w hSw; (try dsimp only at hSw); go_simp; (try with_reducible rfl))); (try simp only [List.getElem_toArray, List.getElem_cons_zero, List.getElem_cons_succ, Act.put, List.setIfInBounds_toArray, List.set_cons_zero, List.set_cons_succ])); (refine wpAnyH_take (i := 2) (v := ?_) rfl (by kernel_rfl) (by kernel_rfl) (by kernel_rfl) (fun _ _ _ h => h) (Or.inl ⟨by rfl, ?_⟩) (by assumption) ?_; rotate_left 1; (focus (intro w hSw; (try dsimp only at hSw); go_simp; (try with_reducible rfl))); (try simp only [List.getElem_toArray, List.getElem_cons_zero, List.getElem_cons_succ, Act.put, List.setIfInBounds_toArray, List.set_cons_zero, List.set_cons_succ])); (refine wpAnyH_take (i := 6) (v := ?_) rfl (by kernel_rfl) (by kernel_rfl) (by kernel_rfl) (fun _ _ _ h => h) (Or.inl ⟨by rfl, ?_⟩) (by assumption) ?_; rotate_left 1; (focus (intro w hSw; (try dsimp only at hSw); go_simp; (try with_reducible rfl))); (try simp only [List.getElem_toArray, List.getElem_cons_zero, List.getElem_cons_succ, Act.put, List.setIfInBounds_toArray, List.set_cons_zero, List.set_cons_succ])); (refine wpAnyH_take (i := 7) (v := ?_) rfl (by kernel_rfl) (by kernel_rfl) (by kernel_rfl) (fun _ _ _ h => h) (Or.inl ⟨by rfl, ?_⟩) (by assumption) ?_; rotate_left 1; (focus (intro w hSw; (try dsimp only at hSw); go_simp; (try with_reducible rfl))); (try simp only [List.getElem_toArray, List.getElem_cons_zero, List.getElem_cons_succ, Act.put, List.setIfInBounds_toArray, List.set_cons_zero, List.set_cons_succ])); (refine wpAnyH_ready (rs := [0]) (by kernel_rfl) (by simp) ?_; refine AllReadyH.cons rfl (fun K hK => ?_) AllReadyH.nil; go_simp; go_at_call 44; refine (starts_calls _).mono ?_; rintro e w6 ⟨pb, rfl, hcl, hc6⟩; have hs1 : w6.cell? ⟨pb, 2, none⟩ = some (.string (bA [118, 111, 108])) := (hcl 2 (by decide)).trans rfl; (refine hK.out _ _ (by exact ⟨hc6.cell hHeld.1 (by simp), hc6.cell hHeld.2 (by simp)⟩) (fun hHeld => ?_); clear hK K; (try simp only [List.getElem_toArray, List.getElem_cons_zero, List.getElem_cons_succ, Act.put, List.setIfInBounds_toArray, List.set_cons_zero, List.set_cons_succ]))); (refine wpAnyH_take (i := 3) (v := ?_) rfl (by kernel_rfl) (by kernel_rfl) (by kernel_rfl) (fun _ _ _ h => h) (Or.inl ⟨by rfl, ?_⟩) (by assumption) ?_; rotate_left 1; (focus (intro w hSw; (try dsimp only at hSw); go_simp; (try with_reducible rfl))); (try simp only [List.getElem_toArray, List.getElem_cons_zero, List.getElem_cons_succ, Act.put, List.setIfInBounds_toArray, List.set_cons_zero, List.set_cons_succ])); (refine wpAnyH_ready (rs := [4]) (by kernel_rfl) (by simp) ?_; refine AllReadyH.cons rfl (fun K hK => ?_) AllReadyH.nil; go_simp; (refine hK.out _ _ (by exact hHeld) (fun hHeld => ?_); clear hK K; (try simp only [List.getElem_toArray, List.getElem_cons_zero, List.getElem_cons_succ, Act.put, List.setIfInBounds_toArray, List.set_cons_zero, List.set_cons_succ]))); (refine wpAnyH_take (i := 5) (v := ?_) rfl (by kernel_rfl) (by kernel_rfl) (by kernel_rfl) (fun _ _ _ h => h) (Or.inl ⟨by rfl, ?_⟩) (by assumption) ?_; rotate_left 1; (focus (intro w hSw; (try dsimp only at hSw); go_simp; (try with_reducible rfl))); (try simp only [List.getElem_toArray, List.getElem_cons_zero, List.getElem_cons_succ, Act.put, List.setIfInBounds_toArray, List.set_cons_zero, List.set_cons_succ])); (refine wpAnyH_take (i := 8) (v := ?_) rfl (by kernel_rfl) (by kernel_rfl) (by kernel_rfl) (fun _ _ _ h => h) (Or.inl ⟨by rfl, ?_⟩) (by assumption) ?_; rotate_left 1; (focus (intro w hSw; (try dsimp only at hSw); go_simp; (try with_reducible rfl))); (try simp only [List.getElem_toArray, List.getElem_cons_zero, List.getElem_cons_succ, Act.put, List.setIfInBounds_toArray, List.set_cons_zero, List.set_cons_succ])); (refine wpAnyH_take (i := 9) (v := ?_) rfl (by kernel_rfl) (by kernel_rfl) (by kernel_rfl) (fun _ _ _ h => h) (Or.inl ⟨by rfl, ?_⟩) (by assumption) ?_; rotate_left 1; (focus (intro w hSw; (try dsimp only at hSw); go_simp; (try with_reducible rfl))); (try simp only [List.getElem_toArray, List.getElem_cons_zero, List.getElem_cons_succ, Act.put, List.setIfInBounds_toArray, List.set_cons_zero, List.set_cons_succ])); refine wpAnyH_done (by kernel_rfl) ?_ _)
        all_goals
          go_wp2_with fail
          go_meet
          exact ⟨by rw [show ({ data := #[32] } : ByteArray) = bA [32] from rfl, bA_app, bA_app], ((Chg.refl [] _).drew).trans' hc6⟩
      case rest =>
        obtain ⟨rfl, hc2⟩ := hcut
        have hb2 := hc2.heap H1.out.2 (by simp)
        have e0 : wc.cell? ⟨w.heap.size, 0, none⟩ = some (.int .i64 2) := blk_cell hb2 0
        have e2 : wc.cell? ⟨w.heap.size, 2, none⟩ = some (.int .i64 val) := blk_cell hb2 2
        have HC2 := hid ((hca.trans' H1.out.1).trans' hc2)
        obtain ⟨S, hS⟩ : ∃ S, [118, 111, 108] ++ [32] ++ L = S := ⟨_, rfl⟩
        have hSl : S.length ≤ 40 := by rw [← hS]; simp; omega
        rw [hS] at HDS ⊢
        have hz4 : (bA S).size = S.length := bA_size S
        have hil := itoa_small hv0 hv1
        have hz5 : (bA (Lib.itoa val)).size = (Lib.itoa val).length := bA_size _
        have hz6 : ¬ (9223372036854775807 < S.length + 3) := by omega
        have hz7 : ¬ (9223372036854775807 < S.length + 3 + (Lib.itoa val).length) := by omega
        clear hb2 hc2 hS hz1 hz2 c0 c1 hL24 hsz hil hSl
        go_wp2_with (go_at_call 28; refine (HIT.out _ HC2.out).mono ?_; rintro e w7 ⟨rfl, hc7⟩)
        go_ret2
        exact ⟨S ++ [32, 61, 32] ++ Lib.itoa val, true, by rw [show ({ data := #[32, 61, 32] } : ByteArray) = bA [32, 61, 32] from rfl, bA_app, bA_app]; rfl, hid ⟨HOK.out.symm, fun _ => by rw [HDS.out]; simp⟩, HC2.out.trans' hc7⟩
    · have HOK : Hid (declOk ⟨3, bA L, val, l, c⟩ = decide (val = 0)) := hid (by unfold declOk; simp only; rw [show nameP (bA L).data.toList = true from HNM.out]; simp)
      have HDS : Hid (declS ⟨3, bA L, val, l, c⟩ = [109, 117, 116, 101, 120] ++ [32] ++ L ++ []) := hid (by rfl)
      go_enter Tryz.func49, Tryz.ntmps49
      go_upto_region 3 with (go_at_call 50; refine (HNC.out _ hca).mono ?_; rintro e w1 ⟨rfl, hc1⟩)
      have hb1 := hc1.heap HB.out.1 (by simp)
      have c0 : w1.cell? ⟨w.heap.size, 0, none⟩ = some (.int .i64 3) := blk_cell hb1 0
      have c1 : w1.cell? ⟨w.heap.size, 1, none⟩ = some (.string (bA L)) := blk_cell hb1 1
      have H1 := hid (And.intro hc1 hb1)
      clear hc1 hb1
      have hz0 : (bA [109, 117, 116, 101, 120]).size = 5 := by rw [bA_size]; rfl
      have hz1 : ¬ (9223372036854775807 < (bA [109, 117, 116, 101, 120]).size + 1) := by rw [hz0]; omega
      have hz2 : ¬ (9223372036854775807 < (bA [109, 117, 116, 101, 120]).size + 1 + L.length) := by rw [hz0]; omega
      clear hz0
      go_cut [4] from 19 to 27 (fun v wx => v = .string (bA ([109, 117, 116, 101, 120] ++ [32] ++ L)) ∧ Chg [] w1 wx)
      case first =>
        (refine wp_region_held_drew (S := (fun w' => w'.cell? ⟨w.heap.size, 0, none⟩ = some (.int .i64 3) ∧ w'.cell? ⟨w.heap.size, 1, none⟩ = some (.string (bA L)))) (by kernel_rfl) (by exact ⟨c0, c1⟩) (fun hHeld => ?_); (refine wpAnyH_take (i := 1) (v := ?_) rfl (by kernel_rfl) (by kernel_rfl) (by kernel_rfl) (fun _ _ _ h => h) (Or.inl ⟨by rfl, ?_⟩) (by assumption) ?_; rotate_left 1; (focus (intro w hSw; (try dsimp only at hSw); go_simp; (try with_reducible rfl))); (try simp only [List.getElem_toArray, List.getElem_cons_zero, List.getElem_cons_succ, Act.put, List.setIfInBounds_toArray, List.set_cons_zero, List.set_cons_succ])); (refine wpAnyH_take (i := 2) (v := ?_) rfl (by kernel_rfl) (by kernel_rfl) (by kernel_rfl) (fun _ _ _ h => h) (Or.inl ⟨by rfl, ?_⟩) (by assumption) ?_; rotate_left 1; (focus (intro w hSw; (try dsimp only at hSw); go_simp; (try with_reducible rfl))); (try simp only [List.getElem_toArray, List.getElem_cons_zero, List.getElem_cons_succ, Act.put, List.setIfInBounds_toArray, List.set_cons_zero, List.set_cons_succ])); (refine wpAnyH_take (i := 6) (v := ?_) rfl (by kernel_rfl) (by kernel_rfl) (by kernel_rfl) (fun _ _ _ h => h) (Or.inl ⟨by rfl, ?_⟩) (by assumption) ?_; rotate_left 1; (focus (intro w hSw; (try dsimp only at hSw); go_simp; (try with_reducible rfl))); (try simp only [List.getElem_toArray, List.getElem_cons_zero, List.getElem_cons_succ, Act.put, List.setIfInBounds_toArray, List.set_cons_zero, List.set_cons_succ])); (refine wpAnyH_take (i := 7) (v := ?_) rfl (by kernel_rfl) (by kernel_rfl) (by kernel_rfl) (fun _ _ _ h => h) (Or.inl ⟨by rfl, ?_⟩) (by assumption) ?_; rotate_left 1; (focus (intro w hSw; (try dsimp only at hSw); go_simp; (try with_reducible rfl))); (try simp only [List.getElem_toArray, List.getElem_cons_zero, List.getElem_cons_succ, Act.put, List.setIfInBounds_toArray, List.set_cons_zero, List.set_cons_succ])); (refine wpAnyH_ready (rs := [0]) (by kernel_rfl) (by simp) ?_; refine AllReadyH.cons rfl (fun K hK => ?_) AllReadyH.nil; go_simp; go_at_call 44; refine (starts_calls _).mono ?_; rintro e w6 ⟨pb, rfl, hcl, hc6⟩; have hs1 : w6.cell? ⟨pb, 3, none⟩ = some (.string (bA [109, 117, 116, 101, 120])) := (hcl 3 (by decide)).trans rfl; (refine hK.out _ _ (by exact ⟨hc6.cell hHeld.1 (by simp), hc6.cell hHeld.2 (by simp)⟩) (fun hHeld => ?_); clear hK K; (try simp only [List.getElem_toArray, List.getElem_cons_zero, List.getElem_cons_succ, Act.put, List.setIfInBounds_toArray, List.set_cons_zero, List.set_cons_succ]))); (refine wpAnyH_take (i := 3) (v := ?_) rfl (by kernel_rfl) (by kernel_rfl) (by kernel_rfl) (fun _ _ _ h => h) (Or.inl ⟨by rfl, ?_⟩) (by assumption) ?_; rotate_left 1; (focus (intro w hSw; (try dsimp only at hSw); go_simp; (try with_reducible rfl))); (try simp only [List.getElem_toArray, List.getElem_cons_zero, List.getElem_cons_succ, Act.put, List.setIfInBounds_toArray, List.set_cons_zero, List.set_cons_succ])); (refine wpAnyH_ready (rs := [4]) (by kernel_rfl) (by simp) ?_; refine AllReadyH.cons rfl (fun K hK => ?_) AllReadyH.nil; go_simp; (refine hK.out _ _ (by exact hHeld) (fun hHeld => ?_); clear hK K; (try simp only [List.getElem_toArray, List.getElem_cons_zero, List.getElem_cons_succ, Act.put, List.setIfInBounds_toArray, List.set_cons_zero, List.set_cons_succ]))); (refine wpAnyH_take (i := 5) (v := ?_) rfl (by kernel_rfl) (by kernel_rfl) (by kernel_rfl) (fun _ _ _ h => h) (Or.inl ⟨by rfl, ?_⟩) (by assumption) ?_; rotate_left 1; (focus (intro w hSw; (try dsimp only at hSw); go_simp; (try with_reducible rfl))); (try simp only [List.getElem_toArray, List.getElem_cons_zero, List.getElem_cons_succ, Act.put, List.setIfInBounds_toArray, List.set_cons_zero, List.set_cons_succ])); (refine wpAnyH_take (i := 8) (v := ?_) rfl (by kernel_rfl) (by kernel_rfl) (by kernel_rfl) (fun _ _ _ h => h) (Or.inl ⟨by rfl, ?_⟩) (by assumption) ?_; rotate_left 1; (focus (intro w hSw; (try dsimp only at hSw); go_simp; (try with_reducible rfl))); (try simp only [List.getElem_toArray, List.getElem_cons_zero, List.getElem_cons_succ, Act.put, List.setIfInBounds_toArray, List.set_cons_zero, List.set_cons_succ])); (refine wpAnyH_take (i := 9) (v := ?_) rfl (by kernel_rfl) (by kernel_rfl) (by kernel_rfl) (fun _ _ _ h => h) (Or.inl ⟨by rfl, ?_⟩) (by assumption) ?_; rotate_left 1; (focus (intro w hSw; (try dsimp only at hSw); go_simp; (try with_reducible rfl))); (try simp only [List.getElem_toArray, List.getElem_cons_zero, List.getElem_cons_succ, Act.put, List.setIfInBounds_toArray, List.set_cons_zero, List.set_cons_succ])); refine wpAnyH_done (by kernel_rfl) ?_ _)
        all_goals
          go_wp2_with fail
          go_meet
          exact ⟨by rw [show ({ data := #[32] } : ByteArray) = bA [32] from rfl, bA_app, bA_app], ((Chg.refl [] _).drew).trans' hc6⟩
      case rest =>
        obtain ⟨rfl, hc2⟩ := hcut
        have hb2 := hc2.heap H1.out.2 (by simp)
        have e0 : wc.cell? ⟨w.heap.size, 0, none⟩ = some (.int .i64 3) := blk_cell hb2 0
        have e2 : wc.cell? ⟨w.heap.size, 2, none⟩ = some (.int .i64 val) := blk_cell hb2 2
        have HC2 := hid ((hca.trans' H1.out.1).trans' hc2)
        obtain ⟨S, hS⟩ : ∃ S, [109, 117, 116, 101, 120] ++ [32] ++ L = S := ⟨_, rfl⟩
        have hSl : S.length ≤ 40 := by rw [← hS]; simp; omega
        rw [hS] at HDS ⊢
        have hz4 : (bA S).size = S.length := bA_size S
        have hil := itoa_small hv0 hv1
        have hz5 : (bA (Lib.itoa val)).size = (Lib.itoa val).length := bA_size _
        have hz6 : ¬ (9223372036854775807 < S.length + 3) := by omega
        have hz7 : ¬ (9223372036854775807 < S.length + 3 + (Lib.itoa val).length) := by omega
        clear hb2 hc2 hS hz1 hz2 c0 c1 hL24 hsz hil hSl
        go_upto_region 5 with fail
        go_quiet (fail)
        all_goals
          go_wp2
          go_ret2
          refine ⟨S, _, rfl, hid ⟨?_, fun _ => by rw [HDS.out]; simp⟩, HC2.out.drewN _⟩
          rw [HOK.out]
          rw [Bool.eq_iff_iff]
          simp
    · have HOK : Hid (declOk ⟨4, bA L, val, l, c⟩ = true) := hid (by unfold declOk; simp only; rw [show nameP (bA L).data.toList = true from HNM.out]; simp)
      have HDS : Hid (declS ⟨4, bA L, val, l, c⟩ = [103, 97, 116, 101] ++ [32] ++ L ++ ([32, 61, 32] ++ Lib.itoa val)) := hid (by rfl)
      go_enter Tryz.func49, Tryz.ntmps49
      go_upto_region 3 with (go_at_call 50; refine (HNC.out _ hca).mono ?_; rintro e w1 ⟨rfl, hc1⟩)
      have hb1 := hc1.heap HB.out.1 (by simp)
      have c0 : w1.cell? ⟨w.heap.size, 0, none⟩ = some (.int .i64 4) := blk_cell hb1 0
      have c1 : w1.cell? ⟨w.heap.size, 1, none⟩ = some (.string (bA L)) := blk_cell hb1 1
      have H1 := hid (And.intro hc1 hb1)
      clear hc1 hb1
      have hz0 : (bA [103, 97, 116, 101]).size = 4 := by rw [bA_size]; rfl
      have hz1 : ¬ (9223372036854775807 < (bA [103, 97, 116, 101]).size + 1) := by rw [hz0]; omega
      have hz2 : ¬ (9223372036854775807 < (bA [103, 97, 116, 101]).size + 1 + L.length) := by rw [hz0]; omega
      clear hz0
      go_cut [4] from 19 to 27 (fun v wx => v = .string (bA ([103, 97, 116, 101] ++ [32] ++ L)) ∧ Chg [] w1 wx)
      case first =>
        (refine wp_region_held_drew (S := (fun w' => w'.cell? ⟨w.heap.size, 0, none⟩ = some (.int .i64 4) ∧ w'.cell? ⟨w.heap.size, 1, none⟩ = some (.string (bA L)))) (by kernel_rfl) (by exact ⟨c0, c1⟩) (fun hHeld => ?_); (refine wpAnyH_take (i := 1) (v := ?_) rfl (by kernel_rfl) (by kernel_rfl) (by kernel_rfl) (fun _ _ _ h => h) (Or.inl ⟨by rfl, ?_⟩) (by assumption) ?_; rotate_left 1; (focus (intro w hSw; (try dsimp only at hSw); go_simp; (try with_reducible rfl))); (try simp only [List.getElem_toArray, List.getElem_cons_zero, List.getElem_cons_succ, Act.put, List.setIfInBounds_toArray, List.set_cons_zero, List.set_cons_succ])); (refine wpAnyH_take (i := 2) (v := ?_) rfl (by kernel_rfl) (by kernel_rfl) (by kernel_rfl) (fun _ _ _ h => h) (Or.inl ⟨by rfl, ?_⟩) (by assumption) ?_; rotate_left 1; (focus (intro w hSw; (try dsimp only at hSw); go_simp; (try with_reducible rfl))); (try simp only [List.getElem_toArray, List.getElem_cons_zero, List.getElem_cons_succ, Act.put, List.setIfInBounds_toArray, List.set_cons_zero, List.set_cons_succ])); (refine wpAnyH_take (i := 6) (v := ?_) rfl (by kernel_rfl) (by kernel_rfl) (by kernel_rfl) (fun _ _ _ h => h) (Or.inl ⟨by rfl, ?_⟩) (by assumption) ?_; rotate_left 1; (focus (intro w hSw; (try dsimp only at hSw); go_simp; (try with_reducible rfl))); (try simp only [List.getElem_toArray, List.getElem_cons_zero, List.getElem_cons_succ, Act.put, List.setIfInBounds_toArray, List.set_cons_zero, List.set_cons_succ])); (refine wpAnyH_take (i := 7) (v := ?_) rfl (by kernel_rfl) (by kernel_rfl) (by kernel_rfl) (fun _ _ _ h => h) (Or.inl ⟨by rfl, ?_⟩) (by assumption) ?_; rotate_left 1; (focus (intro w hSw; (try dsimp only at hSw); go_simp; (try with_reducible rfl))); (try simp only [List.getElem_toArray, List.getElem_cons_zero, List.getElem_cons_succ, Act.put, List.setIfInBounds_toArray, List.set_cons_zero, List.set_cons_succ])); (refine wpAnyH_ready (rs := [0]) (by kernel_rfl) (by simp) ?_; refine AllReadyH.cons rfl (fun K hK => ?_) AllReadyH.nil; go_simp; go_at_call 44; refine (starts_calls _).mono ?_; rintro e w6 ⟨pb, rfl, hcl, hc6⟩; have hs1 : w6.cell? ⟨pb, 4, none⟩ = some (.string (bA [103, 97, 116, 101])) := (hcl 4 (by decide)).trans rfl; (refine hK.out _ _ (by exact ⟨hc6.cell hHeld.1 (by simp), hc6.cell hHeld.2 (by simp)⟩) (fun hHeld => ?_); clear hK K; (try simp only [List.getElem_toArray, List.getElem_cons_zero, List.getElem_cons_succ, Act.put, List.setIfInBounds_toArray, List.set_cons_zero, List.set_cons_succ]))); (refine wpAnyH_take (i := 3) (v := ?_) rfl (by kernel_rfl) (by kernel_rfl) (by kernel_rfl) (fun _ _ _ h => h) (Or.inl ⟨by rfl, ?_⟩) (by assumption) ?_; rotate_left 1; (focus (intro w hSw; (try dsimp only at hSw); go_simp; (try with_reducible rfl))); (try simp only [List.getElem_toArray, List.getElem_cons_zero, List.getElem_cons_succ, Act.put, List.setIfInBounds_toArray, List.set_cons_zero, List.set_cons_succ])); (refine wpAnyH_ready (rs := [4]) (by kernel_rfl) (by simp) ?_; refine AllReadyH.cons rfl (fun K hK => ?_) AllReadyH.nil; go_simp; (refine hK.out _ _ (by exact hHeld) (fun hHeld => ?_); clear hK K; (try simp only [List.getElem_toArray, List.getElem_cons_zero, List.getElem_cons_succ, Act.put, List.setIfInBounds_toArray, List.set_cons_zero, List.set_cons_succ]))); (refine wpAnyH_take (i := 5) (v := ?_) rfl (by kernel_rfl) (by kernel_rfl) (by kernel_rfl) (fun _ _ _ h => h) (Or.inl ⟨by rfl, ?_⟩) (by assumption) ?_; rotate_left 1; (focus (intro w hSw; (try dsimp only at hSw); go_simp; (try with_reducible rfl))); (try simp only [List.getElem_toArray, List.getElem_cons_zero, List.getElem_cons_succ, Act.put, List.setIfInBounds_toArray, List.set_cons_zero, List.set_cons_succ])); (refine wpAnyH_take (i := 8) (v := ?_) rfl (by kernel_rfl) (by kernel_rfl) (by kernel_rfl) (fun _ _ _ h => h) (Or.inl ⟨by rfl, ?_⟩) (by assumption) ?_; rotate_left 1; (focus (intro w hSw; (try dsimp only at hSw); go_simp; (try with_reducible rfl))); (try simp only [List.getElem_toArray, List.getElem_cons_zero, List.getElem_cons_succ, Act.put, List.setIfInBounds_toArray, List.set_cons_zero, List.set_cons_succ])); (refine wpAnyH_take (i := 9) (v := ?_) rfl (by kernel_rfl) (by kernel_rfl) (by kernel_rfl) (fun _ _ _ h => h) (Or.inl ⟨by rfl, ?_⟩) (by assumption) ?_; rotate_left 1; (focus (intro w hSw; (try dsimp only at hSw); go_simp; (try with_reducible rfl))); (try simp only [List.getElem_toArray, List.getElem_cons_zero, List.getElem_cons_succ, Act.put, List.setIfInBounds_toArray, List.set_cons_zero, List.set_cons_succ])); refine wpAnyH_done (by kernel_rfl) ?_ _)
        all_goals
          go_wp2_with fail
          go_meet
          exact ⟨by rw [show ({ data := #[32] } : ByteArray) = bA [32] from rfl, bA_app, bA_app], ((Chg.refl [] _).drew).trans' hc6⟩
      case rest =>
        obtain ⟨rfl, hc2⟩ := hcut
        have hb2 := hc2.heap H1.out.2 (by simp)
        have e0 : wc.cell? ⟨w.heap.size, 0, none⟩ = some (.int .i64 4) := blk_cell hb2 0
        have e2 : wc.cell? ⟨w.heap.size, 2, none⟩ = some (.int .i64 val) := blk_cell hb2 2
        have HC2 := hid ((hca.trans' H1.out.1).trans' hc2)
        obtain ⟨S, hS⟩ : ∃ S, [103, 97, 116, 101] ++ [32] ++ L = S := ⟨_, rfl⟩
        have hSl : S.length ≤ 40 := by rw [← hS]; simp; omega
        rw [hS] at HDS ⊢
        have hz4 : (bA S).size = S.length := bA_size S
        have hil := itoa_small hv0 hv1
        have hz5 : (bA (Lib.itoa val)).size = (Lib.itoa val).length := bA_size _
        have hz6 : ¬ (9223372036854775807 < S.length + 3) := by omega
        have hz7 : ¬ (9223372036854775807 < S.length + 3 + (Lib.itoa val).length) := by omega
        clear hb2 hc2 hS hz1 hz2 c0 c1 hL24 hsz hil hSl
        go_wp2_with (go_at_call 28; refine (HIT.out _ HC2.out).mono ?_; rintro e w7 ⟨rfl, hc7⟩)
        go_ret2
        exact ⟨S ++ [32, 61, 32] ++ Lib.itoa val, true, by rw [show ({ data := #[32, 61, 32] } : ByteArray) = bA [32, 61, 32] from rfl, bA_app, bA_app]; rfl, hid ⟨HOK.out.symm, fun _ => by rw [HDS.out]; simp⟩, HC2.out.trans' hc7⟩
end Go.Proofs.YtmahcabidggmeaaGreatDoor
