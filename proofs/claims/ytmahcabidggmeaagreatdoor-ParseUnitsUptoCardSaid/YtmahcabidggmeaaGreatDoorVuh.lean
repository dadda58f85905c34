/- The reference's reader: a thread's declaration; a line. (Printed by gen_yline.py.) -/
import Derived.Test.YtmahcabidggmeaaGreatDoorVug
import Derived.Test.YtmahcabidggmeaaGreatDoorVpk
set_option linter.unusedVariables false
set_option linter.unusedSectionVars false
set_option linter.unusedSimpArgs false
namespace Go.Proofs.YtmahcabidggmeaaGreatDoor
open Go.RowKit Go.AB
set_option linter.unusedSimpArgs false
set_option linter.unusedVariables false
set_option linter.unusedSectionVars false
section
variable {w0 w w' : World} {b k : Nat} {t : Tok} {all r : List Tok} {ds : List DcD} {q : RQ} {m : Nat} {f : Flt} {X : List It}
theorem c3_keep {S : List Nat} {a b : World} {p x y : Addr} {v1 v2 v3 : Value} (hc : Chg S a b) (hp : p.block ∉ S) (hx : x.block ∉ S) (hy : y.block ∉ S) (h : a.cell? p = some v1 ∧ a.cell? x = some v2 ∧ a.cell? y = some v3) : b.cell? p = some v1 ∧ b.cell? x = some v2 ∧ b.cell? y = some v3 :=
  ⟨hc.cell h.1 hp, hc.cell h.2.1 hx, hc.cell h.2.2 hy⟩
def YThrP (w0 : World) (b : Nat) (all : List Tok) (ds : List DcD) (q : RQ) (m : Nat) (f : Flt) (X : List It) (G : Except Flt (Tok × List Tok)) (e : Ending) (w' : World) : Prop :=
  ∃ (k' : Nat) (q' : RQ) (m' : Nat) (f' : Flt), e = .returned (.tuple #[]) ∧ RY w0 w' b all k' ds q' m' f' X ∧ m' ≤ m ∧ ((f'.code ≠ 0 ∧ G = .error f') ∨ (f' = f ∧ ∃ n, G = .ok (n, all.drop k') ∧ q'.bks = q.bks ++ [⟨bA n.text, [], n.line, n.col⟩]))
set_option maxHeartbeats 32000000 in
set_option maxRecDepth 100000 in
theorem y_thread_calls (h : RY w0 w b all k ds q m f X) (hi : all[k]? = some t) (hf : f.code = 0) (hv : VarsP w0) (hk : t.kind = 1) : Calls Tryz.prog 36 #[.pointer (some ⟨b, 0, none⟩), .int .i64 5] w (YThrP w0 b all ds q m f X (nameT (all.drop (k + 1)))) := by
  obtain ⟨G, hG⟩ : ∃ G, nameT (all.drop (k + 1)) = G := ⟨_, rfl⟩
  rw [hG]
  have HV := hid hv
  have HF0 := hid hf
  have HG0 := hid hG
  obtain ⟨N, hN⟩ : ∃ N, all.length = N := ⟨_, rfl⟩
  have HN := hid hN
  have u1 := h.c1
  have uf := h.fr 1
  have hlt := h.lt
  have hsm := h.sm.1
  have HSM := hid h.sm.2
  rw [hN] at hlt hsm
  have HX := hid (h.next hi (by omega) (z := (k : Int) + 1) rfl)
  clear h hN hG hi hf hv hk
  go_enter Tryz.func36, Tryz.ntmps36
  go_upto_region 1 with fail
  obtain ⟨hnx, hm0⟩ := HX.out
  obtain ⟨wC, hwC⟩ : ∃ wC, w.setCell ⟨b, 1, none⟩ (.int .i64 ((k : Int) + 1)) = wC := ⟨_, rfl⟩
  rw [hwC] at hnx ⊢
  have HC := hid hnx
  clear hwC u1 uf hnx HX
  go_wp2_with fail
  go_loopg [4] 0 (fun gk v4 wr => v4 = .bool true ∧ Hid (RY w0 wr b all (k + 1) ds q (m - 1) f X))
  case atStart => exact ⟨rfl, HC⟩
  case round =>
    obtain ⟨rfl, HR⟩ := hrel
    have HF := HF0
    obtain ⟨k', hk'⟩ : ∃ k', k + 1 = k' := ⟨_, rfl⟩
    obtain ⟨m', hm'⟩ : ∃ m', m - 1 = m' := ⟨_, rfl⟩
    obtain ⟨q', hq'⟩ : ∃ q', q = q' := ⟨_, rfl⟩
    obtain ⟨ds', hds'⟩ : ∃ ds', ds = ds' := ⟨_, rfl⟩
    obtain ⟨f', hf'⟩ : ∃ f', f = f' := ⟨_, rfl⟩
    rw [hk'] at HR HG0
    rw [hm'] at HR
    have HMM := hid (And.intro hm0 hm')
    subst hq'
    subst hds'
    subst hf'
    clear hk' hm' HC hm0
    obtain ⟨t1, hi1, hd1⟩ := HR.out.cons
    have HT1 := hid (And.intro hi1 hd1)
    clear hi1 hd1
    have hlt1 := HR.out.lt
    have c0 := HR.out.c0
    have c1 := HR.out.c1
    obtain ⟨_, _, _, g3, g4⟩ := HR.out.head_at HT1.out.1
    rw [HN.out] at hlt1 c0
    have hki1 : (k' : Int) < (N : Int) := by omega
    have a0 : ∀ o, (wr.alloc o).cell? ⟨b, 0, none⟩ = some (.slice (some ⟨q.tb, q.off, none⟩) N q.tc) := fun o => ((Chg.refl [] wr).alloc o).cell c0 (by simp)
    have a1 : ∀ o, (wr.alloc o).cell? ⟨b, 1, none⟩ = some (.int .i64 k') := fun o => ((Chg.refl [] wr).alloc o).cell c1 (by simp)
    have a3 : ∀ o, (wr.alloc o).cell? ⟨q.tb, q.off + k' * 5 + 3, none⟩ = some (.int .i64 t1.line) := fun o => ((Chg.refl [] wr).alloc o).cell g3 (by simp)
    have a4 : ∀ o, (wr.alloc o).cell? ⟨q.tb, q.off + k' * 5 + 4, none⟩ = some (.int .i64 t1.col) := fun o => ((Chg.refl [] wr).alloc o).cell g4 (by simp)
    have HOK := hid (y_ok_yes HR.out HF.out)
    go_upto_region 3 with (go_at_call 17; refine HOK.out.mono ?_; rintro e w1 ⟨rfl, rfl⟩)
    go_region
    have hb1 := (HR.out.box (.cells #[.int .i64 t1.line, .int .i64 t1.col] 28)).same (Chg.refl [] _).drew
    obtain ⟨wE, hwE⟩ : ∃ wE, (wr.alloc (.cells #[.int .i64 t1.line, .int .i64 t1.col] 28)).drew = wE := ⟨_, rfl⟩
    obtain ⟨PP, hPP⟩ : ∃ PP, wr.heap.size = PP := ⟨_, rfl⟩
    rw [hwE, hPP] at hb1
    rw [hwE, hPP]
    clear hwE hPP a0 a1 a3 a4 c0 c1 g3 g4 hlt1 hki1 HOK
    have HB1 := hid hb1
    clear hb1
    go_upto_region 4 with fail
    have z0 : wE.cell? ⟨PP, 0, none⟩ = some (.int .i64 t1.line) := blk_cell (HB1.out.getX (j := 0) rfl) 0
    have z1 : wE.cell? ⟨PP, 1, none⟩ = some (.int .i64 t1.col) := blk_cell (HB1.out.getX (j := 0) rfl) 1
    have hPPne : PP ≠ wE.heap.size := Nat.ne_of_lt (blk_lt (HB1.out.getX (j := 0) rfl))
    have HNM1 := hid (y_name_calls (HB1.out.same (Chg.refl [] wE).drew) HV.out)
    have HNM2 := hid (y_name_calls ((HB1.out.box (.cells #[.int .i64 0, .string ⟨#[]⟩, .int .i64 0, .int .i64 0, .int .i64 0] 47)).same (Chg.refl [] _).drew) HV.out)
    go_cut [6] from 14 to 116 (fun v wx => ∃ PD : Nat, v = .pointer (some ⟨PD, 0, none⟩) ∧ Hid (YNm w0 b all k' ds q m' f X PD PP 5 t1 wx))
    case first =>
      (refine wp_region_held_drew (S := (fun w' => w'.cell? ⟨PP, 0, none⟩ = some (.int .i64 t1.line) ∧ w'.cell? ⟨PP, 1, none⟩ = some (.int .i64 t1.col))) (by kernel_rfl) (by exact ⟨z0, z1⟩) (fun hHeld => ?_); (refine wpAnyH_take (i := 0) (v := ?_) rfl (by kernel_rfl) (by kernel_rfl) (by kernel_rfl) (fun _ _ _ h => h) (Or.inl ⟨by rfl, ?_⟩) (by assumption) ?_; rotate_left 1; (focus (intro w hSw; (try dsimp only at hSw); go_simp; (try with_reducible rfl))); (try simp only [List.getElem_toArray, List.getElem_cons_zero, List.getElem_cons_succ, Act.put, List.setIfInBounds_toArray, List.set_cons_zero, List.set_cons_succ])); (refine wpAnyH_take (i := 1) (v := ?_) rfl (by kernel_rfl) (by kernel_rfl) (by kernel_rfl) (fun _ _ _ h => h) (Or.inl ⟨by rfl, ?_⟩) (by assumption) ?_; rotate_left 1; (focus (intro w hSw; (try dsimp only at hSw); go_simp; (try with_reducible rfl))); (try simp only [List.getElem_toArray, List.getElem_cons_zero, List.getElem_cons_succ, Act.put, List.setIfInBounds_toArray, List.set_cons_zero, List.set_cons_succ])); (refine wpAnyH_take (i := 3) (v := ?_) rfl (by kernel_rfl) (by kernel_rfl) (by kernel_rfl) (fun _ _ _ h => h) (Or.inl ⟨by rfl, ?_⟩) (by assumption) ?_; rotate_left 1; (focus (intro w hSw; (try dsimp only at hSw); go_simp; (try with_reducible rfl))); (try simp only [List.getElem_toArray, List.getElem_cons_zero, List.getElem_cons_succ, Act.put, List.setIfInBounds_toArray, List.set_cons_zero, List.set_cons_succ])); (refine wpAnyH_ready (rs := [2, 5]) (by kernel_rfl) (by simp) ?_; refine AllReadyH.cons rfl (fun K hK => ?_) (AllReadyH.cons rfl (fun K hK => ?_) (AllReadyH.nil)); (focus (go_simp; go_at_call 65; (first | ((with_reducible refine HNM1.out.mono ?_); rintro e w2 ⟨nm, k1, m1, f1, rfl, h2, hm2, hst2⟩; have hk0 : w2.cell? ⟨PP, 0, none⟩ = some (.int .i64 t1.line) := blk_cell (h2.getX (j := 0) rfl) 0; have hk1 : w2.cell? ⟨PP, 1, none⟩ = some (.int .i64 t1.col) := blk_cell (h2.getX (j := 0) rfl) 1) | ((with_reducible refine HNM2.out.mono ?_); rintro e w2 ⟨nm, k1, m1, f1, rfl, h2, hm2, hst2⟩; have hbx := h2.getX (j := 0) rfl; have y0 := blk_cell hbx 0; have y1 := blk_cell hbx 1; have y2 := blk_cell hbx 2; have y3 := blk_cell hbx 3; have y4 := blk_cell hbx 4; have yf := blk_free hbx; simp only [List.getElem?_toArray, List.getElem?_cons_zero, List.getElem?_cons_succ] at y0 y1 y2 y3 y4)); (refine hK.out _ _ (by exact (by first | exact ⟨blk_cell (h2.getX (j := 0) rfl) 0, blk_cell (h2.getX (j := 0) rfl) 1⟩ | exact ⟨blk_cell (h2.getX (j := 1) rfl) 0, blk_cell (h2.getX (j := 1) rfl) 1⟩)) (fun hHeld => ?_); clear hK K; (try simp only [List.getElem_toArray, List.getElem_cons_zero, List.getElem_cons_succ, Act.put, List.setIfInBounds_toArray, List.set_cons_zero, List.set_cons_succ])); (refine wpAnyH_take (i := 4) (v := ?_) rfl (by kernel_rfl) (by kernel_rfl) (by kernel_rfl) (fun _ _ _ h => h) (Or.inl ⟨by rfl, ?_⟩) (by assumption) ?_; rotate_left 1; (focus (intro w hSw; (try dsimp only at hSw); go_simp; (try with_reducible rfl))); (try simp only [List.getElem_toArray, List.getElem_cons_zero, List.getElem_cons_succ, Act.put, List.setIfInBounds_toArray, List.set_cons_zero, List.set_cons_succ])); (refine wpAnyH_ready (rs := [5]) (by kernel_rfl) (by simp) ?_; refine AllReadyH.cons rfl (fun K hK => ?_) AllReadyH.nil; go_simp; (refine hK.out _ _ (by exact ⟨((Chg.refl [] _).alloc _).cell hHeld.1 (by simp), ((Chg.refl [] _).alloc _).cell hHeld.2 (by simp)⟩) (fun hHeld => ?_); clear hK K; (try simp only [List.getElem_toArray, List.getElem_cons_zero, List.getElem_cons_succ, Act.put, List.setIfInBounds_toArray, List.set_cons_zero, List.set_cons_succ]))))); rotate_left 1; (focus (go_simp; (refine hK.out _ _ (by exact ⟨((Chg.refl [] _).alloc _).cell hHeld.1 (by simp), ((Chg.refl [] _).alloc _).cell hHeld.2 (by simp)⟩) (fun hHeld => ?_); clear hK K; (try simp only [List.getElem_toArray, List.getElem_cons_zero, List.getElem_cons_succ, Act.put, List.setIfInBounds_toArray, List.set_cons_zero, List.set_cons_succ])); (refine wpAnyH_ready (rs := [2]) (by kernel_rfl) (by simp) ?_; refine AllReadyH.cons rfl (fun K hK => ?_) AllReadyH.nil; go_simp; go_at_call 65; (first | ((with_reducible refine HNM1.out.mono ?_); rintro e w2 ⟨nm, k1, m1, f1, rfl, h2, hm2, hst2⟩; have hk0 : w2.cell? ⟨PP, 0, none⟩ = some (.int .i64 t1.line) := blk_cell (h2.getX (j := 0) rfl) 0; have hk1 : w2.cell? ⟨PP, 1, none⟩ = some (.int .i64 t1.col) := blk_cell (h2.getX (j := 0) rfl) 1) | ((with_reducible refine HNM2.out.mono ?_); rintro e w2 ⟨nm, k1, m1, f1, rfl, h2, hm2, hst2⟩; have hbx := h2.getX (j := 0) rfl; have y0 := blk_cell hbx 0; have y1 := blk_cell hbx 1; have y2 := blk_cell hbx 2; have y3 := blk_cell hbx 3; have y4 := blk_cell hbx 4; have yf := blk_free hbx; simp only [List.getElem?_toArray, List.getElem?_cons_zero, List.getElem?_cons_succ] at y0 y1 y2 y3 y4)); (refine hK.out _ _ (by exact (by first | exact ⟨blk_cell (h2.getX (j := 0) rfl) 0, blk_cell (h2.getX (j := 0) rfl) 1⟩ | exact ⟨blk_cell (h2.getX (j := 1) rfl) 0, blk_cell (h2.getX (j := 1) rfl) 1⟩)) (fun hHeld => ?_); clear hK K; (try simp only [List.getElem_toArray, List.getElem_cons_zero, List.getElem_cons_succ, Act.put, List.setIfInBounds_toArray, List.set_cons_zero, List.set_cons_succ]))); (refine wpAnyH_take (i := 4) (v := ?_) rfl (by kernel_rfl) (by kernel_rfl) (by kernel_rfl) (fun _ _ _ h => h) (Or.inl ⟨by rfl, ?_⟩) (by assumption) ?_; rotate_left 1; (focus (intro w hSw; (try dsimp only at hSw); go_simp; (try with_reducible rfl))); (try simp only [List.getElem_toArray, List.getElem_cons_zero, List.getElem_cons_succ, Act.put, List.setIfInBounds_toArray, List.set_cons_zero, List.set_cons_succ])))); rotate_left 1); (all_goals ((refine wpAnyH_ready (rs := [6]) (by kernel_rfl) (by simp) ?_; refine AllReadyH.cons rfl (fun K hK => ?_) AllReadyH.nil; go_simp; (refine hK.out _ _ (by exact (by first | (with_reducible exact ⟨set5_keep hPPne _ _ _ _ _ hHeld.1, set5_keep hPPne _ _ _ _ _ hHeld.2⟩) | (with_reducible exact ⟨alloc_keep _ hk0, alloc_keep _ hk1⟩))) (fun hHeld => ?_); clear hK K; (try simp only [List.getElem_toArray, List.getElem_cons_zero, List.getElem_cons_succ, Act.put, List.setIfInBounds_toArray, List.set_cons_zero, List.set_cons_succ]))); refine wpAnyH_done (by kernel_rfl) ?_ _)))
      all_goals
        go_wp2_with fail
        go_meet
        first
        | (with_reducible exact ⟨_, rfl, hid (YNm.mk (h2.box _) hm2 hst2)⟩)
        | (with_reducible exact ⟨_, rfl, hid (YNm.mk (h2.put5 _ _ _ _ _) hm2 hst2)⟩)
    case rest =>
      obtain ⟨PD, rfl, hYN⟩ := hcut
      obtain ⟨nm, k1, m1, f1, h1, hm1, hst⟩ := hYN.out
      rw [HG0.out] at hst
      have hse := stp_err (by rw [← HG0.out]; exact nameT_err _) HF.out hst
      have H1 := hid h1
      clear hst hYN z0 z1 HNM1 HNM2 hPPne HB1
      rcases hse with ⟨hE, hnE⟩ | ⟨hf1, p, hp, hp2, hm1', hpn, hpf⟩
      · have HOK := hid (y_ok_no H1.out hE)
        have HEE := hid (And.intro hE (And.intro hnE hm1))
        clear hE hnE hm1 h1
        go_wp2_with (go_at_call 17; refine HOK.out.mono ?_; rintro e w9 ⟨rfl, rfl⟩)
        go_end0
        exact ⟨k1, q, m1, f1, rfl, H1.out.subX (.cons _ (.cons _ (.refl _))), by have := HEE.out.2.2; have := HMM.out; omega, .inl ⟨HEE.out.1, HEE.out.2.1⟩⟩
      · subst hf1
        have hpt : p = (t1, all.drop (k' + 1)) := by
          have h9 := HG0.out
          rw [HT1.out.2] at h9
          exact name_head (h9.trans hp)
        have HPP := hid (And.intro hp (And.intro hp2 (And.intro hpt (And.intro hpn hm1'))))
        have HOK := hid (y_ok_yes H1.out HF.out)
        have bd := h1.getX (j := 0) rfl
        have bp := h1.getX (j := 1) rfl
        have hPDb := h1.neX (j := 0) rfl (g := PD) rfl
        have hPPb := h1.neX (j := 1) rfl (g := PP) rfl
        have hPDr : PD ∉ q.r1.toList := fun hm => by
          exact h1.hp.ne (i := 2) (j := (ryI b all.length k1 ds q f1).length + 0) (x := rsBlocks q) rfl (by rw [List.getElem?_append_right (by omega), Nat.add_sub_cancel_left]; rfl) (by unfold ryI; simp only [List.length_cons]; omega) (g := PD) (by simpa [rsBlocks, It.blk] using hm) rfl
        have hPPr : PP ∉ q.r1.toList := fun hm => by
          exact h1.hp.ne (i := 2) (j := (ryI b all.length k1 ds q f1).length + 1) (x := rsBlocks q) rfl (by rw [List.getElem?_append_right (by omega), Nat.add_sub_cancel_left]; rfl) (by unfold ryI; simp only [List.length_cons]; omega) (g := PP) (by simpa [rsBlocks, It.blk] using hm) rfl
        have hbr : b ∉ q.r1.toList := fun hm => by
          exact h1.hp.ne (i := 2) (j := 0) (x := rsBlocks q) (y := ryBox b all.length k1 ds.length q f1) rfl rfl (by omega) (g := b) (by simpa [rsBlocks, It.blk] using hm) rfl
        have hrow : Row wc 50 4 (.slice q.a1 q.bs.length q.c1) q.r1 q.bs.length (q.bs.flatMap blC) := h1.hp.rowAt (i := 2) rfl
        have hp0 := h1.c3
        have hpf0 := h1.fr 3
        have hld := h1.lb
        have hsm9 := h1.sm.2
        obtain ⟨L, hL⟩ : ∃ L, q.bs.length = L := ⟨_, rfl⟩
        obtain ⟨I, hII⟩ : ∃ I, q.bs.flatMap blC = I := ⟨_, rfl⟩
        rw [hL, hII] at hrow
        rw [hL] at hp0 hld
        have p0d : ∀ o, (wc.drew.alloc o).cell? ⟨b, 3, none⟩ = some (.slice q.a1 L q.c1) := fun o => (((Chg.refl [] wc).drew).alloc o).cell hp0 (by simp)
        have HU : Hid (wc.cell? ⟨PD, 1, none⟩ = some (.string nm) ∧ wc.cell? ⟨PP, 0, none⟩ = some (.int .i64 t1.line) ∧ wc.cell? ⟨PP, 1, none⟩ = some (.int .i64 t1.col)) := hid ⟨blk_cell bd 1, blk_cell bp 0, blk_cell bp 1⟩
        have hPDlt := blk_lt bd
        have hPPlt := blk_lt bp
        have hblt := h1.blt
        have HR0 := hid (And.intro hPDr (And.intro hPPr hbr))
        have hL2 : L ≤ 2097152 := by omega
        have hm3s : m1 < 2097152 := by have := HMM.out; have := HSM.out; omega
        have H4 := hid (And.intro h1 (And.intro hrow (And.intro hL (And.intro hII (And.intro hld hm3s)))))
        clear h1 hrow hL hII hPDr hPPr hbr bd bp hld hp hp2 hpn hpf hm3s hm1' hpt
        go_upto_region 7 with (go_at_call 17; refine HOK.out.mono ?_; rintro e w9 ⟨rfl, rfl⟩)
        (refine wp_region_held_drew (S := (fun w' => w'.cell? ⟨PD, 1, none⟩ = some (.string nm) ∧ w'.cell? ⟨PP, 0, none⟩ = some (.int .i64 t1.line) ∧ w'.cell? ⟨PP, 1, none⟩ = some (.int .i64 t1.col))) (by kernel_rfl) (by exact HU.out) (fun hHeld => ?_); (refine wpAnyH_take (i := 0) (v := ?_) rfl (by kernel_rfl) (by kernel_rfl) (by kernel_rfl) (fun _ _ _ h => h) (Or.inl ⟨by rfl, ?_⟩) (by assumption) ?_; rotate_left 1; (focus (intro w hSw; (try dsimp only at hSw); go_simp; (try with_reducible rfl))); (try simp only [List.getElem_toArray, List.getElem_cons_zero, List.getElem_cons_succ, Act.put, List.setIfInBounds_toArray, List.set_cons_zero, List.set_cons_succ])); (refine wpAnyH_take (i := 1) (v := ?_) rfl (by kernel_rfl) (by kernel_rfl) (by kernel_rfl) (fun _ _ _ h => h) (Or.inl ⟨by rfl, ?_⟩) (by assumption) ?_; rotate_left 1; (focus (intro w hSw; (try dsimp only at hSw); go_simp; (try with_reducible rfl))); (try simp only [List.getElem_toArray, List.getElem_cons_zero, List.getElem_cons_succ, Act.put, List.setIfInBounds_toArray, List.set_cons_zero, List.set_cons_succ])); (refine wpAnyH_take (i := 2) (v := ?_) rfl (by kernel_rfl) (by kernel_rfl) (by kernel_rfl) (fun _ _ _ h => h) (Or.inl ⟨by rfl, ?_⟩) (by assumption) ?_; rotate_left 1; (focus (intro w hSw; (try dsimp only at hSw); go_simp; (try with_reducible rfl))); (try simp only [List.getElem_toArray, List.getElem_cons_zero, List.getElem_cons_succ, Act.put, List.setIfInBounds_toArray, List.set_cons_zero, List.set_cons_succ])); (refine wpAnyH_take (i := 3) (v := ?_) rfl (by kernel_rfl) (by kernel_rfl) (by kernel_rfl) (fun _ _ _ h => h) (Or.inl ⟨by rfl, ?_⟩) (by assumption) ?_; rotate_left 1; (focus (intro w hSw; (try dsimp only at hSw); go_simp; (try with_reducible rfl))); (try simp only [List.getElem_toArray, List.getElem_cons_zero, List.getElem_cons_succ, Act.put, List.setIfInBounds_toArray, List.set_cons_zero, List.set_cons_succ])); (refine wpAnyH_take (i := 4) (v := ?_) rfl (by kernel_rfl) (by kernel_rfl) (by kernel_rfl) (fun _ _ _ h => h) (Or.inl ⟨by rfl, ?_⟩) (by assumption) ?_; rotate_left 1; (focus (intro w hSw; (try dsimp only at hSw); go_simp; (try with_reducible rfl))); (try simp only [List.getElem_toArray, List.getElem_cons_zero, List.getElem_cons_succ, Act.put, List.setIfInBounds_toArray, List.set_cons_zero, List.set_cons_succ])); (refine wpAnyH_take (i := 6) (v := ?_) rfl (by kernel_rfl) (by kernel_rfl) (by kernel_rfl) (fun _ _ _ h => h) (Or.inl ⟨by rfl, ?_⟩) (by assumption) ?_; rotate_left 1; (focus (intro w hSw; (try dsimp only at hSw); go_simp; (try with_reducible rfl))); (try simp only [List.getElem_toArray, List.getElem_cons_zero, List.getElem_cons_succ, Act.put, List.setIfInBounds_toArray, List.set_cons_zero, List.set_cons_succ])); (refine wpAnyH_take (i := 7) (v := ?_) rfl (by kernel_rfl) (by kernel_rfl) (by kernel_rfl) (fun _ _ _ h => h) (Or.inl ⟨by rfl, ?_⟩) (by assumption) ?_; rotate_left 1; (focus (intro w hSw; (try dsimp only at hSw); go_simp; (try with_reducible rfl))); (try simp only [List.getElem_toArray, List.getElem_cons_zero, List.getElem_cons_succ, Act.put, List.setIfInBounds_toArray, List.set_cons_zero, List.set_cons_succ])); (refine wpAnyH_take (i := 8) (v := ?_) rfl (by kernel_rfl) (by kernel_rfl) (by kernel_rfl) (fun _ _ _ h => h) (Or.inl ⟨by rfl, ?_⟩) (by assumption) ?_; rotate_left 1; (focus (intro w hSw; (try dsimp only at hSw); go_simp; (try with_reducible rfl))); (try simp only [List.getElem_toArray, List.getElem_cons_zero, List.getElem_cons_succ, Act.put, List.setIfInBounds_toArray, List.set_cons_zero, List.set_cons_succ])); (refine wpAnyH_take (i := 9) (v := ?_) rfl (by kernel_rfl) (by kernel_rfl) (by kernel_rfl) (fun _ _ _ h => h) (Or.inl ⟨by rfl, ?_⟩) (by assumption) ?_; rotate_left 1; (focus (intro w hSw; (try dsimp only at hSw); go_simp; (try with_reducible rfl))); (try simp only [List.getElem_toArray, List.getElem_cons_zero, List.getElem_cons_succ, Act.put, List.setIfInBounds_toArray, List.set_cons_zero, List.set_cons_succ])); (refine wpAnyH_ready (rs := [5, 10]) (by kernel_rfl) (by simp) ?_; refine AllReadyH.cons rfl (fun K hK => ?_) (AllReadyH.cons rfl (fun K hK => ?_) AllReadyH.nil)); (focus (go_simp; (refine hK.out _ _ (by exact hHeld) (fun hHeld => ?_); clear hK K; (try simp only [List.getElem_toArray, List.getElem_cons_zero, List.getElem_cons_succ, Act.put, List.setIfInBounds_toArray, List.set_cons_zero, List.set_cons_succ])); (refine wpAnyH_ready (rs := [10]) (by kernel_rfl) (by simp) ?_; refine AllReadyH.cons rfl (fun K hK => ?_) AllReadyH.nil; go_simp; (refine hK.out _ _ (by exact (c3_keep ((Chg.refl [] _).alloc _) (by simp) (by simp) (by simp) hHeld)) (fun hHeld => ?_); clear hK K; (try simp only [List.getElem_toArray, List.getElem_cons_zero, List.getElem_cons_succ, Act.put, List.setIfInBounds_toArray, List.set_cons_zero, List.set_cons_succ]))))); rotate_left 1; (focus (go_simp; (refine hK.out _ _ (by exact (c3_keep ((Chg.refl [] _).alloc _) (by simp) (by simp) (by simp) hHeld)) (fun hHeld => ?_); clear hK K; (try simp only [List.getElem_toArray, List.getElem_cons_zero, List.getElem_cons_succ, Act.put, List.setIfInBounds_toArray, List.set_cons_zero, List.set_cons_succ])); (refine wpAnyH_ready (rs := [5]) (by kernel_rfl) (by simp) ?_; refine AllReadyH.cons rfl (fun K hK => ?_) AllReadyH.nil; go_simp; (refine hK.out _ _ (by exact hHeld) (fun hHeld => ?_); clear hK K; (try simp only [List.getElem_toArray, List.getElem_cons_zero, List.getElem_cons_succ, Act.put, List.setIfInBounds_toArray, List.set_cons_zero, List.set_cons_succ]))))); (all_goals ((refine wpAnyH_ready (rs := [11]) (by kernel_rfl) (by simp) ?_; refine AllReadyH.cons rfl (fun K hK => ?_) AllReadyH.nil; refine step_grew rfl _ _ 23 rfl elem_blk rfl (H4.out.2.1.keep (((Chg.refl [] wc).drew).alloc _) (by simp)) rfl (View.structAt wc.drew [.string nm, .slice none 0 0, .int .i64 t1.line, .int .i64 t1.col] 50 rfl rfl) (by simp [Value.oneCell']) (by unfold maxLen; omega) (by omega) (fun ao5 cap5 r5 w5 hr5 hg5 => ?_); (refine hK.out _ _ (by exact (c3_keep hg5.chg HR0.out.1 HR0.out.2.1 HR0.out.2.1 hHeld)) (fun hHeld => ?_); clear hK K; (try simp only [List.getElem_toArray, List.getElem_cons_zero, List.getElem_cons_succ, Act.put, List.setIfInBounds_toArray, List.set_cons_zero, List.set_cons_succ]))); (refine wpAnyH_take (i := 12) (v := ?_) rfl (by kernel_rfl) (by kernel_rfl) (by kernel_rfl) (fun _ _ _ h => h) (Or.inl ⟨by rfl, ?_⟩) (by assumption) ?_; rotate_left 1; (focus (intro w hSw; (try dsimp only at hSw); go_simp; (try with_reducible rfl))); (try simp only [List.getElem_toArray, List.getElem_cons_zero, List.getElem_cons_succ, Act.put, List.setIfInBounds_toArray, List.set_cons_zero, List.set_cons_succ])); (refine wpAnyH_take (i := 13) (v := ?_) rfl (by kernel_rfl) (by kernel_rfl) (by kernel_rfl) (fun _ _ _ h => h) (Or.inl ⟨by rfl, ?_⟩) (by assumption) ?_; rotate_left 1; (focus (intro w hSw; (try dsimp only at hSw); go_simp; (try with_reducible rfl))); (try simp only [List.getElem_toArray, List.getElem_cons_zero, List.getElem_cons_succ, Act.put, List.setIfInBounds_toArray, List.set_cons_zero, List.set_cons_succ])); (refine wpAnyH_take (i := 14) (v := ?_) rfl (by kernel_rfl) (by kernel_rfl) (by kernel_rfl) (fun _ _ _ h => h) (Or.inl ⟨by rfl, ?_⟩) (by assumption) ?_; rotate_left 1; (focus (intro w hSw; (try dsimp only at hSw); go_simp; (try with_reducible rfl))); (try simp only [List.getElem_toArray, List.getElem_cons_zero, List.getElem_cons_succ, Act.put, List.setIfInBounds_toArray, List.set_cons_zero, List.set_cons_succ])); (refine wpAnyH_ready (rs := [15]) (by kernel_rfl) (by simp) ?_; refine AllReadyH.cons rfl (fun K hK => ?_) AllReadyH.nil; go_simp; (have p5 : w5.cell? ⟨b, 3, none⟩ = some (.slice q.a1 L q.c1) := hg5.chg.cell (p0d _) HR0.out.2.2; have f5 : w5.frozen? ⟨b, 3, none⟩ = false := hg5.chg.free (p0d _) ((((Chg.refl [] wc).drew).alloc _).free hp0 hpf0 (by simp)) HR0.out.2.2; go_simp); (refine hK.out _ _ (by exact (c3_keep ((Chg.refl [b] w5).setCell (p := ⟨b, 3, none⟩) (.inl (by simp)) _) (by simp; omega) (by simp; omega) (by simp; omega) hHeld)) (fun hHeld => ?_); clear hK K; (try simp only [List.getElem_toArray, List.getElem_cons_zero, List.getElem_cons_succ, Act.put, List.setIfInBounds_toArray, List.set_cons_zero, List.set_cons_succ]))); refine wpAnyH_done (by kernel_rfl) ?_ _)))
        all_goals
          go_wp2_with fail
          go_end0
          obtain ⟨h4, hrow, hL, hII, hld, hm3s⟩ := H4.out
          obtain ⟨hp, hp2, hpt, hpn, hm1'⟩ := HPP.out
          subst hL
          subst hII
          have h7 := h4.block (kk := ⟨nm, [], t1.line, t1.col⟩) rfl (((Chg.refl [] wc).drew).alloc _) hr5 hg5 hm3s
          subst hpt
          simp only at hp2 hpn
          refine ⟨k1, { q with a1 := ao5, c1 := cap5, r1 := r5, bs := q.bs ++ [⟨⟨nm, [], t1.line, t1.col⟩, none, 0, none⟩] }, m1 + 1, f1, rfl, h7.subX (.cons _ (.cons _ (.refl _))), by have := HMM.out; omega, .inr ⟨rfl, t1, ?_, ?_⟩⟩
          · rw [hp, hp2]
          · unfold RQ.bks
            rw [List.map_append, hpn]
            rfl
def YLineP (w0 : World) (b : Nat) (all : List Tok) (m : Nat) (f : Flt) (X : List It) (G : Except Flt (List Tok × UnD)) (e : Ending) (w' : World) : Prop :=
  ∃ (k' : Nat) (ds' : List DcD) (q' : RQ) (m' : Nat) (f' : Flt), e = .returned (.tuple #[]) ∧ RY w0 w' b all k' ds' q' m' f' X ∧ m' ≤ m ∧ ((f'.code ≠ 0 ∧ G = .error f') ∨ (f' = f ∧ G = .ok (all.drop k', ⟨ds', q'.bks⟩)))
set_option maxHeartbeats 32000000 in
set_option maxRecDepth 100000 in
theorem y_line_calls (h : RY w0 w b all k ds q m f X) (hf : f.code = 0) (hm : m < 2097152) (hv : VarsP w0) : Calls Tryz.prog 16 #[.pointer (some ⟨b, 0, none⟩)] w (YLineP w0 b all m f X (lineD (all.drop k) ⟨ds, q.bks⟩)) := by
  obtain ⟨G, hG⟩ : ∃ G, lineD (all.drop k) ⟨ds, q.bks⟩ = G := ⟨_, rfl⟩
  rw [hG]
  have HV := hid hv
  have HF := hid hf
  have HG0 := hid hG
  have HMS := hid hm
  have HLB := hid (y_labels_calls h hf hm hv)
  have hnl : ErrN (labelsD (all.drop k) q.bks false) := labels_err _ (Nat.le_refl _)
  have HNL := hid hnl
  obtain ⟨N, hN⟩ : ∃ N, all.length = N := ⟨_, rfl⟩
  have HN := hid hN
  have hsm := h.sm.1
  rw [hN] at hsm
  clear h hf hm hv hG hnl hN
  go_enter Tryz.func16, Tryz.ntmps16
  go_upto_region 1 with (go_at_call 31; refine HLB.out.mono ?_; rintro e w1 ⟨n, k1, q1, m1, f1, rfl, h1, hm1, hl1⟩)
  rcases hl1 with hE | ⟨hf1, any, hO, hna⟩
  · have hz := HNL.out _ hE
    have H1 := hid h1
    have HE := hid (show G = .error f1 from by rw [← HG0.out]; exact line_bad hE)
    clear h1 hE HLB
    have HOKn := hid (y_ok_no H1.out hz)
    go_wp2_with (go_at_call 17; refine HOKn.out.mono ?_; rintro e w9 ⟨rfl, rfl⟩)
    go_end0
    exact ⟨k1, ds, q1, m1, f1, rfl, H1.out, hm1, .inl ⟨hz, HE.out⟩⟩
  · subst hf1
    have H1 := hid h1
    obtain ⟨t, hi, hd⟩ := h1.cons
    have HGL : Hid (G = lineT any t (all.drop (k1 + 1)) ⟨ds, q1.bks⟩) := hid (by rw [← HG0.out]; exact line_on (by rw [hO, hd]))
    have HT := hid (And.intro hi hd)
    have HM1 := hid (And.intro hm1 hna)
    have HOK0 := hid (y_ok_yes h1 HF.out)
    have HEN0 := hid (y_ends_calls h1 hi)
    cases hen0 : endsB t with
    | true =>
      rw [hen0] at HEN0
      have HQ : Hid (G = .ok (all.drop k1, ⟨ds, q1.bks⟩)) := hid (by rw [HGL.out, hd]; unfold lineT; rw [if_pos hen0])
      have HEN1 := hid fun W (hc : Chg [] w1 W) => (y_ends_calls (h1.same hc) hi)
      rw [hen0] at HEN1
      have HOK1 := hid fun W (hc : Chg [] w1 W) => y_ok_yes (h1.same hc) HF.out
      clear hO hi hd h1 hm1 hna HLB hen0
      go_wp2_with (first
        | (go_at_call 17; (with_reducible refine HOK0.out.mono ?_); rintro e w2 ⟨rfl, rfl⟩)
        | (go_at_call 32; (with_reducible refine HEN0.out.mono ?_); rintro e w3 ⟨rfl, hc3⟩)
        | (go_at_call 17; (with_reducible refine (HOK1.out _ hc3).mono ?_); rintro e w2 ⟨rfl, rfl⟩)
        | (go_at_call 32; (with_reducible refine (HEN1.out _ hc3).mono ?_); rintro e w4 ⟨rfl, hc4⟩))
      go_end0
      exact ⟨k1, ds, q1, m1, f1, rfl, H1.out.same (by first | exact hc3.trans' hc4 | exact hc3), HM1.out.1, .inr ⟨rfl, HQ.out⟩⟩
    | false =>
      rw [hen0] at HEN0
      have HE0 := hid hen0
      have HT0 : Hid (∀ W, Chg [] w1 W → W.cell? ⟨b, 0, none⟩ = some (.slice (some ⟨q1.tb, q1.off, none⟩) N q1.tc) ∧ W.cell? ⟨b, 1, none⟩ = some (.int .i64 k1) ∧ W.cell? ⟨q1.tb, q1.off + k1 * 5, none⟩ = some (.int .i64 t.kind) ∧ W.cell? ⟨q1.tb, q1.off + k1 * 5 + 1, none⟩ = some (.string (bA t.text)) ∧ W.cell? ⟨q1.tb, q1.off + k1 * 5 + 2, none⟩ = some (.int .i64 t.num) ∧ W.cell? ⟨q1.tb, q1.off + k1 * 5 + 3, none⟩ = some (.int .i64 t.line) ∧ W.cell? ⟨q1.tb, q1.off + k1 * 5 + 4, none⟩ = some (.int .i64 t.col)) := hid (fun W hc => by
        have h9 := h1.same hc
        obtain ⟨g0, g1, g2, g3, g4⟩ := h9.head_at hi
        have c0 := h9.c0
        rw [HN.out] at c0
        exact ⟨c0, h9.c1, g0, g1, g2, g3, g4⟩)
      have hlt := h1.lt
      rw [HN.out] at hlt
      have hki : (k1 : Int) < (N : Int) := by omega
      clear hO hi hd h1 hm1 hna HLB hen0
      go_upto_region 3 with (first
        | (go_at_call 17; (with_reducible refine HOK0.out.mono ?_); rintro e w2 ⟨rfl, rfl⟩)
        | (go_at_call 32; (with_reducible refine HEN0.out.mono ?_); rintro e w3 ⟨rfl, hc3⟩))
      obtain ⟨v0, v1, g0, g1, g2, g3, g4⟩ := HT0.out _ hc3
      have a0 : ∀ o, (w3.alloc o).cell? ⟨b, 0, none⟩ = some (.slice (some ⟨q1.tb, q1.off, none⟩) N q1.tc) := fun o => (HT0.out _ (hc3.alloc o)).1
      have a1 : ∀ o, (w3.alloc o).cell? ⟨b, 1, none⟩ = some (.int .i64 k1) := fun o => (HT0.out _ (hc3.alloc o)).2.1
      have a2 : ∀ o, (w3.alloc o).cell? ⟨q1.tb, q1.off + k1 * 5, none⟩ = some (.int .i64 t.kind) := fun o => (HT0.out _ (hc3.alloc o)).2.2.1
      have a3 : ∀ o, (w3.alloc o).cell? ⟨q1.tb, q1.off + k1 * 5 + 1, none⟩ = some (.string (bA t.text)) := fun o => (HT0.out _ (hc3.alloc o)).2.2.2.1
      have a4 : ∀ o, (w3.alloc o).cell? ⟨q1.tb, q1.off + k1 * 5 + 2, none⟩ = some (.int .i64 t.num) := fun o => (HT0.out _ (hc3.alloc o)).2.2.2.2.1
      have a5 : ∀ o, (w3.alloc o).cell? ⟨q1.tb, q1.off + k1 * 5 + 3, none⟩ = some (.int .i64 t.line) := fun o => (HT0.out _ (hc3.alloc o)).2.2.2.2.2.1
      have a6 : ∀ o, (w3.alloc o).cell? ⟨q1.tb, q1.off + k1 * 5 + 4, none⟩ = some (.int .i64 t.col) := fun o => (HT0.out _ (hc3.alloc o)).2.2.2.2.2.2
      go_region
      have hb0 := ((H1.out.same hc3).box (.cells #[.int .i64 t.kind, .string (bA t.text), .int .i64 t.num, .int .i64 t.line, .int .i64 t.col] 63)).same (Chg.refl [] _).drew
      obtain ⟨wB, hwB⟩ : ∃ wB, (w3.alloc (.cells #[.int .i64 t.kind, .string (bA t.text), .int .i64 t.num, .int .i64 t.line, .int .i64 t.col] 63)).drew = wB := ⟨_, rfl⟩
      obtain ⟨P, hP⟩ : ∃ P, w3.heap.size = P := ⟨_, rfl⟩
      rw [hwB, hP] at hb0
      rw [hwB, hP]
      clear hwB hP a0 a1 a2 a3 a4 a5 a6 v0 v1 g0 g1 g2 g3 g4 HOK0 HEN0 HT0
      have bx := hb0.getX (j := 0) rfl
      have x0 : wB.cell? ⟨P, 0, none⟩ = some (.int .i64 t.kind) := blk_cell bx 0
      have x1 : wB.cell? ⟨P, 1, none⟩ = some (.string (bA t.text)) := blk_cell bx 1
      have HB := hid hb0
      have HFL := hid (y_fails_calls hb0 HT.out.1 HF.out 80)
      clear bx hb0 H1
      by_cases hk1 : t.kind = 1
      · have e1 : ((t.kind : Int) == 1) = true := by simp; omega
        have HXT : Hid (∀ W, Chg [] wB W → W.cell? ⟨P, 1, none⟩ = some (.string (bA t.text))) := hid (fun W hc => hc.cell x1 (by simp))
        have HO := hid fun W => r_op_calls (bA t.text) W
        have HKD := hid fun W => r_kind_calls (bA t.text) W
        have hdl : (bA t.text).data.toList = t.text := rfl
        rw [hdl] at HO HKD
        have ho20 := op_le t.text
        have hk5 := kind_le t.text
        obtain ⟨o, ho⟩ : ∃ o, opL t.text = o := ⟨_, rfl⟩
        obtain ⟨kd, hkd⟩ : ∃ kd, kindL t.text = kd := ⟨_, rfl⟩
        rw [ho] at HO ho20
        rw [hkd] at HKD hk5
        have HOK2 := hid (And.intro ho hkd)
        have HK1 := hid hk1
        clear ho hkd hdl hk1
        go_upto_region 10 with (first
          | (go_at_call 33; refine (HO.out _).mono ?_; rintro e w5 ⟨rfl, hc5⟩; have x5 := HXT.out _ hc5)
          | (go_at_call 34; refine (HKD.out _).mono ?_; rintro e w6 ⟨rfl, hc6⟩))
        have h6 := (HB.out.same hc5).same hc6
        have H6 := hid h6
        clear h6 HB HFL HO HKD HXT x0 x1 x5
        by_cases ho0 : o = 0
        · subst ho0
          have HO0 := HOK2.out.1
          have hna := HM1.out.2
          have HO0' := hid HO0
          clear HO0
          by_cases hbad : kd = 0 ∨ any = true
          · have HGE : Hid (G = .error (fltAt 80 t)) := hid (by
              rw [HGL.out]
              unfold lineT
              rw [if_neg (by rw [HE0.out]; simp), if_neg (by intro hc; exact hc.2 HO0'.out), if_pos ?_]
              rcases hbad with hb | hb
              · exact .inr (.inl (by rw [HOK2.out.2]; exact hb))
              · exact .inr (.inr hb))
            have HFL := hid (y_fails_calls H6.out HT.out.1 HF.out 80)
            have dk : (decide ((0 : Int) < (kd : Int)) = false) ∨ (decide ((0 : Int) < (kd : Int)) = true ∧ ((n : Int) == 0) = false) := by
              by_cases hk0 : kd = 0
              · left; exact decide_eq_false (by omega)
              · right
                refine ⟨decide_eq_true (by omega), ?_⟩
                have h9 := hbad.resolve_left hk0
                have h8 : ¬ n = 0 := fun hz => by rw [hna.1 hz] at h9; cases h9
                simp; omega
            clear hbad hna
            rcases dk with dk | ⟨dk, dn⟩
            · have dk2 : decide (0 < kd) = false := decide_eq_false (by have := of_decide_eq_false dk; omega)
              have dk3 : ¬ 0 < kd := of_decide_eq_false dk2
              go_upto_region 14 with (go_at_call 37; refine HFL.out.mono ?_; rintro e w7 ⟨rfl, h7⟩)
              have H7 := hid h7
              clear h7
              have HOKn := hid (y_ok_no H7.out (show (fltAt 80 t).code ≠ 0 from by show (80 : Int) ≠ 0; decide))
              go_wp2_with (go_at_call 17; refine HOKn.out.mono ?_; rintro e w9 ⟨rfl, rfl⟩)
              go_end0
              exact ⟨k1, ds, q1, m1, (fltAt 80 t), rfl, H7.out.subX (.cons _ (.refl _)), HM1.out.1, .inl ⟨(show (fltAt 80 t).code ≠ 0 from by show (80 : Int) ≠ 0; decide), HGE.out⟩⟩
            · have dk2 : decide (0 < kd) = true := decide_eq_true (by have := of_decide_eq_true dk; omega)
              have dk3 : 0 < kd := of_decide_eq_true dk2
              have dn2 : ¬ n = 0 := fun hz => by subst hz; simp at dn
              have dn3 : (n == 0) = false := by simpa using dn2
              go_upto_region 14 with (go_at_call 37; refine HFL.out.mono ?_; rintro e w7 ⟨rfl, h7⟩)
              have H7 := hid h7
              clear h7
              have HOKn := hid (y_ok_no H7.out (show (fltAt 80 t).code ≠ 0 from by show (80 : Int) ≠ 0; decide))
              go_wp2_with (go_at_call 17; refine HOKn.out.mono ?_; rintro e w9 ⟨rfl, rfl⟩)
              go_end0
              exact ⟨k1, ds, q1, m1, (fltAt 80 t), rfl, H7.out.subX (.cons _ (.refl _)), HM1.out.1, .inl ⟨(show (fltAt 80 t).code ≠ 0 from by show (80 : Int) ≠ 0; decide), HGE.out⟩⟩
          · have hk0 : kd ≠ 0 := fun e => hbad (.inl e)
            have hany : any = false := by cases any with | false => rfl | true => exact absurd (Or.inr rfl) hbad
            have hn0 : n = 0 := hna.2 hany
            subst hn0
            subst hany
            have dk : decide ((0 : Int) < (kd : Int)) = true := decide_eq_true (by omega)
            have dk2 : decide (0 < kd) = true := decide_eq_true (by omega)
            have dk3 : 0 < kd := by omega
            have HGT : Hid (G = if kd = 5 then (match nameT (all.drop (k1 + 1)) with
                | .error e => .error e
                | .ok (n, ts) => endD ts ⟨ds, q1.bks ++ [⟨bA n.text, [], n.line, n.col⟩]⟩)
              else match declG kd (all.drop (k1 + 1)).length (all.drop (k1 + 1)) ds with
                | .error e => .error e
                | .ok (ts, ds) => endD ts ⟨ds, q1.bks⟩) := hid (by
              rw [HGL.out]
              unfold lineT
              rw [if_neg (by rw [HE0.out]; simp), if_neg (by intro hc; exact hc.2 HO0'.out), if_neg ?_, HOK2.out.2]
              · rfl
              · rintro (hb | hb | hb)
                · exact hb HK1.out
                · rw [HOK2.out.2] at hb; exact hk0 hb
                · cases hb)
            clear hbad hna
            by_cases hk5e : kd = 5
            · subst hk5e
              have hgt := HGT.out
              rw [if_pos rfl] at hgt
              have HGX := hid hgt
              have HTH := hid (y_thread_calls H6.out HT.out.1 HF.out HV.out HK1.out)
              clear hgt HGT hk0
              go_upto_region 14 with (go_at_call 36; refine HTH.out.mono ?_; rintro e w7 ⟨k2, q2, m2, f2, rfl, h7, hm2, hr2⟩)
              have H7 := hid h7
              have HM7 := hid hm2
              clear h7 HTH hm2
              rcases hr2 with ⟨hz, hr2⟩ | ⟨hf2, nn, hr2, hq2⟩
              · have HE := hid (show G = .error f2 from by rw [HGX.out, hr2])
                have HOKn := hid (y_ok_no H7.out hz)
                go_wp2_with (go_at_call 17; refine HOKn.out.mono ?_; rintro e w9 ⟨rfl, rfl⟩)
                go_end0
                exact ⟨k2, ds, q2, m2, f2, rfl, H7.out.subX (.cons _ (.refl _)), by have := HM7.out; have := HM1.out.1; omega, .inl ⟨hz, HE.out⟩⟩
              · subst hf2
                obtain ⟨t2, hi2, hd2⟩ := H7.out.cons
                have HOKy := hid (y_ok_yes H7.out HF.out)
                have HEN := hid (y_ends_calls H7.out hi2)
                have HGE := hid (show G = endD (all.drop k2) ⟨ds, q2.bks⟩ from by rw [HGX.out, hr2, hq2])
                have HT2 := hid (And.intro hi2 hd2)
                cases hen : endsB t2 with
                | true =>
                  rw [hen] at HEN
                  have HQ : Hid (G = .ok (all.drop k2, ⟨ds, q2.bks⟩)) := hid (by rw [HGE.out, hd2, end_cons, if_pos hen])
                  clear hi2 hd2 hen
                  go_wp2_with (first
                    | (go_at_call 17; refine HOKy.out.mono ?_; rintro e w9 ⟨rfl, rfl⟩)
                    | (go_at_call 32; refine HEN.out.mono ?_; rintro e w9 ⟨rfl, hc9⟩))
                  go_end0
                  exact ⟨k2, ds, q2, m2, f2, rfl, (H7.out.same hc9).subX (.cons _ (.refl _)), by have := HM7.out; have := HM1.out.1; omega, .inr ⟨rfl, HQ.out⟩⟩
                | false =>
                  rw [hen] at HEN
                  have HQ : Hid (G = .error (fltAt 83 t2)) := hid (by rw [HGE.out, hd2, end_cons, if_neg (by rw [hen]; simp)])
                  clear hi2 hd2 hen
                  go_wp2_with (first
                    | (go_at_call 17; refine HOKy.out.mono ?_; rintro e w9 ⟨rfl, rfl⟩)
                    | (go_at_call 32; refine HEN.out.mono ?_; rintro e w9 ⟨rfl, hc9⟩)
                    | (go_at_call 37; refine (y_fails_calls (H7.out.same hc9) HT2.out.1 HF.out 83).mono ?_; rintro e w8 ⟨rfl, h8⟩))
                  go_end0
                  exact ⟨k2, ds, q2, m2, _, rfl, h8.subX (.cons _ (.refl _)), by have := HM7.out; have := HM1.out.1; omega, .inl ⟨by show (83 : Int) ≠ 0; decide, HQ.out⟩⟩
            · have hgt := HGT.out
              rw [if_neg hk5e] at hgt
              have HGX := hid hgt
              have HTH := hid (y_decl_calls H6.out HT.out.1 HF.out HV.out kd (by omega) (by omega) HK1.out)
              clear hgt HGT hk0
              go_upto_region 14 with (go_at_call 36; refine HTH.out.mono ?_; rintro e w7 ⟨k2, ds2, q2, m2, f2, rfl, h7, hm2, hq2, hr2⟩)
              have H7 := hid h7
              have HM7 := hid hm2
              clear h7 HTH hm2
              rcases hr2 with hr2 | ⟨hf2, hr2⟩
              · have hz := declG_err _ _ _ _ _ hr2
                have HE := hid (show G = .error f2 from by rw [HGX.out, hr2])
                have HOKn := hid (y_ok_no H7.out hz)
                go_wp2_with (go_at_call 17; refine HOKn.out.mono ?_; rintro e w9 ⟨rfl, rfl⟩)
                go_end0
                exact ⟨k2, ds2, q2, m2, f2, rfl, H7.out.subX (.cons _ (.refl _)), by have := HM7.out; have := HM1.out.1; omega, .inl ⟨hz, HE.out⟩⟩
              · subst hf2
                have hqb : q2.bks = q1.bks := by unfold RQ.bks; rw [hq2]
                obtain ⟨t2, hi2, hd2⟩ := H7.out.cons
                have HOKy := hid (y_ok_yes H7.out HF.out)
                have HEN := hid (y_ends_calls H7.out hi2)
                have HGE := hid (show G = endD (all.drop k2) ⟨ds2, q2.bks⟩ from by rw [HGX.out, hr2, hqb])
                have HT2 := hid (And.intro hi2 hd2)
                cases hen : endsB t2 with
                | true =>
                  rw [hen] at HEN
                  have HQ : Hid (G = .ok (all.drop k2, ⟨ds2, q2.bks⟩)) := hid (by rw [HGE.out, hd2, end_cons, if_pos hen])
                  clear hi2 hd2 hen
                  go_wp2_with (first
                    | (go_at_call 17; refine HOKy.out.mono ?_; rintro e w9 ⟨rfl, rfl⟩)
                    | (go_at_call 32; refine HEN.out.mono ?_; rintro e w9 ⟨rfl, hc9⟩))
                  go_end0
                  exact ⟨k2, ds2, q2, m2, f2, rfl, (H7.out.same hc9).subX (.cons _ (.refl _)), by have := HM7.out; have := HM1.out.1; omega, .inr ⟨rfl, HQ.out⟩⟩
                | false =>
                  rw [hen] at HEN
                  have HQ : Hid (G = .error (fltAt 83 t2)) := hid (by rw [HGE.out, hd2, end_cons, if_neg (by rw [hen]; simp)])
                  clear hi2 hd2 hen
                  go_wp2_with (first
                    | (go_at_call 17; refine HOKy.out.mono ?_; rintro e w9 ⟨rfl, rfl⟩)
                    | (go_at_call 32; refine HEN.out.mono ?_; rintro e w9 ⟨rfl, hc9⟩)
                    | (go_at_call 37; refine (y_fails_calls (H7.out.same hc9) HT2.out.1 HF.out 83).mono ?_; rintro e w8 ⟨rfl, h8⟩))
                  go_end0
                  exact ⟨k2, ds2, q2, m2, _, rfl, h8.subX (.cons _ (.refl _)), by have := HM7.out; have := HM1.out.1; omega, .inl ⟨by show (83 : Int) ≠ 0; decide, HQ.out⟩⟩
        · have d1 : decide ((0 : Int) < (o : Int)) = true := decide_eq_true (by omega)
          have d2 : decide (0 < o) = true := decide_eq_true (by omega)
          have d3 : 0 < o := by omega
          have HGX : Hid (G = match instrD o (all.drop k1) q1.bks with
              | .error e => .error e
              | .ok (ts, bs) => endD ts ⟨ds, bs⟩) := hid (by
            rw [HGL.out]
            unfold lineT
            rw [if_neg (by rw [HE0.out]; simp), if_pos ⟨HK1.out, by rw [HOK2.out.1]; exact ho0⟩, HOK2.out.1, HT.out.2]
            rfl)
          have HIN := hid (y_instr_calls H6.out HT.out.1 HF.out HV.out o (by omega) ho20 HK1.out)
          clear ho0
          go_upto_region 14 with (go_at_call 35; refine HIN.out.mono ?_; rintro e w7 ⟨k2, q2, m2, f2, rfl, h7, hm2, hr2⟩)
          have H7 := hid h7
          have HM7 := hid hm2
          clear h7 HIN hm2
          rcases hr2 with hr2 | ⟨hf2, hr2⟩
          · have hz := instr_err _ _ _ _ hr2
            have HE := hid (show G = .error f2 from by rw [HGX.out, hr2])
            have HOKn := hid (y_ok_no H7.out hz)
            go_wp2_with (go_at_call 17; refine HOKn.out.mono ?_; rintro e w9 ⟨rfl, rfl⟩)
            go_end0
            exact ⟨k2, ds, q2, m2, f2, rfl, H7.out.subX (.cons _ (.refl _)), by have := HM7.out; have := HM1.out.1; omega, .inl ⟨hz, HE.out⟩⟩
          · subst hf2
            obtain ⟨t2, hi2, hd2⟩ := H7.out.cons
            have HOKy := hid (y_ok_yes H7.out HF.out)
            have HEN := hid (y_ends_calls H7.out hi2)
            have HGE := hid (show G = endD (all.drop k2) ⟨ds, q2.bks⟩ from by rw [HGX.out, hr2])
            have HT2 := hid (And.intro hi2 hd2)
            cases hen : endsB t2 with
            | true =>
              rw [hen] at HEN
              have HQ : Hid (G = .ok (all.drop k2, ⟨ds, q2.bks⟩)) := hid (by rw [HGE.out, hd2, end_cons, if_pos hen])
              clear hi2 hd2 hen
              go_wp2_with (first
                | (go_at_call 17; refine HOKy.out.mono ?_; rintro e w9 ⟨rfl, rfl⟩)
                | (go_at_call 32; refine HEN.out.mono ?_; rintro e w9 ⟨rfl, hc9⟩))
              go_end0
              exact ⟨k2, ds, q2, m2, f2, rfl, (H7.out.same hc9).subX (.cons _ (.refl _)), by have := HM7.out; have := HM1.out.1; omega, .inr ⟨rfl, HQ.out⟩⟩
            | false =>
              rw [hen] at HEN
              have HQ : Hid (G = .error (fltAt 83 t2)) := hid (by rw [HGE.out, hd2, end_cons, if_neg (by rw [hen]; simp)])
              clear hi2 hd2 hen
              go_wp2_with (first
                | (go_at_call 17; refine HOKy.out.mono ?_; rintro e w9 ⟨rfl, rfl⟩)
                | (go_at_call 32; refine HEN.out.mono ?_; rintro e w9 ⟨rfl, hc9⟩)
                | (go_at_call 37; refine (y_fails_calls (H7.out.same hc9) HT2.out.1 HF.out 83).mono ?_; rintro e w8 ⟨rfl, h8⟩))
              go_end0
              exact ⟨k2, ds, q2, m2, _, rfl, h8.subX (.cons _ (.refl _)), by have := HM7.out; have := HM1.out.1; omega, .inl ⟨by show (83 : Int) ≠ 0; decide, HQ.out⟩⟩
      · have e1 : ((t.kind : Int) == 1) = false := by simp; omega
        have HGE : Hid (G = .error (fltAt 80 t)) := hid (by
          rw [HGL.out]
          unfold lineT
          rw [if_neg (by rw [HE0.out]; simp), if_neg (by intro hc; exact hk1 hc.1), if_pos (.inl hk1)])
        clear hk1
        go_upto_region 14 with (go_at_call 37; refine HFL.out.mono ?_; rintro e w7 ⟨rfl, h7⟩)
        have H7 := hid h7
        clear h7
        have HOKn := hid (y_ok_no H7.out (show (fltAt 80 t).code ≠ 0 from by show (80 : Int) ≠ 0; decide))
        go_wp2_with (go_at_call 17; refine HOKn.out.mono ?_; rintro e w9 ⟨rfl, rfl⟩)
        go_end0
        exact ⟨k1, ds, q1, m1, (fltAt 80 t), rfl, H7.out.subX (.cons _ (.refl _)), HM1.out.1, .inl ⟨(show (fltAt 80 t).code ≠ 0 from by show (80 : Int) ≠ 0; decide), HGE.out⟩⟩
end
end Go.Proofs.YtmahcabidggmeaaGreatDoor
