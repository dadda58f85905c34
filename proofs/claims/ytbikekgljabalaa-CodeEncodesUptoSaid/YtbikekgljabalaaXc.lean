/- A program copied into memory of its own, a mark behind each list: the walk of twin. -/
import Derived.Test.YtbikekgljabalaaXb
import Derived.Test.YtbikekgljabalaaUd
namespace Go.Proofs.Ytbikekgljabalaa
open Go.RowKit Go.AB
set_option linter.unusedSimpArgs false
set_option linter.unusedVariables false

theorem one_flat {α : Type} {f : α → List Value} (h : ∀ x, ∀ u ∈ f x, u.oneCell' = true) (xs : List α) : ∀ u ∈ xs.flatMap f, u.oneCell' = true := fun u hu => by
  obtain ⟨x, _, hx⟩ := List.mem_flatMap.1 hu
  exact h x u hx
theorem own_new {wc w w' : World} {r : Option Nat} (h : Chg [] wc w) (hc : Chg [] w w') (hf : Fresh w none r) : Chg [] wc w' ∧ Fresh wc none r := ⟨h.trans' hc, hf.mono h.size⟩
theorem one_varC (xs : List VarD) : ∀ u ∈ xs.flatMap varC, u.oneCell' = true := one_flat (fun x u hu => by simp [varC] at hu; rcases hu with rfl | rfl <;> rfl) xs
theorem one_strC (xs : List ByteArray) : ∀ u ∈ xs.flatMap strC, u.oneCell' = true := one_flat (fun x u hu => by simp [strC] at hu; subst hu; rfl) xs
theorem one_insC (xs : List InsD) : ∀ u ∈ xs.flatMap insC, u.oneCell' = true := one_flat (fun x u hu => by simp [insC] at hu; rcases hu with rfl | rfl | rfl | rfl | rfl <;> rfl) xs
theorem one_plcC (xs : List PlcD) : ∀ u ∈ xs.flatMap plcC, u.oneCell' = true := one_flat (fun x u hu => by simp [plcC] at hu; rcases hu with rfl | rfl <;> rfl) xs
set_option maxHeartbeats 8000000 in
set_option maxRecDepth 100000 in
theorem twin_calls (p : PrgD) (hs : SmallP p) {v : Value} (w : World) (hv : PrgV w v p) :
    Calls Try.prog 11 #[v] w fun e w' => ∃ (ts : List ThrG) (g0 g1 g2 g3 g4 c0 c1 c2 c3 c4 : Nat), e = .returned (.agg #[.slice (some ⟨g0, 0, none⟩) p.vars.length c0, .slice (some ⟨g1, 0, none⟩) p.vols.length c1, .slice (some ⟨g2, 0, none⟩) p.locks.length c2, .slice (some ⟨g3, 0, none⟩) p.bars.length c3, .slice (some ⟨g4, 0, none⟩) p.thrs.length c4]) ∧ ts.map ThrG.t = p.thrs ∧
      Hid (Tw w w' ⟨p.vars, p.vols, p.locks, p.bars, ts, g0, g1, g2, g3, g4, c0, c1, c2, c3, c4⟩ ∧ Chg [] w w') := by
  obtain ⟨a, b, c, d, e, ts, rfl, h1, h2, h3, h4, h5, h6, h7⟩ := hv
  have htl : ts.length = p.thrs.length := by rw [← h6, List.length_map]
  obtain ⟨a1, k1, rfl, _⟩ := h1.len
  obtain ⟨a2, k2, rfl, _⟩ := h2.len
  obtain ⟨a3, k3, rfl, _⟩ := h3.len
  obtain ⟨a4, k4, rfl, _⟩ := h4.len
  obtain ⟨a5, k5, rfl, _⟩ := h5.len
  obtain ⟨s1, s2, s3, s4, s5, _, _, _, _, s6⟩ := hs
  obtain ⟨n1, hn1⟩ : ∃ n, p.vars.length = n := ⟨_, rfl⟩
  obtain ⟨n2, hn2⟩ : ∃ n, p.vols.length = n := ⟨_, rfl⟩
  obtain ⟨n3, hn3⟩ : ∃ n, p.locks.length = n := ⟨_, rfl⟩
  obtain ⟨n4, hn4⟩ : ∃ n, p.bars.length = n := ⟨_, rfl⟩
  obtain ⟨n5, hn5⟩ : ∃ n, p.thrs.length = n := ⟨_, rfl⟩
  have V1 := hid fun u (hu : Chg [] w u) => h1.keep hu
  have V2 := hid fun u (hu : Chg [] w u) => h2.keep hu
  have V3 := hid fun u (hu : Chg [] w u) => h3.keep hu
  have V4 := hid fun u (hu : Chg [] w u) => h4.keep hu
  have V5 := hid fun u (hu : Chg [] w u) => h5.keep hu
  unfold Lst at V1 V2 V3 V4
  rw [hn1] at V1 s1 ⊢
  rw [hn2] at V2 s2 ⊢
  rw [hn3] at V3 s3 ⊢
  rw [hn4] at V4 s4 ⊢
  rw [hn5] at htl s5 ⊢
  rw [htl] at V5 ⊢
  have HN := hid (And.intro hn1 (And.intro hn2 (And.intro hn3 (And.intro hn4 (And.intro hn5 htl)))))
  have HT := hid (And.intro h6 h7)
  have HS6 := hid s6
  clear h1 h2 h3 h4 h5 h6 h7 hn1 hn2 hn3 hn4 hn5 htl s6
  go_enter Try.func11, Try.ntmps11
  go_wp2_with fail

  have hst : St w _ _ [] := ((((St.start w).new (.cells #[Value.slice a1 n1 k1, .slice a2 n2 k2, .slice a3 n3 k3, .slice a4 n4 k4, .slice a5 n5 k5] 28 (0, 0))).new (.cells #[Value.slice none 0 0, Value.slice none 0 0, Value.slice none 0 0, Value.slice none 0 0, Value.slice none 0 0] 28 (0, 0))).new (.cells #[Value.slice none 0 0, Value.slice none 0 0, Value.slice none 0 0, Value.slice none 0 0, Value.slice none 0 0] 28 (0, 0)))
  simp only [World.size_alloc] at hst
  obtain ⟨b3, hb3⟩ : ∃ x, w.heap.size + 1 + 1 = x := ⟨_, rfl⟩
  rw [hb3] at hst ⊢
  obtain ⟨b2, hb2⟩ : ∃ x, w.heap.size + 1 = x := ⟨_, rfl⟩
  rw [hb2] at hst ⊢
  obtain ⟨b1, hb1⟩ : ∃ x, w.heap.size = x := ⟨_, rfl⟩
  rw [hb1] at hst ⊢
  clear hb1 hb2 hb3
  obtain ⟨wa, hwa⟩ : ∃ x : World, ((w.alloc (.cells #[Value.slice a1 n1 k1, .slice a2 n2 k2, .slice a3 n3 k3, .slice a4 n4 k4, .slice a5 n5 k5] 28 (0, 0))).alloc (.cells #[Value.slice none 0 0, Value.slice none 0 0, Value.slice none 0 0, Value.slice none 0 0, Value.slice none 0 0] 28 (0, 0))).alloc (.cells #[Value.slice none 0 0, Value.slice none 0 0, Value.slice none 0 0, Value.slice none 0 0, Value.slice none 0 0] 28 (0, 0)) = x := ⟨_, rfl⟩
  rw [hwa] at hst ⊢
  clear hwa
  have HS0 := hid hst
  clear hst
  have KP := hid fun u (hu : Chg [] _ u) => ((HS0.out.keep hu).cell (List.mem_cons_of_mem _ (List.mem_cons_of_mem _ (List.mem_cons_self ..))) 0).trans (rfl : _ = some (Value.slice a1 n1 k1))
  have ZF := hid fun u (hu : Chg [] _ u) => ((HS0.out.keep hu).cell (List.mem_cons_self ..) 0).trans (rfl : _ = some (Value.slice none 0 0))
  have HSC := hid HS0.out.chg
  go_cut [4] (fun _ wx => ∃ g c, Hid (St w wx [(b3, .cells #[.slice (some ⟨g, 0, none⟩) n1 c, Value.slice none 0 0, Value.slice none 0 0, Value.slice none 0 0, Value.slice none 0 0] 28 (0, 0)), (b2, .cells #[Value.slice none 0 0, Value.slice none 0 0, Value.slice none 0 0, Value.slice none 0 0, Value.slice none 0 0] 28 (0, 0)), (b1, .cells #[Value.slice a1 n1 k1, .slice a2 n2 k2, .slice a3 n3 k3, .slice a4 n4 k4, .slice a5 n5 k5] 28 (0, 0))] (([] : List Ent) ++ [ent0 p.vars g c])))
  case first =>
    refine wp_region_held_drew (S := (fun w' => w'.cell? ⟨b1, 0, none⟩ = some (.slice a1 n1 k1))) (by kernel_rfl) (by exact KP.out _ HS0.out.c0) (fun hHeld => ?_)
    have hC0 := HS0.out.c0
    (refine wpAnyH_take (i := 0) (v := ?_) rfl (by kernel_rfl) (by kernel_rfl) (by kernel_rfl) (fun _ _ _ h => h) (Or.inl ⟨by rfl, ?_⟩) (by assumption) ?_; rotate_left 1; (focus (intro w hSw; (try dsimp only at hSw); go_simp; (try with_reducible rfl))); (try simp only [List.getElem_toArray, List.getElem_cons_zero, List.getElem_cons_succ, Act.put, List.setIfInBounds_toArray, List.set_cons_zero, List.set_cons_succ]))
    (refine wpAnyH_take (i := 2) (v := ?_) rfl (by kernel_rfl) (by kernel_rfl) (by kernel_rfl) (fun _ _ _ h => h) (Or.inl ⟨by rfl, ?_⟩) (by assumption) ?_; rotate_left 1; (focus (intro w hSw; (try dsimp only at hSw); go_simp; (try with_reducible rfl))); (try simp only [List.getElem_toArray, List.getElem_cons_zero, List.getElem_cons_succ, Act.put, List.setIfInBounds_toArray, List.set_cons_zero, List.set_cons_succ]))
    (refine wpAnyH_take (i := 3) (v := ?_) rfl (by kernel_rfl) (by kernel_rfl) (by kernel_rfl) (fun _ _ _ h => h) (Or.inl ⟨by rfl, ?_⟩) (by assumption) ?_; rotate_left 1; (focus (intro w hSw; (try dsimp only at hSw); go_simp; (try with_reducible rfl))); (try simp only [List.getElem_toArray, List.getElem_cons_zero, List.getElem_cons_succ, Act.put, List.setIfInBounds_toArray, List.set_cons_zero, List.set_cons_succ]))
    (refine wpAnyH_take (i := 5) (v := ?_) rfl (by kernel_rfl) (by kernel_rfl) (by kernel_rfl) (fun _ _ _ h => h) (Or.inl ⟨by rfl, ?_⟩) (by assumption) ?_; rotate_left 1; (focus (intro w hSw; (try dsimp only at hSw); go_simp; (try with_reducible rfl))); (try simp only [List.getElem_toArray, List.getElem_cons_zero, List.getElem_cons_succ, Act.put, List.setIfInBounds_toArray, List.set_cons_zero, List.set_cons_succ]))
    (refine wpAnyH_take (i := 8) (v := ?_) rfl (by kernel_rfl) (by kernel_rfl) (by kernel_rfl) (fun _ _ _ h => h) (Or.inl ⟨by rfl, ?_⟩) (by assumption) ?_; rotate_left 1; (focus (intro w hSw; (try dsimp only at hSw); go_simp; (try with_reducible rfl))); (try simp only [List.getElem_toArray, List.getElem_cons_zero, List.getElem_cons_succ, Act.put, List.setIfInBounds_toArray, List.set_cons_zero, List.set_cons_succ]))
    (refine wpAnyH_take (i := 9) (v := ?_) rfl (by kernel_rfl) (by kernel_rfl) (by kernel_rfl) (fun _ _ _ h => h) (Or.inl ⟨by rfl, ?_⟩) (by assumption) ?_; rotate_left 1; (focus (intro w hSw; (try dsimp only at hSw); go_simp; (try with_reducible rfl))); (try simp only [List.getElem_toArray, List.getElem_cons_zero, List.getElem_cons_succ, Act.put, List.setIfInBounds_toArray, List.set_cons_zero, List.set_cons_succ]))
    (refine wpAnyH_take (i := 10) (v := ?_) rfl (by kernel_rfl) (by kernel_rfl) (by kernel_rfl) (fun _ _ _ h => h) (Or.inl ⟨by rfl, ?_⟩) (by assumption) ?_; rotate_left 1; (focus (intro w hSw; (try dsimp only at hSw); go_simp; (try with_reducible rfl))); (try simp only [List.getElem_toArray, List.getElem_cons_zero, List.getElem_cons_succ, Act.put, List.setIfInBounds_toArray, List.set_cons_zero, List.set_cons_succ]))
    (refine wpAnyH_ready (rs := [1, 6]) (by kernel_rfl) (by simp) ?_; refine AllReadyH.cons rfl (fun K hK => ?_) (AllReadyH.cons rfl (fun K hK => ?_) AllReadyH.nil))
    · skip
      have zz := ZF.out _ hC0
      go_simp
      clear zz
      (refine hK.out _ _ (by exact KP.out _ hC0) (fun hHeld => ?_); clear hK K; (try simp only [List.getElem_toArray, List.getElem_cons_zero, List.getElem_cons_succ, Act.put, List.setIfInBounds_toArray, List.set_cons_zero, List.set_cons_succ]))
      (refine wpAnyH_ready (rs := [4, 6]) (by kernel_rfl) (by simp) ?_; refine AllReadyH.cons rfl (fun K hK => ?_) (AllReadyH.cons rfl (fun K hK => ?_) AllReadyH.nil))
      · skip
        refine step_app0 rfl _ _ 23 rfl elem_var rfl rfl (V1.out _ (HSC.out.trans' hC0)) (one_varC _) (by unfold maxLen; omega) (by omega) (fun ao1 cap1 r1 w4 hr4 hc4 hf4 => ?_)
        obtain ⟨hC4, hF4⟩ := own_new hC0 hc4 hf4
        (refine hK.out _ _ (by exact KP.out _ hC4) (fun hHeld => ?_); clear hK K; (try simp only [List.getElem_toArray, List.getElem_cons_zero, List.getElem_cons_succ, Act.put, List.setIfInBounds_toArray, List.set_cons_zero, List.set_cons_succ]))
        (refine wpAnyH_ready (rs := [6]) (by kernel_rfl) (by simp) ?_; refine AllReadyH.cons rfl (fun K hK => ?_) AllReadyH.nil)
        go_simp
        have hCB := hC4.alloc (.cells #[.string ⟨#[109, 97, 114, 107]⟩, .int .i64 0] 53)
        (refine hK.out _ _ (by exact KP.out _ hCB) (fun hHeld => ?_); clear hK K; (try simp only [List.getElem_toArray, List.getElem_cons_zero, List.getElem_cons_succ, Act.put, List.setIfInBounds_toArray, List.set_cons_zero, List.set_cons_succ]))
        have hrB := hr4.keep ((Chg.refl [] _).alloc (.cells #[.string ⟨#[109, 97, 114, 107]⟩, .int .i64 0] 53)) (by simp)
        have hvB := View.struct w4 [.string ⟨#[109, 97, 114, 107]⟩, .int .i64 0] 53 rfl
        (refine wpAnyH_ready (rs := [7]) (by kernel_rfl) (by simp) ?_; refine AllReadyH.cons rfl (fun K hK => ?_) AllReadyH.nil)
        refine step_app rfl _ _ 23 rfl elem_var rfl hrB rfl hvB (by simp [Value.oneCell']) (by unfold maxLen; omega) (by omega) (fun ao2 cap2 r2 w5 hr5 hc5 hf5 => ?_)
        have hC5 := own_step hC4 hF4 ((Chg.refl [] _).alloc _) hc5
        have hF5 := fresh_step hC4 hF4 ((Chg.refl [] _).alloc _) hf5
        have hcp := Nat.le_of_succ_le hr5.cap
        (refine hK.out _ _ (by exact KP.out _ hC5) (fun hHeld => ?_); clear hK K; (try simp only [List.getElem_toArray, List.getElem_cons_zero, List.getElem_cons_succ, Act.put, List.setIfInBounds_toArray, List.set_cons_zero, List.set_cons_succ]))
        (refine wpAnyH_ready (rs := [11]) (by kernel_rfl) (by simp) ?_; refine AllReadyH.cons rfl (fun K hK => ?_) AllReadyH.nil)
        go_simp
        (refine hK.out _ _ (by exact KP.out _ hC5) (fun hHeld => ?_); clear hK K; (try simp only [List.getElem_toArray, List.getElem_cons_zero, List.getElem_cons_succ, Act.put, List.setIfInBounds_toArray, List.set_cons_zero, List.set_cons_succ]))
        (refine wpAnyH_take (i := 12) (v := ?_) rfl (by kernel_rfl) (by kernel_rfl) (by kernel_rfl) (fun _ _ _ h => h) (Or.inl ⟨by rfl, ?_⟩) (by assumption) ?_; rotate_left 1; (focus (intro w hSw; (try dsimp only at hSw); go_simp; (try with_reducible rfl))); (try simp only [List.getElem_toArray, List.getElem_cons_zero, List.getElem_cons_succ, Act.put, List.setIfInBounds_toArray, List.set_cons_zero, List.set_cons_succ]))
        obtain ⟨g, rfl, hge6, hst6⟩ := HS0.out.step hC5 hr5 hF5 0
        (refine wpAnyH_ready (rs := [13]) (by kernel_rfl) (by simp) ?_; refine AllReadyH.cons rfl (fun K hK => ?_) AllReadyH.nil)
        have zz := ZF.out _ hC5
        have qq := (HS0.out.keep hC5).free (List.mem_cons_self ..) 0
        go_simp
        (refine hK.out _ _ (by exact (hst6.cell (List.mem_cons_of_mem _ (List.mem_cons_of_mem _ (List.mem_cons_self ..))) 0).trans rfl) (fun hHeld => ?_); clear hK K; (try simp only [List.getElem_toArray, List.getElem_cons_zero, List.getElem_cons_succ, Act.put, List.setIfInBounds_toArray, List.set_cons_zero, List.set_cons_succ]))
        refine wpAnyH_done (by kernel_rfl) ?_ _
        go_wp2_with fail
        go_meet
        exact ⟨g, cap2, hid (by simp only [ent0]; rw [HN.out.1]; exact hst6)⟩
      · skip
        go_simp
        have hCB := HS0.out.cA (.cells #[.string ⟨#[109, 97, 114, 107]⟩, .int .i64 0] 53)
        (refine hK.out _ _ (by exact KP.out _ hCB) (fun hHeld => ?_); clear hK K; (try simp only [List.getElem_toArray, List.getElem_cons_zero, List.getElem_cons_succ, Act.put, List.setIfInBounds_toArray, List.set_cons_zero, List.set_cons_succ]))
        (refine wpAnyH_ready (rs := [4]) (by kernel_rfl) (by simp) ?_; refine AllReadyH.cons rfl (fun K hK => ?_) AllReadyH.nil)
        refine step_app0 rfl _ _ 23 rfl elem_var rfl rfl (V1.out _ (HSC.out.trans' hCB)) (one_varC _) (by unfold maxLen; omega) (by omega) (fun ao1 cap1 r1 w4 hr4 hc4 hf4 => ?_)
        obtain ⟨hC4, hF4⟩ := own_new hCB hc4 hf4
        have hvB := View.structD _ [.string ⟨#[109, 97, 114, 107]⟩, .int .i64 0] 53 rfl hc4
        (refine hK.out _ _ (by exact KP.out _ hC4) (fun hHeld => ?_); clear hK K; (try simp only [List.getElem_toArray, List.getElem_cons_zero, List.getElem_cons_succ, Act.put, List.setIfInBounds_toArray, List.set_cons_zero, List.set_cons_succ]))
        (refine wpAnyH_ready (rs := [7]) (by kernel_rfl) (by simp) ?_; refine AllReadyH.cons rfl (fun K hK => ?_) AllReadyH.nil)
        refine step_app rfl _ _ 23 rfl elem_var rfl hr4 rfl hvB (by simp [Value.oneCell']) (by unfold maxLen; omega) (by omega) (fun ao2 cap2 r2 w5 hr5 hc5 hf5 => ?_)
        have hC5 := own_step hC4 hF4 (Chg.refl [] _) hc5
        have hF5 := fresh_step hC4 hF4 (Chg.refl [] _) hf5
        have hcp := Nat.le_of_succ_le hr5.cap
        (refine hK.out _ _ (by exact KP.out _ hC5) (fun hHeld => ?_); clear hK K; (try simp only [List.getElem_toArray, List.getElem_cons_zero, List.getElem_cons_succ, Act.put, List.setIfInBounds_toArray, List.set_cons_zero, List.set_cons_succ]))
        (refine wpAnyH_ready (rs := [11]) (by kernel_rfl) (by simp) ?_; refine AllReadyH.cons rfl (fun K hK => ?_) AllReadyH.nil)
        go_simp
        (refine hK.out _ _ (by exact KP.out _ hC5) (fun hHeld => ?_); clear hK K; (try simp only [List.getElem_toArray, List.getElem_cons_zero, List.getElem_cons_succ, Act.put, List.setIfInBounds_toArray, List.set_cons_zero, List.set_cons_succ]))
        (refine wpAnyH_take (i := 12) (v := ?_) rfl (by kernel_rfl) (by kernel_rfl) (by kernel_rfl) (fun _ _ _ h => h) (Or.inl ⟨by rfl, ?_⟩) (by assumption) ?_; rotate_left 1; (focus (intro w hSw; (try dsimp only at hSw); go_simp; (try with_reducible rfl))); (try simp only [List.getElem_toArray, List.getElem_cons_zero, List.getElem_cons_succ, Act.put, List.setIfInBounds_toArray, List.set_cons_zero, List.set_cons_succ]))
        obtain ⟨g, rfl, hge6, hst6⟩ := HS0.out.step hC5 hr5 hF5 0
        (refine wpAnyH_ready (rs := [13]) (by kernel_rfl) (by simp) ?_; refine AllReadyH.cons rfl (fun K hK => ?_) AllReadyH.nil)
        have zz := ZF.out _ hC5
        have qq := (HS0.out.keep hC5).free (List.mem_cons_self ..) 0
        go_simp
        (refine hK.out _ _ (by exact (hst6.cell (List.mem_cons_of_mem _ (List.mem_cons_of_mem _ (List.mem_cons_self ..))) 0).trans rfl) (fun hHeld => ?_); clear hK K; (try simp only [List.getElem_toArray, List.getElem_cons_zero, List.getElem_cons_succ, Act.put, List.setIfInBounds_toArray, List.set_cons_zero, List.set_cons_succ]))
        refine wpAnyH_done (by kernel_rfl) ?_ _
        go_wp2_with fail
        go_meet
        exact ⟨g, cap2, hid (by simp only [ent0]; rw [HN.out.1]; exact hst6)⟩
    · skip
      go_simp
      have hCB := HS0.out.cA (.cells #[.string ⟨#[109, 97, 114, 107]⟩, .int .i64 0] 53)
      (refine hK.out _ _ (by exact KP.out _ hCB) (fun hHeld => ?_); clear hK K; (try simp only [List.getElem_toArray, List.getElem_cons_zero, List.getElem_cons_succ, Act.put, List.setIfInBounds_toArray, List.set_cons_zero, List.set_cons_succ]))
      (refine wpAnyH_ready (rs := [1]) (by kernel_rfl) (by simp) ?_; refine AllReadyH.cons rfl (fun K hK => ?_) AllReadyH.nil)
      have zz := ZF.out _ hCB
      go_simp
      clear zz
      (refine hK.out _ _ (by exact KP.out _ hCB) (fun hHeld => ?_); clear hK K; (try simp only [List.getElem_toArray, List.getElem_cons_zero, List.getElem_cons_succ, Act.put, List.setIfInBounds_toArray, List.set_cons_zero, List.set_cons_succ]))
      (refine wpAnyH_ready (rs := [4]) (by kernel_rfl) (by simp) ?_; refine AllReadyH.cons rfl (fun K hK => ?_) AllReadyH.nil)
      refine step_app0 rfl _ _ 23 rfl elem_var rfl rfl (V1.out _ (HSC.out.trans' hCB)) (one_varC _) (by unfold maxLen; omega) (by omega) (fun ao1 cap1 r1 w4 hr4 hc4 hf4 => ?_)
      obtain ⟨hC4, hF4⟩ := own_new hCB hc4 hf4
      have hvB := View.structD _ [.string ⟨#[109, 97, 114, 107]⟩, .int .i64 0] 53 rfl hc4
      (refine hK.out _ _ (by exact KP.out _ hC4) (fun hHeld => ?_); clear hK K; (try simp only [List.getElem_toArray, List.getElem_cons_zero, List.getElem_cons_succ, Act.put, List.setIfInBounds_toArray, List.set_cons_zero, List.set_cons_succ]))
      (refine wpAnyH_ready (rs := [7]) (by kernel_rfl) (by simp) ?_; refine AllReadyH.cons rfl (fun K hK => ?_) AllReadyH.nil)
      refine step_app rfl _ _ 23 rfl elem_var rfl hr4 rfl hvB (by simp [Value.oneCell']) (by unfold maxLen; omega) (by omega) (fun ao2 cap2 r2 w5 hr5 hc5 hf5 => ?_)
      have hC5 := own_step hC4 hF4 (Chg.refl [] _) hc5
      have hF5 := fresh_step hC4 hF4 (Chg.refl [] _) hf5
      have hcp := Nat.le_of_succ_le hr5.cap
      (refine hK.out _ _ (by exact KP.out _ hC5) (fun hHeld => ?_); clear hK K; (try simp only [List.getElem_toArray, List.getElem_cons_zero, List.getElem_cons_succ, Act.put, List.setIfInBounds_toArray, List.set_cons_zero, List.set_cons_succ]))
      (refine wpAnyH_ready (rs := [11]) (by kernel_rfl) (by simp) ?_; refine AllReadyH.cons rfl (fun K hK => ?_) AllReadyH.nil)
      go_simp
      (refine hK.out _ _ (by exact KP.out _ hC5) (fun hHeld => ?_); clear hK K; (try simp only [List.getElem_toArray, List.getElem_cons_zero, List.getElem_cons_succ, Act.put, List.setIfInBounds_toArray, List.set_cons_zero, List.set_cons_succ]))
      (refine wpAnyH_take (i := 12) (v := ?_) rfl (by kernel_rfl) (by kernel_rfl) (by kernel_rfl) (fun _ _ _ h => h) (Or.inl ⟨by rfl, ?_⟩) (by assumption) ?_; rotate_left 1; (focus (intro w hSw; (try dsimp only at hSw); go_simp; (try with_reducible rfl))); (try simp only [List.getElem_toArray, List.getElem_cons_zero, List.getElem_cons_succ, Act.put, List.setIfInBounds_toArray, List.set_cons_zero, List.set_cons_succ]))
      obtain ⟨g, rfl, hge6, hst6⟩ := HS0.out.step hC5 hr5 hF5 0
      (refine wpAnyH_ready (rs := [13]) (by kernel_rfl) (by simp) ?_; refine AllReadyH.cons rfl (fun K hK => ?_) AllReadyH.nil)
      have zz := ZF.out _ hC5
      have qq := (HS0.out.keep hC5).free (List.mem_cons_self ..) 0
      go_simp
      (refine hK.out _ _ (by exact (hst6.cell (List.mem_cons_of_mem _ (List.mem_cons_of_mem _ (List.mem_cons_self ..))) 0).trans rfl) (fun hHeld => ?_); clear hK K; (try simp only [List.getElem_toArray, List.getElem_cons_zero, List.getElem_cons_succ, Act.put, List.setIfInBounds_toArray, List.set_cons_zero, List.set_cons_succ]))
      refine wpAnyH_done (by kernel_rfl) ?_ _
      go_wp2_with fail
      go_meet
      exact ⟨g, cap2, hid (by simp only [ent0]; rw [HN.out.1]; exact hst6)⟩
  case rest =>
  obtain ⟨g0, c0, HS1⟩ := hcut
  clear HS0 KP ZF HSC V1
  go_wp2_with fail
  have KP := hid fun u (hu : Chg [] _ u) => ((HS1.out.keep hu).cell (List.mem_cons_of_mem _ (List.mem_cons_of_mem _ (List.mem_cons_self ..))) 1).trans (rfl : _ = some (Value.slice a2 n2 k2))
  have ZF := hid fun u (hu : Chg [] _ u) => ((HS1.out.keep hu).cell (List.mem_cons_self ..) 1).trans (rfl : _ = some (Value.slice none 0 0))
  have HSC := hid HS1.out.chg
  go_cut [4] (fun _ wx => ∃ g c, Hid (St w wx [(b3, .cells #[.slice (some ⟨g0, 0, none⟩) n1 c0, .slice (some ⟨g, 0, none⟩) n2 c, Value.slice none 0 0, Value.slice none 0 0, Value.slice none 0 0] 28 (0, 0)), (b2, .cells #[Value.slice none 0 0, Value.slice none 0 0, Value.slice none 0 0, Value.slice none 0 0, Value.slice none 0 0] 28 (0, 0)), (b1, .cells #[Value.slice a1 n1 k1, .slice a2 n2 k2, .slice a3 n3 k3, .slice a4 n4 k4, .slice a5 n5 k5] 28 (0, 0))] (([] : List Ent) ++ [ent0 p.vars g0 c0] ++ [ent0 p.vols g c])))
  case first =>
    refine wp_region_held_drew (S := (fun w' => w'.cell? ⟨b1, 1, none⟩ = some (.slice a2 n2 k2))) (by kernel_rfl) (by exact KP.out _ HS1.out.c0) (fun hHeld => ?_)
    have hC0 := HS1.out.c0
    (refine wpAnyH_take (i := 0) (v := ?_) rfl (by kernel_rfl) (by kernel_rfl) (by kernel_rfl) (fun _ _ _ h => h) (Or.inl ⟨by rfl, ?_⟩) (by assumption) ?_; rotate_left 1; (focus (intro w hSw; (try dsimp only at hSw); go_simp; (try with_reducible rfl))); (try simp only [List.getElem_toArray, List.getElem_cons_zero, List.getElem_cons_succ, Act.put, List.setIfInBounds_toArray, List.set_cons_zero, List.set_cons_succ]))
    (refine wpAnyH_take (i := 2) (v := ?_) rfl (by kernel_rfl) (by kernel_rfl) (by kernel_rfl) (fun _ _ _ h => h) (Or.inl ⟨by rfl, ?_⟩) (by assumption) ?_; rotate_left 1; (focus (intro w hSw; (try dsimp only at hSw); go_simp; (try with_reducible rfl))); (try simp only [List.getElem_toArray, List.getElem_cons_zero, List.getElem_cons_succ, Act.put, List.setIfInBounds_toArray, List.set_cons_zero, List.set_cons_succ]))
    (refine wpAnyH_take (i := 3) (v := ?_) rfl (by kernel_rfl) (by kernel_rfl) (by kernel_rfl) (fun _ _ _ h => h) (Or.inl ⟨by rfl, ?_⟩) (by assumption) ?_; rotate_left 1; (focus (intro w hSw; (try dsimp only at hSw); go_simp; (try with_reducible rfl))); (try simp only [List.getElem_toArray, List.getElem_cons_zero, List.getElem_cons_succ, Act.put, List.setIfInBounds_toArray, List.set_cons_zero, List.set_cons_succ]))
    (refine wpAnyH_take (i := 5) (v := ?_) rfl (by kernel_rfl) (by kernel_rfl) (by kernel_rfl) (fun _ _ _ h => h) (Or.inl ⟨by rfl, ?_⟩) (by assumption) ?_; rotate_left 1; (focus (intro w hSw; (try dsimp only at hSw); go_simp; (try with_reducible rfl))); (try simp only [List.getElem_toArray, List.getElem_cons_zero, List.getElem_cons_succ, Act.put, List.setIfInBounds_toArray, List.set_cons_zero, List.set_cons_succ]))
    (refine wpAnyH_take (i := 8) (v := ?_) rfl (by kernel_rfl) (by kernel_rfl) (by kernel_rfl) (fun _ _ _ h => h) (Or.inl ⟨by rfl, ?_⟩) (by assumption) ?_; rotate_left 1; (focus (intro w hSw; (try dsimp only at hSw); go_simp; (try with_reducible rfl))); (try simp only [List.getElem_toArray, List.getElem_cons_zero, List.getElem_cons_succ, Act.put, List.setIfInBounds_toArray, List.set_cons_zero, List.set_cons_succ]))
    (refine wpAnyH_take (i := 9) (v := ?_) rfl (by kernel_rfl) (by kernel_rfl) (by kernel_rfl) (fun _ _ _ h => h) (Or.inl ⟨by rfl, ?_⟩) (by assumption) ?_; rotate_left 1; (focus (intro w hSw; (try dsimp only at hSw); go_simp; (try with_reducible rfl))); (try simp only [List.getElem_toArray, List.getElem_cons_zero, List.getElem_cons_succ, Act.put, List.setIfInBounds_toArray, List.set_cons_zero, List.set_cons_succ]))
    (refine wpAnyH_take (i := 10) (v := ?_) rfl (by kernel_rfl) (by kernel_rfl) (by kernel_rfl) (fun _ _ _ h => h) (Or.inl ⟨by rfl, ?_⟩) (by assumption) ?_; rotate_left 1; (focus (intro w hSw; (try dsimp only at hSw); go_simp; (try with_reducible rfl))); (try simp only [List.getElem_toArray, List.getElem_cons_zero, List.getElem_cons_succ, Act.put, List.setIfInBounds_toArray, List.set_cons_zero, List.set_cons_succ]))
    (refine wpAnyH_ready (rs := [1, 6]) (by kernel_rfl) (by simp) ?_; refine AllReadyH.cons rfl (fun K hK => ?_) (AllReadyH.cons rfl (fun K hK => ?_) AllReadyH.nil))
    · skip
      have zz := ZF.out _ hC0
      go_simp
      clear zz
      (refine hK.out _ _ (by exact KP.out _ hC0) (fun hHeld => ?_); clear hK K; (try simp only [List.getElem_toArray, List.getElem_cons_zero, List.getElem_cons_succ, Act.put, List.setIfInBounds_toArray, List.set_cons_zero, List.set_cons_succ]))
      (refine wpAnyH_ready (rs := [4, 6]) (by kernel_rfl) (by simp) ?_; refine AllReadyH.cons rfl (fun K hK => ?_) (AllReadyH.cons rfl (fun K hK => ?_) AllReadyH.nil))
      · skip
        refine step_app0 rfl _ _ 23 rfl elem_var rfl rfl (V2.out _ (HSC.out.trans' hC0)) (one_varC _) (by unfold maxLen; omega) (by omega) (fun ao1 cap1 r1 w4 hr4 hc4 hf4 => ?_)
        obtain ⟨hC4, hF4⟩ := own_new hC0 hc4 hf4
        (refine hK.out _ _ (by exact KP.out _ hC4) (fun hHeld => ?_); clear hK K; (try simp only [List.getElem_toArray, List.getElem_cons_zero, List.getElem_cons_succ, Act.put, List.setIfInBounds_toArray, List.set_cons_zero, List.set_cons_succ]))
        (refine wpAnyH_ready (rs := [6]) (by kernel_rfl) (by simp) ?_; refine AllReadyH.cons rfl (fun K hK => ?_) AllReadyH.nil)
        go_simp
        have hCB := hC4.alloc (.cells #[.string ⟨#[109, 97, 114, 107]⟩, .int .i64 0] 53)
        (refine hK.out _ _ (by exact KP.out _ hCB) (fun hHeld => ?_); clear hK K; (try simp only [List.getElem_toArray, List.getElem_cons_zero, List.getElem_cons_succ, Act.put, List.setIfInBounds_toArray, List.set_cons_zero, List.set_cons_succ]))
        have hrB := hr4.keep ((Chg.refl [] _).alloc (.cells #[.string ⟨#[109, 97, 114, 107]⟩, .int .i64 0] 53)) (by simp)
        have hvB := View.struct w4 [.string ⟨#[109, 97, 114, 107]⟩, .int .i64 0] 53 rfl
        (refine wpAnyH_ready (rs := [7]) (by kernel_rfl) (by simp) ?_; refine AllReadyH.cons rfl (fun K hK => ?_) AllReadyH.nil)
        refine step_app rfl _ _ 23 rfl elem_var rfl hrB rfl hvB (by simp [Value.oneCell']) (by unfold maxLen; omega) (by omega) (fun ao2 cap2 r2 w5 hr5 hc5 hf5 => ?_)
        have hC5 := own_step hC4 hF4 ((Chg.refl [] _).alloc _) hc5
        have hF5 := fresh_step hC4 hF4 ((Chg.refl [] _).alloc _) hf5
        have hcp := Nat.le_of_succ_le hr5.cap
        (refine hK.out _ _ (by exact KP.out _ hC5) (fun hHeld => ?_); clear hK K; (try simp only [List.getElem_toArray, List.getElem_cons_zero, List.getElem_cons_succ, Act.put, List.setIfInBounds_toArray, List.set_cons_zero, List.set_cons_succ]))
        (refine wpAnyH_ready (rs := [11]) (by kernel_rfl) (by simp) ?_; refine AllReadyH.cons rfl (fun K hK => ?_) AllReadyH.nil)
        go_simp
        (refine hK.out _ _ (by exact KP.out _ hC5) (fun hHeld => ?_); clear hK K; (try simp only [List.getElem_toArray, List.getElem_cons_zero, List.getElem_cons_succ, Act.put, List.setIfInBounds_toArray, List.set_cons_zero, List.set_cons_succ]))
        (refine wpAnyH_take (i := 12) (v := ?_) rfl (by kernel_rfl) (by kernel_rfl) (by kernel_rfl) (fun _ _ _ h => h) (Or.inl ⟨by rfl, ?_⟩) (by assumption) ?_; rotate_left 1; (focus (intro w hSw; (try dsimp only at hSw); go_simp; (try with_reducible rfl))); (try simp only [List.getElem_toArray, List.getElem_cons_zero, List.getElem_cons_succ, Act.put, List.setIfInBounds_toArray, List.set_cons_zero, List.set_cons_succ]))
        obtain ⟨g, rfl, hge6, hst6⟩ := HS1.out.step hC5 hr5 hF5 1
        (refine wpAnyH_ready (rs := [13]) (by kernel_rfl) (by simp) ?_; refine AllReadyH.cons rfl (fun K hK => ?_) AllReadyH.nil)
        have zz := ZF.out _ hC5
        have qq := (HS1.out.keep hC5).free (List.mem_cons_self ..) 1
        go_simp
        (refine hK.out _ _ (by exact (hst6.cell (List.mem_cons_of_mem _ (List.mem_cons_of_mem _ (List.mem_cons_self ..))) 1).trans rfl) (fun hHeld => ?_); clear hK K; (try simp only [List.getElem_toArray, List.getElem_cons_zero, List.getElem_cons_succ, Act.put, List.setIfInBounds_toArray, List.set_cons_zero, List.set_cons_succ]))
        refine wpAnyH_done (by kernel_rfl) ?_ _
        go_wp2_with fail
        go_meet
        exact ⟨g, cap2, hid (by simp only [ent0]; rw [HN.out.2.1]; exact hst6)⟩
      · skip
        go_simp
        have hCB := HS1.out.cA (.cells #[.string ⟨#[109, 97, 114, 107]⟩, .int .i64 0] 53)
        (refine hK.out _ _ (by exact KP.out _ hCB) (fun hHeld => ?_); clear hK K; (try simp only [List.getElem_toArray, List.getElem_cons_zero, List.getElem_cons_succ, Act.put, List.setIfInBounds_toArray, List.set_cons_zero, List.set_cons_succ]))
        (refine wpAnyH_ready (rs := [4]) (by kernel_rfl) (by simp) ?_; refine AllReadyH.cons rfl (fun K hK => ?_) AllReadyH.nil)
        refine step_app0 rfl _ _ 23 rfl elem_var rfl rfl (V2.out _ (HSC.out.trans' hCB)) (one_varC _) (by unfold maxLen; omega) (by omega) (fun ao1 cap1 r1 w4 hr4 hc4 hf4 => ?_)
        obtain ⟨hC4, hF4⟩ := own_new hCB hc4 hf4
        have hvB := View.structD _ [.string ⟨#[109, 97, 114, 107]⟩, .int .i64 0] 53 rfl hc4
        (refine hK.out _ _ (by exact KP.out _ hC4) (fun hHeld => ?_); clear hK K; (try simp only [List.getElem_toArray, List.getElem_cons_zero, List.getElem_cons_succ, Act.put, List.setIfInBounds_toArray, List.set_cons_zero, List.set_cons_succ]))
        (refine wpAnyH_ready (rs := [7]) (by kernel_rfl) (by simp) ?_; refine AllReadyH.cons rfl (fun K hK => ?_) AllReadyH.nil)
        refine step_app rfl _ _ 23 rfl elem_var rfl hr4 rfl hvB (by simp [Value.oneCell']) (by unfold maxLen; omega) (by omega) (fun ao2 cap2 r2 w5 hr5 hc5 hf5 => ?_)
        have hC5 := own_step hC4 hF4 (Chg.refl [] _) hc5
        have hF5 := fresh_step hC4 hF4 (Chg.refl [] _) hf5
        have hcp := Nat.le_of_succ_le hr5.cap
        (refine hK.out _ _ (by exact KP.out _ hC5) (fun hHeld => ?_); clear hK K; (try simp only [List.getElem_toArray, List.getElem_cons_zero, List.getElem_cons_succ, Act.put, List.setIfInBounds_toArray, List.set_cons_zero, List.set_cons_succ]))
        (refine wpAnyH_ready (rs := [11]) (by kernel_rfl) (by simp) ?_; refine AllReadyH.cons rfl (fun K hK => ?_) AllReadyH.nil)
        go_simp
        (refine hK.out _ _ (by exact KP.out _ hC5) (fun hHeld => ?_); clear hK K; (try simp only [List.getElem_toArray, List.getElem_cons_zero, List.getElem_cons_succ, Act.put, List.setIfInBounds_toArray, List.set_cons_zero, List.set_cons_succ]))
        (refine wpAnyH_take (i := 12) (v := ?_) rfl (by kernel_rfl) (by kernel_rfl) (by kernel_rfl) (fun _ _ _ h => h) (Or.inl ⟨by rfl, ?_⟩) (by assumption) ?_; rotate_left 1; (focus (intro w hSw; (try dsimp only at hSw); go_simp; (try with_reducible rfl))); (try simp only [List.getElem_toArray, List.getElem_cons_zero, List.getElem_cons_succ, Act.put, List.setIfInBounds_toArray, List.set_cons_zero, List.set_cons_succ]))
        obtain ⟨g, rfl, hge6, hst6⟩ := HS1.out.step hC5 hr5 hF5 1
        (refine wpAnyH_ready (rs := [13]) (by kernel_rfl) (by simp) ?_; refine AllReadyH.cons rfl (fun K hK => ?_) AllReadyH.nil)
        have zz := ZF.out _ hC5
        have qq := (HS1.out.keep hC5).free (List.mem_cons_self ..) 1
        go_simp
        (refine hK.out _ _ (by exact (hst6.cell (List.mem_cons_of_mem _ (List.mem_cons_of_mem _ (List.mem_cons_self ..))) 1).trans rfl) (fun hHeld => ?_); clear hK K; (try simp only [List.getElem_toArray, List.getElem_cons_zero, List.getElem_cons_succ, Act.put, List.setIfInBounds_toArray, List.set_cons_zero, List.set_cons_succ]))
        refine wpAnyH_done (by kernel_rfl) ?_ _
        go_wp2_with fail
        go_meet
        exact ⟨g, cap2, hid (by simp only [ent0]; rw [HN.out.2.1]; exact hst6)⟩
    · skip
      go_simp
      have hCB := HS1.out.cA (.cells #[.string ⟨#[109, 97, 114, 107]⟩, .int .i64 0] 53)
      (refine hK.out _ _ (by exact KP.out _ hCB) (fun hHeld => ?_); clear hK K; (try simp only [List.getElem_toArray, List.getElem_cons_zero, List.getElem_cons_succ, Act.put, List.setIfInBounds_toArray, List.set_cons_zero, List.set_cons_succ]))
      (refine wpAnyH_ready (rs := [1]) (by kernel_rfl) (by simp) ?_; refine AllReadyH.cons rfl (fun K hK => ?_) AllReadyH.nil)
      have zz := ZF.out _ hCB
      go_simp
      clear zz
      (refine hK.out _ _ (by exact KP.out _ hCB) (fun hHeld => ?_); clear hK K; (try simp only [List.getElem_toArray, List.getElem_cons_zero, List.getElem_cons_succ, Act.put, List.setIfInBounds_toArray, List.set_cons_zero, List.set_cons_succ]))
      (refine wpAnyH_ready (rs := [4]) (by kernel_rfl) (by simp) ?_; refine AllReadyH.cons rfl (fun K hK => ?_) AllReadyH.nil)
      refine step_app0 rfl _ _ 23 rfl elem_var rfl rfl (V2.out _ (HSC.out.trans' hCB)) (one_varC _) (by unfold maxLen; omega) (by omega) (fun ao1 cap1 r1 w4 hr4 hc4 hf4 => ?_)
      obtain ⟨hC4, hF4⟩ := own_new hCB hc4 hf4
      have hvB := View.structD _ [.string ⟨#[109, 97, 114, 107]⟩, .int .i64 0] 53 rfl hc4
      (refine hK.out _ _ (by exact KP.out _ hC4) (fun hHeld => ?_); clear hK K; (try simp only [List.getElem_toArray, List.getElem_cons_zero, List.getElem_cons_succ, Act.put, List.setIfInBounds_toArray, List.set_cons_zero, List.set_cons_succ]))
      (refine wpAnyH_ready (rs := [7]) (by kernel_rfl) (by simp) ?_; refine AllReadyH.cons rfl (fun K hK => ?_) AllReadyH.nil)
      refine step_app rfl _ _ 23 rfl elem_var rfl hr4 rfl hvB (by simp [Value.oneCell']) (by unfold maxLen; omega) (by omega) (fun ao2 cap2 r2 w5 hr5 hc5 hf5 => ?_)
      have hC5 := own_step hC4 hF4 (Chg.refl [] _) hc5
      have hF5 := fresh_step hC4 hF4 (Chg.refl [] _) hf5
      have hcp := Nat.le_of_succ_le hr5.cap
      (refine hK.out _ _ (by exact KP.out _ hC5) (fun hHeld => ?_); clear hK K; (try simp only [List.getElem_toArray, List.getElem_cons_zero, List.getElem_cons_succ, Act.put, List.setIfInBounds_toArray, List.set_cons_zero, List.set_cons_succ]))
      (refine wpAnyH_ready (rs := [11]) (by kernel_rfl) (by simp) ?_; refine AllReadyH.cons rfl (fun K hK => ?_) AllReadyH.nil)
      go_simp
      (refine hK.out _ _ (by exact KP.out _ hC5) (fun hHeld => ?_); clear hK K; (try simp only [List.getElem_toArray, List.getElem_cons_zero, List.getElem_cons_succ, Act.put, List.setIfInBounds_toArray, List.set_cons_zero, List.set_cons_succ]))
      (refine wpAnyH_take (i := 12) (v := ?_) rfl (by kernel_rfl) (by kernel_rfl) (by kernel_rfl) (fun _ _ _ h => h) (Or.inl ⟨by rfl, ?_⟩) (by assumption) ?_; rotate_left 1; (focus (intro w hSw; (try dsimp only at hSw); go_simp; (try with_reducible rfl))); (try simp only [List.getElem_toArray, List.getElem_cons_zero, List.getElem_cons_succ, Act.put, List.setIfInBounds_toArray, List.set_cons_zero, List.set_cons_succ]))
      obtain ⟨g, rfl, hge6, hst6⟩ := HS1.out.step hC5 hr5 hF5 1
      (refine wpAnyH_ready (rs := [13]) (by kernel_rfl) (by simp) ?_; refine AllReadyH.cons rfl (fun K hK => ?_) AllReadyH.nil)
      have zz := ZF.out _ hC5
      have qq := (HS1.out.keep hC5).free (List.mem_cons_self ..) 1
      go_simp
      (refine hK.out _ _ (by exact (hst6.cell (List.mem_cons_of_mem _ (List.mem_cons_of_mem _ (List.mem_cons_self ..))) 1).trans rfl) (fun hHeld => ?_); clear hK K; (try simp only [List.getElem_toArray, List.getElem_cons_zero, List.getElem_cons_succ, Act.put, List.setIfInBounds_toArray, List.set_cons_zero, List.set_cons_succ]))
      refine wpAnyH_done (by kernel_rfl) ?_ _
      go_wp2_with fail
      go_meet
      exact ⟨g, cap2, hid (by simp only [ent0]; rw [HN.out.2.1]; exact hst6)⟩
  case rest =>
  obtain ⟨g1, c1, HS2⟩ := hcut
  clear HS1 KP ZF HSC V2
  go_wp2_with fail
  have KP := hid fun u (hu : Chg [] _ u) => ((HS2.out.keep hu).cell (List.mem_cons_of_mem _ (List.mem_cons_of_mem _ (List.mem_cons_self ..))) 2).trans (rfl : _ = some (Value.slice a3 n3 k3))
  have ZF := hid fun u (hu : Chg [] _ u) => ((HS2.out.keep hu).cell (List.mem_cons_self ..) 2).trans (rfl : _ = some (Value.slice none 0 0))
  have HSC := hid HS2.out.chg
  go_cut [4] (fun _ wx => ∃ g c, Hid (St w wx [(b3, .cells #[.slice (some ⟨g0, 0, none⟩) n1 c0, .slice (some ⟨g1, 0, none⟩) n2 c1, .slice (some ⟨g, 0, none⟩) n3 c, Value.slice none 0 0, Value.slice none 0 0] 28 (0, 0)), (b2, .cells #[Value.slice none 0 0, Value.slice none 0 0, Value.slice none 0 0, Value.slice none 0 0, Value.slice none 0 0] 28 (0, 0)), (b1, .cells #[Value.slice a1 n1 k1, .slice a2 n2 k2, .slice a3 n3 k3, .slice a4 n4 k4, .slice a5 n5 k5] 28 (0, 0))] (([] : List Ent) ++ [ent0 p.vars g0 c0] ++ [ent0 p.vols g1 c1] ++ [ent2 p.locks g c])))
  case first =>
    refine wp_region_held_drew (S := (fun w' => w'.cell? ⟨b1, 2, none⟩ = some (.slice a3 n3 k3))) (by kernel_rfl) (by exact KP.out _ HS2.out.c0) (fun hHeld => ?_)
    have hC0 := HS2.out.c0
    (refine wpAnyH_take (i := 0) (v := ?_) rfl (by kernel_rfl) (by kernel_rfl) (by kernel_rfl) (fun _ _ _ h => h) (Or.inl ⟨by rfl, ?_⟩) (by assumption) ?_; rotate_left 1; (focus (intro w hSw; (try dsimp only at hSw); go_simp; (try with_reducible rfl))); (try simp only [List.getElem_toArray, List.getElem_cons_zero, List.getElem_cons_succ, Act.put, List.setIfInBounds_toArray, List.set_cons_zero, List.set_cons_succ]))
    (refine wpAnyH_take (i := 2) (v := ?_) rfl (by kernel_rfl) (by kernel_rfl) (by kernel_rfl) (fun _ _ _ h => h) (Or.inl ⟨by rfl, ?_⟩) (by assumption) ?_; rotate_left 1; (focus (intro w hSw; (try dsimp only at hSw); go_simp; (try with_reducible rfl))); (try simp only [List.getElem_toArray, List.getElem_cons_zero, List.getElem_cons_succ, Act.put, List.setIfInBounds_toArray, List.set_cons_zero, List.set_cons_succ]))
    (refine wpAnyH_take (i := 3) (v := ?_) rfl (by kernel_rfl) (by kernel_rfl) (by kernel_rfl) (fun _ _ _ h => h) (Or.inl ⟨by rfl, ?_⟩) (by assumption) ?_; rotate_left 1; (focus (intro w hSw; (try dsimp only at hSw); go_simp; (try with_reducible rfl))); (try simp only [List.getElem_toArray, List.getElem_cons_zero, List.getElem_cons_succ, Act.put, List.setIfInBounds_toArray, List.set_cons_zero, List.set_cons_succ]))
    (refine wpAnyH_take (i := 7) (v := ?_) rfl (by kernel_rfl) (by kernel_rfl) (by kernel_rfl) (fun _ _ _ h => h) (Or.inl ⟨by rfl, ?_⟩) (by assumption) ?_; rotate_left 1; (focus (intro w hSw; (try dsimp only at hSw); go_simp; (try with_reducible rfl))); (try simp only [List.getElem_toArray, List.getElem_cons_zero, List.getElem_cons_succ, Act.put, List.setIfInBounds_toArray, List.set_cons_zero, List.set_cons_succ]))
    (refine wpAnyH_take (i := 8) (v := ?_) rfl (by kernel_rfl) (by kernel_rfl) (by kernel_rfl) (fun _ _ _ h => h) (Or.inl ⟨by rfl, ?_⟩) (by assumption) ?_; rotate_left 1; (focus (intro w hSw; (try dsimp only at hSw); go_simp; (try with_reducible rfl))); (try simp only [List.getElem_toArray, List.getElem_cons_zero, List.getElem_cons_succ, Act.put, List.setIfInBounds_toArray, List.set_cons_zero, List.set_cons_succ]))
    (refine wpAnyH_take (i := 9) (v := ?_) rfl (by kernel_rfl) (by kernel_rfl) (by kernel_rfl) (fun _ _ _ h => h) (Or.inl ⟨by rfl, ?_⟩) (by assumption) ?_; rotate_left 1; (focus (intro w hSw; (try dsimp only at hSw); go_simp; (try with_reducible rfl))); (try simp only [List.getElem_toArray, List.getElem_cons_zero, List.getElem_cons_succ, Act.put, List.setIfInBounds_toArray, List.set_cons_zero, List.set_cons_succ]))
    (refine wpAnyH_ready (rs := [1, 5]) (by kernel_rfl) (by simp) ?_; refine AllReadyH.cons rfl (fun K hK => ?_) (AllReadyH.cons rfl (fun K hK => ?_) AllReadyH.nil))
    · skip
      have zz := ZF.out _ hC0
      go_simp
      clear zz
      (refine hK.out _ _ (by exact KP.out _ hC0) (fun hHeld => ?_); clear hK K; (try simp only [List.getElem_toArray, List.getElem_cons_zero, List.getElem_cons_succ, Act.put, List.setIfInBounds_toArray, List.set_cons_zero, List.set_cons_succ]))
      (refine wpAnyH_ready (rs := [4, 5]) (by kernel_rfl) (by simp) ?_; refine AllReadyH.cons rfl (fun K hK => ?_) (AllReadyH.cons rfl (fun K hK => ?_) AllReadyH.nil))
      · skip
        refine step_app0 rfl _ _ 24 rfl elem_str rfl rfl (V3.out _ (HSC.out.trans' hC0)) (one_strC _) (by unfold maxLen; omega) (by omega) (fun ao1 cap1 r1 w4 hr4 hc4 hf4 => ?_)
        obtain ⟨hC4, hF4⟩ := own_new hC0 hc4 hf4
        (refine hK.out _ _ (by exact KP.out _ hC4) (fun hHeld => ?_); clear hK K; (try simp only [List.getElem_toArray, List.getElem_cons_zero, List.getElem_cons_succ, Act.put, List.setIfInBounds_toArray, List.set_cons_zero, List.set_cons_succ]))
        (refine wpAnyH_ready (rs := [5]) (by kernel_rfl) (by simp) ?_; refine AllReadyH.cons rfl (fun K hK => ?_) AllReadyH.nil)
        go_simp
        have hCB := hC4.alloc (.cells #[.string ⟨#[109, 97, 114, 107]⟩] 9)
        (refine hK.out _ _ (by exact KP.out _ hCB) (fun hHeld => ?_); clear hK K; (try simp only [List.getElem_toArray, List.getElem_cons_zero, List.getElem_cons_succ, Act.put, List.setIfInBounds_toArray, List.set_cons_zero, List.set_cons_succ]))
        have hrB := hr4.keep ((Chg.refl [] _).alloc (.cells #[.string ⟨#[109, 97, 114, 107]⟩] 9)) (by simp)
        have hvB := View.struct w4 [.string ⟨#[109, 97, 114, 107]⟩] 9 rfl
        (refine wpAnyH_ready (rs := [6]) (by kernel_rfl) (by simp) ?_; refine AllReadyH.cons rfl (fun K hK => ?_) AllReadyH.nil)
        refine step_app rfl _ _ 24 rfl elem_str rfl hrB rfl hvB (by simp [Value.oneCell']) (by unfold maxLen; omega) (by omega) (fun ao2 cap2 r2 w5 hr5 hc5 hf5 => ?_)
        have hC5 := own_step hC4 hF4 ((Chg.refl [] _).alloc _) hc5
        have hF5 := fresh_step hC4 hF4 ((Chg.refl [] _).alloc _) hf5
        have hcp := Nat.le_of_succ_le hr5.cap
        (refine hK.out _ _ (by exact KP.out _ hC5) (fun hHeld => ?_); clear hK K; (try simp only [List.getElem_toArray, List.getElem_cons_zero, List.getElem_cons_succ, Act.put, List.setIfInBounds_toArray, List.set_cons_zero, List.set_cons_succ]))
        (refine wpAnyH_ready (rs := [10]) (by kernel_rfl) (by simp) ?_; refine AllReadyH.cons rfl (fun K hK => ?_) AllReadyH.nil)
        go_simp
        (refine hK.out _ _ (by exact KP.out _ hC5) (fun hHeld => ?_); clear hK K; (try simp only [List.getElem_toArray, List.getElem_cons_zero, List.getElem_cons_succ, Act.put, List.setIfInBounds_toArray, List.set_cons_zero, List.set_cons_succ]))
        (refine wpAnyH_take (i := 11) (v := ?_) rfl (by kernel_rfl) (by kernel_rfl) (by kernel_rfl) (fun _ _ _ h => h) (Or.inl ⟨by rfl, ?_⟩) (by assumption) ?_; rotate_left 1; (focus (intro w hSw; (try dsimp only at hSw); go_simp; (try with_reducible rfl))); (try simp only [List.getElem_toArray, List.getElem_cons_zero, List.getElem_cons_succ, Act.put, List.setIfInBounds_toArray, List.set_cons_zero, List.set_cons_succ]))
        obtain ⟨g, rfl, hge6, hst6⟩ := HS2.out.step hC5 hr5 hF5 2
        (refine wpAnyH_ready (rs := [12]) (by kernel_rfl) (by simp) ?_; refine AllReadyH.cons rfl (fun K hK => ?_) AllReadyH.nil)
        have zz := ZF.out _ hC5
        have qq := (HS2.out.keep hC5).free (List.mem_cons_self ..) 2
        go_simp
        (refine hK.out _ _ (by exact (hst6.cell (List.mem_cons_of_mem _ (List.mem_cons_of_mem _ (List.mem_cons_self ..))) 2).trans rfl) (fun hHeld => ?_); clear hK K; (try simp only [List.getElem_toArray, List.getElem_cons_zero, List.getElem_cons_succ, Act.put, List.setIfInBounds_toArray, List.set_cons_zero, List.set_cons_succ]))
        refine wpAnyH_done (by kernel_rfl) ?_ _
        go_wp2_with fail
        go_meet
        exact ⟨g, cap2, hid (by simp only [ent2]; rw [HN.out.2.2.1]; exact hst6)⟩
      · skip
        go_simp
        have hCB := HS2.out.cA (.cells #[.string ⟨#[109, 97, 114, 107]⟩] 9)
        (refine hK.out _ _ (by exact KP.out _ hCB) (fun hHeld => ?_); clear hK K; (try simp only [List.getElem_toArray, List.getElem_cons_zero, List.getElem_cons_succ, Act.put, List.setIfInBounds_toArray, List.set_cons_zero, List.set_cons_succ]))
        (refine wpAnyH_ready (rs := [4]) (by kernel_rfl) (by simp) ?_; refine AllReadyH.cons rfl (fun K hK => ?_) AllReadyH.nil)
        refine step_app0 rfl _ _ 24 rfl elem_str rfl rfl (V3.out _ (HSC.out.trans' hCB)) (one_strC _) (by unfold maxLen; omega) (by omega) (fun ao1 cap1 r1 w4 hr4 hc4 hf4 => ?_)
        obtain ⟨hC4, hF4⟩ := own_new hCB hc4 hf4
        have hvB := View.structD _ [.string ⟨#[109, 97, 114, 107]⟩] 9 rfl hc4
        (refine hK.out _ _ (by exact KP.out _ hC4) (fun hHeld => ?_); clear hK K; (try simp only [List.getElem_toArray, List.getElem_cons_zero, List.getElem_cons_succ, Act.put, List.setIfInBounds_toArray, List.set_cons_zero, List.set_cons_succ]))
        (refine wpAnyH_ready (rs := [6]) (by kernel_rfl) (by simp) ?_; refine AllReadyH.cons rfl (fun K hK => ?_) AllReadyH.nil)
        refine step_app rfl _ _ 24 rfl elem_str rfl hr4 rfl hvB (by simp [Value.oneCell']) (by unfold maxLen; omega) (by omega) (fun ao2 cap2 r2 w5 hr5 hc5 hf5 => ?_)
        have hC5 := own_step hC4 hF4 (Chg.refl [] _) hc5
        have hF5 := fresh_step hC4 hF4 (Chg.refl [] _) hf5
        have hcp := Nat.le_of_succ_le hr5.cap
        (refine hK.out _ _ (by exact KP.out _ hC5) (fun hHeld => ?_); clear hK K; (try simp only [List.getElem_toArray, List.getElem_cons_zero, List.getElem_cons_succ, Act.put, List.setIfInBounds_toArray, List.set_cons_zero, List.set_cons_succ]))
        (refine wpAnyH_ready (rs := [10]) (by kernel_rfl) (by simp) ?_; refine AllReadyH.cons rfl (fun K hK => ?_) AllReadyH.nil)
        go_simp
        (refine hK.out _ _ (by exact KP.out _ hC5) (fun hHeld => ?_); clear hK K; (try simp only [List.getElem_toArray, List.getElem_cons_zero, List.getElem_cons_succ, Act.put, List.setIfInBounds_toArray, List.set_cons_zero, List.set_cons_succ]))
        (refine wpAnyH_take (i := 11) (v := ?_) rfl (by kernel_rfl) (by kernel_rfl) (by kernel_rfl) (fun _ _ _ h => h) (Or.inl ⟨by rfl, ?_⟩) (by assumption) ?_; rotate_left 1; (focus (intro w hSw; (try dsimp only at hSw); go_simp; (try with_reducible rfl))); (try simp only [List.getElem_toArray, List.getElem_cons_zero, List.getElem_cons_succ, Act.put, List.setIfInBounds_toArray, List.set_cons_zero, List.set_cons_succ]))
        obtain ⟨g, rfl, hge6, hst6⟩ := HS2.out.step hC5 hr5 hF5 2
        (refine wpAnyH_ready (rs := [12]) (by kernel_rfl) (by simp) ?_; refine AllReadyH.cons rfl (fun K hK => ?_) AllReadyH.nil)
        have zz := ZF.out _ hC5
        have qq := (HS2.out.keep hC5).free (List.mem_cons_self ..) 2
        go_simp
        (refine hK.out _ _ (by exact (hst6.cell (List.mem_cons_of_mem _ (List.mem_cons_of_mem _ (List.mem_cons_self ..))) 2).trans rfl) (fun hHeld => ?_); clear hK K; (try simp only [List.getElem_toArray, List.getElem_cons_zero, List.getElem_cons_succ, Act.put, List.setIfInBounds_toArray, List.set_cons_zero, List.set_cons_succ]))
        refine wpAnyH_done (by kernel_rfl) ?_ _
        go_wp2_with fail
        go_meet
        exact ⟨g, cap2, hid (by simp only [ent2]; rw [HN.out.2.2.1]; exact hst6)⟩
    · skip
      go_simp
      have hCB := HS2.out.cA (.cells #[.string ⟨#[109, 97, 114, 107]⟩] 9)
      (refine hK.out _ _ (by exact KP.out _ hCB) (fun hHeld => ?_); clear hK K; (try simp only [List.getElem_toArray, List.getElem_cons_zero, List.getElem_cons_succ, Act.put, List.setIfInBounds_toArray, List.set_cons_zero, List.set_cons_succ]))
      (refine wpAnyH_ready (rs := [1]) (by kernel_rfl) (by simp) ?_; refine AllReadyH.cons rfl (fun K hK => ?_) AllReadyH.nil)
      have zz := ZF.out _ hCB
      go_simp
      clear zz
      (refine hK.out _ _ (by exact KP.out _ hCB) (fun hHeld => ?_); clear hK K; (try simp only [List.getElem_toArray, List.getElem_cons_zero, List.getElem_cons_succ, Act.put, List.setIfInBounds_toArray, List.set_cons_zero, List.set_cons_succ]))
      (refine wpAnyH_ready (rs := [4]) (by kernel_rfl) (by simp) ?_; refine AllReadyH.cons rfl (fun K hK => ?_) AllReadyH.nil)
      refine step_app0 rfl _ _ 24 rfl elem_str rfl rfl (V3.out _ (HSC.out.trans' hCB)) (one_strC _) (by unfold maxLen; omega) (by omega) (fun ao1 cap1 r1 w4 hr4 hc4 hf4 => ?_)
      obtain ⟨hC4, hF4⟩ := own_new hCB hc4 hf4
      have hvB := View.structD _ [.string ⟨#[109, 97, 114, 107]⟩] 9 rfl hc4
      (refine hK.out _ _ (by exact KP.out _ hC4) (fun hHeld => ?_); clear hK K; (try simp only [List.getElem_toArray, List.getElem_cons_zero, List.getElem_cons_succ, Act.put, List.setIfInBounds_toArray, List.set_cons_zero, List.set_cons_succ]))
      (refine wpAnyH_ready (rs := [6]) (by kernel_rfl) (by simp) ?_; refine AllReadyH.cons rfl (fun K hK => ?_) AllReadyH.nil)
      refine step_app rfl _ _ 24 rfl elem_str rfl hr4 rfl hvB (by simp [Value.oneCell']) (by unfold maxLen; omega) (by omega) (fun ao2 cap2 r2 w5 hr5 hc5 hf5 => ?_)
      have hC5 := own_step hC4 hF4 (Chg.refl [] _) hc5
      have hF5 := fresh_step hC4 hF4 (Chg.refl [] _) hf5
      have hcp := Nat.le_of_succ_le hr5.cap
      (refine hK.out _ _ (by exact KP.out _ hC5) (fun hHeld => ?_); clear hK K; (try simp only [List.getElem_toArray, List.getElem_cons_zero, List.getElem_cons_succ, Act.put, List.setIfInBounds_toArray, List.set_cons_zero, List.set_cons_succ]))
      (refine wpAnyH_ready (rs := [10]) (by kernel_rfl) (by simp) ?_; refine AllReadyH.cons rfl (fun K hK => ?_) AllReadyH.nil)
      go_simp
      (refine hK.out _ _ (by exact KP.out _ hC5) (fun hHeld => ?_); clear hK K; (try simp only [List.getElem_toArray, List.getElem_cons_zero, List.getElem_cons_succ, Act.put, List.setIfInBounds_toArray, List.set_cons_zero, List.set_cons_succ]))
      (refine wpAnyH_take (i := 11) (v := ?_) rfl (by kernel_rfl) (by kernel_rfl) (by kernel_rfl) (fun _ _ _ h => h) (Or.inl ⟨by rfl, ?_⟩) (by assumption) ?_; rotate_left 1; (focus (intro w hSw; (try dsimp only at hSw); go_simp; (try with_reducible rfl))); (try simp only [List.getElem_toArray, List.getElem_cons_zero, List.getElem_cons_succ, Act.put, List.setIfInBounds_toArray, List.set_cons_zero, List.set_cons_succ]))
      obtain ⟨g, rfl, hge6, hst6⟩ := HS2.out.step hC5 hr5 hF5 2
      (refine wpAnyH_ready (rs := [12]) (by kernel_rfl) (by simp) ?_; refine AllReadyH.cons rfl (fun K hK => ?_) AllReadyH.nil)
      have zz := ZF.out _ hC5
      have qq := (HS2.out.keep hC5).free (List.mem_cons_self ..) 2
      go_simp
      (refine hK.out _ _ (by exact (hst6.cell (List.mem_cons_of_mem _ (List.mem_cons_of_mem _ (List.mem_cons_self ..))) 2).trans rfl) (fun hHeld => ?_); clear hK K; (try simp only [List.getElem_toArray, List.getElem_cons_zero, List.getElem_cons_succ, Act.put, List.setIfInBounds_toArray, List.set_cons_zero, List.set_cons_succ]))
      refine wpAnyH_done (by kernel_rfl) ?_ _
      go_wp2_with fail
      go_meet
      exact ⟨g, cap2, hid (by simp only [ent2]; rw [HN.out.2.2.1]; exact hst6)⟩
  case rest =>
  obtain ⟨g2, c2, HS3⟩ := hcut
  clear HS2 KP ZF HSC V3
  go_wp2_with fail
  have KP := hid fun u (hu : Chg [] _ u) => ((HS3.out.keep hu).cell (List.mem_cons_of_mem _ (List.mem_cons_of_mem _ (List.mem_cons_self ..))) 3).trans (rfl : _ = some (Value.slice a4 n4 k4))
  have ZF := hid fun u (hu : Chg [] _ u) => ((HS3.out.keep hu).cell (List.mem_cons_self ..) 3).trans (rfl : _ = some (Value.slice none 0 0))
  have HSC := hid HS3.out.chg
  go_cut [4] (fun _ wx => ∃ g c, Hid (St w wx [(b3, .cells #[.slice (some ⟨g0, 0, none⟩) n1 c0, .slice (some ⟨g1, 0, none⟩) n2 c1, .slice (some ⟨g2, 0, none⟩) n3 c2, .slice (some ⟨g, 0, none⟩) n4 c, Value.slice none 0 0] 28 (0, 0)), (b2, .cells #[Value.slice none 0 0, Value.slice none 0 0, Value.slice none 0 0, Value.slice none 0 0, Value.slice none 0 0] 28 (0, 0)), (b1, .cells #[Value.slice a1 n1 k1, .slice a2 n2 k2, .slice a3 n3 k3, .slice a4 n4 k4, .slice a5 n5 k5] 28 (0, 0))] (([] : List Ent) ++ [ent0 p.vars g0 c0] ++ [ent0 p.vols g1 c1] ++ [ent2 p.locks g2 c2] ++ [ent3 p.bars g c])))
  case first =>
    refine wp_region_held_drew (S := (fun w' => w'.cell? ⟨b1, 3, none⟩ = some (.slice a4 n4 k4))) (by kernel_rfl) (by exact KP.out _ HS3.out.c0) (fun hHeld => ?_)
    have hC0 := HS3.out.c0
    (refine wpAnyH_take (i := 0) (v := ?_) rfl (by kernel_rfl) (by kernel_rfl) (by kernel_rfl) (fun _ _ _ h => h) (Or.inl ⟨by rfl, ?_⟩) (by assumption) ?_; rotate_left 1; (focus (intro w hSw; (try dsimp only at hSw); go_simp; (try with_reducible rfl))); (try simp only [List.getElem_toArray, List.getElem_cons_zero, List.getElem_cons_succ, Act.put, List.setIfInBounds_toArray, List.set_cons_zero, List.set_cons_succ]))
    (refine wpAnyH_take (i := 2) (v := ?_) rfl (by kernel_rfl) (by kernel_rfl) (by kernel_rfl) (fun _ _ _ h => h) (Or.inl ⟨by rfl, ?_⟩) (by assumption) ?_; rotate_left 1; (focus (intro w hSw; (try dsimp only at hSw); go_simp; (try with_reducible rfl))); (try simp only [List.getElem_toArray, List.getElem_cons_zero, List.getElem_cons_succ, Act.put, List.setIfInBounds_toArray, List.set_cons_zero, List.set_cons_succ]))
    (refine wpAnyH_take (i := 3) (v := ?_) rfl (by kernel_rfl) (by kernel_rfl) (by kernel_rfl) (fun _ _ _ h => h) (Or.inl ⟨by rfl, ?_⟩) (by assumption) ?_; rotate_left 1; (focus (intro w hSw; (try dsimp only at hSw); go_simp; (try with_reducible rfl))); (try simp only [List.getElem_toArray, List.getElem_cons_zero, List.getElem_cons_succ, Act.put, List.setIfInBounds_toArray, List.set_cons_zero, List.set_cons_succ]))
    (refine wpAnyH_take (i := 5) (v := ?_) rfl (by kernel_rfl) (by kernel_rfl) (by kernel_rfl) (fun _ _ _ h => h) (Or.inl ⟨by rfl, ?_⟩) (by assumption) ?_; rotate_left 1; (focus (intro w hSw; (try dsimp only at hSw); go_simp; (try with_reducible rfl))); (try simp only [List.getElem_toArray, List.getElem_cons_zero, List.getElem_cons_succ, Act.put, List.setIfInBounds_toArray, List.set_cons_zero, List.set_cons_succ]))
    (refine wpAnyH_take (i := 8) (v := ?_) rfl (by kernel_rfl) (by kernel_rfl) (by kernel_rfl) (fun _ _ _ h => h) (Or.inl ⟨by rfl, ?_⟩) (by assumption) ?_; rotate_left 1; (focus (intro w hSw; (try dsimp only at hSw); go_simp; (try with_reducible rfl))); (try simp only [List.getElem_toArray, List.getElem_cons_zero, List.getElem_cons_succ, Act.put, List.setIfInBounds_toArray, List.set_cons_zero, List.set_cons_succ]))
    (refine wpAnyH_take (i := 9) (v := ?_) rfl (by kernel_rfl) (by kernel_rfl) (by kernel_rfl) (fun _ _ _ h => h) (Or.inl ⟨by rfl, ?_⟩) (by assumption) ?_; rotate_left 1; (focus (intro w hSw; (try dsimp only at hSw); go_simp; (try with_reducible rfl))); (try simp only [List.getElem_toArray, List.getElem_cons_zero, List.getElem_cons_succ, Act.put, List.setIfInBounds_toArray, List.set_cons_zero, List.set_cons_succ]))
    (refine wpAnyH_take (i := 10) (v := ?_) rfl (by kernel_rfl) (by kernel_rfl) (by kernel_rfl) (fun _ _ _ h => h) (Or.inl ⟨by rfl, ?_⟩) (by assumption) ?_; rotate_left 1; (focus (intro w hSw; (try dsimp only at hSw); go_simp; (try with_reducible rfl))); (try simp only [List.getElem_toArray, List.getElem_cons_zero, List.getElem_cons_succ, Act.put, List.setIfInBounds_toArray, List.set_cons_zero, List.set_cons_succ]))
    (refine wpAnyH_ready (rs := [1, 6]) (by kernel_rfl) (by simp) ?_; refine AllReadyH.cons rfl (fun K hK => ?_) (AllReadyH.cons rfl (fun K hK => ?_) AllReadyH.nil))
    · skip
      have zz := ZF.out _ hC0
      go_simp
      clear zz
      (refine hK.out _ _ (by exact KP.out _ hC0) (fun hHeld => ?_); clear hK K; (try simp only [List.getElem_toArray, List.getElem_cons_zero, List.getElem_cons_succ, Act.put, List.setIfInBounds_toArray, List.set_cons_zero, List.set_cons_succ]))
      (refine wpAnyH_ready (rs := [4, 6]) (by kernel_rfl) (by simp) ?_; refine AllReadyH.cons rfl (fun K hK => ?_) (AllReadyH.cons rfl (fun K hK => ?_) AllReadyH.nil))
      · skip
        refine step_app0 rfl _ _ 25 rfl elem_bar rfl rfl (V4.out _ (HSC.out.trans' hC0)) (one_varC _) (by unfold maxLen; omega) (by omega) (fun ao1 cap1 r1 w4 hr4 hc4 hf4 => ?_)
        obtain ⟨hC4, hF4⟩ := own_new hC0 hc4 hf4
        (refine hK.out _ _ (by exact KP.out _ hC4) (fun hHeld => ?_); clear hK K; (try simp only [List.getElem_toArray, List.getElem_cons_zero, List.getElem_cons_succ, Act.put, List.setIfInBounds_toArray, List.set_cons_zero, List.set_cons_succ]))
        (refine wpAnyH_ready (rs := [6]) (by kernel_rfl) (by simp) ?_; refine AllReadyH.cons rfl (fun K hK => ?_) AllReadyH.nil)
        go_simp
        have hCB := hC4.alloc (.cells #[.string ⟨#[109, 97, 114, 107]⟩, .int .i64 0] 55)
        (refine hK.out _ _ (by exact KP.out _ hCB) (fun hHeld => ?_); clear hK K; (try simp only [List.getElem_toArray, List.getElem_cons_zero, List.getElem_cons_succ, Act.put, List.setIfInBounds_toArray, List.set_cons_zero, List.set_cons_succ]))
        have hrB := hr4.keep ((Chg.refl [] _).alloc (.cells #[.string ⟨#[109, 97, 114, 107]⟩, .int .i64 0] 55)) (by simp)
        have hvB := View.struct w4 [.string ⟨#[109, 97, 114, 107]⟩, .int .i64 0] 55 rfl
        (refine wpAnyH_ready (rs := [7]) (by kernel_rfl) (by simp) ?_; refine AllReadyH.cons rfl (fun K hK => ?_) AllReadyH.nil)
        refine step_app rfl _ _ 25 rfl elem_bar rfl hrB rfl hvB (by simp [Value.oneCell']) (by unfold maxLen; omega) (by omega) (fun ao2 cap2 r2 w5 hr5 hc5 hf5 => ?_)
        have hC5 := own_step hC4 hF4 ((Chg.refl [] _).alloc _) hc5
        have hF5 := fresh_step hC4 hF4 ((Chg.refl [] _).alloc _) hf5
        have hcp := Nat.le_of_succ_le hr5.cap
        (refine hK.out _ _ (by exact KP.out _ hC5) (fun hHeld => ?_); clear hK K; (try simp only [List.getElem_toArray, List.getElem_cons_zero, List.getElem_cons_succ, Act.put, List.setIfInBounds_toArray, List.set_cons_zero, List.set_cons_succ]))
        (refine wpAnyH_ready (rs := [11]) (by kernel_rfl) (by simp) ?_; refine AllReadyH.cons rfl (fun K hK => ?_) AllReadyH.nil)
        go_simp
        (refine hK.out _ _ (by exact KP.out _ hC5) (fun hHeld => ?_); clear hK K; (try simp only [List.getElem_toArray, List.getElem_cons_zero, List.getElem_cons_succ, Act.put, List.setIfInBounds_toArray, List.set_cons_zero, List.set_cons_succ]))
        (refine wpAnyH_take (i := 12) (v := ?_) rfl (by kernel_rfl) (by kernel_rfl) (by kernel_rfl) (fun _ _ _ h => h) (Or.inl ⟨by rfl, ?_⟩) (by assumption) ?_; rotate_left 1; (focus (intro w hSw; (try dsimp only at hSw); go_simp; (try with_reducible rfl))); (try simp only [List.getElem_toArray, List.getElem_cons_zero, List.getElem_cons_succ, Act.put, List.setIfInBounds_toArray, List.set_cons_zero, List.set_cons_succ]))
        obtain ⟨g, rfl, hge6, hst6⟩ := HS3.out.step hC5 hr5 hF5 3
        (refine wpAnyH_ready (rs := [13]) (by kernel_rfl) (by simp) ?_; refine AllReadyH.cons rfl (fun K hK => ?_) AllReadyH.nil)
        have zz := ZF.out _ hC5
        have qq := (HS3.out.keep hC5).free (List.mem_cons_self ..) 3
        go_simp
        (refine hK.out _ _ (by exact (hst6.cell (List.mem_cons_of_mem _ (List.mem_cons_of_mem _ (List.mem_cons_self ..))) 3).trans rfl) (fun hHeld => ?_); clear hK K; (try simp only [List.getElem_toArray, List.getElem_cons_zero, List.getElem_cons_succ, Act.put, List.setIfInBounds_toArray, List.set_cons_zero, List.set_cons_succ]))
        refine wpAnyH_done (by kernel_rfl) ?_ _
        go_wp2_with fail
        go_meet
        exact ⟨g, cap2, hid (by simp only [ent3]; rw [HN.out.2.2.2.1]; exact hst6)⟩
      · skip
        go_simp
        have hCB := HS3.out.cA (.cells #[.string ⟨#[109, 97, 114, 107]⟩, .int .i64 0] 55)
        (refine hK.out _ _ (by exact KP.out _ hCB) (fun hHeld => ?_); clear hK K; (try simp only [List.getElem_toArray, List.getElem_cons_zero, List.getElem_cons_succ, Act.put, List.setIfInBounds_toArray, List.set_cons_zero, List.set_cons_succ]))
        (refine wpAnyH_ready (rs := [4]) (by kernel_rfl) (by simp) ?_; refine AllReadyH.cons rfl (fun K hK => ?_) AllReadyH.nil)
        refine step_app0 rfl _ _ 25 rfl elem_bar rfl rfl (V4.out _ (HSC.out.trans' hCB)) (one_varC _) (by unfold maxLen; omega) (by omega) (fun ao1 cap1 r1 w4 hr4 hc4 hf4 => ?_)
        obtain ⟨hC4, hF4⟩ := own_new hCB hc4 hf4
        have hvB := View.structD _ [.string ⟨#[109, 97, 114, 107]⟩, .int .i64 0] 55 rfl hc4
        (refine hK.out _ _ (by exact KP.out _ hC4) (fun hHeld => ?_); clear hK K; (try simp only [List.getElem_toArray, List.getElem_cons_zero, List.getElem_cons_succ, Act.put, List.setIfInBounds_toArray, List.set_cons_zero, List.set_cons_succ]))
        (refine wpAnyH_ready (rs := [7]) (by kernel_rfl) (by simp) ?_; refine AllReadyH.cons rfl (fun K hK => ?_) AllReadyH.nil)
        refine step_app rfl _ _ 25 rfl elem_bar rfl hr4 rfl hvB (by simp [Value.oneCell']) (by unfold maxLen; omega) (by omega) (fun ao2 cap2 r2 w5 hr5 hc5 hf5 => ?_)
        have hC5 := own_step hC4 hF4 (Chg.refl [] _) hc5
        have hF5 := fresh_step hC4 hF4 (Chg.refl [] _) hf5
        have hcp := Nat.le_of_succ_le hr5.cap
        (refine hK.out _ _ (by exact KP.out _ hC5) (fun hHeld => ?_); clear hK K; (try simp only [List.getElem_toArray, List.getElem_cons_zero, List.getElem_cons_succ, Act.put, List.setIfInBounds_toArray, List.set_cons_zero, List.set_cons_succ]))
        (refine wpAnyH_ready (rs := [11]) (by kernel_rfl) (by simp) ?_; refine AllReadyH.cons rfl (fun K hK => ?_) AllReadyH.nil)
        go_simp
        (refine hK.out _ _ (by exact KP.out _ hC5) (fun hHeld => ?_); clear hK K; (try simp only [List.getElem_toArray, List.getElem_cons_zero, List.getElem_cons_succ, Act.put, List.setIfInBounds_toArray, List.set_cons_zero, List.set_cons_succ]))
        (refine wpAnyH_take (i := 12) (v := ?_) rfl (by kernel_rfl) (by kernel_rfl) (by kernel_rfl) (fun _ _ _ h => h) (Or.inl ⟨by rfl, ?_⟩) (by assumption) ?_; rotate_left 1; (focus (intro w hSw; (try dsimp only at hSw); go_simp; (try with_reducible rfl))); (try simp only [List.getElem_toArray, List.getElem_cons_zero, List.getElem_cons_succ, Act.put, List.setIfInBounds_toArray, List.set_cons_zero, List.set_cons_succ]))
        obtain ⟨g, rfl, hge6, hst6⟩ := HS3.out.step hC5 hr5 hF5 3
        (refine wpAnyH_ready (rs := [13]) (by kernel_rfl) (by simp) ?_; refine AllReadyH.cons rfl (fun K hK => ?_) AllReadyH.nil)
        have zz := ZF.out _ hC5
        have qq := (HS3.out.keep hC5).free (List.mem_cons_self ..) 3
        go_simp
        (refine hK.out _ _ (by exact (hst6.cell (List.mem_cons_of_mem _ (List.mem_cons_of_mem _ (List.mem_cons_self ..))) 3).trans rfl) (fun hHeld => ?_); clear hK K; (try simp only [List.getElem_toArray, List.getElem_cons_zero, List.getElem_cons_succ, Act.put, List.setIfInBounds_toArray, List.set_cons_zero, List.set_cons_succ]))
        refine wpAnyH_done (by kernel_rfl) ?_ _
        go_wp2_with fail
        go_meet
        exact ⟨g, cap2, hid (by simp only [ent3]; rw [HN.out.2.2.2.1]; exact hst6)⟩
    · skip
      go_simp
      have hCB := HS3.out.cA (.cells #[.string ⟨#[109, 97, 114, 107]⟩, .int .i64 0] 55)
      (refine hK.out _ _ (by exact KP.out _ hCB) (fun hHeld => ?_); clear hK K; (try simp only [List.getElem_toArray, List.getElem_cons_zero, List.getElem_cons_succ, Act.put, List.setIfInBounds_toArray, List.set_cons_zero, List.set_cons_succ]))
      (refine wpAnyH_ready (rs := [1]) (by kernel_rfl) (by simp) ?_; refine AllReadyH.cons rfl (fun K hK => ?_) AllReadyH.nil)
      have zz := ZF.out _ hCB
      go_simp
      clear zz
      (refine hK.out _ _ (by exact KP.out _ hCB) (fun hHeld => ?_); clear hK K; (try simp only [List.getElem_toArray, List.getElem_cons_zero, List.getElem_cons_succ, Act.put, List.setIfInBounds_toArray, List.set_cons_zero, List.set_cons_succ]))
      (refine wpAnyH_ready (rs := [4]) (by kernel_rfl) (by simp) ?_; refine AllReadyH.cons rfl (fun K hK => ?_) AllReadyH.nil)
      refine step_app0 rfl _ _ 25 rfl elem_bar rfl rfl (V4.out _ (HSC.out.trans' hCB)) (one_varC _) (by unfold maxLen; omega) (by omega) (fun ao1 cap1 r1 w4 hr4 hc4 hf4 => ?_)
      obtain ⟨hC4, hF4⟩ := own_new hCB hc4 hf4
      have hvB := View.structD _ [.string ⟨#[109, 97, 114, 107]⟩, .int .i64 0] 55 rfl hc4
      (refine hK.out _ _ (by exact KP.out _ hC4) (fun hHeld => ?_); clear hK K; (try simp only [List.getElem_toArray, List.getElem_cons_zero, List.getElem_cons_succ, Act.put, List.setIfInBounds_toArray, List.set_cons_zero, List.set_cons_succ]))
      (refine wpAnyH_ready (rs := [7]) (by kernel_rfl) (by simp) ?_; refine AllReadyH.cons rfl (fun K hK => ?_) AllReadyH.nil)
      refine step_app rfl _ _ 25 rfl elem_bar rfl hr4 rfl hvB (by simp [Value.oneCell']) (by unfold maxLen; omega) (by omega) (fun ao2 cap2 r2 w5 hr5 hc5 hf5 => ?_)
      have hC5 := own_step hC4 hF4 (Chg.refl [] _) hc5
      have hF5 := fresh_step hC4 hF4 (Chg.refl [] _) hf5
      have hcp := Nat.le_of_succ_le hr5.cap
      (refine hK.out _ _ (by exact KP.out _ hC5) (fun hHeld => ?_); clear hK K; (try simp only [List.getElem_toArray, List.getElem_cons_zero, List.getElem_cons_succ, Act.put, List.setIfInBounds_toArray, List.set_cons_zero, List.set_cons_succ]))
      (refine wpAnyH_ready (rs := [11]) (by kernel_rfl) (by simp) ?_; refine AllReadyH.cons rfl (fun K hK => ?_) AllReadyH.nil)
      go_simp
      (refine hK.out _ _ (by exact KP.out _ hC5) (fun hHeld => ?_); clear hK K; (try simp only [List.getElem_toArray, List.getElem_cons_zero, List.getElem_cons_succ, Act.put, List.setIfInBounds_toArray, List.set_cons_zero, List.set_cons_succ]))
      (refine wpAnyH_take (i := 12) (v := ?_) rfl (by kernel_rfl) (by kernel_rfl) (by kernel_rfl) (fun _ _ _ h => h) (Or.inl ⟨by rfl, ?_⟩) (by assumption) ?_; rotate_left 1; (focus (intro w hSw; (try dsimp only at hSw); go_simp; (try with_reducible rfl))); (try simp only [List.getElem_toArray, List.getElem_cons_zero, List.getElem_cons_succ, Act.put, List.setIfInBounds_toArray, List.set_cons_zero, List.set_cons_succ]))
      obtain ⟨g, rfl, hge6, hst6⟩ := HS3.out.step hC5 hr5 hF5 3
      (refine wpAnyH_ready (rs := [13]) (by kernel_rfl) (by simp) ?_; refine AllReadyH.cons rfl (fun K hK => ?_) AllReadyH.nil)
      have zz := ZF.out _ hC5
      have qq := (HS3.out.keep hC5).free (List.mem_cons_self ..) 3
      go_simp
      (refine hK.out _ _ (by exact (hst6.cell (List.mem_cons_of_mem _ (List.mem_cons_of_mem _ (List.mem_cons_self ..))) 3).trans rfl) (fun hHeld => ?_); clear hK K; (try simp only [List.getElem_toArray, List.getElem_cons_zero, List.getElem_cons_succ, Act.put, List.setIfInBounds_toArray, List.set_cons_zero, List.set_cons_succ]))
      refine wpAnyH_done (by kernel_rfl) ?_ _
      go_wp2_with fail
      go_meet
      exact ⟨g, cap2, hid (by simp only [ent3]; rw [HN.out.2.2.2.1]; exact hst6)⟩
  case rest =>
  obtain ⟨g3, c3, HS4⟩ := hcut
  clear HS3 KP ZF HSC V4
  go_wp2_with fail
  obtain ⟨ES, hES⟩ : ∃ ES, ([] : List Ent) ++ [ent0 p.vars g0 c0] ++ [ent0 p.vols g1 c1] ++ [ent2 p.locks g2 c2] ++ [ent3 p.bars g3 c3] = ES := ⟨_, rfl⟩
  rw [hES] at HS4
  have HES := hid hES
  clear hES
  go_loopw [4] (fun vi wr => ∃ i : Nat, i ≤ n5 ∧ vi = .int .i64 i ∧ Hid (∃ (tg : List ThrG) (ao : Option Addr) (cap : Nat), tg.map ThrG.t = p.thrs.take i ∧ St w wr [(b3, .cells #[.slice (some ⟨g0, 0, none⟩) n1 c0, .slice (some ⟨g1, 0, none⟩) n2 c1, .slice (some ⟨g2, 0, none⟩) n3 c2, .slice (some ⟨g3, 0, none⟩) n4 c3, .slice ao i cap] 28 (0, 0)), (b2, .cells #[Value.slice none 0 0, Value.slice none 0 0, Value.slice none 0 0, Value.slice none 0 0, Value.slice none 0 0] 28 (0, 0)), (b1, .cells #[Value.slice a1 n1 k1, .slice a2 n2 k2, .slice a3 n3 k3, .slice a4 n4 k4, .slice a5 n5 k5] 28 (0, 0))] (ES ++ entsT tg) ∧ Opn w wr [(b3, .cells #[.slice (some ⟨g0, 0, none⟩) n1 c0, .slice (some ⟨g1, 0, none⟩) n2 c1, .slice (some ⟨g2, 0, none⟩) n3 c2, .slice (some ⟨g3, 0, none⟩) n4 c3, .slice ao i cap] 28 (0, 0)), (b2, .cells #[Value.slice none 0 0, Value.slice none 0 0, Value.slice none 0 0, Value.slice none 0 0, Value.slice none 0 0] 28 (0, 0)), (b1, .cells #[Value.slice a1 n1 k1, .slice a2 n2 k2, .slice a3 n3 k3, .slice a4 n4 k4, .slice a5 n5 k5] 28 (0, 0))] (ES ++ entsT tg) 59 3 (.slice ao i cap) i ((tg.map ThrG.v).flatMap thrC))) (fun vi _ => n5 - (intOf vi).toNat)
  case atStart => exact ⟨0, Nat.zero_le _, rfl, hid ⟨[], none, 0, by simp, by simpa [entsT] using HS4.out, ⟨none, Row.nil _ _ _, by simp⟩⟩⟩
  case round =>
    clear HS4
    obtain ⟨i, hi, rfl, HI⟩ := hrel
    by_cases hlt : i < n5
    · obtain ⟨tg, ao, cap, htg, hst, hop⟩ := HI.out
      have hkt : i < ts.length := by rw [HN.out.2.2.2.2.2]; exact hlt
      have hkl : i < p.thrs.length := by rw [HN.out.2.2.2.2.1]; exact hlt
      have hge : p.thrs[i] = ts[i].t := by
        have h := List.getElem_of_eq HT.out.1.symm hkl
        rw [h, List.getElem_map]
      obtain ⟨bb, off, hao, hcl⟩ := (V5.out w (Chg.refl _ _)).at thrC_len hkt (by omega)
      have zl : (i : Int) < (n5 : Int) := by omega
      have z0 : (0 : Int) ≤ (i : Int) := by omega
      have d0 : w.cell? ⟨bb, off + i * 3, none⟩ = some (.string ts[i].t.name) := hcl 0 (by omega)
      have d1 : w.cell? ⟨bb, off + i * 3 + 1, none⟩ = some ts[i].code := hcl 1 (by omega)
      have d2 : w.cell? ⟨bb, off + i * 3 + 2, none⟩ = some ts[i].places := hcl 2 (by omega)
      have hvv := HT.out.2 _ (List.getElem_mem hkt)
      have hsz := HS6.out _ (List.getElem_mem hkl)
      have htk : p.thrs.take (i + 1) = p.thrs.take i ++ [p.thrs[i]] := List.take_succ_eq_append_getElem hkl
      rw [hge] at htk hsz
      obtain ⟨X, hX⟩ : ∃ X, ts[i] = X := ⟨_, rfl⟩
      rw [hX] at d0 d1 d2 htk hvv hsz
      obtain ⟨⟨nm, code, places⟩, vc, vp⟩ := X
      simp only at d0 d1 d2 hvv htk hsz
      obtain ⟨aq, cq, rfl, _⟩ := hvv.1.len
      obtain ⟨ap, cp, rfl, _⟩ := hvv.2.len
      obtain ⟨nc, hnc⟩ : ∃ n, code.length = n := ⟨_, rfl⟩
      obtain ⟨np, hnp⟩ : ∃ n, places.length = n := ⟨_, rfl⟩
      have VC := hid fun u (hu : Chg [] w u) => hvv.1.keep hu
      have VP := hid fun u (hu : Chg [] w u) => hvv.2.keep hu
      unfold Lst at VC VP
      rw [hnc] at d1 hsz VC
      rw [hnp] at d2 hsz VP
      obtain ⟨_, q1, q2⟩ := hsz
      have HNC := hid (And.intro hnc hnp)
      have HD := hid (And.intro d1 d2)
      have HTK := hid (And.intro htg htk)
      subst hao
      have y4 := (hst.cell (List.mem_cons_of_mem _ (List.mem_cons_of_mem _ (List.mem_cons_self ..))) 4).trans (rfl : _ = some (Value.slice (some ⟨bb, off, none⟩) n5 k5))
      have e0 := hst.chg.cell d0 (by simp)
      have hst5 := hst.new (.cells #[Value.string nm, .slice none 0 0, .slice none 0 0] 59)
      have hop5 := hop.box (.cells #[Value.string nm, .slice none 0 0, .slice none 0 0] 59)
      have HH := hid (And.intro hst5 hop5)
      clear hst5 hop5 hst hop htg htk hvv hnc hnp hcl hX hge hkt hkl d0 d1 d2 HI
      go_wp2_with fail
      clear y4 e0
      obtain ⟨hst5, hop5⟩ := HH.out
      obtain ⟨b5, hb5⟩ : ∃ x, wr.heap.size = x := ⟨_, rfl⟩
      rw [hb5] at hst5 hop5 ⊢
      obtain ⟨wb, hwb⟩ : ∃ x : World, wr.alloc (.cells #[Value.string nm, .slice none 0 0, .slice none 0 0] 59) = x := ⟨_, rfl⟩
      rw [hwb] at hst5 hop5 ⊢
      clear hb5 hwb HH
      have HS5 := hid hst5
      have HO5 := hid hop5
      clear hst5 hop5

      have KP := hid fun u (hu : Chg [] _ u) => And.intro (((HS5.out.keep hu).cell (List.mem_cons_of_mem _ (List.mem_cons_of_mem _ (List.mem_cons_of_mem _ (List.mem_cons_self ..)))) 4).trans (rfl : _ = some (Value.slice (some ⟨bb, off, none⟩) n5 k5))) ((HS5.out.keep hu).chg.cell HD.out.1 (by simp))
      have ZF := hid fun u (hu : Chg [] _ u) => ((HS5.out.keep hu).cell (List.mem_cons_self ..) 1).trans (rfl : _ = some (Value.slice none 0 0))
      have HSC := hid HS5.out.chg
      go_cut [71] (fun _ wx => ∃ g c, Hid (St w wx [(b5, .cells #[Value.string nm, .slice (some ⟨g, 0, none⟩) nc c, Value.slice none 0 0] 59 (0, 0)), (b3, .cells #[.slice (some ⟨g0, 0, none⟩) n1 c0, .slice (some ⟨g1, 0, none⟩) n2 c1, .slice (some ⟨g2, 0, none⟩) n3 c2, .slice (some ⟨g3, 0, none⟩) n4 c3, .slice ao i cap] 28 (0, 0)), (b2, .cells #[Value.slice none 0 0, Value.slice none 0 0, Value.slice none 0 0, Value.slice none 0 0, Value.slice none 0 0] 28 (0, 0)), (b1, .cells #[Value.slice a1 n1 k1, .slice a2 n2 k2, .slice a3 n3 k3, .slice a4 n4 k4, .slice (some ⟨bb, off, none⟩) n5 k5] 28 (0, 0))] (ES ++ entsT tg ++ [entI code g c]) ∧ Opn w wx [(b5, .cells #[Value.string nm, .slice (some ⟨g, 0, none⟩) nc c, Value.slice none 0 0] 59 (0, 0)), (b3, .cells #[.slice (some ⟨g0, 0, none⟩) n1 c0, .slice (some ⟨g1, 0, none⟩) n2 c1, .slice (some ⟨g2, 0, none⟩) n3 c2, .slice (some ⟨g3, 0, none⟩) n4 c3, .slice ao i cap] 28 (0, 0)), (b2, .cells #[Value.slice none 0 0, Value.slice none 0 0, Value.slice none 0 0, Value.slice none 0 0, Value.slice none 0 0] 28 (0, 0)), (b1, .cells #[Value.slice a1 n1 k1, .slice a2 n2 k2, .slice a3 n3 k3, .slice a4 n4 k4, .slice (some ⟨bb, off, none⟩) n5 k5] 28 (0, 0))] (ES ++ entsT tg ++ [entI code g c]) 59 3 (.slice ao i cap) i ((tg.map ThrG.v).flatMap thrC)))
      case first =>
        refine wp_region_held_drew (S := (fun w' => w'.cell? ⟨b1, 4, none⟩ = some (.slice (some ⟨bb, off, none⟩) n5 k5) ∧ w'.cell? ⟨bb, off + i * 3 + 1, none⟩ = some (.slice aq nc cq))) (by kernel_rfl) (by exact KP.out _ HS5.out.c0) (fun hHeld => ?_)
        have hC0 := HS5.out.c0
        (refine wpAnyH_take (i := 0) (v := ?_) rfl (by kernel_rfl) (by kernel_rfl) (by kernel_rfl) (fun _ _ _ h => h) (Or.inl ⟨by rfl, ?_⟩) (by assumption) ?_; rotate_left 1; (focus (intro w hSw; (try dsimp only at hSw); go_simp; (try with_reducible rfl))); (try simp only [List.getElem_toArray, List.getElem_cons_zero, List.getElem_cons_succ, Act.put, List.setIfInBounds_toArray, List.set_cons_zero, List.set_cons_succ]))
        (refine wpAnyH_take (i := 2) (v := ?_) rfl (by kernel_rfl) (by kernel_rfl) (by kernel_rfl) (fun _ _ _ h => h) (Or.inl ⟨by rfl, ?_⟩) (by assumption) ?_; rotate_left 1; (focus (intro w hSw; (try dsimp only at hSw); go_simp; (try with_reducible rfl))); (try simp only [List.getElem_toArray, List.getElem_cons_zero, List.getElem_cons_succ, Act.put, List.setIfInBounds_toArray, List.set_cons_zero, List.set_cons_succ]))
        (refine wpAnyH_take (i := 3) (v := ?_) rfl (by kernel_rfl) (by kernel_rfl) (by kernel_rfl) (fun _ _ _ h => h) (Or.inl ⟨by rfl, ?_⟩) (by assumption) ?_; rotate_left 1; (focus (intro w hSw; (try dsimp only at hSw); go_simp; (try with_reducible rfl))); (try simp only [List.getElem_toArray, List.getElem_cons_zero, List.getElem_cons_succ, Act.put, List.setIfInBounds_toArray, List.set_cons_zero, List.set_cons_succ]))
        (refine wpAnyH_take (i := 4) (v := ?_) rfl (by kernel_rfl) (by kernel_rfl) (by kernel_rfl) (fun _ _ _ h => h) (Or.inl ⟨by rfl, ?_⟩) (by assumption) ?_; rotate_left 1; (focus (intro w hSw; (try dsimp only at hSw); go_simp; (try with_reducible rfl))); (try simp only [List.getElem_toArray, List.getElem_cons_zero, List.getElem_cons_succ, Act.put, List.setIfInBounds_toArray, List.set_cons_zero, List.set_cons_succ]))
        (refine wpAnyH_take (i := 5) (v := ?_) rfl (by kernel_rfl) (by kernel_rfl) (by kernel_rfl) (fun _ _ _ h => h) (Or.inl ⟨by rfl, ?_⟩) (by assumption) ?_; rotate_left 1; (focus (intro w hSw; (try dsimp only at hSw); go_simp; (try with_reducible rfl))); (try simp only [List.getElem_toArray, List.getElem_cons_zero, List.getElem_cons_succ, Act.put, List.setIfInBounds_toArray, List.set_cons_zero, List.set_cons_succ]))
        (refine wpAnyH_take (i := 6) (v := ?_) rfl (by kernel_rfl) (by kernel_rfl) (by kernel_rfl) (fun _ _ _ h => h) (Or.inl ⟨by rfl, ?_⟩) (by assumption) ?_; rotate_left 1; (focus (intro w hSw; (try dsimp only at hSw); go_simp; (try with_reducible rfl))); (try simp only [List.getElem_toArray, List.getElem_cons_zero, List.getElem_cons_succ, Act.put, List.setIfInBounds_toArray, List.set_cons_zero, List.set_cons_succ]))
        (refine wpAnyH_take (i := 7) (v := ?_) rfl (by kernel_rfl) (by kernel_rfl) (by kernel_rfl) (fun _ _ _ h => h) (Or.inl ⟨by rfl, ?_⟩) (by assumption) ?_; rotate_left 1; (focus (intro w hSw; (try dsimp only at hSw); go_simp; (try with_reducible rfl))); (try simp only [List.getElem_toArray, List.getElem_cons_zero, List.getElem_cons_succ, Act.put, List.setIfInBounds_toArray, List.set_cons_zero, List.set_cons_succ]))
        (refine wpAnyH_take (i := 9) (v := ?_) rfl (by kernel_rfl) (by kernel_rfl) (by kernel_rfl) (fun _ _ _ h => h) (Or.inl ⟨by rfl, ?_⟩) (by assumption) ?_; rotate_left 1; (focus (intro w hSw; (try dsimp only at hSw); go_simp; (try with_reducible rfl))); (try simp only [List.getElem_toArray, List.getElem_cons_zero, List.getElem_cons_succ, Act.put, List.setIfInBounds_toArray, List.set_cons_zero, List.set_cons_succ]))
        (refine wpAnyH_take (i := 12) (v := ?_) rfl (by kernel_rfl) (by kernel_rfl) (by kernel_rfl) (fun _ _ _ h => h) (Or.inl ⟨by rfl, ?_⟩) (by assumption) ?_; rotate_left 1; (focus (intro w hSw; (try dsimp only at hSw); go_simp; (try with_reducible rfl))); (try simp only [List.getElem_toArray, List.getElem_cons_zero, List.getElem_cons_succ, Act.put, List.setIfInBounds_toArray, List.set_cons_zero, List.set_cons_succ]))
        (refine wpAnyH_take (i := 13) (v := ?_) rfl (by kernel_rfl) (by kernel_rfl) (by kernel_rfl) (fun _ _ _ h => h) (Or.inl ⟨by rfl, ?_⟩) (by assumption) ?_; rotate_left 1; (focus (intro w hSw; (try dsimp only at hSw); go_simp; (try with_reducible rfl))); (try simp only [List.getElem_toArray, List.getElem_cons_zero, List.getElem_cons_succ, Act.put, List.setIfInBounds_toArray, List.set_cons_zero, List.set_cons_succ]))
        (refine wpAnyH_take (i := 14) (v := ?_) rfl (by kernel_rfl) (by kernel_rfl) (by kernel_rfl) (fun _ _ _ h => h) (Or.inl ⟨by rfl, ?_⟩) (by assumption) ?_; rotate_left 1; (focus (intro w hSw; (try dsimp only at hSw); go_simp; (try with_reducible rfl))); (try simp only [List.getElem_toArray, List.getElem_cons_zero, List.getElem_cons_succ, Act.put, List.setIfInBounds_toArray, List.set_cons_zero, List.set_cons_succ]))
        (refine wpAnyH_take (i := 15) (v := ?_) rfl (by kernel_rfl) (by kernel_rfl) (by kernel_rfl) (fun _ _ _ h => h) (Or.inl ⟨by rfl, ?_⟩) (by assumption) ?_; rotate_left 1; (focus (intro w hSw; (try dsimp only at hSw); go_simp; (try with_reducible rfl))); (try simp only [List.getElem_toArray, List.getElem_cons_zero, List.getElem_cons_succ, Act.put, List.setIfInBounds_toArray, List.set_cons_zero, List.set_cons_succ]))
        (refine wpAnyH_take (i := 16) (v := ?_) rfl (by kernel_rfl) (by kernel_rfl) (by kernel_rfl) (fun _ _ _ h => h) (Or.inl ⟨by rfl, ?_⟩) (by assumption) ?_; rotate_left 1; (focus (intro w hSw; (try dsimp only at hSw); go_simp; (try with_reducible rfl))); (try simp only [List.getElem_toArray, List.getElem_cons_zero, List.getElem_cons_succ, Act.put, List.setIfInBounds_toArray, List.set_cons_zero, List.set_cons_succ]))
        (refine wpAnyH_take (i := 17) (v := ?_) rfl (by kernel_rfl) (by kernel_rfl) (by kernel_rfl) (fun _ _ _ h => h) (Or.inl ⟨by rfl, ?_⟩) (by assumption) ?_; rotate_left 1; (focus (intro w hSw; (try dsimp only at hSw); go_simp; (try with_reducible rfl))); (try simp only [List.getElem_toArray, List.getElem_cons_zero, List.getElem_cons_succ, Act.put, List.setIfInBounds_toArray, List.set_cons_zero, List.set_cons_succ]))
        (refine wpAnyH_take (i := 18) (v := ?_) rfl (by kernel_rfl) (by kernel_rfl) (by kernel_rfl) (fun _ _ _ h => h) (Or.inl ⟨by rfl, ?_⟩) (by assumption) ?_; rotate_left 1; (focus (intro w hSw; (try dsimp only at hSw); go_simp; (try with_reducible rfl))); (try simp only [List.getElem_toArray, List.getElem_cons_zero, List.getElem_cons_succ, Act.put, List.setIfInBounds_toArray, List.set_cons_zero, List.set_cons_succ]))
        (refine wpAnyH_ready (rs := [1, 10]) (by kernel_rfl) (by simp) ?_; refine AllReadyH.cons rfl (fun K hK => ?_) (AllReadyH.cons rfl (fun K hK => ?_) AllReadyH.nil))
        · skip
          have zz := ZF.out _ hC0
          go_simp
          clear zz
          (refine hK.out _ _ (by exact KP.out _ hC0) (fun hHeld => ?_); clear hK K; (try simp only [List.getElem_toArray, List.getElem_cons_zero, List.getElem_cons_succ, Act.put, List.setIfInBounds_toArray, List.set_cons_zero, List.set_cons_succ]))
          (refine wpAnyH_ready (rs := [8, 10]) (by kernel_rfl) (by simp) ?_; refine AllReadyH.cons rfl (fun K hK => ?_) (AllReadyH.cons rfl (fun K hK => ?_) AllReadyH.nil))
          · skip
            refine step_app0 rfl _ _ 56 rfl elem_ins rfl rfl (VC.out _ (HSC.out.trans' hC0)) (one_insC _) (by unfold maxLen; omega) (by omega) (fun ao1 cap1 r1 w4 hr4 hc4 hf4 => ?_)
            obtain ⟨hC4, hF4⟩ := own_new hC0 hc4 hf4
            (refine hK.out _ _ (by exact KP.out _ hC4) (fun hHeld => ?_); clear hK K; (try simp only [List.getElem_toArray, List.getElem_cons_zero, List.getElem_cons_succ, Act.put, List.setIfInBounds_toArray, List.set_cons_zero, List.set_cons_succ]))
            (refine wpAnyH_ready (rs := [10]) (by kernel_rfl) (by simp) ?_; refine AllReadyH.cons rfl (fun K hK => ?_) AllReadyH.nil)
            go_simp
            have hCB := hC4.alloc (.cells #[.int .i64 (-7), .int .i64 0, .int .i64 0, .int .i64 0, .int .i64 0] 61)
            (refine hK.out _ _ (by exact KP.out _ hCB) (fun hHeld => ?_); clear hK K; (try simp only [List.getElem_toArray, List.getElem_cons_zero, List.getElem_cons_succ, Act.put, List.setIfInBounds_toArray, List.set_cons_zero, List.set_cons_succ]))
            have hrB := hr4.keep ((Chg.refl [] _).alloc (.cells #[.int .i64 (-7), .int .i64 0, .int .i64 0, .int .i64 0, .int .i64 0] 61)) (by simp)
            have hvB := View.struct w4 [.int .i64 (-7), .int .i64 0, .int .i64 0, .int .i64 0, .int .i64 0] 61 rfl
            (refine wpAnyH_ready (rs := [11]) (by kernel_rfl) (by simp) ?_; refine AllReadyH.cons rfl (fun K hK => ?_) AllReadyH.nil)
            refine step_app rfl _ _ 56 rfl elem_ins rfl hrB rfl hvB (by simp [Value.oneCell']) (by unfold maxLen; omega) (by omega) (fun ao2 cap2 r2 w5 hr5 hc5 hf5 => ?_)
            have hC5 := own_step hC4 hF4 ((Chg.refl [] _).alloc _) hc5
            have hF5 := fresh_step hC4 hF4 ((Chg.refl [] _).alloc _) hf5
            have hcp := Nat.le_of_succ_le hr5.cap
            (refine hK.out _ _ (by exact KP.out _ hC5) (fun hHeld => ?_); clear hK K; (try simp only [List.getElem_toArray, List.getElem_cons_zero, List.getElem_cons_succ, Act.put, List.setIfInBounds_toArray, List.set_cons_zero, List.set_cons_succ]))
            (refine wpAnyH_ready (rs := [19]) (by kernel_rfl) (by simp) ?_; refine AllReadyH.cons rfl (fun K hK => ?_) AllReadyH.nil)
            go_simp
            (refine hK.out _ _ (by exact KP.out _ hC5) (fun hHeld => ?_); clear hK K; (try simp only [List.getElem_toArray, List.getElem_cons_zero, List.getElem_cons_succ, Act.put, List.setIfInBounds_toArray, List.set_cons_zero, List.set_cons_succ]))
            (refine wpAnyH_take (i := 20) (v := ?_) rfl (by kernel_rfl) (by kernel_rfl) (by kernel_rfl) (fun _ _ _ h => h) (Or.inl ⟨by rfl, ?_⟩) (by assumption) ?_; rotate_left 1; (focus (intro w hSw; (try dsimp only at hSw); go_simp; (try with_reducible rfl))); (try simp only [List.getElem_toArray, List.getElem_cons_zero, List.getElem_cons_succ, Act.put, List.setIfInBounds_toArray, List.set_cons_zero, List.set_cons_succ]))
            obtain ⟨g, rfl, hge6, hst6⟩ := HS5.out.step hC5 hr5 hF5 1
            (refine wpAnyH_ready (rs := [21]) (by kernel_rfl) (by simp) ?_; refine AllReadyH.cons rfl (fun K hK => ?_) AllReadyH.nil)
            have zz := ZF.out _ hC5
            have qq := (HS5.out.keep hC5).free (List.mem_cons_self ..) 1
            go_simp
            (refine hK.out _ _ (by exact ⟨(hst6.cell (List.mem_cons_of_mem _ (List.mem_cons_of_mem _ (List.mem_cons_of_mem _ (List.mem_cons_self ..)))) 4).trans rfl, hst6.chg.cell HD.out.1 (by simp)⟩) (fun hHeld => ?_); clear hK K; (try simp only [List.getElem_toArray, List.getElem_cons_zero, List.getElem_cons_succ, Act.put, List.setIfInBounds_toArray, List.set_cons_zero, List.set_cons_succ]))
            refine wpAnyH_done (by kernel_rfl) ?_ _
            go_wp2_with fail
            go_meet
            exact ⟨g, cap2, hid (by simp only [entI]; rw [HNC.out.1]; exact ⟨hst6, HO5.out.step hC5 1 _ _ hge6⟩)⟩
          · skip
            go_simp
            have hCB := HS5.out.cA (.cells #[.int .i64 (-7), .int .i64 0, .int .i64 0, .int .i64 0, .int .i64 0] 61)
            (refine hK.out _ _ (by exact KP.out _ hCB) (fun hHeld => ?_); clear hK K; (try simp only [List.getElem_toArray, List.getElem_cons_zero, List.getElem_cons_succ, Act.put, List.setIfInBounds_toArray, List.set_cons_zero, List.set_cons_succ]))
            (refine wpAnyH_ready (rs := [8]) (by kernel_rfl) (by simp) ?_; refine AllReadyH.cons rfl (fun K hK => ?_) AllReadyH.nil)
            refine step_app0 rfl _ _ 56 rfl elem_ins rfl rfl (VC.out _ (HSC.out.trans' hCB)) (one_insC _) (by unfold maxLen; omega) (by omega) (fun ao1 cap1 r1 w4 hr4 hc4 hf4 => ?_)
            obtain ⟨hC4, hF4⟩ := own_new hCB hc4 hf4
            have hvB := View.structD _ [.int .i64 (-7), .int .i64 0, .int .i64 0, .int .i64 0, .int .i64 0] 61 rfl hc4
            (refine hK.out _ _ (by exact KP.out _ hC4) (fun hHeld => ?_); clear hK K; (try simp only [List.getElem_toArray, List.getElem_cons_zero, List.getElem_cons_succ, Act.put, List.setIfInBounds_toArray, List.set_cons_zero, List.set_cons_succ]))
            (refine wpAnyH_ready (rs := [11]) (by kernel_rfl) (by simp) ?_; refine AllReadyH.cons rfl (fun K hK => ?_) AllReadyH.nil)
            refine step_app rfl _ _ 56 rfl elem_ins rfl hr4 rfl hvB (by simp [Value.oneCell']) (by unfold maxLen; omega) (by omega) (fun ao2 cap2 r2 w5 hr5 hc5 hf5 => ?_)
            have hC5 := own_step hC4 hF4 (Chg.refl [] _) hc5
            have hF5 := fresh_step hC4 hF4 (Chg.refl [] _) hf5
            have hcp := Nat.le_of_succ_le hr5.cap
            (refine hK.out _ _ (by exact KP.out _ hC5) (fun hHeld => ?_); clear hK K; (try simp only [List.getElem_toArray, List.getElem_cons_zero, List.getElem_cons_succ, Act.put, List.setIfInBounds_toArray, List.set_cons_zero, List.set_cons_succ]))
            (refine wpAnyH_ready (rs := [19]) (by kernel_rfl) (by simp) ?_; refine AllReadyH.cons rfl (fun K hK => ?_) AllReadyH.nil)
            go_simp
            (refine hK.out _ _ (by exact KP.out _ hC5) (fun hHeld => ?_); clear hK K; (try simp only [List.getElem_toArray, List.getElem_cons_zero, List.getElem_cons_succ, Act.put, List.setIfInBounds_toArray, List.set_cons_zero, List.set_cons_succ]))
            (refine wpAnyH_take (i := 20) (v := ?_) rfl (by kernel_rfl) (by kernel_rfl) (by kernel_rfl) (fun _ _ _ h => h) (Or.inl ⟨by rfl, ?_⟩) (by assumption) ?_; rotate_left 1; (focus (intro w hSw; (try dsimp only at hSw); go_simp; (try with_reducible rfl))); (try simp only [List.getElem_toArray, List.getElem_cons_zero, List.getElem_cons_succ, Act.put, List.setIfInBounds_toArray, List.set_cons_zero, List.set_cons_succ]))
            obtain ⟨g, rfl, hge6, hst6⟩ := HS5.out.step hC5 hr5 hF5 1
            (refine wpAnyH_ready (rs := [21]) (by kernel_rfl) (by simp) ?_; refine AllReadyH.cons rfl (fun K hK => ?_) AllReadyH.nil)
            have zz := ZF.out _ hC5
            have qq := (HS5.out.keep hC5).free (List.mem_cons_self ..) 1
            go_simp
            (refine hK.out _ _ (by exact ⟨(hst6.cell (List.mem_cons_of_mem _ (List.mem_cons_of_mem _ (List.mem_cons_of_mem _ (List.mem_cons_self ..)))) 4).trans rfl, hst6.chg.cell HD.out.1 (by simp)⟩) (fun hHeld => ?_); clear hK K; (try simp only [List.getElem_toArray, List.getElem_cons_zero, List.getElem_cons_succ, Act.put, List.setIfInBounds_toArray, List.set_cons_zero, List.set_cons_succ]))
            refine wpAnyH_done (by kernel_rfl) ?_ _
            go_wp2_with fail
            go_meet
            exact ⟨g, cap2, hid (by simp only [entI]; rw [HNC.out.1]; exact ⟨hst6, HO5.out.step hC5 1 _ _ hge6⟩)⟩
        · skip
          go_simp
          have hCB := HS5.out.cA (.cells #[.int .i64 (-7), .int .i64 0, .int .i64 0, .int .i64 0, .int .i64 0] 61)
          (refine hK.out _ _ (by exact KP.out _ hCB) (fun hHeld => ?_); clear hK K; (try simp only [List.getElem_toArray, List.getElem_cons_zero, List.getElem_cons_succ, Act.put, List.setIfInBounds_toArray, List.set_cons_zero, List.set_cons_succ]))
          (refine wpAnyH_ready (rs := [1]) (by kernel_rfl) (by simp) ?_; refine AllReadyH.cons rfl (fun K hK => ?_) AllReadyH.nil)
          have zz := ZF.out _ hCB
          go_simp
          clear zz
          (refine hK.out _ _ (by exact KP.out _ hCB) (fun hHeld => ?_); clear hK K; (try simp only [List.getElem_toArray, List.getElem_cons_zero, List.getElem_cons_succ, Act.put, List.setIfInBounds_toArray, List.set_cons_zero, List.set_cons_succ]))
          (refine wpAnyH_ready (rs := [8]) (by kernel_rfl) (by simp) ?_; refine AllReadyH.cons rfl (fun K hK => ?_) AllReadyH.nil)
          refine step_app0 rfl _ _ 56 rfl elem_ins rfl rfl (VC.out _ (HSC.out.trans' hCB)) (one_insC _) (by unfold maxLen; omega) (by omega) (fun ao1 cap1 r1 w4 hr4 hc4 hf4 => ?_)
          obtain ⟨hC4, hF4⟩ := own_new hCB hc4 hf4
          have hvB := View.structD _ [.int .i64 (-7), .int .i64 0, .int .i64 0, .int .i64 0, .int .i64 0] 61 rfl hc4
          (refine hK.out _ _ (by exact KP.out _ hC4) (fun hHeld => ?_); clear hK K; (try simp only [List.getElem_toArray, List.getElem_cons_zero, List.getElem_cons_succ, Act.put, List.setIfInBounds_toArray, List.set_cons_zero, List.set_cons_succ]))
          (refine wpAnyH_ready (rs := [11]) (by kernel_rfl) (by simp) ?_; refine AllReadyH.cons rfl (fun K hK => ?_) AllReadyH.nil)
          refine step_app rfl _ _ 56 rfl elem_ins rfl hr4 rfl hvB (by simp [Value.oneCell']) (by unfold maxLen; omega) (by omega) (fun ao2 cap2 r2 w5 hr5 hc5 hf5 => ?_)
          have hC5 := own_step hC4 hF4 (Chg.refl [] _) hc5
          have hF5 := fresh_step hC4 hF4 (Chg.refl [] _) hf5
          have hcp := Nat.le_of_succ_le hr5.cap
          (refine hK.out _ _ (by exact KP.out _ hC5) (fun hHeld => ?_); clear hK K; (try simp only [List.getElem_toArray, List.getElem_cons_zero, List.getElem_cons_succ, Act.put, List.setIfInBounds_toArray, List.set_cons_zero, List.set_cons_succ]))
          (refine wpAnyH_ready (rs := [19]) (by kernel_rfl) (by simp) ?_; refine AllReadyH.cons rfl (fun K hK => ?_) AllReadyH.nil)
          go_simp
          (refine hK.out _ _ (by exact KP.out _ hC5) (fun hHeld => ?_); clear hK K; (try simp only [List.getElem_toArray, List.getElem_cons_zero, List.getElem_cons_succ, Act.put, List.setIfInBounds_toArray, List.set_cons_zero, List.set_cons_succ]))
          (refine wpAnyH_take (i := 20) (v := ?_) rfl (by kernel_rfl) (by kernel_rfl) (by kernel_rfl) (fun _ _ _ h => h) (Or.inl ⟨by rfl, ?_⟩) (by assumption) ?_; rotate_left 1; (focus (intro w hSw; (try dsimp only at hSw); go_simp; (try with_reducible rfl))); (try simp only [List.getElem_toArray, List.getElem_cons_zero, List.getElem_cons_succ, Act.put, List.setIfInBounds_toArray, List.set_cons_zero, List.set_cons_succ]))
          obtain ⟨g, rfl, hge6, hst6⟩ := HS5.out.step hC5 hr5 hF5 1
          (refine wpAnyH_ready (rs := [21]) (by kernel_rfl) (by simp) ?_; refine AllReadyH.cons rfl (fun K hK => ?_) AllReadyH.nil)
          have zz := ZF.out _ hC5
          have qq := (HS5.out.keep hC5).free (List.mem_cons_self ..) 1
          go_simp
          (refine hK.out _ _ (by exact ⟨(hst6.cell (List.mem_cons_of_mem _ (List.mem_cons_of_mem _ (List.mem_cons_of_mem _ (List.mem_cons_self ..)))) 4).trans rfl, hst6.chg.cell HD.out.1 (by simp)⟩) (fun hHeld => ?_); clear hK K; (try simp only [List.getElem_toArray, List.getElem_cons_zero, List.getElem_cons_succ, Act.put, List.setIfInBounds_toArray, List.set_cons_zero, List.set_cons_succ]))
          refine wpAnyH_done (by kernel_rfl) ?_ _
          go_wp2_with fail
          go_meet
          exact ⟨g, cap2, hid (by simp only [entI]; rw [HNC.out.1]; exact ⟨hst6, HO5.out.step hC5 1 _ _ hge6⟩)⟩
      case rest =>
      obtain ⟨gc, ccx, HH⟩ := hcut
      have HS6 := hid HH.out.1
      have HO6 := hid HH.out.2
      clear HH HS5 HO5 KP ZF HSC VC
      go_wp2_with fail
      have KP := hid fun u (hu : Chg [] _ u) => And.intro (((HS6.out.keep hu).cell (List.mem_cons_of_mem _ (List.mem_cons_of_mem _ (List.mem_cons_of_mem _ (List.mem_cons_self ..)))) 4).trans (rfl : _ = some (Value.slice (some ⟨bb, off, none⟩) n5 k5))) ((HS6.out.keep hu).chg.cell HD.out.2 (by simp))
      have ZF := hid fun u (hu : Chg [] _ u) => ((HS6.out.keep hu).cell (List.mem_cons_self ..) 2).trans (rfl : _ = some (Value.slice none 0 0))
      have HSC := hid HS6.out.chg
      go_cut [92] (fun _ wx => ∃ g c, Hid (St w wx [(b5, .cells #[Value.string nm, .slice (some ⟨gc, 0, none⟩) nc ccx, .slice (some ⟨g, 0, none⟩) np c] 59 (0, 0)), (b3, .cells #[.slice (some ⟨g0, 0, none⟩) n1 c0, .slice (some ⟨g1, 0, none⟩) n2 c1, .slice (some ⟨g2, 0, none⟩) n3 c2, .slice (some ⟨g3, 0, none⟩) n4 c3, .slice ao i cap] 28 (0, 0)), (b2, .cells #[Value.slice none 0 0, Value.slice none 0 0, Value.slice none 0 0, Value.slice none 0 0, Value.slice none 0 0] 28 (0, 0)), (b1, .cells #[Value.slice a1 n1 k1, .slice a2 n2 k2, .slice a3 n3 k3, .slice a4 n4 k4, .slice (some ⟨bb, off, none⟩) n5 k5] 28 (0, 0))] (ES ++ entsT tg ++ [entI code gc ccx] ++ [entJ places g c]) ∧ Opn w wx [(b5, .cells #[Value.string nm, .slice (some ⟨gc, 0, none⟩) nc ccx, .slice (some ⟨g, 0, none⟩) np c] 59 (0, 0)), (b3, .cells #[.slice (some ⟨g0, 0, none⟩) n1 c0, .slice (some ⟨g1, 0, none⟩) n2 c1, .slice (some ⟨g2, 0, none⟩) n3 c2, .slice (some ⟨g3, 0, none⟩) n4 c3, .slice ao i cap] 28 (0, 0)), (b2, .cells #[Value.slice none 0 0, Value.slice none 0 0, Value.slice none 0 0, Value.slice none 0 0, Value.slice none 0 0] 28 (0, 0)), (b1, .cells #[Value.slice a1 n1 k1, .slice a2 n2 k2, .slice a3 n3 k3, .slice a4 n4 k4, .slice (some ⟨bb, off, none⟩) n5 k5] 28 (0, 0))] (ES ++ entsT tg ++ [entI code gc ccx] ++ [entJ places g c]) 59 3 (.slice ao i cap) i ((tg.map ThrG.v).flatMap thrC)))
      case first =>
        refine wp_region_held_drew (S := (fun w' => w'.cell? ⟨b1, 4, none⟩ = some (.slice (some ⟨bb, off, none⟩) n5 k5) ∧ w'.cell? ⟨bb, off + i * 3 + 2, none⟩ = some (.slice ap np cp))) (by kernel_rfl) (by exact KP.out _ HS6.out.c0) (fun hHeld => ?_)
        have hC0 := HS6.out.c0
        (refine wpAnyH_take (i := 0) (v := ?_) rfl (by kernel_rfl) (by kernel_rfl) (by kernel_rfl) (fun _ _ _ h => h) (Or.inl ⟨by rfl, ?_⟩) (by assumption) ?_; rotate_left 1; (focus (intro w hSw; (try dsimp only at hSw); go_simp; (try with_reducible rfl))); (try simp only [List.getElem_toArray, List.getElem_cons_zero, List.getElem_cons_succ, Act.put, List.setIfInBounds_toArray, List.set_cons_zero, List.set_cons_succ]))
        (refine wpAnyH_take (i := 2) (v := ?_) rfl (by kernel_rfl) (by kernel_rfl) (by kernel_rfl) (fun _ _ _ h => h) (Or.inl ⟨by rfl, ?_⟩) (by assumption) ?_; rotate_left 1; (focus (intro w hSw; (try dsimp only at hSw); go_simp; (try with_reducible rfl))); (try simp only [List.getElem_toArray, List.getElem_cons_zero, List.getElem_cons_succ, Act.put, List.setIfInBounds_toArray, List.set_cons_zero, List.set_cons_succ]))
        (refine wpAnyH_take (i := 3) (v := ?_) rfl (by kernel_rfl) (by kernel_rfl) (by kernel_rfl) (fun _ _ _ h => h) (Or.inl ⟨by rfl, ?_⟩) (by assumption) ?_; rotate_left 1; (focus (intro w hSw; (try dsimp only at hSw); go_simp; (try with_reducible rfl))); (try simp only [List.getElem_toArray, List.getElem_cons_zero, List.getElem_cons_succ, Act.put, List.setIfInBounds_toArray, List.set_cons_zero, List.set_cons_succ]))
        (refine wpAnyH_take (i := 4) (v := ?_) rfl (by kernel_rfl) (by kernel_rfl) (by kernel_rfl) (fun _ _ _ h => h) (Or.inl ⟨by rfl, ?_⟩) (by assumption) ?_; rotate_left 1; (focus (intro w hSw; (try dsimp only at hSw); go_simp; (try with_reducible rfl))); (try simp only [List.getElem_toArray, List.getElem_cons_zero, List.getElem_cons_succ, Act.put, List.setIfInBounds_toArray, List.set_cons_zero, List.set_cons_succ]))
        (refine wpAnyH_take (i := 5) (v := ?_) rfl (by kernel_rfl) (by kernel_rfl) (by kernel_rfl) (fun _ _ _ h => h) (Or.inl ⟨by rfl, ?_⟩) (by assumption) ?_; rotate_left 1; (focus (intro w hSw; (try dsimp only at hSw); go_simp; (try with_reducible rfl))); (try simp only [List.getElem_toArray, List.getElem_cons_zero, List.getElem_cons_succ, Act.put, List.setIfInBounds_toArray, List.set_cons_zero, List.set_cons_succ]))
        (refine wpAnyH_take (i := 6) (v := ?_) rfl (by kernel_rfl) (by kernel_rfl) (by kernel_rfl) (fun _ _ _ h => h) (Or.inl ⟨by rfl, ?_⟩) (by assumption) ?_; rotate_left 1; (focus (intro w hSw; (try dsimp only at hSw); go_simp; (try with_reducible rfl))); (try simp only [List.getElem_toArray, List.getElem_cons_zero, List.getElem_cons_succ, Act.put, List.setIfInBounds_toArray, List.set_cons_zero, List.set_cons_succ]))
        (refine wpAnyH_take (i := 7) (v := ?_) rfl (by kernel_rfl) (by kernel_rfl) (by kernel_rfl) (fun _ _ _ h => h) (Or.inl ⟨by rfl, ?_⟩) (by assumption) ?_; rotate_left 1; (focus (intro w hSw; (try dsimp only at hSw); go_simp; (try with_reducible rfl))); (try simp only [List.getElem_toArray, List.getElem_cons_zero, List.getElem_cons_succ, Act.put, List.setIfInBounds_toArray, List.set_cons_zero, List.set_cons_succ]))
        (refine wpAnyH_take (i := 9) (v := ?_) rfl (by kernel_rfl) (by kernel_rfl) (by kernel_rfl) (fun _ _ _ h => h) (Or.inl ⟨by rfl, ?_⟩) (by assumption) ?_; rotate_left 1; (focus (intro w hSw; (try dsimp only at hSw); go_simp; (try with_reducible rfl))); (try simp only [List.getElem_toArray, List.getElem_cons_zero, List.getElem_cons_succ, Act.put, List.setIfInBounds_toArray, List.set_cons_zero, List.set_cons_succ]))
        (refine wpAnyH_take (i := 12) (v := ?_) rfl (by kernel_rfl) (by kernel_rfl) (by kernel_rfl) (fun _ _ _ h => h) (Or.inl ⟨by rfl, ?_⟩) (by assumption) ?_; rotate_left 1; (focus (intro w hSw; (try dsimp only at hSw); go_simp; (try with_reducible rfl))); (try simp only [List.getElem_toArray, List.getElem_cons_zero, List.getElem_cons_succ, Act.put, List.setIfInBounds_toArray, List.set_cons_zero, List.set_cons_succ]))
        (refine wpAnyH_take (i := 13) (v := ?_) rfl (by kernel_rfl) (by kernel_rfl) (by kernel_rfl) (fun _ _ _ h => h) (Or.inl ⟨by rfl, ?_⟩) (by assumption) ?_; rotate_left 1; (focus (intro w hSw; (try dsimp only at hSw); go_simp; (try with_reducible rfl))); (try simp only [List.getElem_toArray, List.getElem_cons_zero, List.getElem_cons_succ, Act.put, List.setIfInBounds_toArray, List.set_cons_zero, List.set_cons_succ]))
        (refine wpAnyH_take (i := 14) (v := ?_) rfl (by kernel_rfl) (by kernel_rfl) (by kernel_rfl) (fun _ _ _ h => h) (Or.inl ⟨by rfl, ?_⟩) (by assumption) ?_; rotate_left 1; (focus (intro w hSw; (try dsimp only at hSw); go_simp; (try with_reducible rfl))); (try simp only [List.getElem_toArray, List.getElem_cons_zero, List.getElem_cons_succ, Act.put, List.setIfInBounds_toArray, List.set_cons_zero, List.set_cons_succ]))
        (refine wpAnyH_take (i := 15) (v := ?_) rfl (by kernel_rfl) (by kernel_rfl) (by kernel_rfl) (fun _ _ _ h => h) (Or.inl ⟨by rfl, ?_⟩) (by assumption) ?_; rotate_left 1; (focus (intro w hSw; (try dsimp only at hSw); go_simp; (try with_reducible rfl))); (try simp only [List.getElem_toArray, List.getElem_cons_zero, List.getElem_cons_succ, Act.put, List.setIfInBounds_toArray, List.set_cons_zero, List.set_cons_succ]))
        (refine wpAnyH_take (i := 16) (v := ?_) rfl (by kernel_rfl) (by kernel_rfl) (by kernel_rfl) (fun _ _ _ h => h) (Or.inl ⟨by rfl, ?_⟩) (by assumption) ?_; rotate_left 1; (focus (intro w hSw; (try dsimp only at hSw); go_simp; (try with_reducible rfl))); (try simp only [List.getElem_toArray, List.getElem_cons_zero, List.getElem_cons_succ, Act.put, List.setIfInBounds_toArray, List.set_cons_zero, List.set_cons_succ]))
        (refine wpAnyH_take (i := 17) (v := ?_) rfl (by kernel_rfl) (by kernel_rfl) (by kernel_rfl) (fun _ _ _ h => h) (Or.inl ⟨by rfl, ?_⟩) (by assumption) ?_; rotate_left 1; (focus (intro w hSw; (try dsimp only at hSw); go_simp; (try with_reducible rfl))); (try simp only [List.getElem_toArray, List.getElem_cons_zero, List.getElem_cons_succ, Act.put, List.setIfInBounds_toArray, List.set_cons_zero, List.set_cons_succ]))
        (refine wpAnyH_take (i := 18) (v := ?_) rfl (by kernel_rfl) (by kernel_rfl) (by kernel_rfl) (fun _ _ _ h => h) (Or.inl ⟨by rfl, ?_⟩) (by assumption) ?_; rotate_left 1; (focus (intro w hSw; (try dsimp only at hSw); go_simp; (try with_reducible rfl))); (try simp only [List.getElem_toArray, List.getElem_cons_zero, List.getElem_cons_succ, Act.put, List.setIfInBounds_toArray, List.set_cons_zero, List.set_cons_succ]))
        (refine wpAnyH_ready (rs := [1, 10]) (by kernel_rfl) (by simp) ?_; refine AllReadyH.cons rfl (fun K hK => ?_) (AllReadyH.cons rfl (fun K hK => ?_) AllReadyH.nil))
        · skip
          have zz := ZF.out _ hC0
          go_simp
          clear zz
          (refine hK.out _ _ (by exact KP.out _ hC0) (fun hHeld => ?_); clear hK K; (try simp only [List.getElem_toArray, List.getElem_cons_zero, List.getElem_cons_succ, Act.put, List.setIfInBounds_toArray, List.set_cons_zero, List.set_cons_succ]))
          (refine wpAnyH_ready (rs := [8, 10]) (by kernel_rfl) (by simp) ?_; refine AllReadyH.cons rfl (fun K hK => ?_) (AllReadyH.cons rfl (fun K hK => ?_) AllReadyH.nil))
          · skip
            refine step_app0 rfl _ _ 57 rfl elem_plc rfl rfl (VP.out _ (HSC.out.trans' hC0)) (one_plcC _) (by unfold maxLen; omega) (by omega) (fun ao1 cap1 r1 w4 hr4 hc4 hf4 => ?_)
            obtain ⟨hC4, hF4⟩ := own_new hC0 hc4 hf4
            (refine hK.out _ _ (by exact KP.out _ hC4) (fun hHeld => ?_); clear hK K; (try simp only [List.getElem_toArray, List.getElem_cons_zero, List.getElem_cons_succ, Act.put, List.setIfInBounds_toArray, List.set_cons_zero, List.set_cons_succ]))
            (refine wpAnyH_ready (rs := [10]) (by kernel_rfl) (by simp) ?_; refine AllReadyH.cons rfl (fun K hK => ?_) AllReadyH.nil)
            go_simp
            have hCB := hC4.alloc (.cells #[.int .i64 (-7), .int .i64 0] 63)
            (refine hK.out _ _ (by exact KP.out _ hCB) (fun hHeld => ?_); clear hK K; (try simp only [List.getElem_toArray, List.getElem_cons_zero, List.getElem_cons_succ, Act.put, List.setIfInBounds_toArray, List.set_cons_zero, List.set_cons_succ]))
            have hrB := hr4.keep ((Chg.refl [] _).alloc (.cells #[.int .i64 (-7), .int .i64 0] 63)) (by simp)
            have hvB := View.struct w4 [.int .i64 (-7), .int .i64 0] 63 rfl
            (refine wpAnyH_ready (rs := [11]) (by kernel_rfl) (by simp) ?_; refine AllReadyH.cons rfl (fun K hK => ?_) AllReadyH.nil)
            refine step_app rfl _ _ 57 rfl elem_plc rfl hrB rfl hvB (by simp [Value.oneCell']) (by unfold maxLen; omega) (by omega) (fun ao2 cap2 r2 w5 hr5 hc5 hf5 => ?_)
            have hC5 := own_step hC4 hF4 ((Chg.refl [] _).alloc _) hc5
            have hF5 := fresh_step hC4 hF4 ((Chg.refl [] _).alloc _) hf5
            have hcp := Nat.le_of_succ_le hr5.cap
            (refine hK.out _ _ (by exact KP.out _ hC5) (fun hHeld => ?_); clear hK K; (try simp only [List.getElem_toArray, List.getElem_cons_zero, List.getElem_cons_succ, Act.put, List.setIfInBounds_toArray, List.set_cons_zero, List.set_cons_succ]))
            (refine wpAnyH_ready (rs := [19]) (by kernel_rfl) (by simp) ?_; refine AllReadyH.cons rfl (fun K hK => ?_) AllReadyH.nil)
            go_simp
            (refine hK.out _ _ (by exact KP.out _ hC5) (fun hHeld => ?_); clear hK K; (try simp only [List.getElem_toArray, List.getElem_cons_zero, List.getElem_cons_succ, Act.put, List.setIfInBounds_toArray, List.set_cons_zero, List.set_cons_succ]))
            (refine wpAnyH_take (i := 20) (v := ?_) rfl (by kernel_rfl) (by kernel_rfl) (by kernel_rfl) (fun _ _ _ h => h) (Or.inl ⟨by rfl, ?_⟩) (by assumption) ?_; rotate_left 1; (focus (intro w hSw; (try dsimp only at hSw); go_simp; (try with_reducible rfl))); (try simp only [List.getElem_toArray, List.getElem_cons_zero, List.getElem_cons_succ, Act.put, List.setIfInBounds_toArray, List.set_cons_zero, List.set_cons_succ]))
            obtain ⟨g, rfl, hge6, hst6⟩ := HS6.out.step hC5 hr5 hF5 2
            (refine wpAnyH_ready (rs := [21]) (by kernel_rfl) (by simp) ?_; refine AllReadyH.cons rfl (fun K hK => ?_) AllReadyH.nil)
            have zz := ZF.out _ hC5
            have qq := (HS6.out.keep hC5).free (List.mem_cons_self ..) 2
            go_simp
            (refine hK.out _ _ (by exact ⟨(hst6.cell (List.mem_cons_of_mem _ (List.mem_cons_of_mem _ (List.mem_cons_of_mem _ (List.mem_cons_self ..)))) 4).trans rfl, hst6.chg.cell HD.out.2 (by simp)⟩) (fun hHeld => ?_); clear hK K; (try simp only [List.getElem_toArray, List.getElem_cons_zero, List.getElem_cons_succ, Act.put, List.setIfInBounds_toArray, List.set_cons_zero, List.set_cons_succ]))
            refine wpAnyH_done (by kernel_rfl) ?_ _
            go_wp2_with fail
            go_meet
            exact ⟨g, cap2, hid (by simp only [entJ]; rw [HNC.out.2]; exact ⟨hst6, HO6.out.step hC5 2 _ _ hge6⟩)⟩
          · skip
            go_simp
            have hCB := HS6.out.cA (.cells #[.int .i64 (-7), .int .i64 0] 63)
            (refine hK.out _ _ (by exact KP.out _ hCB) (fun hHeld => ?_); clear hK K; (try simp only [List.getElem_toArray, List.getElem_cons_zero, List.getElem_cons_succ, Act.put, List.setIfInBounds_toArray, List.set_cons_zero, List.set_cons_succ]))
            (refine wpAnyH_ready (rs := [8]) (by kernel_rfl) (by simp) ?_; refine AllReadyH.cons rfl (fun K hK => ?_) AllReadyH.nil)
            refine step_app0 rfl _ _ 57 rfl elem_plc rfl rfl (VP.out _ (HSC.out.trans' hCB)) (one_plcC _) (by unfold maxLen; omega) (by omega) (fun ao1 cap1 r1 w4 hr4 hc4 hf4 => ?_)
            obtain ⟨hC4, hF4⟩ := own_new hCB hc4 hf4
            have hvB := View.structD _ [.int .i64 (-7), .int .i64 0] 63 rfl hc4
            (refine hK.out _ _ (by exact KP.out _ hC4) (fun hHeld => ?_); clear hK K; (try simp only [List.getElem_toArray, List.getElem_cons_zero, List.getElem_cons_succ, Act.put, List.setIfInBounds_toArray, List.set_cons_zero, List.set_cons_succ]))
            (refine wpAnyH_ready (rs := [11]) (by kernel_rfl) (by simp) ?_; refine AllReadyH.cons rfl (fun K hK => ?_) AllReadyH.nil)
            refine step_app rfl _ _ 57 rfl elem_plc rfl hr4 rfl hvB (by simp [Value.oneCell']) (by unfold maxLen; omega) (by omega) (fun ao2 cap2 r2 w5 hr5 hc5 hf5 => ?_)
            have hC5 := own_step hC4 hF4 (Chg.refl [] _) hc5
            have hF5 := fresh_step hC4 hF4 (Chg.refl [] _) hf5
            have hcp := Nat.le_of_succ_le hr5.cap
            (refine hK.out _ _ (by exact KP.out _ hC5) (fun hHeld => ?_); clear hK K; (try simp only [List.getElem_toArray, List.getElem_cons_zero, List.getElem_cons_succ, Act.put, List.setIfInBounds_toArray, List.set_cons_zero, List.set_cons_succ]))
            (refine wpAnyH_ready (rs := [19]) (by kernel_rfl) (by simp) ?_; refine AllReadyH.cons rfl (fun K hK => ?_) AllReadyH.nil)
            go_simp
            (refine hK.out _ _ (by exact KP.out _ hC5) (fun hHeld => ?_); clear hK K; (try simp only [List.getElem_toArray, List.getElem_cons_zero, List.getElem_cons_succ, Act.put, List.setIfInBounds_toArray, List.set_cons_zero, List.set_cons_succ]))
            (refine wpAnyH_take (i := 20) (v := ?_) rfl (by kernel_rfl) (by kernel_rfl) (by kernel_rfl) (fun _ _ _ h => h) (Or.inl ⟨by rfl, ?_⟩) (by assumption) ?_; rotate_left 1; (focus (intro w hSw; (try dsimp only at hSw); go_simp; (try with_reducible rfl))); (try simp only [List.getElem_toArray, List.getElem_cons_zero, List.getElem_cons_succ, Act.put, List.setIfInBounds_toArray, List.set_cons_zero, List.set_cons_succ]))
            obtain ⟨g, rfl, hge6, hst6⟩ := HS6.out.step hC5 hr5 hF5 2
            (refine wpAnyH_ready (rs := [21]) (by kernel_rfl) (by simp) ?_; refine AllReadyH.cons rfl (fun K hK => ?_) AllReadyH.nil)
            have zz := ZF.out _ hC5
            have qq := (HS6.out.keep hC5).free (List.mem_cons_self ..) 2
            go_simp
            (refine hK.out _ _ (by exact ⟨(hst6.cell (List.mem_cons_of_mem _ (List.mem_cons_of_mem _ (List.mem_cons_of_mem _ (List.mem_cons_self ..)))) 4).trans rfl, hst6.chg.cell HD.out.2 (by simp)⟩) (fun hHeld => ?_); clear hK K; (try simp only [List.getElem_toArray, List.getElem_cons_zero, List.getElem_cons_succ, Act.put, List.setIfInBounds_toArray, List.set_cons_zero, List.set_cons_succ]))
            refine wpAnyH_done (by kernel_rfl) ?_ _
            go_wp2_with fail
            go_meet
            exact ⟨g, cap2, hid (by simp only [entJ]; rw [HNC.out.2]; exact ⟨hst6, HO6.out.step hC5 2 _ _ hge6⟩)⟩
        · skip
          go_simp
          have hCB := HS6.out.cA (.cells #[.int .i64 (-7), .int .i64 0] 63)
          (refine hK.out _ _ (by exact KP.out _ hCB) (fun hHeld => ?_); clear hK K; (try simp only [List.getElem_toArray, List.getElem_cons_zero, List.getElem_cons_succ, Act.put, List.setIfInBounds_toArray, List.set_cons_zero, List.set_cons_succ]))
          (refine wpAnyH_ready (rs := [1]) (by kernel_rfl) (by simp) ?_; refine AllReadyH.cons rfl (fun K hK => ?_) AllReadyH.nil)
          have zz := ZF.out _ hCB
          go_simp
          clear zz
          (refine hK.out _ _ (by exact KP.out _ hCB) (fun hHeld => ?_); clear hK K; (try simp only [List.getElem_toArray, List.getElem_cons_zero, List.getElem_cons_succ, Act.put, List.setIfInBounds_toArray, List.set_cons_zero, List.set_cons_succ]))
          (refine wpAnyH_ready (rs := [8]) (by kernel_rfl) (by simp) ?_; refine AllReadyH.cons rfl (fun K hK => ?_) AllReadyH.nil)
          refine step_app0 rfl _ _ 57 rfl elem_plc rfl rfl (VP.out _ (HSC.out.trans' hCB)) (one_plcC _) (by unfold maxLen; omega) (by omega) (fun ao1 cap1 r1 w4 hr4 hc4 hf4 => ?_)
          obtain ⟨hC4, hF4⟩ := own_new hCB hc4 hf4
          have hvB := View.structD _ [.int .i64 (-7), .int .i64 0] 63 rfl hc4
          (refine hK.out _ _ (by exact KP.out _ hC4) (fun hHeld => ?_); clear hK K; (try simp only [List.getElem_toArray, List.getElem_cons_zero, List.getElem_cons_succ, Act.put, List.setIfInBounds_toArray, List.set_cons_zero, List.set_cons_succ]))
          (refine wpAnyH_ready (rs := [11]) (by kernel_rfl) (by simp) ?_; refine AllReadyH.cons rfl (fun K hK => ?_) AllReadyH.nil)
          refine step_app rfl _ _ 57 rfl elem_plc rfl hr4 rfl hvB (by simp [Value.oneCell']) (by unfold maxLen; omega) (by omega) (fun ao2 cap2 r2 w5 hr5 hc5 hf5 => ?_)
          have hC5 := own_step hC4 hF4 (Chg.refl [] _) hc5
          have hF5 := fresh_step hC4 hF4 (Chg.refl [] _) hf5
          have hcp := Nat.le_of_succ_le hr5.cap
          (refine hK.out _ _ (by exact KP.out _ hC5) (fun hHeld => ?_); clear hK K; (try simp only [List.getElem_toArray, List.getElem_cons_zero, List.getElem_cons_succ, Act.put, List.setIfInBounds_toArray, List.set_cons_zero, List.set_cons_succ]))
          (refine wpAnyH_ready (rs := [19]) (by kernel_rfl) (by simp) ?_; refine AllReadyH.cons rfl (fun K hK => ?_) AllReadyH.nil)
          go_simp
          (refine hK.out _ _ (by exact KP.out _ hC5) (fun hHeld => ?_); clear hK K; (try simp only [List.getElem_toArray, List.getElem_cons_zero, List.getElem_cons_succ, Act.put, List.setIfInBounds_toArray, List.set_cons_zero, List.set_cons_succ]))
          (refine wpAnyH_take (i := 20) (v := ?_) rfl (by kernel_rfl) (by kernel_rfl) (by kernel_rfl) (fun _ _ _ h => h) (Or.inl ⟨by rfl, ?_⟩) (by assumption) ?_; rotate_left 1; (focus (intro w hSw; (try dsimp only at hSw); go_simp; (try with_reducible rfl))); (try simp only [List.getElem_toArray, List.getElem_cons_zero, List.getElem_cons_succ, Act.put, List.setIfInBounds_toArray, List.set_cons_zero, List.set_cons_succ]))
          obtain ⟨g, rfl, hge6, hst6⟩ := HS6.out.step hC5 hr5 hF5 2
          (refine wpAnyH_ready (rs := [21]) (by kernel_rfl) (by simp) ?_; refine AllReadyH.cons rfl (fun K hK => ?_) AllReadyH.nil)
          have zz := ZF.out _ hC5
          have qq := (HS6.out.keep hC5).free (List.mem_cons_self ..) 2
          go_simp
          (refine hK.out _ _ (by exact ⟨(hst6.cell (List.mem_cons_of_mem _ (List.mem_cons_of_mem _ (List.mem_cons_of_mem _ (List.mem_cons_self ..)))) 4).trans rfl, hst6.chg.cell HD.out.2 (by simp)⟩) (fun hHeld => ?_); clear hK K; (try simp only [List.getElem_toArray, List.getElem_cons_zero, List.getElem_cons_succ, Act.put, List.setIfInBounds_toArray, List.set_cons_zero, List.set_cons_succ]))
          refine wpAnyH_done (by kernel_rfl) ?_ _
          go_wp2_with fail
          go_meet
          exact ⟨g, cap2, hid (by simp only [entJ]; rw [HNC.out.2]; exact ⟨hst6, HO6.out.step hC5 2 _ _ hge6⟩)⟩
      case rest =>
      obtain ⟨gp, cpx, HH⟩ := hcut
      have HS7 := hid HH.out.1
      have HO7 := hid HH.out.2
      clear HH HS6 HO6 KP ZF HSC VP
      obtain ⟨r4, hr4, hrr⟩ := HO7.out
      have x3 := (HS7.out.cell (List.mem_cons_of_mem _ (List.mem_cons_self ..)) 4).trans (rfl : _ = some (Value.slice ao i cap))
      have y0 := (HS7.out.cell (List.mem_cons_self ..) 0).trans (rfl : _ = some (Value.string nm))
      have y1 := (HS7.out.cell (List.mem_cons_self ..) 1).trans (rfl : _ = some (Value.slice (some ⟨gc, 0, none⟩) nc ccx))
      have y2 := (HS7.out.cell (List.mem_cons_self ..) 2).trans (rfl : _ = some (Value.slice (some ⟨gp, 0, none⟩) np cpx))
      have HR := hid fun o => hr4.keep ((Chg.refl [] _).alloc o) (by simp)
      have HRR := hid (And.intro hr4 hrr)
      clear hr4 hrr
      go_wp2_with (at_builtin; refine wpList_app rfl _ _ 26 rfl elem_thr rfl (HR.out _) rfl (View.struct _ [.string nm, .slice (some ⟨gc, 0, none⟩) nc ccx, .slice (some ⟨gp, 0, none⟩) np cpx] 59 rfl) (by simp [Value.oneCell']) (by unfold maxLen; omega) (by omega) (fun ao' cap' r' w2 hr2 hc2 hf2 _ => halt (fun X hX => ?_)))
      rw [hX.out]; clear hX
      obtain ⟨hst8, hrr8⟩ := HS7.out.app HRR.out.1 HRR.out.2 ((Chg.refl [] _).alloc _) hc2 hf2
      clear x3 y0 y1 y2 HR HRR HS7 HO7
      have z3 := (hst8.cell (List.mem_cons_of_mem _ (List.mem_cons_self ..)) 4).trans (rfl : _ = some (Value.slice ao i cap))
      have q3 := hst8.free (List.mem_cons_of_mem _ (List.mem_cons_self ..)) 4
      have HS8 := hid ((hst8.sub (List.sublist_cons_self _ _)).put 4 (.slice ao' (i + 1) cap'))
      have HO8 := hid (Opn.put hr2 (fun g hg => ⟨(hrr8 g hg).1, (hrr8 g hg).2.1, fun q hq => (hrr8 g hg).2.2 q (List.mem_cons_of_mem _ hq)⟩) 4 (.slice ao' (i + 1) cap'))
      clear hst8 hrr8 hr2 hc2 hf2
      go_wp2
      go_roundw
      case rel =>
        refine ⟨i + 1, by omega, by go_num, hid ⟨tg ++ [⟨⟨nm, code, places⟩, ccx, gc, cpx, gp⟩], ao', cap', by rw [List.map_append, HTK.out.1, HTK.out.2]; rfl, ?_, ?_⟩⟩
        · rw [entsT_snoc, ← List.append_assoc, ← List.append_assoc]
          exact HS8.out
        · rw [entsT_snoc, ← List.append_assoc, ← List.append_assoc, List.map_append, List.flatMap_append]
          have h := HO8.out (.cells #[.slice (some ⟨g0, 0, none⟩) n1 c0, .slice (some ⟨g1, 0, none⟩) n2 c1, .slice (some ⟨g2, 0, none⟩) n3 c2, .slice (some ⟨g3, 0, none⟩) n4 c3, .slice ao' (i + 1) cap'] 28 (0, 0))
          simp only [List.map_cons, List.map_nil, List.flatMap_cons, List.flatMap_nil, List.append_nil, ThrG.v, thrC, ThrG.code, ThrG.plcs, HNC.out.1, HNC.out.2]
          exact h
      case measure => simp [intOf]; omega
    · obtain rfl : n5 = i := by omega
      obtain ⟨tg, ao, cap, htg, hst, hop⟩ := HI.out
      rw [List.take_of_length_le (by rw [HN.out.2.2.2.2.1]; exact Nat.le_refl _)] at htg
      have y4 := (hst.cell (List.mem_cons_of_mem _ (List.mem_cons_of_mem _ (List.mem_cons_self ..))) 4).trans (rfl : _ = some (Value.slice a5 n5 k5))
      have HS9 := hid hst
      have HO9 := hid hop
      have HTG := hid htg
      clear hst hop htg HI V5 HT HS6
      go_wp2_with fail

      clear y4
      obtain ⟨r4, hr4, hrr⟩ := HO9.out
      have KP := hid fun u (hu : Chg [] _ u) => ((HS9.out.keep hu).cell (List.mem_cons_of_mem _ (List.mem_cons_of_mem _ (List.mem_cons_self ..))) 4).trans (rfl : _ = some (Value.slice a5 n5 k5))
      have ZF := hid fun u (hu : Chg [] _ u) => ((HS9.out.keep hu).cell (List.mem_cons_self ..) 4).trans (rfl : _ = some (Value.slice ao n5 cap))
      have HRR := hid (And.intro hr4 hrr)
      clear hr4 hrr
      refine wp_region_held_drew (S := (fun w' => w'.cell? ⟨b1, 4, none⟩ = some (.slice a5 n5 k5))) (by kernel_rfl) (by exact KP.out _ HS9.out.c0) (fun hHeld => ?_)
      have hC0 := HS9.out.c0
      (refine wpAnyH_take (i := 0) (v := ?_) rfl (by kernel_rfl) (by kernel_rfl) (by kernel_rfl) (fun _ _ _ h => h) (Or.inl ⟨by rfl, ?_⟩) (by assumption) ?_; rotate_left 1; (focus (intro w hSw; (try dsimp only at hSw); go_simp; (try with_reducible rfl))); (try simp only [List.getElem_toArray, List.getElem_cons_zero, List.getElem_cons_succ, Act.put, List.setIfInBounds_toArray, List.set_cons_zero, List.set_cons_succ]))
      (refine wpAnyH_take (i := 2) (v := ?_) rfl (by kernel_rfl) (by kernel_rfl) (by kernel_rfl) (fun _ _ _ h => h) (Or.inl ⟨by rfl, ?_⟩) (by assumption) ?_; rotate_left 1; (focus (intro w hSw; (try dsimp only at hSw); go_simp; (try with_reducible rfl))); (try simp only [List.getElem_toArray, List.getElem_cons_zero, List.getElem_cons_succ, Act.put, List.setIfInBounds_toArray, List.set_cons_zero, List.set_cons_succ]))
      (refine wpAnyH_take (i := 5) (v := ?_) rfl (by kernel_rfl) (by kernel_rfl) (by kernel_rfl) (fun _ _ _ h => h) (Or.inl ⟨by rfl, ?_⟩) (by assumption) ?_; rotate_left 1; (focus (intro w hSw; (try dsimp only at hSw); go_simp; (try with_reducible rfl))); (try simp only [List.getElem_toArray, List.getElem_cons_zero, List.getElem_cons_succ, Act.put, List.setIfInBounds_toArray, List.set_cons_zero, List.set_cons_succ]))
      (refine wpAnyH_take (i := 6) (v := ?_) rfl (by kernel_rfl) (by kernel_rfl) (by kernel_rfl) (fun _ _ _ h => h) (Or.inl ⟨by rfl, ?_⟩) (by assumption) ?_; rotate_left 1; (focus (intro w hSw; (try dsimp only at hSw); go_simp; (try with_reducible rfl))); (try simp only [List.getElem_toArray, List.getElem_cons_zero, List.getElem_cons_succ, Act.put, List.setIfInBounds_toArray, List.set_cons_zero, List.set_cons_succ]))
      (refine wpAnyH_take (i := 7) (v := ?_) rfl (by kernel_rfl) (by kernel_rfl) (by kernel_rfl) (fun _ _ _ h => h) (Or.inl ⟨by rfl, ?_⟩) (by assumption) ?_; rotate_left 1; (focus (intro w hSw; (try dsimp only at hSw); go_simp; (try with_reducible rfl))); (try simp only [List.getElem_toArray, List.getElem_cons_zero, List.getElem_cons_succ, Act.put, List.setIfInBounds_toArray, List.set_cons_zero, List.set_cons_succ]))
      (refine wpAnyH_ready (rs := [1, 3]) (by kernel_rfl) (by simp) ?_; refine AllReadyH.cons rfl (fun K hK => ?_) (AllReadyH.cons rfl (fun K hK => ?_) AllReadyH.nil))
      · skip
        have zz := ZF.out _ hC0
        go_simp
        clear zz
        (refine hK.out _ _ (by exact KP.out _ hC0) (fun hHeld => ?_); clear hK K; (try simp only [List.getElem_toArray, List.getElem_cons_zero, List.getElem_cons_succ, Act.put, List.setIfInBounds_toArray, List.set_cons_zero, List.set_cons_succ]))
        (refine wpAnyH_ready (rs := [3]) (by kernel_rfl) (by simp) ?_; refine AllReadyH.cons rfl (fun K hK => ?_) AllReadyH.nil)
        go_simp
        have hCB := HS9.out.cA (.cells #[.string ⟨#[109, 97, 114, 107]⟩, .slice none 0 0, .slice none 0 0] 59)
        (refine hK.out _ _ (by exact KP.out _ hCB) (fun hHeld => ?_); clear hK K; (try simp only [List.getElem_toArray, List.getElem_cons_zero, List.getElem_cons_succ, Act.put, List.setIfInBounds_toArray, List.set_cons_zero, List.set_cons_succ]))
        (refine wpAnyH_ready (rs := [4]) (by kernel_rfl) (by simp) ?_; refine AllReadyH.cons rfl (fun K hK => ?_) AllReadyH.nil)
        refine step_app rfl _ _ 26 rfl elem_thr rfl (HRR.out.1.keep hCB (by simp)) rfl (View.structD _ [.string ⟨#[109, 97, 114, 107]⟩, .slice none 0 0, .slice none 0 0] 59 rfl (Chg.refl [] _)) (by simp [Value.oneCell']) (by unfold maxLen; omega) (by omega) (fun ao2 cap2 r2 w5 hr5 hc5 hf5 => ?_)
        obtain ⟨hst9, hrr9⟩ := HS9.out.app HRR.out.1 HRR.out.2 hCB hc5 hf5
        have hcp := Nat.le_of_succ_le hr5.cap
        have HS10 := hid hst9
        clear hst9
        (refine hK.out _ _ (by exact (HS10.out.cell (List.mem_cons_of_mem _ (List.mem_cons_of_mem _ (List.mem_cons_self ..))) 4).trans rfl) (fun hHeld => ?_); clear hK K; (try simp only [List.getElem_toArray, List.getElem_cons_zero, List.getElem_cons_succ, Act.put, List.setIfInBounds_toArray, List.set_cons_zero, List.set_cons_succ]))
        (refine wpAnyH_ready (rs := [8]) (by kernel_rfl) (by simp) ?_; refine AllReadyH.cons rfl (fun K hK => ?_) AllReadyH.nil)
        go_simp
        (refine hK.out _ _ (by exact (HS10.out.cell (List.mem_cons_of_mem _ (List.mem_cons_of_mem _ (List.mem_cons_self ..))) 4).trans rfl) (fun hHeld => ?_); clear hK K; (try simp only [List.getElem_toArray, List.getElem_cons_zero, List.getElem_cons_succ, Act.put, List.setIfInBounds_toArray, List.set_cons_zero, List.set_cons_succ]))
        (refine wpAnyH_take (i := 9) (v := ?_) rfl (by kernel_rfl) (by kernel_rfl) (by kernel_rfl) (fun _ _ _ h => h) (Or.inl ⟨by rfl, ?_⟩) (by assumption) ?_; rotate_left 1; (focus (intro w hSw; (try dsimp only at hSw); go_simp; (try with_reducible rfl))); (try simp only [List.getElem_toArray, List.getElem_cons_zero, List.getElem_cons_succ, Act.put, List.setIfInBounds_toArray, List.set_cons_zero, List.set_cons_succ]))
        obtain ⟨g, rfl, hst11⟩ := HS10.out.close hr5 hrr9 4
        (refine wpAnyH_ready (rs := [10]) (by kernel_rfl) (by simp) ?_; refine AllReadyH.cons rfl (fun K hK => ?_) AllReadyH.nil)
        have zz := (HS10.out.cell (List.mem_cons_self ..) 4).trans (rfl : _ = some (Value.slice ao n5 cap))
        have qq := HS10.out.free (List.mem_cons_self ..) 4
        go_simp
        (refine hK.out _ _ (by exact (hst11.cell (List.mem_cons_of_mem _ (List.mem_cons_of_mem _ (List.mem_cons_self ..))) 4).trans rfl) (fun hHeld => ?_); clear hK K; (try simp only [List.getElem_toArray, List.getElem_cons_zero, List.getElem_cons_succ, Act.put, List.setIfInBounds_toArray, List.set_cons_zero, List.set_cons_succ]))
        refine wpAnyH_done (by kernel_rfl) ?_ _
        clear zz qq hHeld hr5 hrr9 hc5 hf5 hCB hC0
        have x0 := (hst11.cell (List.mem_cons_self ..) 0).trans (rfl : _ = some (Value.slice (some ⟨g0, 0, none⟩) n1 c0))
        have z0 := (hst11.cell (List.mem_cons_of_mem _ (List.mem_cons_self ..)) 0).trans (rfl : _ = some (Value.slice none 0 0))
        have q0 := hst11.free (List.mem_cons_of_mem _ (List.mem_cons_self ..)) 0
        have x1 := (hst11.cell (List.mem_cons_self ..) 1).trans (rfl : _ = some (Value.slice (some ⟨g1, 0, none⟩) n2 c1))
        have z1 := (hst11.cell (List.mem_cons_of_mem _ (List.mem_cons_self ..)) 1).trans (rfl : _ = some (Value.slice none 0 0))
        have q1 := hst11.free (List.mem_cons_of_mem _ (List.mem_cons_self ..)) 1
        have x2 := (hst11.cell (List.mem_cons_self ..) 2).trans (rfl : _ = some (Value.slice (some ⟨g2, 0, none⟩) n3 c2))
        have z2 := (hst11.cell (List.mem_cons_of_mem _ (List.mem_cons_self ..)) 2).trans (rfl : _ = some (Value.slice none 0 0))
        have q2 := hst11.free (List.mem_cons_of_mem _ (List.mem_cons_self ..)) 2
        have x3 := (hst11.cell (List.mem_cons_self ..) 3).trans (rfl : _ = some (Value.slice (some ⟨g3, 0, none⟩) n4 c3))
        have z3 := (hst11.cell (List.mem_cons_of_mem _ (List.mem_cons_self ..)) 3).trans (rfl : _ = some (Value.slice none 0 0))
        have q3 := hst11.free (List.mem_cons_of_mem _ (List.mem_cons_self ..)) 3
        have x4 := (hst11.cell (List.mem_cons_self ..) 4).trans (rfl : _ = some (Value.slice (some ⟨g, 0, none⟩) n5 cap2))
        have z4 := (hst11.cell (List.mem_cons_of_mem _ (List.mem_cons_self ..)) 4).trans (rfl : _ = some (Value.slice none 0 0))
        have q4 := hst11.free (List.mem_cons_of_mem _ (List.mem_cons_self ..)) 4
        have HS11 := hid hst11
        obtain ⟨wz, hwz⟩ : ∃ x : World, w5.setCell ⟨b3, 4, none⟩ (.slice (some ⟨g, 0, none⟩) n5 cap2) = x := ⟨_, rfl⟩
        rw [hwz] at HS11 x0 x1 x2 x3 x4 z0 z1 z2 z3 z4 q0 q1 q2 q3 q4 ⊢
        clear hst11 hwz HS10 KP ZF HRR
        go_wp2_with fail
        have hs1 := (HS11.out.sub (K' := [(b2, .cells #[Value.slice none 0 0, Value.slice none 0 0, Value.slice none 0 0, Value.slice none 0 0, Value.slice none 0 0] 28 (0, 0))]) (by simp)).put 0 (.slice (some ⟨g0, 0, none⟩) n1 c0)
        have hs2 := hs1.put 1 (.slice (some ⟨g1, 0, none⟩) n2 c1)
        have hs3 := hs2.put 2 (.slice (some ⟨g2, 0, none⟩) n3 c2)
        have hs4 := hs3.put 3 (.slice (some ⟨g3, 0, none⟩) n4 c3)
        have hs5 := hs4.put 4 (.slice (some ⟨g, 0, none⟩) n5 cap2)
        have p0 := (hs5.cell (List.mem_cons_self ..) 0).trans (rfl : _ = some (Value.slice (some ⟨g0, 0, none⟩) n1 c0))
        have p1 := (hs5.cell (List.mem_cons_self ..) 1).trans (rfl : _ = some (Value.slice (some ⟨g1, 0, none⟩) n2 c1))
        have p2 := (hs5.cell (List.mem_cons_self ..) 2).trans (rfl : _ = some (Value.slice (some ⟨g2, 0, none⟩) n3 c2))
        have p3 := (hs5.cell (List.mem_cons_self ..) 3).trans (rfl : _ = some (Value.slice (some ⟨g3, 0, none⟩) n4 c3))
        have p4 := (hs5.cell (List.mem_cons_self ..) 4).trans (rfl : _ = some (Value.slice (some ⟨g, 0, none⟩) n5 cap2))
        have htw : Tw w _ ⟨p.vars, p.vols, p.locks, p.bars, tg, g0, g1, g2, g3, g, c0, c1, c2, c3, cap2⟩ := tw_of hs5.ents HES.out (by rw [← List.length_map (f := ThrG.t), HTG.out]; exact HN.out.2.2.2.2.1)
        have hfin := hid (And.intro htw hs5.chg)
        clear hs1 hs2 hs3 hs4 hs5 htw x0 x1 x2 x3 x4 z0 z1 z2 z3 z4 q0 q1 q2 q3 q4
        exact bodyPost_ret (v := .agg #[.slice (some ⟨g0, 0, none⟩) n1 c0, .slice (some ⟨g1, 0, none⟩) n2 c1, .slice (some ⟨g2, 0, none⟩) n3 c2, .slice (some ⟨g3, 0, none⟩) n4 c3, .slice (some ⟨g, 0, none⟩) n5 cap2]) (by simp [results, Try.results11, go_sem, p0, p1, p2, p3, p4]) rfl ⟨tg, g0, g1, g2, g3, g, c0, c1, c2, c3, cap2, rfl, HTG.out, hfin⟩
      · skip
        go_simp
        have hCB := HS9.out.cA (.cells #[.string ⟨#[109, 97, 114, 107]⟩, .slice none 0 0, .slice none 0 0] 59)
        (refine hK.out _ _ (by exact KP.out _ hCB) (fun hHeld => ?_); clear hK K; (try simp only [List.getElem_toArray, List.getElem_cons_zero, List.getElem_cons_succ, Act.put, List.setIfInBounds_toArray, List.set_cons_zero, List.set_cons_succ]))
        (refine wpAnyH_ready (rs := [1]) (by kernel_rfl) (by simp) ?_; refine AllReadyH.cons rfl (fun K hK => ?_) AllReadyH.nil)
        have zz := ZF.out _ hCB
        go_simp
        clear zz
        (refine hK.out _ _ (by exact KP.out _ hCB) (fun hHeld => ?_); clear hK K; (try simp only [List.getElem_toArray, List.getElem_cons_zero, List.getElem_cons_succ, Act.put, List.setIfInBounds_toArray, List.set_cons_zero, List.set_cons_succ]))
        (refine wpAnyH_ready (rs := [4]) (by kernel_rfl) (by simp) ?_; refine AllReadyH.cons rfl (fun K hK => ?_) AllReadyH.nil)
        refine step_app rfl _ _ 26 rfl elem_thr rfl (HRR.out.1.keep hCB (by simp)) rfl (View.structD _ [.string ⟨#[109, 97, 114, 107]⟩, .slice none 0 0, .slice none 0 0] 59 rfl (Chg.refl [] _)) (by simp [Value.oneCell']) (by unfold maxLen; omega) (by omega) (fun ao2 cap2 r2 w5 hr5 hc5 hf5 => ?_)
        obtain ⟨hst9, hrr9⟩ := HS9.out.app HRR.out.1 HRR.out.2 hCB hc5 hf5
        have hcp := Nat.le_of_succ_le hr5.cap
        have HS10 := hid hst9
        clear hst9
        (refine hK.out _ _ (by exact (HS10.out.cell (List.mem_cons_of_mem _ (List.mem_cons_of_mem _ (List.mem_cons_self ..))) 4).trans rfl) (fun hHeld => ?_); clear hK K; (try simp only [List.getElem_toArray, List.getElem_cons_zero, List.getElem_cons_succ, Act.put, List.setIfInBounds_toArray, List.set_cons_zero, List.set_cons_succ]))
        (refine wpAnyH_ready (rs := [8]) (by kernel_rfl) (by simp) ?_; refine AllReadyH.cons rfl (fun K hK => ?_) AllReadyH.nil)
        go_simp
        (refine hK.out _ _ (by exact (HS10.out.cell (List.mem_cons_of_mem _ (List.mem_cons_of_mem _ (List.mem_cons_self ..))) 4).trans rfl) (fun hHeld => ?_); clear hK K; (try simp only [List.getElem_toArray, List.getElem_cons_zero, List.getElem_cons_succ, Act.put, List.setIfInBounds_toArray, List.set_cons_zero, List.set_cons_succ]))
        (refine wpAnyH_take (i := 9) (v := ?_) rfl (by kernel_rfl) (by kernel_rfl) (by kernel_rfl) (fun _ _ _ h => h) (Or.inl ⟨by rfl, ?_⟩) (by assumption) ?_; rotate_left 1; (focus (intro w hSw; (try dsimp only at hSw); go_simp; (try with_reducible rfl))); (try simp only [List.getElem_toArray, List.getElem_cons_zero, List.getElem_cons_succ, Act.put, List.setIfInBounds_toArray, List.set_cons_zero, List.set_cons_succ]))
        obtain ⟨g, rfl, hst11⟩ := HS10.out.close hr5 hrr9 4
        (refine wpAnyH_ready (rs := [10]) (by kernel_rfl) (by simp) ?_; refine AllReadyH.cons rfl (fun K hK => ?_) AllReadyH.nil)
        have zz := (HS10.out.cell (List.mem_cons_self ..) 4).trans (rfl : _ = some (Value.slice ao n5 cap))
        have qq := HS10.out.free (List.mem_cons_self ..) 4
        go_simp
        (refine hK.out _ _ (by exact (hst11.cell (List.mem_cons_of_mem _ (List.mem_cons_of_mem _ (List.mem_cons_self ..))) 4).trans rfl) (fun hHeld => ?_); clear hK K; (try simp only [List.getElem_toArray, List.getElem_cons_zero, List.getElem_cons_succ, Act.put, List.setIfInBounds_toArray, List.set_cons_zero, List.set_cons_succ]))
        refine wpAnyH_done (by kernel_rfl) ?_ _
        clear zz qq hHeld hr5 hrr9 hc5 hf5 hCB hC0
        have x0 := (hst11.cell (List.mem_cons_self ..) 0).trans (rfl : _ = some (Value.slice (some ⟨g0, 0, none⟩) n1 c0))
        have z0 := (hst11.cell (List.mem_cons_of_mem _ (List.mem_cons_self ..)) 0).trans (rfl : _ = some (Value.slice none 0 0))
        have q0 := hst11.free (List.mem_cons_of_mem _ (List.mem_cons_self ..)) 0
        have x1 := (hst11.cell (List.mem_cons_self ..) 1).trans (rfl : _ = some (Value.slice (some ⟨g1, 0, none⟩) n2 c1))
        have z1 := (hst11.cell (List.mem_cons_of_mem _ (List.mem_cons_self ..)) 1).trans (rfl : _ = some (Value.slice none 0 0))
        have q1 := hst11.free (List.mem_cons_of_mem _ (List.mem_cons_self ..)) 1
        have x2 := (hst11.cell (List.mem_cons_self ..) 2).trans (rfl : _ = some (Value.slice (some ⟨g2, 0, none⟩) n3 c2))
        have z2 := (hst11.cell (List.mem_cons_of_mem _ (List.mem_cons_self ..)) 2).trans (rfl : _ = some (Value.slice none 0 0))
        have q2 := hst11.free (List.mem_cons_of_mem _ (List.mem_cons_self ..)) 2
        have x3 := (hst11.cell (List.mem_cons_self ..) 3).trans (rfl : _ = some (Value.slice (some ⟨g3, 0, none⟩) n4 c3))
        have z3 := (hst11.cell (List.mem_cons_of_mem _ (List.mem_cons_self ..)) 3).trans (rfl : _ = some (Value.slice none 0 0))
        have q3 := hst11.free (List.mem_cons_of_mem _ (List.mem_cons_self ..)) 3
        have x4 := (hst11.cell (List.mem_cons_self ..) 4).trans (rfl : _ = some (Value.slice (some ⟨g, 0, none⟩) n5 cap2))
        have z4 := (hst11.cell (List.mem_cons_of_mem _ (List.mem_cons_self ..)) 4).trans (rfl : _ = some (Value.slice none 0 0))
        have q4 := hst11.free (List.mem_cons_of_mem _ (List.mem_cons_self ..)) 4
        have HS11 := hid hst11
        obtain ⟨wz, hwz⟩ : ∃ x : World, w5.setCell ⟨b3, 4, none⟩ (.slice (some ⟨g, 0, none⟩) n5 cap2) = x := ⟨_, rfl⟩
        rw [hwz] at HS11 x0 x1 x2 x3 x4 z0 z1 z2 z3 z4 q0 q1 q2 q3 q4 ⊢
        clear hst11 hwz HS10 KP ZF HRR
        go_wp2_with fail
        have hs1 := (HS11.out.sub (K' := [(b2, .cells #[Value.slice none 0 0, Value.slice none 0 0, Value.slice none 0 0, Value.slice none 0 0, Value.slice none 0 0] 28 (0, 0))]) (by simp)).put 0 (.slice (some ⟨g0, 0, none⟩) n1 c0)
        have hs2 := hs1.put 1 (.slice (some ⟨g1, 0, none⟩) n2 c1)
        have hs3 := hs2.put 2 (.slice (some ⟨g2, 0, none⟩) n3 c2)
        have hs4 := hs3.put 3 (.slice (some ⟨g3, 0, none⟩) n4 c3)
        have hs5 := hs4.put 4 (.slice (some ⟨g, 0, none⟩) n5 cap2)
        have p0 := (hs5.cell (List.mem_cons_self ..) 0).trans (rfl : _ = some (Value.slice (some ⟨g0, 0, none⟩) n1 c0))
        have p1 := (hs5.cell (List.mem_cons_self ..) 1).trans (rfl : _ = some (Value.slice (some ⟨g1, 0, none⟩) n2 c1))
        have p2 := (hs5.cell (List.mem_cons_self ..) 2).trans (rfl : _ = some (Value.slice (some ⟨g2, 0, none⟩) n3 c2))
        have p3 := (hs5.cell (List.mem_cons_self ..) 3).trans (rfl : _ = some (Value.slice (some ⟨g3, 0, none⟩) n4 c3))
        have p4 := (hs5.cell (List.mem_cons_self ..) 4).trans (rfl : _ = some (Value.slice (some ⟨g, 0, none⟩) n5 cap2))
        have htw : Tw w _ ⟨p.vars, p.vols, p.locks, p.bars, tg, g0, g1, g2, g3, g, c0, c1, c2, c3, cap2⟩ := tw_of hs5.ents HES.out (by rw [← List.length_map (f := ThrG.t), HTG.out]; exact HN.out.2.2.2.2.1)
        have hfin := hid (And.intro htw hs5.chg)
        clear hs1 hs2 hs3 hs4 hs5 htw x0 x1 x2 x3 x4 z0 z1 z2 z3 z4 q0 q1 q2 q3 q4
        exact bodyPost_ret (v := .agg #[.slice (some ⟨g0, 0, none⟩) n1 c0, .slice (some ⟨g1, 0, none⟩) n2 c1, .slice (some ⟨g2, 0, none⟩) n3 c2, .slice (some ⟨g3, 0, none⟩) n4 c3, .slice (some ⟨g, 0, none⟩) n5 cap2]) (by simp [results, Try.results11, go_sem, p0, p1, p2, p3, p4]) rfl ⟨tg, g0, g1, g2, g3, g, c0, c1, c2, c3, cap2, rfl, HTG.out, hfin⟩
end Go.Proofs.Ytbikekgljabalaa
