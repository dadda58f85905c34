/- Walks of the builder: a name is declared. -/
import Derived.Test.YtaknmhipaifdkaaDoorOd
set_option linter.unusedVariables false
set_option linter.unusedSectionVars false
namespace Go.Proofs.YtaknmhipaifdkaaDoor
open Go.RowKit Go.AB
set_option linter.unusedSimpArgs false
set_option linter.unusedVariables false
set_option linter.unusedSectionVars false

theorem info_ent : (Tryd.prog.info? 107).map (fun i => (i.zero, i.size, i.bytes)) = some (some (.agg #[.int .i64 0, .int .i64 0]), 2, 16) := by kernel_rfl
theorem key_srt : KeyOk Tryd.prog 94 Int (Value.int .i64) := key_int Tryd.underlying94
def entV (e : Int × Nat) : Value := .agg #[.int .i64 e.1, .int .i64 e.2]
/-- What the table of names tells, and the one of counts. -/
def fKn (st : Nms) (s : ByteArray) : Option Value := (assoc st s).map entV
def fCt (st : Nms) (s : Int) : Option Value := if cntS st s = 0 then none else some (.int .i64 (cntS st s : Nat))
theorem fCt_get (st : Nms) (s : Int) : (fCt st s).getD (.int .i64 0) = .int .i64 (cntS st s : Nat) := by
  unfold fCt
  by_cases h : cntS st s = 0
  · rw [if_pos h, h]; rfl
  · rw [if_neg h]; rfl
theorem cnt_snoc (st : Nms) (a : ByteArray) (e : Int × Nat) (s : Int) : cntS (st ++ [(a, e)]) s = if s = e.1 then cntS st s + 1 else cntS st s := by
  unfold cntS
  rw [List.filter_append, List.length_append]
  by_cases h : s = e.1
  · subst h; simp
  · have : ¬ e.1 = s := fun k => h k.symm
    simp [h, this]
/-- A builder in memory. -/
structure BS (w : World) (b bk bc : Nat) (st : Nms) (all : Nat) : Prop where
  blk : w.heap[b]? = some (.cells #[.map (some bk), .map (some bc), .int .i64 all] 90 (0, 0))
  kn : MapF w bk Value.string (fKn st)
  ct : MapF w bc (Value.int .i64) (fCt st)
  ne : b ≠ bk ∧ b ≠ bc ∧ bk ≠ bc
theorem BS.keep {w w' : World} {b bk bc : Nat} {st : Nms} {all : Nat} (h : BS w b bk bc st all) {S : List Nat} (hc : Chg S w w') (h1 : b ∉ S) (h2 : bk ∉ S) (h3 : bc ∉ S) : BS w' b bk bc st all :=
  ⟨hc.heap h.blk h1, h.kn.keep hc h2, h.ct.keep hc h3, h.ne⟩
theorem BS.c0 {w : World} {b bk bc : Nat} {st : Nms} {all : Nat} (h : BS w b bk bc st all) : w.cell? ⟨b, 0, none⟩ = some (.map (some bk)) := blk_cell h.blk 0
theorem BS.c1 {w : World} {b bk bc : Nat} {st : Nms} {all : Nat} (h : BS w b bk bc st all) : w.cell? ⟨b, 1, none⟩ = some (.map (some bc)) := blk_cell h.blk 1
theorem BS.c2 {w : World} {b bk bc : Nat} {st : Nms} {all : Nat} (h : BS w b bk bc st all) : w.cell? ⟨b, 2, none⟩ = some (.int .i64 all) := blk_cell h.blk 2
theorem BS.look {w : World} {b bk bc : Nat} {st : Nms} {all : Nat} (h : BS w b bk bc st all) (s : ByteArray) : (Instr.lookup 87 (.map (some bk)) (.string s) true).run Tryd.prog w = .ok (.tuple #[(fKn st s).getD (.agg #[.int .i64 0, .int .i64 0]), .bool (fKn st s).isSome]) w :=
  h.kn.lookup key_str Tryd.underlying87 (zero_of info_ent w) s true
theorem BS.cnt {w : World} {b bk bc : Nat} {st : Nms} {all : Nat} (h : BS w b bk bc st all) (s : Int) : (Instr.lookup 88 (.map (some bc)) (.int .i64 s) false).run Tryd.prog w = .ok (.int .i64 (cntS st s : Nat)) w := by
  have := h.ct.lookup key_srt Tryd.underlying88 (zero_of info_int w) s false
  rw [fCt_get] at this
  exact this
/-- What declare answers. -/
def DeclP (w : World) (b bk bc : Nat) (all : Nat) (d : Except Flt Nms) (e : Ending) (w' : World) : Prop :=
  (∃ f, d = .error f ∧ e = refused f ∧ Chg [] w w') ∨ (∃ st', d = .ok st' ∧ e = .returned (.tuple #[]) ∧ BS w' b bk bc st' all ∧ Chg [bk, bc] w w')

set_option maxHeartbeats 4000000 in
set_option maxRecDepth 100000 in
theorem declare_calls {b bk bc : Nat} {st : Nms} {all : Nat} (name : ByteArray) (hs : name.size ≤ 4294967296) (s most l c : Int) (hst : st.length ≤ 1073741824) (w : World) (hB : BS w b bk bc st all) :
    Calls Tryd.prog 27 #[.pointer (some ⟨b, 0, none⟩), .string name, .int .i64 s, .int .i64 most, .agg #[.int .i64 l, .int .i64 c]] w (DeclP w b bk bc all (declD st name s most l c)) := by
  have hcn : cntS st s ≤ 1073741824 := by unfold cntS; exact Nat.le_trans (List.length_filter_le _ _) hst
  obtain ⟨D, hD⟩ : ∃ D, declD st name s most l c = D := ⟨_, rfl⟩
  rw [hD]
  unfold declD at hD
  have hbl := blk_lt hB.blk
  have hc0 := (Chg.refl [] w).alloc (.cells #[.int .i64 l, .int .i64 c] 35)
  have hB1 := hB.keep hc0 (by simp) (by simp) (by simp)
  have HK := hid (check_calls name hs)
  cases hnb : nameB name with
  | false =>
    rw [if_pos hnb] at hD
    have HD := hid hD
    rw [chkN_no hnb] at HK
    clear hD hnb
    go_enter Tryd.func27, Tryd.ntmps27
    go_wp2_with (first | (go_at_call 36; refine (HK.out _).mono ?_; rintro e w' ⟨rfl, rfl⟩) | (go_at_call 35; refine (refuse_calls _ _ _ _).mono ?_; rintro e w' ⟨rfl, hcr⟩))
    exact ⟨rfl, .inl ⟨_, HD.out.symm, rfl, hc0.trans' hcr⟩⟩
  | true =>
    rw [if_neg (by rw [hnb]; simp)] at hD
    rw [chkN_yes hnb] at HK
    have hlu := hB1.look name
    cases ha : assoc st name with
    | some q =>
      rw [if_pos (by rw [ha]; rfl)] at hD
      have HD := hid hD
      have hfk : fKn st name = some (entV q) := by unfold fKn; rw [ha]; rfl
      rw [hfk] at hlu
      simp only [Option.getD_some, Option.isSome_some, entV] at hlu
      have c0 := hB1.c0
      clear hD hnb hfk ha
      go_enter Tryd.func27, Tryd.ntmps27
      go_wp2_with (first | (go_at_call 36; refine (HK.out _).mono ?_; rintro e w' ⟨rfl, rfl⟩) | (go_at_call 35; refine (refuse_calls _ _ _ _).mono ?_; rintro e w' ⟨rfl, hcr⟩))
      exact ⟨rfl, .inl ⟨_, HD.out.symm, rfl, (hc0.alloc _).trans' hcr⟩⟩
    | none =>
      rw [if_neg (by rw [ha]; simp)] at hD
      have hfk : fKn st name = none := by unfold fKn; rw [ha]; rfl
      rw [hfk] at hlu
      simp only [Option.getD_none, Option.isSome_none] at hlu
      have hc2 := hc0.alloc (.cells #[.int .i64 0, .int .i64 0] 107)
      have hB2 := hB.keep hc2 (by simp) (by simp) (by simp)
      have c0 := hB1.c0
      have d0 := hB2.c0
      have d1 := hB2.c1
      have hct := hB2.cnt s
      obtain ⟨k, hk⟩ : ∃ k, cntS st s = k := ⟨_, rfl⟩
      rw [hk] at hct hcn hD
      by_cases hm : most ≤ (k : Int)
      · rw [if_pos hm] at hD
        have HD := hid hD
        have g1 : decide (most ≤ (k : Int)) = true := decide_eq_true hm
        clear hD hnb hfk ha hm
        go_enter Tryd.func27, Tryd.ntmps27
        go_wp2_with (first | (go_at_call 36; refine (HK.out _).mono ?_; rintro e w' ⟨rfl, rfl⟩) | (go_at_call 35; refine (refuse_calls _ _ _ _).mono ?_; rintro e w' ⟨rfl, hcr⟩))
        exact ⟨rfl, .inl ⟨_, HD.out.symm, rfl, hc2.trans' hcr⟩⟩
      · rw [if_neg hm] at hD
        have HD := hid hD
        have g1 : decide (most ≤ (k : Int)) = false := decide_eq_false hm
        have HA := hid ha
        have HKK := hid hk
        have HB2 := hid hB2
        clear hD hnb hfk ha hm hk
        go_enter Tryd.func27, Tryd.ntmps27
        go_wp2_with (go_at_call 36; refine (HK.out _).mono ?_; rintro e w' ⟨rfl, rfl⟩)
        obtain ⟨wz, hwz⟩ : ∃ wz, ((w.alloc (.cells #[.int .i64 l, .int .i64 c] 35)).alloc (.cells #[.int .i64 0, .int .i64 0] 107)) = wz := ⟨_, rfl⟩
        have hBz : BS wz b bk bc st all := by rw [← hwz]; exact HB2.out
        have hcz : Chg [] w wz := by rw [← hwz]; exact hc2
        rw [hwz]
        clear hwz hc2 hc0 hB1 hB2 HB2 hlu c0 d0 d1 hct
        have hBd := hBz.keep ((Chg.refl [] wz).drew) (by simp) (by simp) (by simp)
        have hctd := hBd.cnt s
        rw [HKK.out] at hctd
        have HBD := hid hBd
        have hne := hBd.ne
        have HNE := hid hne
        have hct3 : ∀ u, Chg [bk] wz.drew u → (Instr.lookup 88 (.map (some bc)) (.int .i64 s) false).run Tryd.prog u = .ok (.int .i64 (k : Nat)) u := fun u hu => by
          have := (HBD.out.ct.keep hu (by have := HNE.out; simp; omega)).lookup key_srt Tryd.underlying88 (zero_of info_int u) s false
          rw [fCt_get, HKK.out] at this
          exact this
        have HCT := hid hct3
        have HCZ := hid hcz
        clear hct3 hne hcz hBz
        (refine wp_region_held_drew (S := (fun w' => w'.cell? ⟨b, 0, none⟩ = some (.map (some bk)) ∧ w'.cell? ⟨b, 1, none⟩ = some (.map (some bc)) ∧ (Instr.lookup 88 (.map (some bc)) (.int .i64 s) false).run Tryd.prog w' = .ok (.int .i64 (k : Nat)) w')) (by kernel_rfl) (by exact ⟨hBd.c0, hBd.c1, hctd⟩) (fun hHeld => ?_); (refine wpAnyH_take (i := 0) (v := ?_) rfl (by kernel_rfl) (by kernel_rfl) (by kernel_rfl) (fun _ _ _ h => h) (Or.inl ⟨by rfl, ?_⟩) (by assumption) ?_; rotate_left 1; (focus (intro w hSw; (try dsimp only at hSw); go_simp; (try with_reducible rfl))); (try simp only [List.getElem_toArray, List.getElem_cons_zero, List.getElem_cons_succ, Act.put, List.setIfInBounds_toArray, List.set_cons_zero, List.set_cons_succ])); (refine wpAnyH_take (i := 1) (v := ?_) rfl (by kernel_rfl) (by kernel_rfl) (by kernel_rfl) (fun _ _ _ h => h) (Or.inl ⟨by rfl, ?_⟩) (by assumption) ?_; rotate_left 1; (focus (intro w hSw; (try dsimp only at hSw); go_simp; (try with_reducible rfl))); (try simp only [List.getElem_toArray, List.getElem_cons_zero, List.getElem_cons_succ, Act.put, List.setIfInBounds_toArray, List.set_cons_zero, List.set_cons_succ])); (refine wpAnyH_take (i := 2) (v := ?_) rfl (by kernel_rfl) (by kernel_rfl) (by kernel_rfl) (fun _ _ _ h => h) (Or.inl ⟨by rfl, ?_⟩) (by assumption) ?_; rotate_left 1; (focus (intro w hSw; (try dsimp only at hSw); go_simp; (try with_reducible rfl))); (try simp only [List.getElem_toArray, List.getElem_cons_zero, List.getElem_cons_succ, Act.put, List.setIfInBounds_toArray, List.set_cons_zero, List.set_cons_succ])); (refine wpAnyH_take (i := 3) (v := ?_) rfl (by kernel_rfl) (by kernel_rfl) (by kernel_rfl) (fun _ _ _ h => h) (Or.inl ⟨by rfl, ?_⟩) (by assumption) ?_; rotate_left 1; (focus (intro w hSw; (try dsimp only at hSw); go_simp; (try with_reducible rfl))); (try simp only [List.getElem_toArray, List.getElem_cons_zero, List.getElem_cons_succ, Act.put, List.setIfInBounds_toArray, List.set_cons_zero, List.set_cons_succ])); (refine wpAnyH_take (i := 4) (v := ?_) rfl (by kernel_rfl) (by kernel_rfl) (by kernel_rfl) (fun _ _ _ h => h) (Or.inl ⟨by rfl, ?_⟩) (by assumption) ?_; rotate_left 1; (focus (intro w hSw; (try dsimp only at hSw); go_simp; (try with_reducible rfl))); (try simp only [List.getElem_toArray, List.getElem_cons_zero, List.getElem_cons_succ, Act.put, List.setIfInBounds_toArray, List.set_cons_zero, List.set_cons_succ])); (refine wpAnyH_take (i := 5) (v := ?_) rfl (by kernel_rfl) (by kernel_rfl) (by kernel_rfl) (fun _ _ _ h => h) (Or.inl ⟨by rfl, ?_⟩) (by assumption) ?_; rotate_left 1; (focus (intro w hSw; (try dsimp only at hSw); go_simp; (try with_reducible rfl))); (try simp only [List.getElem_toArray, List.getElem_cons_zero, List.getElem_cons_succ, Act.put, List.setIfInBounds_toArray, List.set_cons_zero, List.set_cons_succ])); (refine wpAnyH_take (i := 6) (v := ?_) rfl (by kernel_rfl) (by kernel_rfl) (by kernel_rfl) (fun _ _ _ h => h) (Or.inl ⟨by rfl, ?_⟩) (by assumption) ?_; rotate_left 1; (focus (intro w hSw; (try dsimp only at hSw); go_simp; (try with_reducible rfl))); (try simp only [List.getElem_toArray, List.getElem_cons_zero, List.getElem_cons_succ, Act.put, List.setIfInBounds_toArray, List.set_cons_zero, List.set_cons_succ])); (refine wpAnyH_take (i := 7) (v := ?_) rfl (by kernel_rfl) (by kernel_rfl) (by kernel_rfl) (fun _ _ _ h => h) (Or.inl ⟨by rfl, ?_⟩) (by assumption) ?_; rotate_left 1; (focus (intro w hSw; (try dsimp only at hSw); go_simp; (try with_reducible rfl))); (try simp only [List.getElem_toArray, List.getElem_cons_zero, List.getElem_cons_succ, Act.put, List.setIfInBounds_toArray, List.set_cons_zero, List.set_cons_succ])); (refine wpAnyH_take (i := 8) (v := ?_) rfl (by kernel_rfl) (by kernel_rfl) (by kernel_rfl) (fun _ _ _ h => h) (Or.inl ⟨by rfl, ?_⟩) (by assumption) ?_; rotate_left 1; (focus (intro w hSw; (try dsimp only at hSw); go_simp; (try with_reducible rfl))); (try simp only [List.getElem_toArray, List.getElem_cons_zero, List.getElem_cons_succ, Act.put, List.setIfInBounds_toArray, List.set_cons_zero, List.set_cons_succ])); (refine wpAnyH_take (i := 9) (v := ?_) rfl (by kernel_rfl) (by kernel_rfl) (by kernel_rfl) (fun _ _ _ h => h) (Or.inl ⟨by rfl, ?_⟩) (by assumption) ?_; rotate_left 1; (focus (intro w hSw; (try dsimp only at hSw); go_simp; (try with_reducible rfl))); (try simp only [List.getElem_toArray, List.getElem_cons_zero, List.getElem_cons_succ, Act.put, List.setIfInBounds_toArray, List.set_cons_zero, List.set_cons_succ])); (refine wpAnyH_take (i := 10) (v := ?_) rfl (by kernel_rfl) (by kernel_rfl) (by kernel_rfl) (fun _ _ _ h => h) (Or.inl ⟨by rfl, ?_⟩) (by assumption) ?_; rotate_left 1; (focus (intro w hSw; (try dsimp only at hSw); go_simp; (try with_reducible rfl))); (try simp only [List.getElem_toArray, List.getElem_cons_zero, List.getElem_cons_succ, Act.put, List.setIfInBounds_toArray, List.set_cons_zero, List.set_cons_succ])); (refine wpAnyH_take (i := 11) (v := ?_) rfl (by kernel_rfl) (by kernel_rfl) (by kernel_rfl) (fun _ _ _ h => h) (Or.inl ⟨by rfl, ?_⟩) (by assumption) ?_; rotate_left 1; (focus (intro w hSw; (try dsimp only at hSw); go_simp; (try with_reducible rfl))); (try simp only [List.getElem_toArray, List.getElem_cons_zero, List.getElem_cons_succ, Act.put, List.setIfInBounds_toArray, List.set_cons_zero, List.set_cons_succ])); (refine wpAnyH_take (i := 12) (v := ?_) rfl (by kernel_rfl) (by kernel_rfl) (by kernel_rfl) (fun _ _ _ h => h) (Or.inl ⟨by rfl, ?_⟩) (by assumption) ?_; rotate_left 1; (focus (intro w hSw; (try dsimp only at hSw); go_simp; (try with_reducible rfl))); (try simp only [List.getElem_toArray, List.getElem_cons_zero, List.getElem_cons_succ, Act.put, List.setIfInBounds_toArray, List.set_cons_zero, List.set_cons_succ])); (refine wpAnyH_ready (rs := [13]) (by kernel_rfl) (by simp) ?_; refine AllReadyH.cons rfl (fun K hK => ?_) AllReadyH.nil; refine step_mapF rfl _ _ _ 87 rfl key_str Tryd.underlying87 rfl HBD.out.kn _ rfl rfl (fun w3 hm3 hc3 => ?_); (refine hK.out _ _ (by exact ⟨hc3.cell HBD.out.c0 (by have := HNE.out; simp; omega), hc3.cell HBD.out.c1 (by have := HNE.out; simp; omega), HCT.out _ hc3⟩) (fun hHeld => ?_); clear hK K; (try simp only [List.getElem_toArray, List.getElem_cons_zero, List.getElem_cons_succ, Act.put, List.setIfInBounds_toArray, List.set_cons_zero, List.set_cons_succ]))); refine wpAnyH_done (by kernel_rfl) ?_ _)
        have hb3 := hc3.heap HBD.out.blk (by have := HNE.out; simp; omega)
        have e0 : w3.cell? ⟨b, 0, none⟩ = some (.map (some bk)) := blk_cell hb3 0
        have e1 : w3.cell? ⟨b, 1, none⟩ = some (.map (some bc)) := blk_cell hb3 1
        have e2 := HCT.out _ hc3
        have hct3 := HBD.out.ct.keep hc3 (by have := HNE.out; simp; omega)
        have HB3 := hid hb3
        clear hBd hctd hHeld hb3
        go_wp2_with (at_mapUpdate; refine wpList_mapF rfl _ _ _ 88 rfl key_srt Tryd.underlying88 rfl hct3 _ rfl rfl (fun w4 hm4 hc4 => halt (fun X hX => ?_)))
        rw [hX.out]; clear hX
        go_end0
        have hne := HNE.out
        refine .inr ⟨_, HD.out.symm, rfl, ⟨hc4.heap HB3.out (by simp; omega), (hm3.keep hc4 (by simp; omega)).congr (fun x => ?_), hm4.congr (fun x => ?_), hne⟩, HCZ.out.nil.trans' ((Chg.refl [bk, bc] wz).drew.trans' ((hc3.mono (fun x hx => .inl (by simp at hx; simp [hx]))).trans' (hc4.mono (fun x hx => .inl (by simp at hx; simp [hx])))))⟩
        · unfold fKn
          rw [assoc_snoc st name _ HA.out]
          by_cases e : x = name
          · rw [if_pos e, if_pos e]; rfl
          · rw [if_neg e, if_neg e]
        · unfold fCt
          rw [cnt_snoc]
          by_cases e : x = s
          · rw [if_pos e, if_pos e, if_neg (by omega), e, HKK.out]; exact congrArg some (show Value.int .i64 ((k : Int) + 1) = Value.int .i64 ((k + 1 : Nat) : Int) from by simp)
          · rw [if_neg e, if_neg e]
end Go.Proofs.YtaknmhipaifdkaaDoor
