/- Walks of the frames: a frame opened, by the program. -/
import Derived.Test.YtbikekgljabalaaFd
import Derived.Test.YtbikekgljabalaaM02
import Derived.Laws.Cover3
import Derived.Stop.BytesEq
namespace Go.Proofs.Ytbikekgljabalaa
open Go.RowKit Go.AB
set_option linter.unusedSimpArgs false

theorem four_get {l : List UInt8} (h : l.length = 4) : l = [l[0], l[1], l[2], l[3]] := by
  match l, h with
  | [a, b, c, d], _ => rfl
theorem four_part {l : List UInt8} (h : 11 ≤ l.length) : (l.drop 7).take 4 = [l[7], l[8], l[9], l[10]] := by
  apply List.ext_getElem
  · simp; omega
  · intro i h1 h2
    simp only [List.length_cons, List.length_nil] at h2
    match i, h2 with
    | 0, _ | 1, _ | 2, _ | 3, _ => simp
theorem eqg4 (u : World) (x y : Operand) (xs ys : Array Value) : (eqGuard .neq 131 x y (.agg xs) (.agg ys)).run Try.prog u = .ok () u := run_eqGuard_agg u .neq 131 x y xs ys (by kernel_rfl)
theorem neq4 (u : World) (a b c d e f g h : UInt8) : (binOp .neq 131 (.agg #[.int .u8 (a.toNat : Nat), .int .u8 (b.toNat : Nat), .int .u8 (c.toNat : Nat), .int .u8 (d.toNat : Nat)]) (.agg #[.int .u8 (e.toNat : Nat), .int .u8 (f.toNat : Nat), .int .u8 (g.toNat : Nat), .int .u8 (h.toNat : Nat)])).run Try.prog u = .ok (.bool (!([a, b, c, d] == [e, f, g, h]))) u := by
  have h1 := run_equalIn_bytes u 9998 131 5 4 Try.underlying131 Try.underlying5 (fun _ => by kernel_rfl) [a, b, c, d] [e, f, g, h] rfl rfl
  rw [run_neq_struct]
  exact congrArg (fun r => Result.andThen r fun b w' => Result.ok (Value.bool (!b)) w') h1
set_option maxHeartbeats 2000000 in
set_option maxRecDepth 100000 in
theorem open_calls (v : Value) (l : List UInt8) (w : World) (hv : Bytes w v l) (hl : l.length ≤ 16777216) :
    Calls Try.prog 42 #[v] w (NewB3 5 w (openB l)) := by
  have hv' := hv
  obtain ⟨ao, cap, rfl, hcap, hcm, _, hcells⟩ := hv.out
  clear hv
  rcases openB_cases l with ⟨h1, he⟩ | ⟨h1, ⟨h0, h2⟩, he⟩ | ⟨h1, ⟨h0, h2⟩, ⟨h01, h3⟩, he⟩ | ⟨h1, ⟨h0, h2⟩, ⟨h01, h3⟩, he⟩
  · have HE := hid he
    clear he hv' hcells
    go_enter Try.func42, Try.ntmps42
    go_wp2
    go_ret3
    exact newB3_err HE.out (Chg.refl _ _)
  · obtain ⟨b, off, rfl, hc⟩ := hcells (by omega)
    have x0 := hc 0 (by omega)
    have hx : (((l[0].toNat : Nat) : Int) == 97) = false := by have := n97 h2; simp; omega
    have hx2 : (((l[0].toNat : Nat) : Int) != 97) = true := by have := n97 h2; simp; omega
    have hd : decide ((l.length : Int) < 11) = false := by simp; omega
    simp only [Nat.add_zero] at x0
    have HE := hid he
    clear he hv' hcells hc h2
    go_enter Try.func42, Try.ntmps42
    go_wp2
    go_ret3
    exact newB3_err HE.out (Chg.refl _ _)
  · obtain ⟨b, off, rfl, hc⟩ := hcells (by omega)
    have x0 := hc 0 (by omega)
    have x1 := hc 1 (by omega)
    have hx : (((l[1].toNat : Nat) : Int) == 98) = false := by have := n98 h3; simp; omega
    have hx2 : (((l[1].toNat : Nat) : Int) != 98) = true := by have := n98 h3; simp; omega
    have hd : decide ((l.length : Int) < 11) = false := by simp; omega
    have x0 : w.cell? ⟨b, off, none⟩ = some (.int .u8 97) := by rw [h2] at x0; exact x0
    have HE := hid he
    clear he hv' hcells hc h2 h3
    go_enter Try.func42, Try.ntmps42
    go_wp2
    go_ret3
    exact newB3_err HE.out (Chg.refl _ _)
  · obtain ⟨b, off, rfl, hc⟩ := hcells (by omega)
    have x0 : w.cell? ⟨b, off, none⟩ = some (.int .u8 97) := by have := hc 0 (by omega); rw [h2] at this; exact this
    have x1 : w.cell? ⟨b, off + 1, none⟩ = some (.int .u8 98) := by have := hc 1 (by omega); rw [h3] at this; exact this
    have x2 := hc 2 (by omega)
    have hd : decide ((l.length : Int) < 11) = false := by simp; omega
    have g7 : (7 : Int) ≤ (cap : Int) := by omega
    have g11 : (11 : Int) ≤ (l.length : Int) := by omega
    have g2 : (2 : Int) < (l.length : Int) := by omega
    have g2n : 2 < l.length := by omega
    have hpart : ∀ p n, p + n ≤ l.length → Bytes w (.slice (some ⟨b, off + p, none⟩) n (cap - p)) ((l.drop p).take n) := fun p n hpn => by
      have := View.part (w := w) (l := l) (bb := b) (off := off) (cap := cap) (p := p) (v := n) ⟨by simp, by omega, fun j hj => by rw [hc j (by omega)]; simp [List.getD, show j < l.length by omega, B]⟩ hpn hcap hcm
      unfold Bytes
      rw [show ((l.drop p).take n).length = n from by simp; omega]
      exact this
    have HP := hid hpart
    obtain ⟨N, hNe⟩ : ∃ N, leNat ((l.drop 3).take 4) = N := ⟨_, rfl⟩
    have hNl : N < 4294967296 := by
      have := leNat_lt ((l.drop 3).take 4)
      rw [hNe] at this
      have h4 : ((l.drop 3).take 4).length = 4 := by simp; omega
      rw [h4] at this
      exact this
    have hfx : rFixed 4 ((l.drop 3).take 4) ⟨0, 0, 0⟩ = (N, ⟨4, 0, 0⟩) := by
      have h4 : ((l.drop 3).take 4).length = 4 := by simp; omega
      unfold rFixed
      simp only [ne_eq, not_true_eq_false, if_false, Nat.sub_zero, h4, Nat.lt_irrefl, List.drop_zero, List.take_take, Nat.min_self, hNe]
    rw [hNe] at he
    have HFX := hid hfx
    have HNE := hid hNe
    have hb3 := hpart 3 4 (by omega)
    have HN := hid (newReader_calls _ _ w hb3 (by simp; omega))
    clear hNe hfx hpart hb3 hcells hv'
    go_enter Try.func42, Try.ntmps42
    go_wp2_with (go_at_call 44; refine HN.out.mono ?_; rintro e w1 ⟨br, l1, ao1, cap1, rfl, hR1, hb1, hown1, hc1, HL1⟩; refine halt (fun X hX => ?_))
    rw [hX.out]; clear hX
    have hl1 : l1 = (l.drop 3).take 4 := HL1.out
    subst hl1
    have HT := hid (take_u32_calls hR1 (by simp; omega))
    clear HL1 HN
    go_wp2_with (go_at_call 83; refine HT.out.mono ?_; rw [HFX.out]; rintro e w2 ⟨rfl, hR2, hc2⟩; refine halt (fun X hX => ?_))
    rw [hX.out]; clear hX
    have hC2 : Chg [] w w2 := hc1.trans hc2 (fun x hx => .inr (by simp at hx; omega))
    clear HT HFX hR1 hR2
    have x2' := hC2.cell x2 (by simp)
    have hNw : wrap64 (N : Int) = (N : Int) := by rw [IntWalk.wrap64_in _ (by omega)]
    by_cases c1 : 16777216 < N
    · rw [if_pos c1] at he
      have HE := hid he
      clear he hc
      by_cases hcp : cap = 11
      all_goals
        go_wp2
        go_ret3
        exact newB3_err HE.out hC2
    rw [if_neg c1] at he
    by_cases c2 : l.length - 11 < N
    · rw [if_pos c2] at he
      have HE := hid he
      clear he hc
      by_cases hcp : cap = 11
      all_goals
        go_wp2
        go_ret3
        exact newB3_err HE.out hC2
    rw [if_neg c2] at he
    by_cases c3 : N < l.length - 11
    · rw [if_pos c3] at he
      have HE := hid he
      clear he hc
      by_cases hcp : cap = 11
      all_goals
        go_wp2
        all_goals go_ret3
        all_goals exact newB3_err HE.out hC2
    rw [if_neg c3] at he
    have hN11 : N = l.length - 11 := by omega
    have hv27 := HP.out 2 5 (by omega)
    have hv11 : Bytes w (if cap = 11 then .slice (some ⟨b, off, none⟩) 0 0 else .slice (some ⟨b, off + 11, none⟩) (l.length - 11) (cap - 11)) (l.drop 11) := by
      split
      · have : l.drop 11 = [] := List.drop_of_length_le (by omega)
        rw [this]
        exact ⟨rfl, by simp [maxLen], _, _, rfl, Nat.le_refl _, by simp [maxLen], (fun h => by cases h), fun h => by simp at h⟩
      · have := HP.out 11 (l.length - 11) (by omega)
        have e : (l.drop 11).take (l.length - 11) = l.drop 11 := List.take_of_length_le (by simp)
        rw [e] at this
        exact this
    obtain ⟨v11, hv11e⟩ : ∃ v, (if cap = 11 then Value.slice (some ⟨b, off, none⟩) 0 0 else .slice (some ⟨b, off + 11, none⟩) (l.length - 11) (cap - 11)) = v := ⟨_, rfl⟩
    rw [hv11e] at hv11
    have hs1 : ∀ u, Chg [] w u → Calls Try.prog 80 #[.int .u32 4294967295, .slice (some ⟨b, off + 2, none⟩) 5 (cap - 2)] u fun e w' => e = .returned (.int .u32 (crcSum 4294967295 ((l.drop 2).take 5))) ∧ u = w' := fun u hu =>
      sum_calls 4294967295 (by omega) _ ((l.drop 2).take 5) u (hv27.keep hu (by simp)) (by simp; omega)
    have hs2 : ∀ u, Chg [] w u → Calls Try.prog 80 #[.int .u32 (crcSum 4294967295 ((l.drop 2).take 5) : Nat), v11] u fun e w' => e = .returned (.int .u32 (crcSum (crcSum 4294967295 ((l.drop 2).take 5)) (l.drop 11))) ∧ u = w' := fun u hu =>
      sum_calls _ (crcSum_lt _ (by omega)) _ (l.drop 11) u (hv11.keep hu (by simp)) (by simp; omega)
    have hxl := crcSum_lt (l.drop 11) (crcSum_lt ((l.drop 2).take 5) (c := 4294967295) (by omega))
    have hsm : crcSum (crcSum 4294967295 ((l.drop 2).take 5)) (l.drop 11) ^^^ 4294967295 = sumB ((l.drop 2).take 5 ++ l.drop 11) := by unfold sumB; rw [crcSum_append]
    have hxb := xorBegin (crcSum (crcSum 4294967295 ((l.drop 2).take 5)) (l.drop 11)) hxl
    rw [hsm] at hxb
    obtain ⟨c1v, hc1v⟩ : ∃ c, crcSum 4294967295 ((l.drop 2).take 5) = c := ⟨_, rfl⟩
    rw [hc1v] at hs1 hs2 hxb hxl
    obtain ⟨c2v, hc2v⟩ : ∃ c, crcSum c1v (l.drop 11) = c := ⟨_, rfl⟩
    rw [hc2v] at hs2 hxb hxl
    have hsl := sumB_lt ((l.drop 2).take 5 ++ l.drop 11)
    obtain ⟨S, hS⟩ : ∃ s, sumB ((l.drop 2).take 5 ++ l.drop 11) = s := ⟨_, rfl⟩
    rw [hS] at hxb hsl he
    have HS1 := hid hs1
    have HS2 := hid hs2
    have hclone : ∀ u, Chg [] w u → Calls Try.prog 81 #[v11] u (NewB 5 u (l.drop 11)) := fun u hu => clone_calls v11 (l.drop 11) u (hv11.keep hu (by simp)) (by simp; omega)
    have HCL := hid hclone
    have hW0 : Wr 73 5 (w2.alloc (.cells #[.slice none 0 0] 73)) w2.heap.size none [] none 0 := ⟨heap_alloc_new w2 _, Row.nil _ _ _, by simp⟩
    have hW0' := fun o => hW0.keep ((Chg.refl [] _).alloc o) (by simp) (by simp)
    have hvS : View ((w2.alloc (.cells #[.slice none 0 0] 73)).alloc (.cells #[.int .u32 (S : Nat)] 99)) 1 (.slice (some ⟨w2.heap.size + 1, 0, none⟩) 1 1) 1 [.int .u32 (S : Nat)] := by
      have := View.one (w2.alloc (.cells #[.slice none 0 0] 73)) (.int .u32 (S : Nat)) 99
      rwa [show (w2.alloc (.cells #[.slice none 0 0] 73)).heap.size = w2.heap.size + 1 from by simp] at this
    have hca := hC2.alloc (.cells #[.slice none 0 0] 73)
    have z7 : ∀ j (hj : j < 4), w.cell? ⟨b, off + (7 + j), none⟩ = some (.int .u8 (l[7 + j].toNat : Nat)) := fun j hj => hc (7 + j) (by omega)
    have HZ := hid z7
    have HE := hid he
    have HN11 := hid hN11
    clear hs1 hs2 hclone hsm hc1v hc2v hxl hS z7 he hc hv27 hv11 HP HNE hN11 c1 c2 c3 hW0 hNl
    by_cases hcp : cap = 11
    · rw [if_pos hcp] at hv11e
      subst hcp
      subst hv11e
      have hNl : N ≤ 0 := by rw [HN11.out]; omega
      go_wp2_with (first
        | (go_at_call 80; (with_reducible refine (HS1.out _ hca).mono ?_); rintro e w' ⟨rfl, rfl⟩)
        | (go_at_call 80; (with_reducible refine (HS2.out _ hca).mono ?_); rintro e w' ⟨rfl, rfl⟩)
        | (go_at_call 79; refine halt (fun X hX => ?_)))
      rw [hX.out]; clear hX
      refine (put_u32 [S] (by intro m hm; rw [List.mem_singleton.1 hm]; exact hsl) _ _ _ _ _ _ _ (hW0' _) (by simp) hvS (fun _ g hg => by simp [Value.ownBlock] at hg; subst hg; simp) (by simp)).mono ?_
      rintro e w3 ⟨rfl, l3, r3, ao3, cap3, hW3, hc3, hf3, HL3⟩
      have hl3 : l3 = fixedB 4 S := by rw [HL3.out]; simp
      have hC3 : Chg [] w w3 := (hca.trans' ((Chg.refl [] _).alloc _)).trans hc3 (fun x hx => .inr (by simp at hx; have := hC2.size; omega))
      have HL := hid hl3
      have hl34 : l3.length = 4 := by rw [hl3, fixedB_length]
      have hat : ∃ g3, ao3 = some ⟨g3, 0, none⟩ ∧ w3.cell? ⟨g3, 0, none⟩ = some (.int .u8 (l3[0].toNat : Nat)) ∧ w3.cell? ⟨g3, 1, none⟩ = some (.int .u8 (l3[1].toNat : Nat)) ∧ w3.cell? ⟨g3, 2, none⟩ = some (.int .u8 (l3[2].toNat : Nat)) ∧ w3.cell? ⟨g3, 3, none⟩ = some (.int .u8 (l3[3].toNat : Nat)) := by
        obtain ⟨g0, e0, _, y0, _⟩ := Row.at hW3.row (k := 0) (by omega)
        obtain ⟨g1, e1, _, y1, _⟩ := Row.at hW3.row (k := 1) (by omega)
        obtain ⟨g2, e2, _, y2, _⟩ := Row.at hW3.row (k := 2) (by omega)
        obtain ⟨g3, e3, _, y3, _⟩ := Row.at hW3.row (k := 3) (by omega)
        rw [e0] at e1 e2 e3
        simp only [Option.some.injEq, Addr.mk.injEq, and_true] at e1 e2 e3
        subst e1 e2 e3
        exact ⟨g0, e0, y0, y1, y2, y3⟩
      obtain ⟨g3, rfl, y0, y1, y2, y3⟩ := hat
      have hcell := hW3.cell
      rw [hl34] at hcell
      have t0 := hC3.cell (HZ.out 0 (by omega)) (by simp)
      have t1 := hC3.cell (HZ.out 1 (by omega)) (by simp)
      have t2 := hC3.cell (HZ.out 2 (by omega)) (by simp)
      have t3 := hC3.cell (HZ.out 3 (by omega)) (by simp)
      simp only [Nat.add_zero, Nat.reduceAdd] at t0 t1 t2 t3
      have hcap3 : (4 : Int) ≤ (cap3 : Int) := by
        obtain ⟨_, _, _, _, e, h, _⟩ := hW3.row.view
        simp only [Value.slice.injEq, true_and] at e
        obtain ⟨rfl, rfl⟩ := e
        omega
      have hat : ∀ (u : World) (a : Option Addr) (c : Nat), (Instr.arrayAt 131 (.slice a 4 c)).run Try.prog u = .ok (.pointer a) u := fun u a c => run_arrayAt u 131 _ 4 a 4 c Try.underlying131 (Nat.le_refl _)
      have e4 := four_get hl34
      have p4 := four_part h1
      have hC3d := fun n => hC3.drewN (n := n)
      have x2c := hC3.cell x2 (by simp)
      have HCLd := fun n => HCL.out _ (hC3.drewN n)
      obtain ⟨q7, hq7⟩ : ∃ x, l[7] = x := ⟨_, rfl⟩
      obtain ⟨q8, hq8⟩ : ∃ x, l[8] = x := ⟨_, rfl⟩
      obtain ⟨q9, hq9⟩ : ∃ x, l[9] = x := ⟨_, rfl⟩
      obtain ⟨q10, hq10⟩ : ∃ x, l[10] = x := ⟨_, rfl⟩
      obtain ⟨r0, hr0⟩ : ∃ x, l3[0] = x := ⟨_, rfl⟩
      obtain ⟨r1, hr1⟩ : ∃ x, l3[1] = x := ⟨_, rfl⟩
      obtain ⟨r2, hr2⟩ : ∃ x, l3[2] = x := ⟨_, rfl⟩
      obtain ⟨r3', hr3'⟩ : ∃ x, l3[3] = x := ⟨_, rfl⟩
      rw [hr0, hr1, hr2, hr3'] at e4
      rw [hq7, hq8, hq9, hq10] at p4
      rw [hq7] at t0
      rw [hq8] at t1
      rw [hq9] at t2
      rw [hq10] at t3
      rw [hr0] at y0
      rw [hr1] at y1
      rw [hr2] at y2
      rw [hr3'] at y3
      have heg := eqg4
      have hnq := fun u => neq4 u q7 q8 q9 q10 r0 r1 r2 r3'
      have hE := HE.out
      rw [p4, ← HL.out, e4] at hE
      have hgd : l.getD 2 0 = l[2] := by simp [List.getD, List.getElem?_eq_getElem (show 2 < l.length by omega)]
      rw [hgd] at hE
      by_cases hgood : [q7, q8, q9, q10] = [r0, r1, r2, r3']
      · rw [if_neg (fun h => h hgood)] at hE
        have hbb : ([q7, q8, q9, q10] == [r0, r1, r2, r3']) = true := by simpa using hgood
        rw [hbb] at hnq
        have HE2 := hid hE
        have HCQ := hid HCLd
        clear hq7 hq8 hq9 hq10 hr0 hr1 hr2 hr3' e4 p4 hE hgood hbb HCLd hl3 hl34 hgd
        go_wp2
        go_quiet (fail)
        go_wp2_with fail
        go_region_held3 (fun w' => w'.cell? ⟨b, off + 2, none⟩ = some (.int .u8 (l[2].toNat : Nat)))
          (first | exact x2c | exact hc5.cell x2c (by simp))
          (first
          | (go_at_call 81; refine (HCL.out _ (by first | exact hC3.drewN _ | exact (hC3.drewN _).drewN _ | exact (hC3.drewN _).drew)).mono ?_; rintro e w5 ⟨l5, ao5, cap5, r5, rfl, hr5, hf5, hc5, HL5⟩))
        go_wp2
        go_ret3
        have hC5 : Chg [] w _ := (by first | exact (hC3.drewN _).trans' hc5 | exact ((hC3.drewN _).drewN _).trans' hc5 | exact ((hC3.drewN _).drew).trans' hc5)
        exact ⟨l5, ao5, cap5, r5, by rw [HE2.out]; rfl, hr5, (Fresh.refl w none).trans (by have := hC3.size; exact this) hf5, hC5, hid (by rw [HE2.out]; exact HL5.out)⟩
      · rw [if_pos hgood] at hE
        have hbb : ([q7, q8, q9, q10] == [r0, r1, r2, r3']) = false := by simpa using hgood
        rw [hbb] at hnq
        have HE2 := hid hE
        clear hq7 hq8 hq9 hq10 hr0 hr1 hr2 hr3' e4 p4 hE hgood hbb HCLd hl3 hl34 hgd
        go_wp2
        go_quiet (fail)
        go_wp2
        go_ret3
        exact newB3_err HE2.out (hC3.drewN _)
    · rw [if_neg hcp] at hv11e
      subst hv11e
      have hNl : N + 11 = l.length := by rw [HN11.out]; omega
      have hNl2 : N ≤ l.length - 11 := by omega
      go_wp2_with (first
        | (go_at_call 80; (with_reducible refine (HS1.out _ hca).mono ?_); rintro e w' ⟨rfl, rfl⟩)
        | (go_at_call 80; (with_reducible refine (HS2.out _ hca).mono ?_); rintro e w' ⟨rfl, rfl⟩)
        | (go_at_call 79; refine halt (fun X hX => ?_)))
      rw [hX.out]; clear hX
      refine (put_u32 [S] (by intro m hm; rw [List.mem_singleton.1 hm]; exact hsl) _ _ _ _ _ _ _ (hW0' _) (by simp) hvS (fun _ g hg => by simp [Value.ownBlock] at hg; subst hg; simp) (by simp)).mono ?_
      rintro e w3 ⟨rfl, l3, r3, ao3, cap3, hW3, hc3, hf3, HL3⟩
      have hl3 : l3 = fixedB 4 S := by rw [HL3.out]; simp
      have hC3 : Chg [] w w3 := (hca.trans' ((Chg.refl [] _).alloc _)).trans hc3 (fun x hx => .inr (by simp at hx; have := hC2.size; omega))
      have HL := hid hl3
      have hl34 : l3.length = 4 := by rw [hl3, fixedB_length]
      have hat : ∃ g3, ao3 = some ⟨g3, 0, none⟩ ∧ w3.cell? ⟨g3, 0, none⟩ = some (.int .u8 (l3[0].toNat : Nat)) ∧ w3.cell? ⟨g3, 1, none⟩ = some (.int .u8 (l3[1].toNat : Nat)) ∧ w3.cell? ⟨g3, 2, none⟩ = some (.int .u8 (l3[2].toNat : Nat)) ∧ w3.cell? ⟨g3, 3, none⟩ = some (.int .u8 (l3[3].toNat : Nat)) := by
        obtain ⟨g0, e0, _, y0, _⟩ := Row.at hW3.row (k := 0) (by omega)
        obtain ⟨g1, e1, _, y1, _⟩ := Row.at hW3.row (k := 1) (by omega)
        obtain ⟨g2, e2, _, y2, _⟩ := Row.at hW3.row (k := 2) (by omega)
        obtain ⟨g3, e3, _, y3, _⟩ := Row.at hW3.row (k := 3) (by omega)
        rw [e0] at e1 e2 e3
        simp only [Option.some.injEq, Addr.mk.injEq, and_true] at e1 e2 e3
        subst e1 e2 e3
        exact ⟨g0, e0, y0, y1, y2, y3⟩
      obtain ⟨g3, rfl, y0, y1, y2, y3⟩ := hat
      have hcell := hW3.cell
      rw [hl34] at hcell
      have t0 := hC3.cell (HZ.out 0 (by omega)) (by simp)
      have t1 := hC3.cell (HZ.out 1 (by omega)) (by simp)
      have t2 := hC3.cell (HZ.out 2 (by omega)) (by simp)
      have t3 := hC3.cell (HZ.out 3 (by omega)) (by simp)
      simp only [Nat.add_zero, Nat.reduceAdd] at t0 t1 t2 t3
      have hcap3 : (4 : Int) ≤ (cap3 : Int) := by
        obtain ⟨_, _, _, _, e, h, _⟩ := hW3.row.view
        simp only [Value.slice.injEq, true_and] at e
        obtain ⟨rfl, rfl⟩ := e
        omega
      have hat : ∀ (u : World) (a : Option Addr) (c : Nat), (Instr.arrayAt 131 (.slice a 4 c)).run Try.prog u = .ok (.pointer a) u := fun u a c => run_arrayAt u 131 _ 4 a 4 c Try.underlying131 (Nat.le_refl _)
      have e4 := four_get hl34
      have p4 := four_part h1
      have hC3d := fun n => hC3.drewN (n := n)
      have x2c := hC3.cell x2 (by simp)
      have HCLd := fun n => HCL.out _ (hC3.drewN n)
      obtain ⟨q7, hq7⟩ : ∃ x, l[7] = x := ⟨_, rfl⟩
      obtain ⟨q8, hq8⟩ : ∃ x, l[8] = x := ⟨_, rfl⟩
      obtain ⟨q9, hq9⟩ : ∃ x, l[9] = x := ⟨_, rfl⟩
      obtain ⟨q10, hq10⟩ : ∃ x, l[10] = x := ⟨_, rfl⟩
      obtain ⟨r0, hr0⟩ : ∃ x, l3[0] = x := ⟨_, rfl⟩
      obtain ⟨r1, hr1⟩ : ∃ x, l3[1] = x := ⟨_, rfl⟩
      obtain ⟨r2, hr2⟩ : ∃ x, l3[2] = x := ⟨_, rfl⟩
      obtain ⟨r3', hr3'⟩ : ∃ x, l3[3] = x := ⟨_, rfl⟩
      rw [hr0, hr1, hr2, hr3'] at e4
      rw [hq7, hq8, hq9, hq10] at p4
      rw [hq7] at t0
      rw [hq8] at t1
      rw [hq9] at t2
      rw [hq10] at t3
      rw [hr0] at y0
      rw [hr1] at y1
      rw [hr2] at y2
      rw [hr3'] at y3
      have heg := eqg4
      have hnq := fun u => neq4 u q7 q8 q9 q10 r0 r1 r2 r3'
      have hE := HE.out
      rw [p4, ← HL.out, e4] at hE
      have hgd : l.getD 2 0 = l[2] := by simp [List.getD, List.getElem?_eq_getElem (show 2 < l.length by omega)]
      rw [hgd] at hE
      by_cases hgood : [q7, q8, q9, q10] = [r0, r1, r2, r3']
      · rw [if_neg (fun h => h hgood)] at hE
        have hbb : ([q7, q8, q9, q10] == [r0, r1, r2, r3']) = true := by simpa using hgood
        rw [hbb] at hnq
        have HE2 := hid hE
        have HCQ := hid HCLd
        clear hq7 hq8 hq9 hq10 hr0 hr1 hr2 hr3' e4 p4 hE hgood hbb HCLd hl3 hl34 hgd
        go_wp2
        go_quiet (fail)
        go_wp2_with fail
        go_region_held3 (fun w' => w'.cell? ⟨b, off + 2, none⟩ = some (.int .u8 (l[2].toNat : Nat)))
          (first | exact x2c | exact hc5.cell x2c (by simp))
          (first
          | (go_at_call 81; refine (HCL.out _ (by first | exact hC3.drewN _ | exact (hC3.drewN _).drewN _ | exact (hC3.drewN _).drew)).mono ?_; rintro e w5 ⟨l5, ao5, cap5, r5, rfl, hr5, hf5, hc5, HL5⟩))
        go_wp2
        go_ret3
        have hC5 : Chg [] w _ := (by first | exact (hC3.drewN _).trans' hc5 | exact ((hC3.drewN _).drewN _).trans' hc5 | exact ((hC3.drewN _).drew).trans' hc5)
        exact ⟨l5, ao5, cap5, r5, by rw [HE2.out]; rfl, hr5, (Fresh.refl w none).trans (by have := hC3.size; exact this) hf5, hC5, hid (by rw [HE2.out]; exact HL5.out)⟩
      · rw [if_pos hgood] at hE
        have hbb : ([q7, q8, q9, q10] == [r0, r1, r2, r3']) = false := by simpa using hgood
        rw [hbb] at hnq
        have HE2 := hid hE
        clear hq7 hq8 hq9 hq10 hr0 hr1 hr2 hr3' e4 p4 hE hgood hbb HCLd hl3 hl34 hgd
        go_wp2
        go_quiet (fail)
        go_wp2
        go_ret3
        exact newB3_err HE2.out (hC3.drewN _)
end Go.Proofs.Ytbikekgljabalaa
