/- Walks of the code layer: a thread taken off, the walk. -/
import Derived.Test.YtbikekgljabalaaM06
import Derived.WalkMore
import Derived.Deep.LoopGhost
import Derived.Deep.DeepCutAuto
namespace Go.Proofs.Ytbikekgljabalaa
open Go.RowKit Go.AB
set_option linter.unusedSimpArgs false
set_option linter.unusedVariables false
set_option linter.unusedSectionVars false

section
variable {w : World} {b : Nat} {l : List UInt8} {ao : Option Addr} {cap pos wh bad q : Nat}
set_option maxHeartbeats 1000000 in
theorem count_okg (m : Nat) (hm : m ≤ 65535) (hR : Rd 133 w b l ao cap pos wh bad) (hl : l.length ≤ 16777216) {v p2 w2 : Nat} (h1 : rShort m l ⟨pos, wh, bad⟩ = (v, ⟨p2, w2, 0⟩)) :
    Calls Try.prog 46 #[.agg #[.pointer (some ⟨b, 0, none⟩)], .int .i64 m] w fun e w' => e = .returned (.int .i64 v) ∧ Rd 133 w' b l ao cap p2 w2 0 ∧ Chg [b] w w' := by
  have hv : v ≤ m := by have := rShort_le m l ⟨pos, wh, bad⟩; rw [h1] at this; exact this
  have hca := (Chg.refl [] w).alloc (.cells #[.pointer (some ⟨b, 0, none⟩)] 89)
  have hR' := hR.keep hca (by simp) (by simp)
  have hs := rshort_calls hR' (by omega) m
  rw [h1] at hs
  have HS := hid hs
  have z1 : IntKind.u64.wrap (m : Int) = (m : Int) := by rw [IntKind.wrap_u64]; omega
  have z2 : wrap64 (v : Int) = (v : Int) := IntWalk.wrap64_in _ (by omega)
  clear hs h1 hR'
  go_enter Try.func46, Try.ntmps46
  go_wp2_with (first
    | (go_at_call 84; refine (HS.out).mono ?_; rintro e w1 ⟨rfl, hR2, hc2⟩; have h8 := hc2.cell (p := ⟨w.heap.size, 0, none⟩) (v := .pointer (some ⟨b, 0, none⟩)) (by simp) (by have := blk_lt hR.blk; simp; omega))
    | (go_at_call 48; refine (sure_ok hR2).mono ?_; rintro e w2 ⟨rfl, hc3⟩))
  go_ret
  exact ⟨rfl, hR2.keep hc3 (by simp) (by simp), (hca.nil.trans' hc2).trans' hc3.nil⟩
set_option maxHeartbeats 1000000 in
theorem count_badg (m : Nat) (hm : m ≤ 65535) (hR : Rd 133 w b l ao cap pos wh bad) (hl : l.length ≤ 16777216) {v p2 w2 b2 : Nat} (hr : rShort m l ⟨pos, wh, bad⟩ = (v, ⟨p2, w2, b2⟩)) (h1 : b2 ≠ 0) :
    Calls Try.prog 46 #[.agg #[.pointer (some ⟨b, 0, none⟩)], .int .i64 m] w fun e w' => e = gaveUp ∧ Chg [b] w w' := by
  have hca := (Chg.refl [] w).alloc (.cells #[.pointer (some ⟨b, 0, none⟩)] 89)
  have hR' := hR.keep hca (by simp) (by simp)
  have hs := rshort_calls hR' (by omega) m
  rw [hr] at hs
  have HS := hid hs
  have z1 : IntKind.u64.wrap (m : Int) = (m : Int) := by rw [IntKind.wrap_u64]; omega
  clear hs hR' hr
  go_enter Try.func46, Try.ntmps46
  go_wp2_with (first
    | (go_at_call 84; refine (HS.out).mono ?_; rintro e w1 ⟨rfl, hR2, hc2⟩; have h8 := hc2.cell (p := ⟨w.heap.size, 0, none⟩) (v := .pointer (some ⟨b, 0, none⟩)) (by simp) (by have := blk_lt hR.blk; simp; omega))
    | (go_at_call 48; refine (sure_bad hR2 h1 _).mono ?_; rintro e w2 ⟨rfl, hc3⟩; unfold gaveUp))
  exact ⟨rfl, rfl, (hca.nil.trans' hc2).trans' hc3.nil⟩
theorem wrap_small {c : Nat} (h : c ≤ 2147483647) : IntKind.i64.wrap (c : Int) = (c : Int) := by rw [IntKind.wrap_i64]; omega
theorem dinstr_ok (hO : Ok w b l ao cap q) (hl : l.length ≤ 16777216) {xo xa xb xc xn : Int} {q1 : Nat} (h : dIns l q = some (⟨xo, xa, xb, xc, xn⟩, q1)) :
    Calls Try.prog 87 #[.agg #[.pointer (some ⟨b, 0, none⟩)]] w fun e w' => e = .returned (.agg #[.int .i64 xo, .int .i64 xa, .int .i64 xb, .int .i64 xc, .int .i64 xn]) ∧ Ok w' b l ao cap q1 ∧ Chg [b] w w' := by
  refine (dinstr_calls hO hl).mono fun e w' hd => ?_
  rcases hd with ⟨x, q2, h1, h2, h3, h4⟩ | ⟨h1, _⟩
  · rw [h] at h1
    simp only [Option.some.injEq, Prod.mk.injEq] at h1
    obtain ⟨rfl, rfl⟩ := h1
    exact ⟨h2, h3, h4⟩
  · rw [h] at h1; cases h1
theorem dinstr_no (hO : Ok w b l ao cap q) (hl : l.length ≤ 16777216) (h : dIns l q = none) :
    Calls Try.prog 87 #[.agg #[.pointer (some ⟨b, 0, none⟩)]] w fun e w' => e = gaveUp ∧ Chg [b] w w' := by
  refine (dinstr_calls hO hl).mono fun e w' hd => ?_
  rcases hd with ⟨x, q2, h1, _⟩ | ⟨_, h2, h3⟩
  · rw [h] at h1; cases h1
  · exact ⟨h2, h3⟩
theorem TH.start {w2 w3 : World} {p h bd : Nat} {nm : Value} (hO : Ok w b l ao cap q)
    (hc2 : Chg [b] ((w.alloc (.cells #[.pointer (some ⟨b, 0, none⟩)] 89)).alloc (.cells #[.string ⟨#[]⟩, .slice none 0 0, .slice none 0 0] 59)) w2)
    (hc3 : Chg [b] (w2.alloc (.cells #[nm, .slice none 0 0, .slice none 0 0] 59)) w3) (hr : Rd 133 w3 b l ao cap p h bd) :
    TH w w3 b l ao cap p h bd w2.heap.size nm (.slice none 0 0) (.slice none 0 0) none none 0 0 [] [] := by
  have hbl := blk_lt hO.rd.blk
  have hs := hc2.size
  simp only [World.size_alloc] at hs
  have h1 : ((w.alloc (.cells #[.pointer (some ⟨b, 0, none⟩)] 89)).alloc (.cells #[.string ⟨#[]⟩, .slice none 0 0, .slice none 0 0] 59)).heap[w.heap.size]? = some (.cells #[.pointer (some ⟨b, 0, none⟩)] 89 (0, 0)) := blk_alloc_old (heap_alloc_new w _) _
  have h2 := heap_alloc_new (w.alloc (.cells #[.pointer (some ⟨b, 0, none⟩)] 89)) (.cells #[.string ⟨#[]⟩, .slice none 0 0, .slice none 0 0] 59)
  rw [World.size_alloc] at h2
  exact ⟨hr, hO.lt, hbl, (((((Chg.refl [b] w).alloc _).alloc _).trans' hc2).alloc _).trans' hc3,
    hc3.heap (blk_alloc_old (hc2.heap h1 (by simp; omega)) _) (by simp; omega), hc3.heap (blk_alloc_old (hc2.heap h2 (by simp; omega)) _) (by simp; omega), hc3.heap (heap_alloc_new w2 _) (by simp; omega), by omega,
    Row.nil _ _ _, Row.nil _ _ _, (fun g hg => by cases hg), (fun g hg => by cases hg), (fun g hg => by cases hg)⟩

theorem TH.done {u : World} {p xb n : Nat} {nm : ByteArray} {vc vp a0 a1 a2 : Value} {rc rp : Option Nat} {xs : List (InsD × PlcD)} (k : TH w u b l ao cap p 0 0 xb (.string nm) vc vp rc rp n n ((xs.map Prod.fst).flatMap insC) ((xs.map Prod.snd).flatMap plcC)) (hn : xs.length = n)
    (hd : dThr l q = some (⟨nm, xs.map Prod.fst, xs.map Prod.snd⟩, p)) :
    DT w b l ao cap (dThr l q) (.returned (.agg #[.string nm, vc, vp])) (((u.setCell ⟨w.heap.size + 1, 0, none⟩ a0).setCell ⟨w.heap.size + 1, 1, none⟩ a1).setCell ⟨w.heap.size + 1, 2, none⟩ a2) := by
  have hb := k.bl
  have hc := (((Chg.refl [w.heap.size + 1] u).setCell (p := ⟨w.heap.size + 1, 0, none⟩) (.inl (by simp)) a0).setCell (p := ⟨w.heap.size + 1, 1, none⟩) (.inl (by simp)) a1).setCell (p := ⟨w.heap.size + 1, 2, none⟩) (.inl (by simp)) a2
  have hr := k.rd.keep hc (by simp; omega) (fun g hg => by have := k.lt g hg; simp; omega)
  have hC := k.chg.trans hc (fun y hy => .inr (by simp at hy; subst hy; omega))
  subst hn
  refine .inl ⟨_, p, vc, vp, rc, rp, hd, rfl, ?_, ?_, fun g hg => .inr (by have := k.frc g hg; omega), fun g hg => .inr (by have := k.frp g hg; omega), ⟨hr, fun g hg => Nat.lt_of_lt_of_le (k.lt g hg) hC.size⟩, hC⟩
  · simp only [List.length_map]
    exact k.rowc.keep hc (fun g hg => by have := k.frc g hg; simp; omega)
  · simp only [List.length_map]
    exact k.rowp.keep hc (fun g hg => by have := k.frp g hg; simp; omega)
set_option maxHeartbeats 8000000 in
set_option maxRecDepth 100000 in
theorem thread_calls (hO : Ok w b l ao cap q) (hl : l.length ≤ 16777216) :
    Calls Try.prog 50 #[.agg #[.pointer (some ⟨b, 0, none⟩)]] w (DT w b l ao cap (dThr l q)) := by
  have hbl := blk_lt hO.rd.blk
  obtain ⟨nm, p1, h1, b1, hT⟩ : ∃ o p h b, rText 24 l ⟨q, 0, 0⟩ = (o, ⟨p, h, b⟩) := ⟨_, _, _, _, rfl⟩
  obtain ⟨n, p0, h0, b0, hS⟩ : ∃ o p h b, rShort 4096 l ⟨p1, h1, b1⟩ = (o, ⟨p, h, b⟩) := ⟨_, _, _, _, rfl⟩
  have hP : pHead l ⟨q, 0, 0⟩ = ((nm, n), ⟨p0, h0, b0⟩) := by unfold pHead; rw [hT]; simp only [hS]
  have hn4 : n ≤ 4096 := by have := rShort_le 4096 l ⟨p1, h1, b1⟩; rw [hS] at this; exact this
  have hR0 := (hO.keep ((((Chg.refl [] w).alloc (.cells #[.pointer (some ⟨b, 0, none⟩)] 89))).alloc (.cells #[.string ⟨#[]⟩, .slice none 0 0, .slice none 0 0] 59))).rd
  have HNM := hid (name_calls hR0 hl)
  rw [hT] at HNM
  have HS := hid hS
  clear hS hR0 hT
  by_cases hb0 : b0 = 0
  · subst hb0
    have hh0 : h0 = 0 := by
      have hw := (((p_text (L := l) (by omega)).pair (fun _ => p_short 4096)).fwd ⟨q, 0, 0⟩ hO.rd.ok (by show (pHead l ⟨q, 0, 0⟩).2.bad = 0; rw [hP])).1
      replace hw : (pHead l ⟨q, 0, 0⟩).2.wh = 0 := hw
      rw [hP] at hw
      exact hw
    subst hh0
    have HP : Hid (sureP (pHead l) (fun _ => true) q = some ((nm, n), p0)) := hid (by unfold sureP; rw [hP]; simp)
    clear hP
    go_enter Try.func50, Try.ntmps50
    go_wp2_with (first
      | (go_at_call 47; refine (HNM.out).mono ?_; rintro e w2 ⟨rfl, hR2, hc2⟩; unfold strB; have hbox2 := fun o => (hc2.alloc o).cell (p := ⟨w.heap.size, 0, none⟩) (v := .pointer (some ⟨b, 0, none⟩)) (by simp) (by simp; omega))
      | (go_at_call 46; refine (count_okg 4096 (by omega) (hR2.keep ((Chg.refl [] _).alloc _) (by simp) (by simp)) hl HS.out).mono ?_; rintro e w3 ⟨rfl, hR3, hc3⟩))
    have hth := TH.start hO hc2 hc3 hR3
    obtain ⟨xb, hxb⟩ : ∃ x, w2.heap.size = x := ⟨_, rfl⟩
    rw [hxb] at hth ⊢
    have HTH := hid hth
    have HTP := hid (TP.start l n p0)
    clear hth hR3 hc3 hc2 hR2 hbox2 HNM HS hxb
    go_loopg [4, 11] n (fun gk vl vi wr => ∃ (j q : Nat) (line : Int) (xs : List (InsD × PlcD)) (rc rp : Option Nat) (av ap : Option Addr) (cv cp : Nat), j + gk = n ∧ vl = .int .i64 line ∧ vi = .int .i64 j ∧
      Hid (TH w wr b l ao cap q 0 0 xb (.string ⟨nm.toArray⟩) (.slice av j cv) (.slice ap j cp) rc rp j j ((xs.map Prod.fst).flatMap insC) ((xs.map Prod.snd).flatMap plcC)) ∧ Hid (TP l n p0 j line q xs))
    case atStart => exact ⟨0, p0, 0, [], none, none, none, none, 0, 0, by omega, rfl, rfl, HTH, HTP⟩
    case round =>
      clear HTH HTP
      obtain ⟨j, q2, line, xs, rc, rp, av, ap, cv, cp, hj, rfl, rfl, HT, HP2⟩ := hrel
      obtain ⟨hbox, x0, x1, x2, f1, f2, n1, n2⟩ := HT.out.facts
      by_cases hlt : j < n
      · have zl : (j : Int) < (n : Int) := by omega
        have hj4 : j ≤ 4096 := by omega
        rcases hi : dIns l q2 with _ | ⟨x, q3⟩
        · have HI := hid (fun u (hu : Chg [] wr u) => dinstr_no (w := u) ⟨(HT.out.same hu).rd, fun g hg => Nat.lt_of_lt_of_le (HT.out.lt g hg) (HT.out.same hu).chg.size⟩ hl hi)
          have hd := dThr_none2 HP.out (HP2.out.stop hlt (dIP_none1 hi))
          rw [hd]
          clear hd hi
          go_wp2_with fail
          (refine wp_region_held_drew (S := (fun w' => w'.cell? ⟨w.heap.size, 0, none⟩ = some (.pointer (some ⟨b, 0, none⟩)) ∧ w'.cell? ⟨xb, 1, none⟩ = some (.slice av j cv))) (by kernel_rfl) (by exact ⟨hbox, x1⟩) (fun hHeld => ?_); (refine wpAnyH_take (i := 0) (v := ?_) rfl (by kernel_rfl) (by kernel_rfl) (by kernel_rfl) (fun _ _ _ h => h) (Or.inl ⟨by rfl, ?_⟩) (by assumption) ?_; rotate_left 1; (focus (intro w hSw; (try dsimp only at hSw); go_simp; (try with_reducible rfl))); (try simp only [List.getElem_toArray, List.getElem_cons_zero, List.getElem_cons_succ, Act.put, List.setIfInBounds_toArray, List.set_cons_zero, List.set_cons_succ])); (refine wpAnyH_take (i := 1) (v := ?_) rfl (by kernel_rfl) (by kernel_rfl) (by kernel_rfl) (fun _ _ _ h => h) (Or.inl ⟨by rfl, ?_⟩) (by assumption) ?_; rotate_left 1; (focus (intro w hSw; (try dsimp only at hSw); go_simp; (try with_reducible rfl))); (try simp only [List.getElem_toArray, List.getElem_cons_zero, List.getElem_cons_succ, Act.put, List.setIfInBounds_toArray, List.set_cons_zero, List.set_cons_succ])); (refine wpAnyH_take (i := 2) (v := ?_) rfl (by kernel_rfl) (by kernel_rfl) (by kernel_rfl) (fun _ _ _ h => h) (Or.inl ⟨by rfl, ?_⟩) (by assumption) ?_; rotate_left 1; (focus (intro w hSw; (try dsimp only at hSw); go_simp; (try with_reducible rfl))); (try simp only [List.getElem_toArray, List.getElem_cons_zero, List.getElem_cons_succ, Act.put, List.setIfInBounds_toArray, List.set_cons_zero, List.set_cons_succ])); (refine wpAnyH_ready (rs := [3]) (by kernel_rfl) (by simp) ?_; refine AllReadyH.cons rfl (fun K hK => ?_) AllReadyH.nil; go_simp); (go_at_call 87; refine (HI.out _ (Chg.of_drewN [] wr 1)).mono ?_; rintro e w5 ⟨rfl, hc5⟩; unfold gaveUp; exact ⟨rfl, .inr ⟨rfl, rfl, (HT.out.chg.drewN 1).trans' hc5⟩⟩))
        · obtain ⟨xo, xa, xbb, xc, xn⟩ := x
          have HI := hid (fun u (hu : Chg [] wr u) => dinstr_ok (w := u) ⟨(HT.out.same hu).rd, fun g hg => Nat.lt_of_lt_of_le (HT.out.lt g hg) (HT.out.same hu).chg.size⟩ hl hi)
          have HDI := hid hi
          clear hi
          go_upto_region 5 with fail
          go_cut [13] (fun _ wx => Hid (∃ (av' : Option Addr) (cv' : Nat) (rc' : Option Nat), TH w wx b l ao cap q3 0 0 xb (.string ⟨nm.toArray⟩) (.slice av' (j + 1) cv') (.slice ap j cp) rc' rp (j + 1) j ((xs.map Prod.fst).flatMap insC ++ insC ⟨xo, xa, xbb, xc, xn⟩) ((xs.map Prod.snd).flatMap plcC)))
          case first =>
            go_region_law (first
              | (refine step_app rfl _ _ 56 rfl elem_ins rfl (hT5.rowc.keep ((Chg.refl [] _).alloc _) (by simp)) rfl (View.struct _ [.int .i64 xo, .int .i64 xa, .int .i64 xbb, .int .i64 xc, .int .i64 xn] 61 rfl) (by simp [Value.oneCell']) (by unfold maxLen; omega) (by omega) (fun ao' cap' r' w6 hr6 hc6 hf6 => ?_); obtain ⟨⟨y1, y2, y3⟩, hth6⟩ := (hT5.same ((Chg.refl [] _).alloc _)).putc hr6 hc6 hf6)
              | (go_simp; go_at_call 87; refine (HI.out _ (Chg.of_drewN [] wr _)).mono ?_; rintro e w5 ⟨rfl, hO5, hc5⟩; have hT5 := (HT.out.same (Chg.of_drewN [] wr 1)).take hc5 hO5.rd; obtain ⟨hbox5, x05, x15, x25, f15, f25, n15, n25⟩ := hT5.facts; have hx5 := fun o => ((hT5.same ((Chg.refl [] _).alloc o)).facts).2.2.1))
            all_goals
              go_wp2_with fail
              go_meet
              exact hid ⟨_, _, _, hth6⟩
          case rest =>
          obtain ⟨av2, cv2, rc2, hT6⟩ := hcut.out
          clear hcut hbox x0 x1 x2 f1 f2 n1 n2 HI
          obtain ⟨hbox, x0, x1, x2, f1, f2, n1, n2⟩ := hT6.facts
          have HT6 := hid hT6
          have l0 := HP2.out.l0
          have l1 := HP2.out.l1
          clear hT6
          rcases h7 : sureP (rSigned l) (plcOk line) q3 with _ | ⟨d, q4⟩
          · obtain ⟨d, p3, h3, b3, hS3⟩ : ∃ o p h b, rSigned l ⟨q3, 0, 0⟩ = (o, ⟨p, h, b⟩) := ⟨_, _, _, _, rfl⟩
            have hbad := sureP_none h7
            rw [hS3] at hbad
            simp only at hbad
            have hd : dThr l q = none := dThr_none2 HP.out (HP2.out.stop hlt (dIP_none2 HDI.out h7))
            have HD := hid hd
            have HSG := hid (rsigned_calls HT6.out.rd (by omega))
            rw [hS3] at HSG
            clear hd h7 hS3
            have hcs : (decide (-2147483647 ≤ d) = false) ∨ (decide (-2147483647 ≤ d) = true ∧ decide (d ≤ 2147483647) = false) ∨ (decide (-2147483647 ≤ d) = true ∧ decide (d ≤ 2147483647) = true ∧ wrap64 (line + d) = line + d ∧ decide (0 ≤ line + d) = false) ∨
                (decide (-2147483647 ≤ d) = true ∧ decide (d ≤ 2147483647) = true ∧ wrap64 (line + d) = line + d ∧ decide (0 ≤ line + d) = true ∧ decide (line + d ≤ 2147483647) = false) ∨
                (decide (-2147483647 ≤ d) = true ∧ decide (d ≤ 2147483647) = true ∧ wrap64 (line + d) = line + d ∧ decide (0 ≤ line + d) = true ∧ decide (line + d ≤ 2147483647) = true ∧ b3 ≠ 0) := by
              by_cases d1 : -2147483647 ≤ d
              · by_cases d2 : d ≤ 2147483647
                · have hw : wrap64 (line + d) = line + d := IntWalk.wrap64_in _ (by omega)
                  by_cases d3 : 0 ≤ line + d
                  · by_cases d4 : line + d ≤ 2147483647
                    · refine .inr (.inr (.inr (.inr ⟨by simp [d1], by simp [d2], hw, by simp [d3], by simp [d4], ?_⟩)))
                      refine hbad.resolve_right (fun h => ?_)
                      simp [plcOk, d1, d2, d3, d4] at h
                    · exact .inr (.inr (.inr (.inl ⟨by simp [d1], by simp [d2], hw, by simp [d3], by simp [d4]⟩)))
                  · exact .inr (.inr (.inl ⟨by simp [d1], by simp [d2], hw, by simp [d3]⟩))
                · exact .inr (.inl ⟨by simp [d1], by simp [d2]⟩)
              · exact .inl (by simp [d1])
            clear hbad
            rcases hcs with c1 | ⟨c1, c2⟩ | ⟨c1, c2, c3, c4⟩ | ⟨c1, c2, c3, c4, c5⟩ | ⟨c1, c2, c3, c4, c5, c6⟩
            all_goals
              go_wp2_with (first
                | (go_at_call 49; refine (HSG.out).mono ?_; rintro e w7 ⟨rfl, hR7, hc7⟩; have hT7 := HT6.out.take hc7 hR7; obtain ⟨hbox7, x07, x17, x27, f17, f27, n17, n27⟩ := hT7.facts)
                | (go_at_call 48; refine (sure_gone hT7.rd _ (by first | exact .inr rfl | exact .inl c6)).mono ?_; rintro e w8 ⟨rfl, hc8⟩; unfold gaveUp))
            all_goals exact ⟨rfl, .inr ⟨HD.out, rfl, hT7.chg.trans' hc8.nil⟩⟩
          · obtain ⟨hS3, hok⟩ := sureP_some p_signed HT6.out.rd.ok h7
            have HSG := hid (rsigned_calls HT6.out.rd (by omega))
            rw [hS3] at HSG
            unfold plcOk at hok
            simp only [Bool.and_eq_true] at hok
            obtain ⟨⟨⟨c1, c2⟩, c4⟩, c5⟩ := hok
            have d1 := of_decide_eq_true c1
            have d2 := of_decide_eq_true c2
            have d4 := of_decide_eq_true c4
            have d5 := of_decide_eq_true c5
            have c3 : wrap64 (line + d) = line + d := IntWalk.wrap64_in _ (by omega)
            have H7 := hid h7
            clear h7 hS3
            go_upto_region 9 with (first
              | (go_at_call 49; refine (HSG.out).mono ?_; rintro e w7 ⟨rfl, hR7, hc7⟩; have hT7 := HT6.out.take hc7 hR7; obtain ⟨hbox7, x07, x17, x27, f17, f27, n17, n27⟩ := hT7.facts)
              | (go_at_call 48; refine (sure_ok hT7.rd).mono ?_; rintro e w8 ⟨rfl, hc8⟩))
            have hT8 := hT7.same hc8
            have HT8 := hid hT8
            clear hbox7 x07 x17 x27 f17 f27 n17 n27 hT7 hR7 hc7 hc8 HSG hbox x0 x1 x2 f1 f2 n1 n2
            obtain ⟨hbox, x0, x1, x2, f1, f2, n1, n2⟩ := hT8.facts
            clear hT8
            obtain ⟨ln, hln⟩ : ∃ ln, line + d = ln := ⟨_, rfl⟩
            rw [hln] at c3 c4 c5 d4 d5 ⊢
            obtain ⟨c, p4, h4, b4, hS4⟩ : ∃ o p h b, rShort 2147483647 l ⟨q4, 0, 0⟩ = (o, ⟨p, h, b⟩) := ⟨_, _, _, _, rfl⟩
            have hcl : c ≤ 2147483647 := by have := rShort_le 2147483647 l ⟨q4, 0, 0⟩; rw [hS4] at this; exact this
            have hSH := fun u (hu : Chg [] w8 u) => rshort_calls (HT8.out.same hu).rd (by omega) 2147483647
            rw [hS4] at hSH
            simp only [show ((2147483647 : Nat) : Int) = 2147483647 from rfl] at hSH
            have HSH := hid hSH
            have zc : wrap64 (c : Int) = (c : Int) := IntWalk.wrap64_in _ (by omega)
            have zc2 : IntKind.i64.wrap (c : Int) = (c : Int) := wrap_small hcl
            have HS4 := hid hS4
            have HLN := hid hln
            clear hSH hS4 hln c1 c2 c3 c4 c5
            go_cut [13] (fun _ wx => Hid (∃ (ap' : Option Addr) (cp' : Nat) (rp' : Option Nat), TH w wx b l ao cap p4 h4 b4 xb (.string ⟨nm.toArray⟩) (.slice av2 (j + 1) cv2) (.slice ap' (j + 1) cp') rc2 rp' (j + 1) (j + 1) ((xs.map Prod.fst).flatMap insC ++ insC ⟨xo, xa, xbb, xc, xn⟩) ((xs.map Prod.snd).flatMap plcC ++ plcC ⟨ln, c⟩)))
            case first =>
              go_region_law (first
                | (refine step_app rfl _ _ 57 rfl elem_plc rfl (hT9.rowp.keep ((Chg.refl [] _).alloc _) (by simp)) rfl (View.struct _ [.int .i64 ln, .int .i64 (c : Int)] 63 rfl) (by simp [Value.oneCell']) (by unfold maxLen; omega) (by omega) (fun ao' cap' r' w10 hr10 hc10 hf10 => ?_); obtain ⟨⟨y1, y2, y3⟩, hth10⟩ := (hT9.same ((Chg.refl [] _).alloc _)).putp hr10 hc10 hf10)
                | (go_simp; go_at_call 84; refine (HSH.out _ (Chg.of_drewN [] w8 _)).mono ?_; rintro e w9 ⟨rfl, hR9, hc9⟩; have hT9 := (HT8.out.same (Chg.of_drewN [] w8 1)).take hc9 hR9; obtain ⟨hbox9, x09, x19, x29, f19, f29, n19, n29⟩ := hT9.facts; have hx9 := fun o => ((hT9.same ((Chg.refl [] _).alloc o)).facts).2.2.2.1))
              all_goals
                go_wp2_with fail
                go_meet
                exact hid ⟨_, _, _, hth10⟩
            case rest =>
            obtain ⟨ap3, cp3, rp3, hT10⟩ := hcut.out
            clear hcut hbox x0 x1 x2 f1 f2 n1 n2 HSH
            obtain ⟨hbox, x0, x1, x2, f1, f2, n1, n2⟩ := hT10.facts
            have HT10 := hid hT10
            clear hT10
            by_cases hb4 : b4 = 0
            · subst hb4
              have hh4 : h4 = 0 := by have h := (rShort_wh (m := 2147483647) (L := l) (s := ⟨q4, 0, 0⟩) (by rw [HS4.out])).1; rw [HS4.out] at h; exact h
              subst hh4
              have h9 : sureP (rShort 2147483647 l) (fun _ => true) q4 = some (c, p4) := by unfold sureP; rw [HS4.out]; simp
              have hdi := dIP_some HDI.out H7.out h9
              rw [HLN.out] at hdi
              have HTP := hid (HP2.out.step hlt hdi d4 d5)
              obtain ⟨hcc, hcp⟩ := cc_step xs ⟨xo, xa, xbb, xc, xn⟩ ⟨ln, c⟩
              have HCC := hid (And.intro hcc hcp)
              clear hdi h9 hcc hcp
              go_wp2_with (go_at_call 48; refine (sure_ok HT10.out.rd).mono ?_; rintro e w11 ⟨rfl, hc11⟩)
              have hT11 := HT10.out.same hc11
              rw [HCC.out.1, HCC.out.2] at hT11
              have HT11 := hid hT11
              clear hT11 hc11
              go_roundg (gk - 1)
              case measure => omega
              case rel => exact ⟨j + 1, p4, ln, xs ++ [(⟨xo, xa, xbb, xc, xn⟩, ⟨ln, c⟩)], rc2, rp3, av2, ap3, cv2, cp3, by omega, by go_num, by go_num, HT11, HTP⟩
            · have h9 : sureP (rShort 2147483647 l) (fun _ => true) q4 = none := by unfold sureP; rw [HS4.out, if_neg (fun h => hb4 h.1)]
              have HD := hid (dThr_none2 HP.out (HP2.out.stop hlt (dIP_none3 HDI.out H7.out h9)))
              clear h9
              go_wp2_with (go_at_call 48; refine (sure_bad HT10.out.rd hb4 _).mono ?_; rintro e w11 ⟨rfl, hc11⟩; unfold gaveUp)
              exact ⟨rfl, .inr ⟨HD.out, rfl, HT10.out.chg.trans' hc11.nil⟩⟩
      · obtain rfl : n = j := by omega
        have HR := hid (dThr_some HP.out HP2.out.done)
        obtain ⟨r0, r1, r2, g0, g1, g2⟩ : (wr.cell? ⟨w.heap.size + 1, 0, none⟩ = some (.string ⟨#[]⟩) ∧ wr.cell? ⟨w.heap.size + 1, 1, none⟩ = some (.slice none 0 0) ∧ wr.cell? ⟨w.heap.size + 1, 2, none⟩ = some (.slice none 0 0) ∧
          wr.frozen? ⟨w.heap.size + 1, 0, none⟩ = false ∧ wr.frozen? ⟨w.heap.size + 1, 1, none⟩ = false ∧ wr.frozen? ⟨w.heap.size + 1, 2, none⟩ = false) := ⟨blk_cell HT.out.res 0, blk_cell HT.out.res 1, blk_cell HT.out.res 2, blk_free HT.out.res 0, blk_free HT.out.res 1, blk_free HT.out.res 2⟩
        go_wp2
        exact bodyPost_ret (v := .agg #[.string ⟨nm.toArray⟩, .slice av n cv, .slice ap n cp]) (by simp [results, Try.results50, go_sem, x0, x1, x2, r0, r1, r2]) rfl (HT.out.done HP2.out.len HR.out)
  · have hd : dThr l q = none := dThr_none (by unfold sureP; rw [hP, if_neg (fun h => hb0 h.1)])
    rw [hd]
    clear hd hP
    go_enter Try.func50, Try.ntmps50
    go_wp2_with (first
      | (go_at_call 47; refine (HNM.out).mono ?_; rintro e w2 ⟨rfl, hR2, hc2⟩; unfold strB; have hbox2 := fun o => (hc2.alloc o).cell (p := ⟨w.heap.size, 0, none⟩) (v := .pointer (some ⟨b, 0, none⟩)) (by simp) (by simp; omega))
      | (go_at_call 46; refine (count_badg 4096 (by omega) (hR2.keep ((Chg.refl [] _).alloc _) (by simp) (by simp)) hl HS.out hb0).mono ?_; rintro e w3 ⟨rfl, hc3⟩; unfold gaveUp))
    exact ⟨rfl, .inr ⟨rfl, rfl, (((((Chg.refl [b] w).alloc _).alloc _).trans' hc2).alloc _).trans' hc3⟩⟩
end
end Go.Proofs.Ytbikekgljabalaa
