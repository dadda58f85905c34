/- The law WireTurned: its walk. -/
import Derived.Test.YtdakcphkaljghaaTa
import Derived.Test.YtdakcphkaljghaaLaw2
import Derived.Test.YtdakcphkaljghaaTturn
namespace Go.Proofs.Ytdakcphkaljghaa
open Go.RowKit Go.AB
set_option linter.unusedSimpArgs false
set_option linter.unusedVariables false

theorem u8_xor (x y : UInt8) : bits .xor .u8 (x.toNat : Int) (y.toNat : Int) = ((x ^^^ y).toNat : Int) := by
  have hx := x.toNat_lt
  have hy := y.toNat_lt
  rw [u8_xor_nat _ _ (by omega) (by omega), UInt8.toNat_xor]

set_option maxHeartbeats 4000000 in
set_option maxRecDepth 100000 in
theorem turned_walk (kind : UInt8) (vb : Value) (body : List UInt8) (at_ : Int) (by_ : Nat) (W : World) (hb : Bytes W vb body) (hl : body.length ≤ 1048576) (hat : I64 at_) (hby : by_ < 4294967296) :
    Calls Try.prog 5 #[.agg #[.int .u8 kind.toNat, vb, .int .i64 at_, .int .u32 by_]] W fun e W' => e = .returned (.bool true) ∧ Below W.heap.size W W' := by
  have HB := hid hb
  obtain ⟨aob, capb, rfl⟩ : ∃ ao cap, vb = .slice ao body.length cap := by obtain ⟨ao, cap, h, _⟩ := hb.out; exact ⟨ao, cap, h⟩
  have hca := (Chg.refl [] W).alloc (.cells #[.int .u8 kind.toNat, .slice aob body.length capb, .int .i64 at_, .int .u32 by_] 45)
  clear hb
  go_enter Try.func5, Try.ntmps5
  go_wp2
  go_quiet (fail)
  have hcd := fun n => hca.drewN n
  have HF := hid fun n => frame_calls kind _ body _ (HB.out.keep (hcd n) (by simp)) (by omega)
  go_wp2_with (go_at_call 19; refine (HF.out _).mono ?_; rintro e w1 ⟨l1, ao1, cap1, r1, rfl, hr1, hf1, hc1, HL1⟩; refine halt (fun X hX => ?_))
  rw [hX.out]; clear hX
  have hC1 := (hcd _).trans' hc1
  have hn1 : l1.length = body.length + 11 := by rw [HL1.out]; exact frameB_length _ _
  have ho := open_calls _ l1 _ hr1.view (by rw [hn1]; omega)
  have hoe : openB l1 = (kind, body, 0) := by rw [HL1.out]; exact openB_of_frame kind body (by omega)
  rw [hoe] at ho
  have HO := hid ho
  have g1 : l1.length ≤ body.length + 11 := by omega
  have g2 : body.length + 11 ≤ l1.length := by omega
  have g3 : ((l1.length : Int) != (body.length : Int) + 11) = false := by simp; omega
  have g4 : ((l1.length : Int) == 0) = false := by rw [beq_eq_false_iff_ne]; omega
  have HN1 := hid hn1
  clear ho hoe HF hn1
  go_wp2_with (go_at_call 20; refine HO.out.mono ?_; rintro e w2 ⟨l2, ao2, cap2, r2, rfl, hr2, hf2, hc2, HL2⟩; refine halt (fun X hX => ?_))
  rw [hX.out]; clear hX
  obtain rfl : body = l2 := HL2.out.symm
  have hC2 := hC1.trans' hc2
  have hcv1 := run_conv_view Try.underlying25 Try.underlying5 Try.underlying9 hr2.view w2 rfl
  have hcv2 := run_conv_view Try.underlying25 Try.underlying5 Try.underlying9 (HB.out.keep hC2 (by simp)) w2 rfl
  clear HO HL2
  have hmod1 := Int.tmod_lt_of_pos at_ (show (0 : Int) < l1.length by omega)
  have hmod2 := Int.lt_tmod_of_pos at_ (show (0 : Int) < l1.length by omega)
  have hidx : ∃ k : Nat, k < l1.length ∧ (at_.tmod l1.length = (k : Int) - l1.length ∨ at_.tmod l1.length = k) := by
    by_cases hs : at_.tmod l1.length < 0
    · exact ⟨(at_.tmod l1.length + l1.length).toNat, by omega, .inl (by omega)⟩
    · exact ⟨(at_.tmod l1.length).toNat, by omega, .inr (by omega)⟩
  obtain ⟨k, hk, hq⟩ := hidx
  have hv1 := (hr1.keep hc2 (by simp)).view
  have hlt1 : ∀ q, (Value.slice ao1 l1.length cap1).ownBlock = some q → q < w2.heap.size := fun q hq => Nat.lt_of_lt_of_le (hr1.lt _ (hr1.blk.symm.trans hq)) hc2.size
  have HL1' := HL1
  clear hmod1 hmod2
  rcases hq with hq | hq
  all_goals
    go_wp2_with (at_builtin; refine wpList_app rfl _ _ 25 rfl elem_u8 rfl (Row.nil _ _ _) rfl (hv1) (B_one _) (by unfold maxLen; omega) (by omega) (fun ao' cap' r' w2 hr2 hc2 hf2 hnil2 => halt (fun X hX => ?_)))
    rw [hX.out]; clear hX
    simp only [Nat.zero_add, List.nil_append] at hr2
    have hC3 := hC2.trans (T := (none : Option Nat).toList) hc2 (by simp)
    obtain ⟨g, rfl, rfl, x1, f1, hst⟩ := hr2.at hk
    obtain ⟨y0, hy1⟩ : ∃ y : UInt8, (by_ : Int) % 256 = (y.toNat : Int) := ⟨UInt8.ofNat by_, by simp⟩
    have hxr := u8_xor l1[k] y0
    have hfr1 : y0 ≠ 0 → (openB (l1.set k (l1[k] ^^^ y0))).2.2 ≠ 0 := fun hy => by
      have hl1 := HL1.out
      subst hl1
      exact frame_turned_one kind body k y0 hk hy
    obtain ⟨xv, hxv⟩ : ∃ x, l1[k] ^^^ y0 = x := ⟨_, rfl⟩
    obtain ⟨zv, hzv⟩ : ∃ x, l1[k] = x := ⟨_, rfl⟩
    rw [hxv] at hxr hfr1
    rw [hzv] at hxr x1
    obtain ⟨hrow5, hch5⟩ := hst xv
    have HFR := hid hfr1
    have hv5 : ∀ n, Bytes ((w2.setCell ⟨g, k, none⟩ (B xv)).drewN n) (.slice (some ⟨g, 0, none⟩) l1.length cap') (l1.set k xv) := fun n => by
      unfold Bytes
      rw [List.length_set]
      exact (hrow5.keep (Chg.of_drewN [] _ n) (by simp)).view
    have hC5 : Chg [] W (w2.setCell ⟨g, k, none⟩ (B xv)) := hC3.trans hch5 (fun x hx => .inr (by have hxg : x = g := (by simpa using hx); rw [hxg]; exact Nat.le_trans hC2.size ((hf2 g rfl).resolve_left (by simp))))
    have hv1b : View (w2.setCell ⟨g, k, none⟩ (B xv)) 1 (.slice ao1 l1.length cap1) l1.length (l1.map B) := (hv1.keep hc2 (by simp)).keep hch5 (fun q hq hm => by
      have hqg : q = g := (by simpa using hm)
      have h1 := hlt1 q hq
      have h2 := (hf2 g rfl).resolve_left (by simp)
      omega)
    simp only [B] at hv5 hC5 hrow5 hch5 hv1b
    clear hst hfr1 hv1 hxv hzv
    have hC5s := hC5.size
    obtain ⟨w5, hw5⟩ : ∃ w, w2.setCell ⟨g, k, none⟩ (Value.int .u8 (xv.toNat : Nat)) = w := ⟨_, rfl⟩
    have hnext : ∀ w6, Chg [] w5 w6 → Chg [] W w6 ∧ View w6 1 (.slice ao1 l1.length cap1) l1.length (l1.map B) := fun w6 h => by
      subst hw5
      exact ⟨hC5.trans' h, hv1b.keep h (by simp)⟩
    subst hw5
    have HNX := hid hnext
    clear hC5 hv1b hnext hrow5 hch5
    have hyy : (((y0.toNat : Int) != 0) = false ∧ ((y0.toNat : Int) == 0) = true) ∨ (((y0.toNat : Int) != 0) = true ∧ ((y0.toNat : Int) == 0) = false ∧ y0 ≠ 0) := by
      by_cases h : y0 = 0
      · subst h; exact .inl ⟨rfl, rfl⟩
      · have hyn : y0.toNat ≠ 0 := fun e => h (UInt8.toNat_inj.1 e)
        exact .inr ⟨by simp; omega, by simp; omega, h⟩
    rcases hyy with ⟨hyb, hyb2⟩ | ⟨hyb, hyb2, hyz⟩
    · have hv6 := HNX.out _ (Chg.refl [] _)
      go_wp2_with (at_builtin; refine wpList_app rfl _ _ 25 rfl elem_u8 rfl (Row.nil _ _ _) rfl (hv6.2) (B_one _) (by unfold maxLen; omega) (by omega) (fun ao' cap' r' w2 hr2 hc2 hf2 hnil2 => halt (fun X hX => ?_)))
      rw [hX.out]; clear hX
      simp only [Nat.zero_add, List.nil_append] at hr2
      have hC7 := hv6.1.trans (T := (none : Option Nat).toList) hc2 (by simp)
      have hs6 := hv6.1.size
      obtain ⟨g2, rfl, rfl, _, _, _⟩ := hr2.at hk
      have hg2 := (hf2 g2 rfl).resolve_left (by simp)
      have hW2 : W.heap.size ≤ g2 := by omega
      clear hv6 HNX hyb hyb2 hxr hy1 hc2 hf2 f1 x1
      go_wp2_with fail
      go_loopw [15, 16] (fun c i wr => ∃ (m : Nat) (L : List UInt8) (cc : Bool), m ≤ 4 ∧ (m = 0 ∨ (11 ≤ k ∧ k + m ≤ l1.length)) ∧ i = .int .i64 (m : Nat) ∧ c = .bool cc ∧ Hid (cc = chgN by_ m) ∧ Hid (L.length = l1.length) ∧ Hid (L = turnN l1 k by_ m) ∧
          Row wr 5 1 (.slice (some ⟨g2, 0, none⟩) l1.length cap') (some g2) l1.length (L.map B) ∧ Chg [g2] w2 wr)
        (fun _ i _ => 4 - (intOf i).toNat)
      case atStart => exact ⟨0, l1, false, by omega, .inl rfl, rfl, rfl, hid rfl, hid rfl, hid rfl, hr2, Chg.refl _ _⟩
      case round =>
        obtain ⟨m, L, cc, hm, hmk, rfl, rfl, HCC, HLL, HLT, hrow, hch⟩ := hrel
        by_cases hgo : m < 4 ∧ 11 ≤ k ∧ k + m < l1.length
        · obtain ⟨hm4, hk11, hkm⟩ := hgo
          obtain ⟨yv, hyv⟩ : ∃ y, yb by_ m = y := ⟨_, rfl⟩
          have hym := yb_int by_ m
          rw [hyv] at hym
          have hkL : k + m < L.length := by rw [HLL.out]; exact hkm
          obtain ⟨g3, hg3, _, x1, f1, hst⟩ := Row.at (l := L) (by rw [HLL.out]; exact hrow) hkL
          obtain rfl : g2 = g3 := by simpa using hg3
          have hxr := u8_xor L[k + m] yv
          obtain ⟨xv, hxv⟩ : ∃ x, L[k + m] ^^^ yv = x := ⟨_, rfl⟩
          rw [hxv] at hxr
          obtain ⟨hrow5, hch5⟩ := hst xv
          have HLN := hid (show L.set (k + m) xv = turnN l1 k by_ (m + 1) by
            rw [turnN, ← HLT.out, hyv, ← hxv]
            simp [List.getD, hkL])
          have HCN := hid (show chgN by_ (m + 1) = (cc || (yv != 0)) by rw [chgN, ← HCC.out, hyv])
          obtain ⟨zv, hzv⟩ : ∃ x, L[k + m] = x := ⟨_, rfl⟩
          rw [hzv] at hxr x1
          rw [HLL.out] at hrow5
          have hyy : ((yv != 0) = false ∧ ((yv.toNat : Int) != 0) = false ∧ ((yv.toNat : Int) == 0) = true) ∨ ((yv != 0) = true ∧ ((yv.toNat : Int) != 0) = true ∧ ((yv.toNat : Int) == 0) = false) := by
            by_cases h : yv = 0
            · subst h; exact .inl ⟨rfl, rfl, rfl⟩
            · have hyn : yv.toNat ≠ 0 := fun e => h (UInt8.toNat_inj.1 e)
              exact .inr ⟨by simpa using h, by simp; omega, by simp; omega⟩
          have HLS := hid (show (L.set (k + m) xv).length = l1.length by rw [List.length_set]; exact HLL.out)
          simp only [B] at hrow5 hch5
          clear hst hzv hxv hyv hkL hg3 hrow HLL HLT
          cases cc
          all_goals
            rcases hyy with ⟨hy1, hyb, hyb2⟩ | ⟨hy1, hyb, hyb2⟩
            all_goals
              have HY := hid hy1
              clear hy1
              go_wp2
              go_roundw
              case rel => exact ⟨m + 1, L.set (k + m) xv, _, by omega, .inr ⟨hk11, by omega⟩, by go_num, rfl, hid (by rw [HCN.out, HY.out]; rfl), HLS, HLN, hrow5, hch.trans' hch5⟩
              case measure => simp [intOf]; omega
        · have hb8 : Below W.heap.size W wr := hC7.to_below.trans (hch.below (fun x hx => by have : x = g2 := (by simpa using hx); omega) hC7.size)
          have hstop : (decide ((m : Int) < 4) = false ∧ m = 4) ∨ (m < 4 ∧ decide ((11 : Int) ≤ (k : Int)) = false ∧ k < 11) ∨ (m < 4 ∧ 11 ≤ k ∧ decide ((k : Int) + (m : Int) < (l1.length : Int)) = false ∧ l1.length ≤ k + m) := by
            by_cases h1 : m < 4
            · by_cases h2 : 11 ≤ k
              · exact .inr (.inr ⟨h1, h2, by simp; omega, by omega⟩)
              · exact .inr (.inl ⟨h1, by simp; omega, by omega⟩)
            · exact .inl ⟨by simp; omega, by omega⟩
          clear hgo
          cases cc
          · rcases hstop with ⟨s1, s2⟩ | ⟨s1, s2, s3⟩ | ⟨s1, s2, s3, s4⟩
            all_goals
              go_wp2
              go_ret
              exact ⟨rfl, hb8⟩
          · have hbad : (openB L).2.2 ≠ 0 := by
              have h1 := HLT.out
              have h2 := HL1'.out
              subst h2
              rw [h1]
              have hc := HCC.out
              rcases hmk with h0 | ⟨h0, h3⟩
              · subst h0; cases hc
              · exact frame_turned kind body k by_ m h0 hm h3 hc.symm
            have HR := hid (refused_calls (.slice (some ⟨g2, 0, none⟩) l1.length cap') L wr (by unfold Bytes; rw [HLL.out]; exact hrow.view) (by rw [HLL.out]; omega) hbad)
            rcases hstop with ⟨s1, s2⟩ | ⟨s1, s2, s3⟩ | ⟨s1, s2, s3, s4⟩
            all_goals
              go_wp2_with (go_at_call 21; refine HR.out.mono ?_; rintro e w9 ⟨rfl, hc9⟩)
              go_ret
              exact ⟨rfl, hb8.trans (hc9.to_below.mono hb8.size)⟩
    · have HR := hid fun n => refused_calls _ _ _ (hv5 n) (by rw [List.length_set]; omega) (HFR.out hyz)
      clear hyz
      go_wp2_with (first
        | (go_at_call 21; refine (HR.out 0).mono ?_; rintro e w6 ⟨rfl, hc6⟩; have hv6 := HNX.out _ hc6)
        | (at_builtin; refine wpList_app rfl _ _ 25 rfl elem_u8 rfl (Row.nil _ _ _) rfl (hv6.2) (B_one _) (by unfold maxLen; omega) (by omega) (fun ao' cap' r' w2 hr2 hc2 hf2 hnil2 => halt (fun X hX => ?_))))
      rw [hX.out]; clear hX
      simp only [Nat.zero_add, List.nil_append] at hr2
      have hC7 := hv6.1.trans (T := (none : Option Nat).toList) hc2 (by simp)
      have hs6 := hv6.1.size
      obtain ⟨g2, rfl, rfl, _, _, _⟩ := hr2.at hk
      have hg2 := (hf2 g2 rfl).resolve_left (by simp)
      have hW2 : W.heap.size ≤ g2 := by omega
      clear hv6 HNX hyb hyb2 hxr hy1 hc2 hf2 f1 x1
      go_wp2_with fail
      go_loopw [15, 16] (fun c i wr => ∃ (m : Nat) (L : List UInt8) (cc : Bool), m ≤ 4 ∧ (m = 0 ∨ (11 ≤ k ∧ k + m ≤ l1.length)) ∧ i = .int .i64 (m : Nat) ∧ c = .bool cc ∧ Hid (cc = chgN by_ m) ∧ Hid (L.length = l1.length) ∧ Hid (L = turnN l1 k by_ m) ∧
          Row wr 5 1 (.slice (some ⟨g2, 0, none⟩) l1.length cap') (some g2) l1.length (L.map B) ∧ Chg [g2] w2 wr)
        (fun _ i _ => 4 - (intOf i).toNat)
      case atStart => exact ⟨0, l1, false, by omega, .inl rfl, rfl, rfl, hid rfl, hid rfl, hid rfl, hr2, Chg.refl _ _⟩
      case round =>
        obtain ⟨m, L, cc, hm, hmk, rfl, rfl, HCC, HLL, HLT, hrow, hch⟩ := hrel
        by_cases hgo : m < 4 ∧ 11 ≤ k ∧ k + m < l1.length
        · obtain ⟨hm4, hk11, hkm⟩ := hgo
          obtain ⟨yv, hyv⟩ : ∃ y, yb by_ m = y := ⟨_, rfl⟩
          have hym := yb_int by_ m
          rw [hyv] at hym
          have hkL : k + m < L.length := by rw [HLL.out]; exact hkm
          obtain ⟨g3, hg3, _, x1, f1, hst⟩ := Row.at (l := L) (by rw [HLL.out]; exact hrow) hkL
          obtain rfl : g2 = g3 := by simpa using hg3
          have hxr := u8_xor L[k + m] yv
          obtain ⟨xv, hxv⟩ : ∃ x, L[k + m] ^^^ yv = x := ⟨_, rfl⟩
          rw [hxv] at hxr
          obtain ⟨hrow5, hch5⟩ := hst xv
          have HLN := hid (show L.set (k + m) xv = turnN l1 k by_ (m + 1) by
            rw [turnN, ← HLT.out, hyv, ← hxv]
            simp [List.getD, hkL])
          have HCN := hid (show chgN by_ (m + 1) = (cc || (yv != 0)) by rw [chgN, ← HCC.out, hyv])
          obtain ⟨zv, hzv⟩ : ∃ x, L[k + m] = x := ⟨_, rfl⟩
          rw [hzv] at hxr x1
          rw [HLL.out] at hrow5
          have hyy : ((yv != 0) = false ∧ ((yv.toNat : Int) != 0) = false ∧ ((yv.toNat : Int) == 0) = true) ∨ ((yv != 0) = true ∧ ((yv.toNat : Int) != 0) = true ∧ ((yv.toNat : Int) == 0) = false) := by
            by_cases h : yv = 0
            · subst h; exact .inl ⟨rfl, rfl, rfl⟩
            · have hyn : yv.toNat ≠ 0 := fun e => h (UInt8.toNat_inj.1 e)
              exact .inr ⟨by simpa using h, by simp; omega, by simp; omega⟩
          have HLS := hid (show (L.set (k + m) xv).length = l1.length by rw [List.length_set]; exact HLL.out)
          simp only [B] at hrow5 hch5
          clear hst hzv hxv hyv hkL hg3 hrow HLL HLT
          cases cc
          all_goals
            rcases hyy with ⟨hy1, hyb, hyb2⟩ | ⟨hy1, hyb, hyb2⟩
            all_goals
              have HY := hid hy1
              clear hy1
              go_wp2
              go_roundw
              case rel => exact ⟨m + 1, L.set (k + m) xv, _, by omega, .inr ⟨hk11, by omega⟩, by go_num, rfl, hid (by rw [HCN.out, HY.out]; rfl), HLS, HLN, hrow5, hch.trans' hch5⟩
              case measure => simp [intOf]; omega
        · have hb8 : Below W.heap.size W wr := hC7.to_below.trans (hch.below (fun x hx => by have : x = g2 := (by simpa using hx); omega) hC7.size)
          have hstop : (decide ((m : Int) < 4) = false ∧ m = 4) ∨ (m < 4 ∧ decide ((11 : Int) ≤ (k : Int)) = false ∧ k < 11) ∨ (m < 4 ∧ 11 ≤ k ∧ decide ((k : Int) + (m : Int) < (l1.length : Int)) = false ∧ l1.length ≤ k + m) := by
            by_cases h1 : m < 4
            · by_cases h2 : 11 ≤ k
              · exact .inr (.inr ⟨h1, h2, by simp; omega, by omega⟩)
              · exact .inr (.inl ⟨h1, by simp; omega, by omega⟩)
            · exact .inl ⟨by simp; omega, by omega⟩
          clear hgo
          cases cc
          · rcases hstop with ⟨s1, s2⟩ | ⟨s1, s2, s3⟩ | ⟨s1, s2, s3, s4⟩
            all_goals
              go_wp2
              go_ret
              exact ⟨rfl, hb8⟩
          · have hbad : (openB L).2.2 ≠ 0 := by
              have h1 := HLT.out
              have h2 := HL1'.out
              subst h2
              rw [h1]
              have hc := HCC.out
              rcases hmk with h0 | ⟨h0, h3⟩
              · subst h0; cases hc
              · exact frame_turned kind body k by_ m h0 hm h3 hc.symm
            have HR := hid (refused_calls (.slice (some ⟨g2, 0, none⟩) l1.length cap') L wr (by unfold Bytes; rw [HLL.out]; exact hrow.view) (by rw [HLL.out]; omega) hbad)
            rcases hstop with ⟨s1, s2⟩ | ⟨s1, s2, s3⟩ | ⟨s1, s2, s3, s4⟩
            all_goals
              go_wp2_with (go_at_call 21; refine HR.out.mono ?_; rintro e w9 ⟨rfl, hc9⟩)
              go_ret
              exact ⟨rfl, hb8.trans (hc9.to_below.mono hb8.size)⟩
theorem wf_u8 {n : Int} (h : (Lit.int .u8 n).wf = true) : ∃ x : UInt8, n = (x.toNat : Int) := by
  have h2 : 0 ≤ n ∧ n ≤ 255 := by simpa [Lit.wf, IntKind.min, IntKind.max, IntKind.signed, IntKind.bits] using h
  exact ⟨UInt8.ofNat n.toNat, by simp; omega⟩
theorem wf_u32 {n : Int} (h : (Lit.int .u32 n).wf = true) : ∃ x : Nat, n = (x : Int) ∧ x < 4294967296 := by
  have h2 : 0 ≤ n ∧ n ≤ 4294967295 := by simpa [Lit.wf, IntKind.min, IntKind.max, IntKind.signed, IntKind.bits] using h
  exact ⟨n.toNat, by omega, by omega⟩
theorem opens_turn (W : World) : Opens W 45 4 (fun (p : Int × List UInt8 × Int × Int) cs => ∃ c0 c1 c2 c3, cs = [c0, c1, c2, c3] ∧ ([c0] = [.int .u8 p.1] ∧ (Lit.int .u8 p.1).wf = true) ∧ (∃ v, [c1] = [v] ∧ Bytes W v p.2.1) ∧ ([c2] = [.int .i64 p.2.2.1] ∧ (Lit.int .i64 p.2.2.1).wf = true) ∧ ([c3] = [.int .u32 p.2.2.2] ∧ (Lit.int .u32 p.2.2.2).wf = true)) (fun p => 1 + (p.2.1.length + 1) + 1 + 1 + 1) :=
  opens_struct4 Try.underlying45 (by kernel_rfl) (by kernel_rfl) (by kernel_rfl) (by kernel_rfl) (by kernel_rfl) (opens_int Try.underlying5) (opens_bytes W) (opens_int Try.underlying3) (opens_int Try.underlying43)
theorem turned_data (k a y : Int) (body : List UInt8) (c0 c1 c2 c3 : Value) (W : World) (h0 : [c0] = [.int .u8 k] ∧ (Lit.int .u8 k).wf = true) (h1 : ∃ v, [c1] = [v] ∧ Bytes W v body) (h2 : [c2] = [.int .i64 a] ∧ (Lit.int .i64 a).wf = true) (h3 : [c3] = [.int .u32 y] ∧ (Lit.int .u32 y).wf = true) (hl : body.length ≤ 1048576) :
    Calls Try.prog 5 #[.agg #[c0, c1, c2, c3]] W fun e W' => e = .returned (.bool true) ∧ Below W.heap.size W W' := by
  obtain ⟨h0, w0⟩ := h0
  obtain ⟨v, h1, hb⟩ := h1
  obtain ⟨h2, w2⟩ := h2
  obtain ⟨h3, w3⟩ := h3
  simp only [List.cons.injEq, and_true] at h0 h1 h2 h3
  subst h0 h1 h2 h3
  obtain ⟨x, rfl⟩ := wf_u8 w0
  obtain ⟨z, rfl, hz⟩ := wf_u32 w3
  exact turned_walk x _ body a z W hb hl (wf_i64 w2) hz
end Go.Proofs.Ytdakcphkaljghaa
