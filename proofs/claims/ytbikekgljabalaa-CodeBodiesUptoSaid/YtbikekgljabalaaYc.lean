/- The document's reader of programs: the walk of takeInstr. -/
import Derived.Test.YtbikekgljabalaaYs
import Derived.Test.YtbikekgljabalaaYb
import Derived.Test.YtbikekgljabalaaGf
import Derived.WalkMore
import Derived.Deep.DeepCutAuto
namespace Go.Proofs.Ytbikekgljabalaa
open Go.RowKit Go.AB
set_option linter.unusedSimpArgs false
set_option linter.unusedVariables false
set_option linter.unusedSectionVars false

/-- A reader and what is kept beside it. -/
structure RH (w w' : World) (b : Nat) (l : List UInt8) (ao : Option Addr) (cap p h bd : Nat) (I : List It) : Prop where
  rd : OkQ w' b l ao cap p h bd
  hp : Hp [b] w w' I
  sl : ∀ g, (Value.slice ao l.length cap).ownBlock = some g → g < w.heap.size
section
variable {w u u' : World} {b : Nat} {l : List UInt8} {ao : Option Addr} {cap p h bd p' h' bd' : Nat} {I : List It}
theorem RH.start (hR : OkQ w b l ao cap p h bd) : RH w w b l ao cap p h bd [] := ⟨hR, Hp.start w (fun x hx => by simp only [List.mem_singleton] at hx; subst hx; exact blk_lt hR.rd.blk), hR.lt⟩
theorem RH.same (k : RH w u b l ao cap p h bd I) (hc : Chg [] u u') : RH w u' b l ao cap p h bd I := ⟨k.rd.keep hc, k.hp.same hc, k.sl⟩
theorem RH.take (k : RH w u b l ao cap p h bd I) (hc : Chg [b] u u') (hr : OkQ u' b l ao cap p' h' bd') : RH w u' b l ao cap p' h' bd' I := ⟨hr, k.hp.step hc, k.sl⟩
theorem RH.box (k : RH w u b l ao cap p h bd I) (o : Obj) : RH w (u.alloc o) b l ao cap p h bd (.box u.heap.size o :: I) := ⟨k.rd.keep ((Chg.refl [] u).alloc o), k.hp.box o, k.sl⟩
theorem RH.nb (k : RH w u b l ao cap p h bd I) {x : It} (hx : x ∈ I) {g : Nat} (hg : x.blk = some g) : g ≠ b := fun e => by
  have := k.hp.out hx hg
  simp at this
  exact this e
theorem RH.old (k : RH w u b l ao cap p h bd I) {S : List Nat} (hc : Chg S u u') (hS : ∀ g ∈ S, w.heap.size ≤ g) : OkQ u' b l ao cap p h bd :=
  ⟨k.rd.rd.keep hc (fun hm => by have := hS b hm; have := k.hp.s0 b (by simp); omega) (fun g hg hm => by have := hS g hm; have := k.sl g hg; omega), fun g hg => Nat.lt_of_lt_of_le (k.rd.lt g hg) hc.size⟩
theorem RH.put (k : RH w u b l ao cap p h bd I) (i : Nat) {a : Nat} {vs : Array Value} {t : TypeId} (hi : I[i]? = some (.box a (.cells vs t (0, 0)))) (f : Nat) (x : Value) {I' : List It} (hI : I.set i (.box a (.cells (vs.setIfInBounds f x) t (0, 0))) = I') :
    RH w (u.setCell ⟨a, f, none⟩ x) b l ao cap p h bd I' :=
  ⟨k.old ((Chg.refl [a] u).setCell (p := ⟨a, f, none⟩) (.inl (by simp)) x) (fun g hg => by simp only [List.mem_singleton] at hg; subst hg; exact k.hp.lo _ (List.mem_of_getElem? hi) _ rfl), k.hp.put i hi f x hI, k.sl⟩
theorem RH.grow (k : RH w u b l ao cap p h bd I) (i : Nat) {e kk n : Nat} {v : Value} {r : Option Nat} {xs : List Value} (hi : I[i]? = some (.row e kk v r n xs)) {w1 w2 : World} (hc1 : Chg [] u w1) {e' k' n' : Nat} {v' : Value} {r' : Option Nat} {xs' : List Value} (hr : Row w2 e' k' v' r' n' xs') (hc2 : Chg r.toList w1 w2) (hf : Fresh w1 r r') {I' : List It} (hI : I.set i (.row e' k' v' r' n' xs') = I') :
    RH w w2 b l ao cap p h bd I' :=
  ⟨k.old (hc1.nil.trans' hc2) (fun g hg => k.hp.lo _ (List.mem_of_getElem? hi) g (show r = some g by simpa using hg)), k.hp.grow i hi hc1 hr hc2 hf hI, k.sl⟩
theorem RH.sub (k : RH w u b l ao cap p h bd I) {I' : List It} (hs : List.Sublist I' I) : RH w u b l ao cap p h bd I' := ⟨k.rd, k.hp.sub hs, k.sl⟩
theorem RH.nil (k : RH w u b l ao cap p h bd I) (e kk : Nat) : RH w u b l ao cap p h bd (.row e kk (.slice none 0 0) none 0 [] :: I) := ⟨k.rd, k.hp.nil e kk, k.sl⟩
theorem RH.chg (k : RH w u b l ao cap p h bd I) : Chg [b] w u := k.hp.chg
end
section
variable {w : World} {b : Nat} {l : List UInt8} {ao : Option Addr} {cap pos wh bad : Nat}
theorem wrapN {c : Nat} (h : c ≤ 2147483647) : IntKind.i64.wrap (c : Int) = (c : Int) := by rw [IntKind.wrap_i64]; omega
theorem wrap64N {c : Nat} (h : c ≤ 2147483647) : wrap64 (c : Int) = (c : Int) := IntWalk.wrap64_in _ (by omega)
theorem fx_calls (hR : OkQ w b l ao cap pos wh bad) (hl : l.length ≤ 16777216) {o p h bd : Nat} (hT : rFixed 1 l ⟨pos, wh, bad⟩ = (o, ⟨p, h, bd⟩)) :
    Calls Try.prog 112 #[.pointer (some ⟨b, 0, none⟩), .int .i64 1] w fun e w' => e = .returned (.int .u64 o) ∧ OkQ w' b l ao cap p h bd ∧ Chg [b] w w' := by
  have h := q_fixed_calls hR.rd (by omega) 1 (by omega)
  rw [hT] at h
  refine h.mono fun e w' ⟨h1, h2, h3⟩ => ⟨h1, hR.next h3 h2, h3⟩
theorem sg_calls (hR : OkQ w b l ao cap pos wh bad) (hl : l.length ≤ 16777216) {o : Int} {p h bd : Nat} (hT : rSigned l ⟨pos, wh, bad⟩ = (o, ⟨p, h, bd⟩)) :
    Calls Try.prog 92 #[.pointer (some ⟨b, 0, none⟩)] w fun e w' => e = .returned (.int .i64 o) ∧ OkQ w' b l ao cap p h bd ∧ Chg [b] w w' := by
  have h := q_signed_calls hR.rd (by omega)
  rw [hT] at h
  refine h.mono fun e w' ⟨h1, h2, h3⟩ => ⟨h1, hR.next h3 h2, h3⟩
theorem sh_calls (hR : OkQ w b l ao cap pos wh bad) (hl : l.length ≤ 16777216) {o : Nat} {p h bd : Nat} (hT : rShort 2147483647 l ⟨pos, wh, bad⟩ = (o, ⟨p, h, bd⟩)) :
    Calls Try.prog 106 #[.pointer (some ⟨b, 0, none⟩), .int .u64 2147483647] w fun e w' => e = .returned (.int .u64 o) ∧ OkQ w' b l ao cap p h bd ∧ Chg [b] w w' := by
  have h := q_short_calls hR.rd (by omega) 2147483647
  rw [hT] at h
  refine h.mono fun e w' ⟨h1, h2, h3⟩ => ⟨h1, hR.next h3 h2, h3⟩
set_option maxHeartbeats 8000000 in
set_option maxRecDepth 100000 in
theorem q_takeInstr (hR : OkQ w b l ao cap pos wh bad) (hl : l.length ≤ 16777216) (line : Int) (hl0 : 0 ≤ line) (hl1 : line ≤ 2147483647) :
    Calls Try.prog 109 #[.pointer (some ⟨b, 0, none⟩), .int .i64 line] w fun e w' => ∃ (xo xa xb xc xn pl pc : Int) (p h bd : Nat), Hid (qIns l line ⟨pos, wh, bad⟩ = ((⟨xo, xa, xb, xc, xn⟩, ⟨pl, pc⟩), ⟨p, h, bd⟩)) ∧
      e = .returned (.tuple #[.agg #[.int .i64 xo, .int .i64 xa, .int .i64 xb, .int .i64 xc, .int .i64 xn], .agg #[.int .i64 pl, .int .i64 pc]]) ∧ OkQ w' b l ao cap p h bd ∧ Chg [b] w w' := by
  obtain ⟨op, p1, h1, b1, hT1⟩ : ∃ o p h b, rFixed 1 l ⟨pos, wh, bad⟩ = (o, ⟨p, h, b⟩) := ⟨_, _, _, _, rfl⟩
  have HN := r_names_calls (op : Int)
  have hab := nB_nA (op : Int)
  have hI : pIns l ⟨pos, wh, bad⟩ = pIns l ⟨pos, wh, bad⟩ := rfl
  conv at hI => rhs; unfold pIns
  simp only [hT1] at hI
  have hof : ∀ v c n, insOf (op, v, c, n) = ⟨op, if nB (op : Int) then ((v % 16 : Nat) : Int) else v, if nB (op : Int) then ((v / 16 : Nat) : Int) else 0, c, n⟩ := fun v c n => rfl
  have ho : op < 256 := by have h := rFixed_lt 1 l ⟨pos, wh, bad⟩; rw [hT1] at h; simpa using h
  have H1 := hid hT1
  obtain ⟨qa, hqa⟩ : ∃ q, nA (op : Int) = q := ⟨_, rfl⟩
  obtain ⟨qb, hqb⟩ : ∃ q, nB (op : Int) = q := ⟨_, rfl⟩
  obtain ⟨qc, hqc⟩ : ∃ q, nC (op : Int) = q := ⟨_, rfl⟩
  obtain ⟨qn, hqn⟩ : ∃ q, nN (op : Int) = q := ⟨_, rfl⟩
  rw [hqa, hqc, hqn] at hI
  rw [hqa, hqb] at hab
  rw [hqb] at hof
  rw [hqa, hqb, hqc, hqn] at HN
  clear hqa hqb hqc hqn hT1
  obtain ⟨v, p2, h2, b2, hT2⟩ : ∃ o p h b, (if qa then rFixed 1 l ⟨p1, h1, b1⟩ else (0, ⟨p1, h1, b1⟩)) = (o, (⟨p, h, b⟩ : RS)) := ⟨_, _, _, _, rfl⟩
  obtain ⟨c, p3, h3, b3, hT3⟩ : ∃ o p h b, (if qc then rFixed 1 l ⟨p2, h2, b2⟩ else (0, ⟨p2, h2, b2⟩)) = (o, (⟨p, h, b⟩ : RS)) := ⟨_, _, _, _, rfl⟩
  obtain ⟨n, p4, h4, b4, hT4⟩ : ∃ o p h b, (if qn then rSigned l ⟨p3, h3, b3⟩ else (0, ⟨p3, h3, b3⟩)) = (o, (⟨p, h, b⟩ : RS)) := ⟨_, _, _, _, rfl⟩
  obtain ⟨d, p5, h5, b5, hT5⟩ : ∃ o p h b, rSigned l ⟨p4, h4, b4⟩ = (o, ⟨p, h, b⟩) := ⟨_, _, _, _, rfl⟩
  obtain ⟨cl, p6, h6, b6, hT6⟩ : ∃ o p h b, rShort 2147483647 l ⟨p5, h5, b5⟩ = (o, ⟨p, h, b⟩) := ⟨_, _, _, _, rfl⟩
  simp only [hT2, hT3, hT4] at hI
  obtain ⟨A, hA⟩ : ∃ A : Int, (if qb then ((v % 16 : Nat) : Int) else v) = A := ⟨_, rfl⟩
  obtain ⟨Bb, hB⟩ : ∃ A : Int, (if qb then ((v / 16 : Nat) : Int) else 0) = A := ⟨_, rfl⟩
  obtain ⟨D, hD⟩ : ∃ D, clipD d = D := ⟨_, rfl⟩
  have hQ : qIns l line ⟨pos, wh, bad⟩ = ((⟨op, A, Bb, c, n⟩, ⟨line + D, cl⟩), ⟨p6, h6, b6⟩) := by
    unfold qIns qPlc
    simp only [hI, hT5, hT6, hof, hA, hB, hD]
  have hv : v < 256 := by
    cases qa
    · cases hT2; omega
    · have h := rFixed_lt 1 l ⟨p1, h1, b1⟩; rw [if_pos rfl] at hT2; rw [hT2] at h; simpa using h
  have hc : c < 256 := by
    cases qc
    · cases hT3; omega
    · have h := rFixed_lt 1 l ⟨p2, h2, b2⟩; rw [if_pos rfl] at hT3; rw [hT3] at h; simpa using h
  have hcl : cl ≤ 2147483647 := by have h := rShort_le 2147483647 l ⟨p5, h5, b5⟩; rw [hT6] at h; exact h
  have hD2 : -4294967296 ≤ D ∧ D ≤ 4294967296 := by rw [← hD]; unfold clipD; split <;> omega
  have bo : op ≤ 2147483647 := by omega
  have bv : v ≤ 2147483647 := by omega
  have bc : c ≤ 2147483647 := by omega
  have br : v % 16 ≤ 2147483647 := by omega
  have bq : v / 16 ≤ 2147483647 := by omega
  have bl : -9223372036854775808 ≤ line + D ∧ line + D ≤ 9223372036854775807 := by omega
  have zo := wrap64N bo
  have zv := wrap64N bv
  have zc := wrap64N bc
  have zcl := wrap64N hcl
  have zr := wrap64N br
  have zq := wrap64N bq
  have zo2 := wrapN bo
  have zv2 := wrapN bv
  have zc2 := wrapN bc
  have zcl2 := wrapN hcl
  have zln : wrap64 (line + D) = line + D := IntWalk.wrap64_in _ bl
  have zm : Int.tmod (v : Int) 16 = ((v % 16 : Nat) : Int) := (Int.ofNat_tmod v 16).symm
  have zd : Int.tdiv (v : Int) 16 = ((v / 16 : Nat) : Int) := (Int.ofNat_tdiv v 16).symm
  have HQ := hid hQ
  have H2 := hid hT2
  have H3 := hid hT3
  have H4 := hid hT4
  have H5 := hid hT5
  have H6 := hid hT6
  have HA := hid hA
  have HB := hid hB
  have HD := hid hD
  have HNN := hid HN
  clear hI hof HN hQ hT2 hT3 hT4 hT5 hT6 hA hB hD
  have hK0 := ((RH.start hR).box (.cells #[.int .i64 0, .int .i64 0, .int .i64 0, .int .i64 0, .int .i64 0] 61)).box (.cells #[.int .i64 0, .int .i64 0] 63)
  have HK0 := hid hK0
  clear hK0
  go_enter Try.func109, Try.ntmps109
  go_upto_if 26 with (first
    | (go_at_call 112; refine (fx_calls HK0.out.rd hl H1.out).mono ?_; rintro e w2 ⟨rfl, hR2, hc2⟩)
    | (go_at_call 23; refine (HNN.out _).mono ?_; rintro e w3 ⟨rfl, hc3⟩))
  obtain ⟨xb, hxb⟩ : ∃ x, w2.heap.size = x := ⟨_, rfl⟩
  have hK3 := ((HK0.out.take hc2 hR2).box (.cells #[.int .i64 (op : Int), .int .i64 0, .int .i64 0, .int .i64 0, .int .i64 0] 61)).same hc3
  simp only [World.size_alloc] at hK3
  rw [hxb] at hK3 ⊢
  have HK3 := hid hK3
  clear hR2 hc2 hc3 HK0 HNN hK3 hxb
  go_cut [11] (fun _ wx => Hid (RH w wx b l ao cap p2 h2 b2 [.box xb (.cells #[.int .i64 (op : Int), .int .i64 A, .int .i64 Bb, .int .i64 0, .int .i64 0] 61), .box (w.heap.size + 1) (.cells #[.int .i64 0, .int .i64 0] 63), .box w.heap.size (.cells #[.int .i64 0, .int .i64 0, .int .i64 0, .int .i64 0, .int .i64 0] 61)]))
  case first =>
    cases qa
    · clear zm zd zr zq zv zv2 zc zc2 zcl zcl2 zln zo zo2
      have h2 := H2.out
      simp only [Bool.false_eq_true, if_false, Prod.mk.injEq, RS.mk.injEq] at h2
      obtain ⟨rfl, rfl, rfl, rfl⟩ := h2
      have hb : qb = false := by cases qb; rfl; exact absurd (hab rfl) (by decide)
      subst hb
      have ha := HA.out
      have hb := HB.out
      simp only [Bool.false_eq_true, if_false] at ha hb
      subst ha hb
      clear H2 HA HB
      go_wp2_with fail
      go_meet
      exact hid HK3.out
    · have h2 := H2.out
      simp only [if_true] at h2
      have HF := hid (fx_calls HK3.out.rd hl h2)
      clear h2 H2
      cases qb
      · clear zm zd zr zq zc zc2 zcl zcl2 zln zo zo2
        have ha := HA.out
        have hb := HB.out
        simp only [Bool.false_eq_true, if_false] at ha hb
        subst ha hb
        clear HA HB
        go_wp2_with (go_at_call 112; refine (HF.out).mono ?_; rintro e w4 ⟨rfl, hR4, hc4⟩; have hk4 := HK3.out.take hc4 hR4; have x1 := (hk4.hp.cell (i := 0) rfl 1).trans (rfl : _ = some (Value.int .i64 0)); have f1 := hk4.hp.free (i := 0) rfl 1)
        go_meet
        exact hid (hk4.put 0 rfl 1 _ rfl)
      · clear zc zc2 zcl zcl2 zln zo zo2 zm zd zr zq
        have ha := HA.out
        have hb := HB.out
        simp only [if_true] at ha hb
        subst ha hb
        clear HA HB
        go_wp2_with (go_at_call 112; refine (HF.out).mono ?_; rintro e w4 ⟨rfl, hR4, hc4⟩; have hk4 := HK3.out.take hc4 hR4; have x1 := (hk4.hp.cell (i := 0) rfl 1).trans (rfl : _ = some (Value.int .i64 0)); have f1 := hk4.hp.free (i := 0) rfl 1; have x2 := (hk4.hp.cell (i := 0) rfl 2).trans (rfl : _ = some (Value.int .i64 0)); have f2 := hk4.hp.free (i := 0) rfl 2)
        go_meet
        exact hid (((hk4.put 0 rfl 1 _ rfl).put 0 rfl 1 _ rfl).put 0 rfl 2 _ rfl)
  case rest =>
  have HK4 := hcut
  clear hcut HK3 H2 HA HB hab zm zd zr zq zv zv2 zo zo2
  go_upto_if 39 with fail
  go_cut [43] (fun _ wx => Hid (RH w wx b l ao cap p3 h3 b3 [.box xb (.cells #[.int .i64 (op : Int), .int .i64 A, .int .i64 Bb, .int .i64 (c : Int), .int .i64 0] 61), .box (w.heap.size + 1) (.cells #[.int .i64 0, .int .i64 0] 63), .box w.heap.size (.cells #[.int .i64 0, .int .i64 0, .int .i64 0, .int .i64 0, .int .i64 0] 61)]))
  case first =>
    cases qc
    · clear zc zc2 zcl zcl2 zln
      have h2 := H3.out
      simp only [Bool.false_eq_true, if_false, Prod.mk.injEq, RS.mk.injEq] at h2
      obtain ⟨rfl, rfl, rfl, rfl⟩ := h2
      clear H3
      go_wp2_with fail
      go_meet
      exact hid HK4.out
    · clear zcl zcl2 zln
      have h2 := H3.out
      simp only [if_true] at h2
      have HF := hid (fx_calls HK4.out.rd hl h2)
      clear h2 H3
      go_wp2_with (go_at_call 112; refine (HF.out).mono ?_; rintro e w5 ⟨rfl, hR5, hc5⟩; have hk5 := HK4.out.take hc5 hR5; have x3 := (hk5.hp.cell (i := 0) rfl 3).trans (rfl : _ = some (Value.int .i64 0)); have f3 := hk5.hp.free (i := 0) rfl 3)
      go_meet
      exact hid (hk5.put 0 rfl 3 _ rfl)
  case rest =>
  have HK5 := hcut
  clear hcut HK4 H3 zc zc2
  go_upto_if 44 with fail
  go_cut [47] (fun _ wx => Hid (RH w wx b l ao cap p4 h4 b4 [.box xb (.cells #[.int .i64 (op : Int), .int .i64 A, .int .i64 Bb, .int .i64 (c : Int), .int .i64 n] 61), .box (w.heap.size + 1) (.cells #[.int .i64 0, .int .i64 0] 63), .box w.heap.size (.cells #[.int .i64 0, .int .i64 0, .int .i64 0, .int .i64 0, .int .i64 0] 61)]))
  case first =>
    clear zcl zcl2 zln
    cases qn
    · have h2 := H4.out
      simp only [Bool.false_eq_true, if_false, Prod.mk.injEq, RS.mk.injEq] at h2
      obtain ⟨rfl, rfl, rfl, rfl⟩ := h2
      clear H4
      go_wp2_with fail
      go_meet
      exact hid HK5.out
    · have h2 := H4.out
      simp only [if_true] at h2
      have HF := hid (sg_calls HK5.out.rd hl h2)
      clear h2 H4
      go_wp2_with (go_at_call 92; refine (HF.out).mono ?_; rintro e w6 ⟨rfl, hR6, hc6⟩; have hk6 := HK5.out.take hc6 hR6; have x4 := (hk6.hp.cell (i := 0) rfl 4).trans (rfl : _ = some (Value.int .i64 0)); have f4 := hk6.hp.free (i := 0) rfl 4)
      go_meet
      exact hid (hk6.put 0 rfl 4 _ rfl)
  case rest =>
  have HK6 := hcut
  clear hcut HK5 H4
  have HF := hid (sg_calls HK6.out.rd hl H5.out)
  have hcs : (decide ((4294967296 : Int) < d) = true ∧ D = -4294967296) ∨ (decide ((4294967296 : Int) < d) = false ∧ decide (d < (-4294967296 : Int)) = true ∧ D = -4294967296) ∨ (decide ((4294967296 : Int) < d) = false ∧ decide (d < (-4294967296 : Int)) = false ∧ D = d) := by
    have h := HD.out
    unfold clipD at h
    by_cases k1 : (4294967296 : Int) < d
    · exact .inl ⟨decide_eq_true k1, by rw [if_pos (.inl k1)] at h; exact h.symm⟩
    · by_cases k2 : d < (-4294967296 : Int)
      · exact .inr (.inl ⟨decide_eq_false k1, decide_eq_true k2, by rw [if_pos (.inr k2)] at h; exact h.symm⟩)
      · exact .inr (.inr ⟨decide_eq_false k1, decide_eq_false k2, by rw [if_neg (fun k => k.elim k1 k2)] at h; exact h.symm⟩)
  clear HD hD2 H5
  go_upto_region 14 with (go_at_call 92; refine (HF.out).mono ?_; rintro e w7 ⟨rfl, hR7, hc7⟩)
  have HK7 := hid (HK6.out.take hc7 hR7)
  clear HF HK6 hR7 hc7
  rcases hcs with ⟨k1, k3⟩ | ⟨k1, k2, k3⟩ | ⟨k1, k2, k3⟩
  all_goals
    go_upto_region 16 with fail
    rw [← k3]
  all_goals
    clear k3 k1
    have hk8 := HK7.out.box (.cells #[.int .i64 (line + D), .int .i64 0] 63)
    go_upto_region 18 with (go_at_call 106; refine (sh_calls hk8.rd hl H6.out).mono ?_; rintro e w9 ⟨rfl, hR9, hc9⟩; have hk9 := hk8.take hc9 hR9; have y1 := (hk9.hp.cell (i := 0) rfl 1).trans (rfl : _ = some (Value.int .i64 0)); have g1 := hk9.hp.free (i := 0) rfl 1)
    have hk10 := hk9.put 0 rfl 1 (.int .i64 (cl : Int)) rfl
    clear hk9 hR9 hc9 y1 g1 hk8
    obtain ⟨pb, hpb⟩ : ∃ x, w7.heap.size = x := ⟨_, rfl⟩
    rw [hpb] at hk10 ⊢
    obtain ⟨wz, hwz⟩ : ∃ x : World, w9.setCell ⟨pb, 1, none⟩ (.int .i64 (cl : Int)) = x := ⟨_, rfl⟩
    rw [hwz] at hk10 ⊢
    clear hpb hwz zcl zcl2 zln bl
    have x0 := (hk10.hp.cell (i := 1) rfl 0).trans (rfl : _ = some (Value.int .i64 (op : Int)))
    have x1 := (hk10.hp.cell (i := 1) rfl 1).trans (rfl : _ = some (Value.int .i64 A))
    have x2 := (hk10.hp.cell (i := 1) rfl 2).trans (rfl : _ = some (Value.int .i64 Bb))
    have x3 := (hk10.hp.cell (i := 1) rfl 3).trans (rfl : _ = some (Value.int .i64 (c : Int)))
    have x4 := (hk10.hp.cell (i := 1) rfl 4).trans (rfl : _ = some (Value.int .i64 n))
    have r0 := (hk10.hp.cell (i := 3) rfl 0).trans (rfl : _ = some (Value.int .i64 0))
    have f0 := hk10.hp.free (i := 3) rfl 0
    have r1 := (hk10.hp.cell (i := 3) rfl 1).trans (rfl : _ = some (Value.int .i64 0))
    have f1 := hk10.hp.free (i := 3) rfl 1
    have r2 := (hk10.hp.cell (i := 3) rfl 2).trans (rfl : _ = some (Value.int .i64 0))
    have f2 := hk10.hp.free (i := 3) rfl 2
    have r3 := (hk10.hp.cell (i := 3) rfl 3).trans (rfl : _ = some (Value.int .i64 0))
    have f3 := hk10.hp.free (i := 3) rfl 3
    have r4 := (hk10.hp.cell (i := 3) rfl 4).trans (rfl : _ = some (Value.int .i64 0))
    have f4 := hk10.hp.free (i := 3) rfl 4
    have s0 := (hk10.hp.cell (i := 2) rfl 0).trans (rfl : _ = some (Value.int .i64 0))
    have q0 := hk10.hp.free (i := 2) rfl 0
    have s1 := (hk10.hp.cell (i := 2) rfl 1).trans (rfl : _ = some (Value.int .i64 0))
    have q1 := hk10.hp.free (i := 2) rfl 1
    have y0 := (hk10.hp.cell (i := 0) rfl 0).trans (rfl : _ = some (Value.int .i64 (line + D)))
    have y1 := (hk10.hp.cell (i := 0) rfl 1).trans (rfl : _ = some (Value.int .i64 (cl : Int)))
    have n0 : xb ≠ w.heap.size := fun e => hk10.hp.ne (i := 1) (j := 3) rfl rfl (by decide) rfl (by rw [e]; rfl)
    have m0 := Ne.symm n0
    have n1 : xb ≠ w.heap.size + 1 := fun e => hk10.hp.ne (i := 1) (j := 2) rfl rfl (by decide) rfl (by rw [e]; rfl)
    have m1 := Ne.symm n1
    have n2 : pb ≠ w.heap.size := fun e => hk10.hp.ne (i := 0) (j := 3) rfl rfl (by decide) rfl (by rw [e]; rfl)
    have m2 := Ne.symm n2
    have n3 : pb ≠ w.heap.size + 1 := fun e => hk10.hp.ne (i := 0) (j := 2) rfl rfl (by decide) rfl (by rw [e]; rfl)
    have m3 := Ne.symm n3
    have HK10 := hid hk10
    clear hk10
    go_region
  all_goals
    go_wp2
    first
    | (obtain ⟨wf, hwf⟩ : ∃ x : World, (((((((wz.setCell ⟨w.heap.size, 0, none⟩ (.int .i64 (op : Int))).setCell ⟨w.heap.size, 1, none⟩ (.int .i64 A)).setCell ⟨w.heap.size, 2, none⟩ (.int .i64 Bb)).setCell ⟨w.heap.size, 3, none⟩ (.int .i64 (c : Int))).setCell ⟨w.heap.size, 4, none⟩ (.int .i64 n)).setCell ⟨w.heap.size + 1, 0, none⟩ (.int .i64 (line + D))).setCell ⟨w.heap.size + 1, 1, none⟩ (.int .i64 (cl : Int))).drew = x := ⟨_, rfl⟩; rw [hwf]; have hkf := (((((((HK10.out.put 3 rfl 0 (.int .i64 (op : Int)) rfl).put 3 rfl 1 (.int .i64 A) rfl).put 3 rfl 2 (.int .i64 Bb) rfl).put 3 rfl 3 (.int .i64 (c : Int)) rfl).put 3 rfl 4 (.int .i64 n) rfl).put 2 rfl 0 (.int .i64 (line + D)) rfl).put 2 rfl 1 (.int .i64 (cl : Int)) rfl).same ((Chg.refl [] _).drew); rw [hwf] at hkf)
    | (obtain ⟨wf, hwf⟩ : ∃ x : World, (((((((wz.setCell ⟨w.heap.size + 1, 0, none⟩ (.int .i64 (line + D))).setCell ⟨w.heap.size + 1, 1, none⟩ (.int .i64 (cl : Int))).setCell ⟨w.heap.size, 0, none⟩ (.int .i64 (op : Int))).setCell ⟨w.heap.size, 1, none⟩ (.int .i64 A)).setCell ⟨w.heap.size, 2, none⟩ (.int .i64 Bb)).setCell ⟨w.heap.size, 3, none⟩ (.int .i64 (c : Int))).setCell ⟨w.heap.size, 4, none⟩ (.int .i64 n)).drew = x := ⟨_, rfl⟩; rw [hwf]; have hkf := (((((((HK10.out.put 2 rfl 0 (.int .i64 (line + D)) rfl).put 2 rfl 1 (.int .i64 (cl : Int)) rfl).put 3 rfl 0 (.int .i64 (op : Int)) rfl).put 3 rfl 1 (.int .i64 A) rfl).put 3 rfl 2 (.int .i64 Bb) rfl).put 3 rfl 3 (.int .i64 (c : Int)) rfl).put 3 rfl 4 (.int .i64 n) rfl).same ((Chg.refl [] _).drew); rw [hwf] at hkf)
    clear x0 x1 x2 x3 x4 r0 r1 r2 r3 r4 f0 f1 f2 f3 f4 s0 s1 q0 q1 y0 y1 n0 n1 n2 n3 m0 m1 m2 m3 hwf HK10
    have c0 := (hkf.hp.cell (i := 3) rfl 0).trans (rfl : _ = some (Value.int .i64 (op : Int) : Value))
    have c1 := (hkf.hp.cell (i := 3) rfl 1).trans (rfl : _ = some (Value.int .i64 A : Value))
    have c2 := (hkf.hp.cell (i := 3) rfl 2).trans (rfl : _ = some (Value.int .i64 Bb : Value))
    have c3 := (hkf.hp.cell (i := 3) rfl 3).trans (rfl : _ = some (Value.int .i64 (c : Int) : Value))
    have c4 := (hkf.hp.cell (i := 3) rfl 4).trans (rfl : _ = some (Value.int .i64 n : Value))
    have d0 := (hkf.hp.cell (i := 2) rfl 0).trans (rfl : _ = some (Value.int .i64 (line + D) : Value))
    have d1 := (hkf.hp.cell (i := 2) rfl 1).trans (rfl : _ = some (Value.int .i64 (cl : Int) : Value))
    have HKF := hid hkf
    clear hkf
    exact bodyPost_ret (v := .tuple #[.agg #[.int .i64 (op : Int), .int .i64 A, .int .i64 Bb, .int .i64 (c : Int), .int .i64 n], .agg #[.int .i64 (line + D), .int .i64 (cl : Int)]]) (by simp [results, Try.results109, go_sem, c0, c1, c2, c3, c4, d0, d1]) rfl
      ⟨_, _, _, _, _, _, _, _, _, _, HQ, rfl, HKF.out.rd, HKF.out.chg⟩
end
end Go.Proofs.Ytbikekgljabalaa
