/- The document's reader of programs: the walk of takeThread. -/
import Derived.Test.YtbikekgljabalaaYc
import Derived.Deep.LoopGhost
namespace Go.Proofs.Ytbikekgljabalaa
open Go.RowKit Go.AB
set_option linter.unusedSimpArgs false
set_option linter.unusedVariables false
set_option linter.unusedSectionVars false

/-- A thread that the document's reader answers. -/
def QT (w : World) (b : Nat) (l : List UInt8) (ao : Option Addr) (cap : Nat) (R : ThrD × RS) (e : Ending) (w' : World) : Prop :=
  ∃ (nm : ByteArray) (code : List InsD) (places : List PlcD) (n p h bd : Nat) (ac : Option Addr) (cc : Nat) (ap : Option Addr) (cp : Nat) (rc rp : Option Nat), Hid (R = (⟨nm, code, places⟩, ⟨p, h, bd⟩)) ∧ Hid (code.length = n ∧ places.length = n) ∧
    e = .returned (.agg #[.string nm, .slice ac n cc, .slice ap n cp]) ∧ OkQ w' b l ao cap p h bd ∧
    Hp [b] w w' [.row 63 2 (.slice ap n cp) rp n (places.flatMap plcC), .row 61 5 (.slice ac n cc) rc n (code.flatMap insC)]
theorem cs_step (xs : List (InsD × PlcD)) (xo xa xb xc xn pl pc : Int) : ((xs ++ [((⟨xo, xa, xb, xc, xn⟩, ⟨pl, pc⟩) : InsD × PlcD)]).map Prod.fst).flatMap insC = (xs.map Prod.fst).flatMap insC ++ [.int .i64 xo, .int .i64 xa, .int .i64 xb, .int .i64 xc, .int .i64 xn] ∧
    ((xs ++ [((⟨xo, xa, xb, xc, xn⟩, ⟨pl, pc⟩) : InsD × PlcD)]).map Prod.snd).flatMap plcC = (xs.map Prod.snd).flatMap plcC ++ [.int .i64 pl, .int .i64 pc] := by
  simp only [List.map_append, List.map_cons, List.map_nil, List.flatMap_append, List.flatMap_cons, List.flatMap_nil, List.append_nil]
  exact ⟨rfl, rfl⟩
theorem RH.spoil {w u : World} {b : Nat} {l : List UInt8} {ao : Option Addr} {cap p h bd : Nat} {I : List It} (k : RH w u b l ao cap p h bd I) (e : Nat) : RH w (u.setCell ⟨b, 3, none⟩ (.int .i64 e)) b l ao cap p h e I := by
  have hc : Chg [b] u (u.setCell ⟨b, 3, none⟩ (.int .i64 e)) := (Chg.refl [b] u).setCell (p := ⟨b, 3, none⟩) (.inl (by simp)) _
  refine k.take hc ⟨⟨?_, k.rd.rd.view.keep hc (fun g hg hm => k.rd.rd.ne g hg (by simpa using hm)), k.rd.rd.ne, k.rd.rd.ok⟩, fun g hg => Nat.lt_of_lt_of_le (k.rd.lt g hg) hc.size⟩
  have h := blk_set k.rd.rd.blk 3 (.int .i64 e)
  simpa using h
theorem qt_done {w u : World} {b : Nat} {l : List UInt8} {ao : Option Addr} {cap p h bd j n xb : Nat} {nm : ByteArray} {xs : List (InsD × PlcD)} {av ap : Option Addr} {cv cp : Nat} {rc rp : Option Nat} {s0 : RS}
    (k : RH w u b l ao cap p h bd [.row 63 2 (.slice ap j cp) rp j ((xs.map Prod.snd).flatMap plcC), .row 61 5 (.slice av j cv) rc j ((xs.map Prod.fst).flatMap insC), .box xb (.cells #[.string nm, .slice av j cv, .slice ap j cp] 59), .box w.heap.size (.cells #[.string ⟨#[]⟩, .slice none 0 0, .slice none 0 0] 59)])
    (hd : repQ (qIP l) nxIP n 0 s0 = (xs, ⟨p, h, bd⟩)) (hlen : xs.length = j) (a0 a1 a2 : Value) :
    QT w b l ao cap (⟨nm, (repQ (qIP l) nxIP n 0 s0).1.map Prod.fst, (repQ (qIP l) nxIP n 0 s0).1.map Prod.snd⟩, (repQ (qIP l) nxIP n 0 s0).2) (.returned (.agg #[.string nm, .slice av j cv, .slice ap j cp])) (((u.setCell ⟨w.heap.size, 0, none⟩ a0).setCell ⟨w.heap.size, 1, none⟩ a1).setCell ⟨w.heap.size, 2, none⟩ a2) := by
  have k2 := ((k.put 3 rfl 0 a0 rfl).put 3 rfl 1 a1 rfl).put 3 rfl 2 a2 rfl
  rw [hd]
  exact ⟨nm, _, _, j, p, h, bd, av, cv, ap, cp, rc, rp, hid rfl, hid ⟨by simp [hlen], by simp [hlen]⟩, rfl, k2.rd, (k2.hp.sub (.cons_cons _ (.cons_cons _ (.cons _ (.cons _ (.refl _))))))⟩
section
variable {w : World} {b : Nat} {l : List UInt8} {ao : Option Addr} {cap pos wh bad : Nat}
set_option maxHeartbeats 8000000 in
set_option maxRecDepth 100000 in
theorem q_takeThread (hR : OkQ w b l ao cap pos wh bad) (hl : l.length ≤ 16777216) :
    Calls Try.prog 93 #[.pointer (some ⟨b, 0, none⟩)] w (QT w b l ao cap (qThr l ⟨pos, wh, bad⟩)) := by
  obtain ⟨nm, p1, h1, b1, hT⟩ : ∃ o p h b, rText 24 l ⟨pos, wh, bad⟩ = (o, ⟨p, h, b⟩) := ⟨_, _, _, _, rfl⟩
  obtain ⟨R, hRq⟩ : ∃ R, qThr l ⟨pos, wh, bad⟩ = R := ⟨_, rfl⟩
  rw [hRq]
  have hNM := fun u (hu : OkQ u b l ao cap pos wh bad) => q_text_calls hu.rd (by omega) 24 (by unfold I64; omega)
  rw [hT] at hNM
  have HNM := hid hNM
  have HR := hid hRq
  have HT := hid hT
  have hK0 := (RH.start hR).box (.cells #[.string ⟨#[]⟩, .slice none 0 0, .slice none 0 0] 59)
  have HK0 := hid hK0
  clear hNM hRq hT hK0
  go_enter Try.func93, Try.ntmps93
  go_wp2_with (first
    | (go_at_call 91; refine (HNM.out _ HK0.out.rd).mono ?_; rintro e w2 ⟨rfl, hR2, hc2⟩; unfold strB; have hK1 := (HK0.out.take hc2 (HK0.out.rd.next hc2 hR2)).box (.cells #[.string ⟨nm.toArray⟩, .slice none 0 0, .slice none 0 0] 59))
    | (go_at_call 90; refine (q_counted 4096 (by omega) hK1.rd hl).mono ?_; rintro e w3 ⟨n, p0, h0, bd0, HN, hn4, rfl, hR3, hc3⟩))
  have hK3 := (((hK1.take hc3 hR3).nil 61 5).nil 63 2)
  obtain ⟨xb, hxb⟩ : ∃ x, w2.heap.size = x := ⟨_, rfl⟩
  rw [hxb] at hK3 ⊢
  have HF : Hid (∀ u wu, QT w b l ao cap (⟨⟨nm.toArray⟩, (repQ (qIP l) nxIP n 0 ⟨p0, h0, bd0⟩).1.map Prod.fst, (repQ (qIP l) nxIP n 0 ⟨p0, h0, bd0⟩).1.map Prod.snd⟩, (repQ (qIP l) nxIP n 0 ⟨p0, h0, bd0⟩).2) u wu → QT w b l ao cap R u wu) :=
    hid (fun u wu h => by rw [← HR.out]; unfold qThr; rw [HT.out]; simp only [HN.out]; exact h)
  have HK3 := hid hK3
  clear hK1 hK3 hR2 hc2 hR3 hc3 hxb HNM HR HT HN HK0
  go_loopg [5, 6] n (fun gk vl vi wr => ∃ (j p h bd : Nat) (line : Int) (xs : List (InsD × PlcD)) (rc rp : Option Nat) (av ap : Option Addr) (cv cp : Nat), j + gk = n ∧ vl = .int .i64 line ∧ vi = .int .i64 j ∧ (bd = 0 → 0 ≤ line ∧ line ≤ 2147483647) ∧
    Hid (RH w wr b l ao cap p h bd [.row 63 2 (.slice ap j cp) rp j ((xs.map Prod.snd).flatMap plcC), .row 61 5 (.slice av j cv) rc j ((xs.map Prod.fst).flatMap insC), .box xb (.cells #[.string ⟨nm.toArray⟩, .slice av j cv, .slice ap j cp] 59), .box w.heap.size (.cells #[.string ⟨#[]⟩, .slice none 0 0, .slice none 0 0] 59)]) ∧
    Hid (RQ (qIP l) nxIP n 0 ⟨p0, h0, bd0⟩ j line ⟨p, h, bd⟩ xs))
  case atStart => exact ⟨0, p0, h0, bd0, 0, [], none, none, none, none, 0, 0, by omega, rfl, rfl, fun _ => by omega, HK3, hid (RQ.start _ _ _ _ _)⟩
  case round =>
    clear HK3
    obtain ⟨j, p, h, bd, line, xs, rc, rp, av, ap, cv, cp, hj, rfl, rfl, hline, HK, HQ⟩ := hrel
    have hbad := HK.out.rd.rd.c3
    by_cases hlt : j < n
    · have zl : (j : Int) < (n : Int) := by omega
      by_cases hb0 : bd = 0
      · subst hb0
        obtain ⟨l0, l1⟩ := hline rfl
        go_upto_region 8 with (go_at_call 109; refine (q_takeInstr HK.out.rd hl line l0 l1).mono ?_; rintro e w4 ⟨xo, xa, xbb, xc, xn, pl, pc, p', h', bd', HI, rfl, hR4, hc4⟩)
        have HK4 := hid (((HK.out.take hc4 hR4).box (.cells #[.int .i64 xo, .int .i64 xa, .int .i64 xbb, .int .i64 xc, .int .i64 xn] 61)).box (.cells #[.int .i64 pl, .int .i64 pc] 63))
        clear hR4 hc4 hbad
        obtain ⟨xB, hxB⟩ : ∃ x, w4.heap.size = x := ⟨_, rfl⟩
        have HKs : Hid (RH w _ b l ao cap p' h' bd' [.box (xB + 1) (.cells #[.int .i64 pl, .int .i64 pc] 63), .box xB (.cells #[.int .i64 xo, .int .i64 xa, .int .i64 xbb, .int .i64 xc, .int .i64 xn] 61), .row 63 2 (.slice ap j cp) rp j ((xs.map Prod.snd).flatMap plcC), .row 61 5 (.slice av j cv) rc j ((xs.map Prod.fst).flatMap insC), .box xb (.cells #[.string ⟨nm.toArray⟩, .slice av j cv, .slice ap j cp] 59), .box w.heap.size (.cells #[.string ⟨#[]⟩, .slice none 0 0, .slice none 0 0] 59)]) := hid (by have h := HK4.out; simp only [World.size_alloc] at h; rw [hxB] at h; exact h)
        rw [hxB]
        obtain ⟨wB, hwB⟩ : ∃ x : World, (w4.alloc (.cells #[.int .i64 xo, .int .i64 xa, .int .i64 xbb, .int .i64 xc, .int .i64 xn] 61)).alloc (.cells #[.int .i64 pl, .int .i64 pc] 63) = x := ⟨_, rfl⟩
        rw [hwB] at HKs ⊢
        clear hwB hxB HK4 HK
        have y0 := (HKs.out.hp.cell (i := 0) rfl 0).trans (rfl : _ = some (Value.int .i64 pl))
        obtain ⟨q, hq⟩ : ∃ q : Bool, (decide (pl < 0) || decide (2147483647 < pl)) = q := ⟨_, rfl⟩
        obtain ⟨bdn, hbdn⟩ : ∃ x : Nat, (if q then 101 else bd') = x := ⟨_, rfl⟩
        have hq2 : qIP l line ⟨p, h, 0⟩ = ((⟨xo, xa, xbb, xc, xn⟩, ⟨pl, pc⟩), ⟨p', h', bdn⟩) := by
          unfold qIP spoilR
          rw [HI.out, ← hbdn, ← hq]
          simp only [Bool.or_eq_true, decide_eq_true_eq]
          split <;> rfl
        have HQ2 := hid (HQ.out.step hlt rfl hq2)
        have hln2 : bdn = 0 → 0 ≤ pl ∧ pl ≤ 2147483647 := by
          intro h0
          cases q
          · simp only [Bool.or_eq_false_iff, decide_eq_false_iff_not] at hq
            omega
          · simp only [if_true] at hbdn
            omega
        have HLN := hid hln2
        have HBD := hid hbdn
        have HQQ := hid hq
        clear hq2 HI HQ hln2 hbdn hq hline
        go_upto_region 9 with fail
        go_cut [39] (fun v wx => v = .bool q ∧ wx = wB)
        case first =>
          have hq := HQQ.out
          by_cases k1 : pl < 0
          · rw [decide_eq_true k1] at hq
            simp only [Bool.true_or] at hq
            subst hq
            go_wp2_with fail
            go_meet
            exact ⟨rfl, rfl⟩
          · rw [decide_eq_false k1] at hq
            simp only [Bool.false_or] at hq
            have k2 : ¬ (pl < 0) := k1
            by_cases k3 : 2147483647 < pl
            · rw [decide_eq_true k3] at hq
              subst hq
              go_wp2_with fail
              go_meet
              exact ⟨rfl, rfl⟩
            · rw [decide_eq_false k3] at hq
              subst hq
              go_wp2_with fail
              go_meet
              exact ⟨rfl, rfl⟩
        case rest =>
        obtain ⟨rfl, rfl⟩ := hcut
        clear HQQ y0
        go_upto_if 39 with fail
        go_cut [42] (fun _ wx => Hid (RH w wx b l ao cap p' h' bdn [.box (xB + 1) (.cells #[.int .i64 pl, .int .i64 pc] 63), .box xB (.cells #[.int .i64 xo, .int .i64 xa, .int .i64 xbb, .int .i64 xc, .int .i64 xn] 61), .row 63 2 (.slice ap j cp) rp j ((xs.map Prod.snd).flatMap plcC), .row 61 5 (.slice av j cv) rc j ((xs.map Prod.fst).flatMap insC), .box xb (.cells #[.string ⟨nm.toArray⟩, .slice av j cv, .slice ap j cp] 59), .box w.heap.size (.cells #[.string ⟨#[]⟩, .slice none 0 0, .slice none 0 0] 59)]))
        case first =>
          cases q
          · have h := HBD.out
            simp only [Bool.false_eq_true, if_false] at h
            subst h
            go_wp2_with fail
            go_meet
            exact HKs
          · have h := HBD.out
            simp only [if_true] at h
            subst h
            have c3 := HKs.out.rd.rd.c3
            have g3 := HKs.out.rd.rd.fr 3
            go_wp2_with fail
            go_meet
            exact hid (HKs.out.spoil 101)
        case rest =>
        have HK5 := hcut
        clear hcut HKs HBD
        have x3 := (HK5.out.hp.cell (i := 4) rfl 1).trans (rfl : _ = some (Value.slice av j cv))
        have hrow := HK5.out.hp.rowAt (i := 3) rfl
        have y0 := (HK5.out.hp.cell (i := 1) rfl 0).trans (rfl : _ = some (Value.int .i64 xo))
        have y1 := (HK5.out.hp.cell (i := 1) rfl 1).trans (rfl : _ = some (Value.int .i64 xa))
        have y2 := (HK5.out.hp.cell (i := 1) rfl 2).trans (rfl : _ = some (Value.int .i64 xbb))
        have y3 := (HK5.out.hp.cell (i := 1) rfl 3).trans (rfl : _ = some (Value.int .i64 xc))
        have y4 := (HK5.out.hp.cell (i := 1) rfl 4).trans (rfl : _ = some (Value.int .i64 xn))
        have HROW := hid fun o => hrow.keep ((Chg.refl [] _).alloc o) (by simp)
        clear hrow
        go_upto_region 12 with (at_builtin; refine wpList_app rfl _ _ 56 rfl elem_ins rfl (HROW.out _) rfl (View.struct _ [.int .i64 xo, .int .i64 xa, .int .i64 xbb, .int .i64 xc, .int .i64 xn] 61 rfl) (by simp [Value.oneCell']) (by unfold maxLen; omega) (by omega) (fun ao6 cap6 r6 w6 hr6 hc6 hf6 _ => halt (fun X hX => ?_)))
        rw [hX.out]; clear hX
        have hk6 := HK5.out.grow 3 rfl ((Chg.refl [] _).alloc _) hr6 hc6 hf6 rfl
        have z1 := (hk6.hp.cell (i := 4) rfl 1).trans (rfl : _ = some (Value.slice av j cv))
        have f1 := hk6.hp.free (i := 4) rfl 1
        have HK6 := hid (hk6.put 4 rfl 1 (.slice ao6 (j + 1) cap6) rfl)
        clear hk6 hr6 hc6 hf6 x3 y0 y1 y2 y3 y4 HROW HK5
        go_upto_region 12 with fail
        obtain ⟨w7, hw7⟩ : ∃ x : World, w6.setCell ⟨xb, 1, none⟩ (.slice ao6 (j + 1) cap6) = x := ⟨_, rfl⟩
        rw [hw7] at HK6 ⊢
        clear hw7 z1 f1
        have x3 := (HK6.out.hp.cell (i := 4) rfl 2).trans (rfl : _ = some (Value.slice ap j cp))
        have hrow := HK6.out.hp.rowAt (i := 2) rfl
        have y0 := (HK6.out.hp.cell (i := 0) rfl 0).trans (rfl : _ = some (Value.int .i64 pl))
        have y1 := (HK6.out.hp.cell (i := 0) rfl 1).trans (rfl : _ = some (Value.int .i64 pc))
        have HROW := hid fun o => hrow.keep ((Chg.refl [] _).alloc o) (by simp)
        clear hrow
        go_wp2_with (at_builtin; refine wpList_app rfl _ _ 57 rfl elem_plc rfl (HROW.out _) rfl (View.struct _ [.int .i64 pl, .int .i64 pc] 63 rfl) (by simp [Value.oneCell']) (by unfold maxLen; omega) (by omega) (fun ao8 cap8 r8 w8 hr8 hc8 hf8 _ => halt (fun X hX => ?_)))
        rw [hX.out]; clear hX
        have hk8 := HK6.out.grow 2 rfl ((Chg.refl [] _).alloc _) hr8 hc8 hf8 rfl
        have z1 := (hk8.hp.cell (i := 4) rfl 2).trans (rfl : _ = some (Value.slice ap j cp))
        have f1 := hk8.hp.free (i := 4) rfl 2
        have hk9 := hk8.put 4 rfl 2 (.slice ao8 (j + 1) cap8) rfl
        obtain ⟨hcc, hcp⟩ := cs_step xs xo xa xbb xc xn pl pc
        have HK9 : Hid (RH w (w8.setCell ⟨xb, 2, none⟩ (.slice ao8 (j + 1) cap8)) b l ao cap p' h' bdn [.row 63 2 (.slice ao8 (j + 1) cap8) r8 (j + 1) (((xs ++ [((⟨xo, xa, xbb, xc, xn⟩, ⟨pl, pc⟩) : InsD × PlcD)]).map Prod.snd).flatMap plcC), .row 61 5 (.slice ao6 (j + 1) cap6) r6 (j + 1) (((xs ++ [((⟨xo, xa, xbb, xc, xn⟩, ⟨pl, pc⟩) : InsD × PlcD)]).map Prod.fst).flatMap insC), .box xb (.cells #[.string ⟨nm.toArray⟩, .slice ao6 (j + 1) cap6, .slice ao8 (j + 1) cap8] 59), .box w.heap.size (.cells #[.string ⟨#[]⟩, .slice none 0 0, .slice none 0 0] 59)]) := hid (by rw [hcc, hcp]; exact hk9.sub (.cons _ (.cons _ (.refl _))))
        clear hk8 hk9 hr8 hc8 hf8 x3 y0 y1 HROW HK6 hcc hcp
        go_wp2_with fail
        go_roundg (gk - 1)
        case measure => omega
        case rel => exact ⟨j + 1, p', h', bdn, pl, _, r6, r8, ao6, ao8, cap6, cap8, by omega, rfl, by go_num, HLN.out, HK9, HQ2⟩
      · have zb : ((bd : Int) == 0) = false := by simp; omega
        have HD := hid (HQ.out.done (.inr hb0))
        have hlen := HQ.out.len
        have x0 := (HK.out.hp.cell (i := 2) rfl 0).trans (rfl : _ = some (Value.string ⟨nm.toArray⟩))
        have x1 := (HK.out.hp.cell (i := 2) rfl 1).trans (rfl : _ = some (Value.slice av j cv))
        have x2 := (HK.out.hp.cell (i := 2) rfl 2).trans (rfl : _ = some (Value.slice ap j cp))
        have r0 := (HK.out.hp.cell (i := 3) rfl 0).trans (rfl : _ = some (Value.string ⟨#[]⟩))
        have r1 := (HK.out.hp.cell (i := 3) rfl 1).trans (rfl : _ = some (Value.slice none 0 0))
        have r2 := (HK.out.hp.cell (i := 3) rfl 2).trans (rfl : _ = some (Value.slice none 0 0))
        have f0 := HK.out.hp.free (i := 3) rfl 0
        have f1 := HK.out.hp.free (i := 3) rfl 1
        have f2 := HK.out.hp.free (i := 3) rfl 2
        have HLEN := hid hlen
        clear hlen hline
        go_wp2
        exact bodyPost_ret (v := .agg #[.string ⟨nm.toArray⟩, .slice av j cv, .slice ap j cp]) (by simp [results, Try.results93, go_sem, x0, x1, x2, r0, r1, r2]) rfl (HF.out _ _ (qt_done HK.out HD.out HLEN.out _ _ _))
    · obtain rfl : j = n := by omega
      have HD := hid (HQ.out.done (.inl rfl))
      have hlen := HQ.out.len
      have x0 := (HK.out.hp.cell (i := 2) rfl 0).trans (rfl : _ = some (Value.string ⟨nm.toArray⟩))
      have x1 := (HK.out.hp.cell (i := 2) rfl 1).trans (rfl : _ = some (Value.slice av j cv))
      have x2 := (HK.out.hp.cell (i := 2) rfl 2).trans (rfl : _ = some (Value.slice ap j cp))
      have r0 := (HK.out.hp.cell (i := 3) rfl 0).trans (rfl : _ = some (Value.string ⟨#[]⟩))
      have r1 := (HK.out.hp.cell (i := 3) rfl 1).trans (rfl : _ = some (Value.slice none 0 0))
      have r2 := (HK.out.hp.cell (i := 3) rfl 2).trans (rfl : _ = some (Value.slice none 0 0))
      have f0 := HK.out.hp.free (i := 3) rfl 0
      have f1 := HK.out.hp.free (i := 3) rfl 1
      have f2 := HK.out.hp.free (i := 3) rfl 2
      have HLEN := hid hlen
      clear hlen hline
      go_wp2
      exact bodyPost_ret (v := .agg #[.string ⟨nm.toArray⟩, .slice av j cv, .slice ap j cp]) (by simp [results, Try.results93, go_sem, x0, x1, x2, r0, r1, r2]) rfl (HF.out _ _ (qt_done HK.out HD.out HLEN.out _ _ _))
end
end Go.Proofs.Ytbikekgljabalaa
