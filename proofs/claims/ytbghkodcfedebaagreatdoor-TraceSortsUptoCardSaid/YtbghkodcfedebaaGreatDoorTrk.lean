/- Walks of the trace layer: a run taken off. -/
import Derived.Test.YtbghkodcfedebaaGreatDoorTrj
import Derived.Test.YtbghkodcfedebaaGreatDoorTj4
set_option linter.unusedVariables false
set_option linter.unusedSectionVars false
set_option linter.unusedSimpArgs false
namespace Go.AB
open Go.RowKit
theorem rShort_leT (m : Nat) (l : List UInt8) (s : RS) : (rShort m l s).1 ≤ m := by
  unfold rShort
  repeat' split
  all_goals first | exact Nat.zero_le _ | omega
/-- What a parse of so many says between the rounds. -/
structure TQ {α σ : Type} (d : σ → Ps α) (nx : α → σ) (n : Nat) (s0 : σ) (p0 j : Nat) (s : σ) (q : Nat) (xs : List α) : Prop where
  le : j ≤ n
  eq : rep d nx n s0 p0 = (rep d nx (n - j) s q).map fun t => (xs ++ t.1, t.2)
section
variable {α σ : Type} {d : σ → Ps α} {nx : α → σ} {n p0 j q q2 : Nat} {s0 s : σ} {xs : List α} {x : α}
theorem TQ.start (d : σ → Ps α) (nx : α → σ) (n : Nat) (s0 : σ) (p0 : Nat) : TQ d nx n s0 p0 0 s0 p0 [] := ⟨Nat.zero_le _, by simp⟩
theorem TQ.step (h : TQ d nx n s0 p0 j s q xs) (hj : j < n) (hd : d s q = some (x, q2)) : TQ d nx n s0 p0 (j + 1) (nx x) q2 (xs ++ [x]) := by
  refine ⟨by omega, ?_⟩
  rw [h.eq, show n - j = (n - (j + 1)) + 1 from by omega]
  simp only [rep, hd, Option.bind_some, Option.map_map]
  congr 1
  funext t
  simp
theorem TQ.stop (h : TQ d nx n s0 p0 j s q xs) (hj : j < n) (hd : d s q = none) : rep d nx n s0 p0 = none := by
  rw [h.eq, show n - j = (n - (j + 1)) + 1 from by omega]
  simp only [rep, hd, Option.bind_none, Option.map_none]
theorem TQ.done (h : TQ d nx n s0 p0 n s q xs) : rep d nx n s0 p0 = some (xs, q) := by
  rw [h.eq, Nat.sub_self]
  simp [rep]
end
theorem dEv_some {L : List UInt8} {t q : Nat} {k o p h : Nat} (h1 : pEv L ⟨q, 0, 0⟩ = ((k, o), ⟨p, h, 0⟩)) (h2 : plainE ⟨k, t, o⟩ = true) : dEv L t q = some (⟨k, t, o⟩, p) := by
  unfold dEv sureP
  rw [h1]
  simp only
  rw [if_pos (by first | exact ⟨rfl, h2⟩ | exact ⟨trivial, h2⟩)]
  rfl
theorem dEv_none {L : List UInt8} {t q : Nat} {k o p h b : Nat} (h1 : pEv L ⟨q, 0, 0⟩ = ((k, o), ⟨p, h, b⟩)) (h2 : b ≠ 0 ∨ plainE ⟨k, t, o⟩ = false) : dEv L t q = none := by
  unfold dEv sureP
  rw [h1]
  simp only
  rw [if_neg]
  · rfl
  · rintro ⟨h3, h4⟩
    rcases h2 with h2 | h2
    · exact h2 h3
    · rw [show evOf t (k, o) = ⟨k, t, o⟩ from rfl, h2] at h4; cases h4
theorem pEv_11 {L : List UInt8} {q k p h b : Nat} (h1 : rFixed 1 L ⟨q, 0, 0⟩ = (k, ⟨p, h, b⟩)) (hk : k = 11) : pEv L ⟨q, 0, 0⟩ = ((k, 0), ⟨p, h, b⟩) := by
  unfold pEv
  simp only [h1]
  rw [if_neg (by omega)]
theorem pEv_no {L : List UInt8} {q k p h b o p2 w2 b2 : Nat} (h1 : rFixed 1 L ⟨q, 0, 0⟩ = (k, ⟨p, h, b⟩)) (hk : k ≠ 11) (h2 : rShort 65535 L ⟨p, h, b⟩ = (o, ⟨p2, w2, b2⟩)) : pEv L ⟨q, 0, 0⟩ = ((k, o), ⟨p2, w2, b2⟩) := by
  unfold pEv
  simp only [h1]
  rw [if_pos hk, h2]
theorem pEv_wh {L : List UInt8} {q k o p h : Nat} (h1 : pEv L ⟨q, 0, 0⟩ = ((k, o), ⟨p, h, 0⟩)) : h = 0 := by
  unfold pEv at h1
  rcases hr : rFixed 1 L ⟨q, 0, 0⟩ with ⟨k1, ⟨p1, w1, b1⟩⟩
  simp only [hr] at h1
  split at h1
  · rcases hs : rShort 65535 L ⟨p1, w1, b1⟩ with ⟨o1, ⟨p2, w2, b2⟩⟩
    rw [hs] at h1
    simp only [Prod.mk.injEq, RS.mk.injEq] at h1
    obtain ⟨⟨rfl, rfl⟩, rfl, rfl, rfl⟩ := h1
    have a := rShort_whT (m := 65535) (L := L) (s := ⟨p1, w1, b1⟩) (by rw [hs])
    rw [hs] at a
    have b := rFixed_whT (L := L) (m := 1) (s := ⟨q, 0, 0⟩) (by rw [hr]; exact a.2.1)
    rw [hr] at b
    exact a.1.trans b.1
  · simp only [Prod.mk.injEq, RS.mk.injEq] at h1
    obtain ⟨⟨rfl, rfl⟩, rfl, rfl, rfl⟩ := h1
    have b := rFixed_whT (L := L) (m := 1) (s := ⟨q, 0, 0⟩) (by rw [hr])
    rw [hr] at b
    exact b.1
theorem dRun_none {L : List UInt8} {last : Int} {q t n p h b : Nat} (h1 : pRun L ⟨q, 0, 0⟩ = ((t, n), ⟨p, h, b⟩)) (h2 : b ≠ 0 ∨ n = 0 ∨ (t : Int) = last) : dRun L last q = none := by
  unfold dRun sureP
  rw [h1]
  simp only
  rw [if_neg]
  · rfl
  · rintro ⟨h3, h4⟩
    simp only [Bool.and_eq_true, decide_eq_true_eq] at h4
    rcases h2 with h2 | h2 | h2
    · exact h2 h3
    · exact h4.1 h2
    · exact h4.2 h2
theorem dRun_rest {L : List UInt8} {last : Int} {q t n p h : Nat} (h1 : pRun L ⟨q, 0, 0⟩ = ((t, n), ⟨p, h, 0⟩)) (h2 : n ≠ 0) (h3 : (t : Int) ≠ last) : dRun L last q = rep (fun _ : Unit => dEv L t) (fun _ => ()) n () p := by
  unfold dRun sureP
  rw [h1]
  simp only
  rw [if_pos (by first | exact ⟨rfl, by simp [h2, h3]⟩ | exact ⟨trivial, by simp [h2, h3]⟩)]
  simp only [Option.bind_some, Option.map_map]
  cases rep (fun _ : Unit => dEv L t) (fun _ => ()) n () p with
  | none => rfl
  | some r => rfl
end Go.AB
namespace Go.Proofs.YtbghkodcfedebaaGreatDoor
open Go.RowKit Go.AB
set_option linter.unusedSimpArgs false
set_option linter.unusedVariables false
set_option linter.unusedSectionVars false

/-- A body that is none. -/
def brokenE : Ending := .panicked [{ v := .iface 100 (.agg #[]), recovered := false }]
theorem sound_ok (w : World) : Calls Tryz.prog 58 #[.bool true] w fun e w' => e = .returned (.tuple #[]) ∧ w' = w := by
  go_enter Tryz.func58, Tryz.ntmps58
  go_wp2
  go_end0
  exact ⟨rfl, rfl⟩
theorem sound_no (w : World) : Calls Tryz.prog 58 #[.bool false] w fun e w' => e = brokenE ∧ w' = w := by
  go_enter Tryz.func58, Tryz.ntmps58
  go_wp2
  exact ⟨rfl, rfl, rfl⟩
/-- A run being taken: the reader b, a list of its own. -/
structure RV (w u : World) (b : Nat) (l : List UInt8) (ao : Option Addr) (cap p h bd : Nat) (av : Option Addr) (cv : Nat) (rr : Option Nat) (xs : List Ev) : Prop where
  rd : Rd 151 u b l ao cap p h bd
  lt : ∀ g, (Value.slice ao l.length cap).ownBlock = some g → g < w.heap.size
  bl : b < w.heap.size
  chg : Chg [b] w u
  row : Row u 28 3 (.slice av xs.length cv) rr xs.length (xs.flatMap evC)
  fr : ∀ g, rr = some g → w.heap.size ≤ g
section
variable {w u u' : World} {b : Nat} {l : List UInt8} {ao : Option Addr} {cap p h bd p' h' bd' : Nat} {av av' : Option Addr} {cv cv' : Nat} {rr rr' : Option Nat} {xs : List Ev} {x : Ev}
theorem RV.take (k : RV w u b l ao cap p h bd av cv rr xs) (hc : Chg [b] u u') (hr : Rd 151 u' b l ao cap p' h' bd') : RV w u' b l ao cap p' h' bd' av cv rr xs :=
  ⟨hr, k.lt, k.bl, k.chg.trans' hc, k.row.keep hc (fun g hg => by have := k.fr g hg; have := k.bl; simp; omega), k.fr⟩
theorem RV.same (k : RV w u b l ao cap p h bd av cv rr xs) (hc : Chg [] u u') : RV w u' b l ao cap p h bd av cv rr xs :=
  ⟨k.rd.keep hc (by simp) (by simp), k.lt, k.bl, k.chg.trans' hc.nil, k.row.keep hc (by simp), k.fr⟩
theorem RV.other {E : Nat} (k : RV w u b l ao cap p h bd av cv rr xs) (hc : Chg [E] u u') (hE : w.heap.size ≤ E) (hEr : rr ≠ some E) : RV w u' b l ao cap p h bd av cv rr xs := by
  have hb := k.bl
  exact ⟨k.rd.keep hc (by simp; omega) (fun g hg => by have := k.lt g hg; simp; omega), k.lt, k.bl, k.chg.trans hc (fun g hg => .inr (by simp at hg; omega)), k.row.keep hc (fun g hg hm => by simp at hm; subst hm; exact hEr hg), k.fr⟩
theorem RV.app (k : RV w u b l ao cap p h bd av cv rr xs) (hr : Row u' 28 3 (.slice av' (xs.length + 1) cv') rr' (xs.length + 1) ((xs ++ [x]).flatMap evC)) {u1 : World} (hc : Chg [] u u1) (hg : Grew u1 u' rr rr') : RV w u' b l ao cap p h bd av' cv' rr' (xs ++ [x]) := by
  have hm : ∀ g, g < w.heap.size → g ∉ rr.toList := fun g hg hm => by
    have := k.fr g (by simpa using hm)
    omega
  refine ⟨(k.rd.keep hc (by simp) (by simp)).keep hg.chg (hm _ k.bl) (fun g hg => hm g (k.lt g hg)), k.lt, k.bl, (k.chg.trans' hc.nil).trans hg.chg (fun g h => .inr (k.fr g (by simpa using h))), ?_, fun g h => ?_⟩
  · rw [List.length_append]; exact hr
  · rcases hg.fresh g h with h1 | h1
    · exact k.fr g h1
    · have := (k.chg.trans' hc.nil).size; omega
end
/-- A run taken off, in new memory; or thrown. -/
def RunP (w : World) (b : Nat) (l : List UInt8) (ao : Option Addr) (cap : Nat) (R : Option (List Ev × Nat)) (e : Ending) (w' : World) : Prop :=
  (∃ r q av cv rr, R = some (r, q) ∧ e = .returned (.slice av r.length cv) ∧ RV w w' b l ao cap q 0 0 av cv rr r) ∨ (R = none ∧ e = brokenE ∧ Chg [b] w w')
set_option maxHeartbeats 16000000 in
set_option maxRecDepth 100000 in
theorem run_calls {w : World} {b : Nat} {l : List UInt8} {ao : Option Addr} {cap pos : Nat} (hR : Rd 151 w b l ao cap pos 0 0) (hlt : ∀ g, (Value.slice ao l.length cap).ownBlock = some g → g < w.heap.size) (hl : l.length ≤ 16777216) (last : Int) :
    Calls Tryz.prog 57 #[.pointer (some ⟨b, 0, none⟩), .int .i64 last] w (RunP w b l ao cap (dRun l last pos)) := by
  obtain ⟨R, hRd⟩ : ∃ R, dRun l last pos = R := ⟨_, rfl⟩
  rw [hRd]
  obtain ⟨t, p1, h1, b1, hS1⟩ : ∃ t p h b, rShort 65534 l ⟨pos, 0, 0⟩ = (t, ⟨p, h, b⟩) := ⟨_, _, _, _, rfl⟩
  obtain ⟨n, p2, h2, b2, hS2⟩ : ∃ t p h b, rShort 16777216 l ⟨p1, h1, b1⟩ = (t, ⟨p, h, b⟩) := ⟨_, _, _, _, rfl⟩
  have ht : t ≤ 65534 := by have := rShort_leT 65534 l ⟨pos, 0, 0⟩; rw [hS1] at this; exact this
  have hn : n ≤ 16777216 := by have := rShort_leT 16777216 l ⟨p1, h1, b1⟩; rw [hS2] at this; exact this
  have hP : pRun l ⟨pos, 0, 0⟩ = ((t, n), ⟨p2, h2, b2⟩) := by unfold pRun; rw [hS1]; simp only; rw [hS2]
  have hwh : b2 = 0 → h2 = 0 := fun e => by
    subst e
    have a := rShort_whT (m := 16777216) (L := l) (s := ⟨p1, h1, b1⟩) (by rw [hS2])
    rw [hS2] at a
    have c := rShort_whT (m := 65534) (L := l) (s := ⟨pos, 0, 0⟩) (by rw [hS1]; exact a.2.1)
    rw [hS1] at c
    exact a.1.trans c.1
  have hsa := rshort_calls hR (by omega) 65534
  rw [hS1] at hsa
  have HSA := hid hsa
  have HSB := hid fun u (hr : Rd 151 u b l ao cap p1 h1 b1) => (by have h := rshort_calls hr (by omega) 16777216; rw [hS2] at h; exact h : Calls Tryz.prog 56 #[.pointer (some ⟨b, 0, none⟩), .int .u64 ((16777216 : Nat) : Int)] u (RdPost 151 u b l ao cap (.int .u64 n) ⟨p2, h2, b2⟩))
  have hV0 : RV w w b l ao cap pos 0 0 none 0 none [] := ⟨hR, hlt, blk_lt hR.blk, Chg.refl _ _, Row.nil _ _ _, by simp⟩
  have HV0 := hid hV0
  have z1 : IntKind.i64.wrap (t : Int) = (t : Int) := by rw [IntKind.wrap_i64]; omega
  have z2 : wrap64 (t : Int) = (t : Int) := IntWalk.wrap64_in _ (by omega)
  have HP := hid hP
  have HRD := hid hRd
  have HWH := hid hwh
  have HH := hid (And.intro hS1 hS2)
  clear hsa hV0 hP hRd hS1 hS2 hwh hR
  by_cases hok : b2 = 0 ∧ n ≠ 0 ∧ (t : Int) ≠ last
  · obtain ⟨rfl, hn0, htl⟩ := hok
    obtain rfl := HWH.out rfl
    have HR1 := hid (dRun_rest HP.out hn0 htl)
    have g1 : decide ((0 : Int) < (n : Int)) = true := decide_eq_true (by omega)
    have g3 : decide (0 < n) = true := decide_eq_true (by omega)
    have g4 : 0 < n := by omega
    have g2 : (((t : Int)) != last) = true := by simpa using htl
    clear hn0 htl
    go_enter Tryz.func57, Tryz.ntmps57
    go_wp2_with (go_at_call 56; refine (HSA.out).mono ?_; rintro e w1 ⟨rfl, hR1, hc1⟩; refine halt (fun XX hXX => ?_))
    have HA1 := hid (HV0.out.take hc1 hR1)
    have HSB1 := hid (HSB.out w1 hR1)
    clear HSA HSB hR1 hc1
    rw [hXX.out]; clear hXX XX
    go_wp2_with (go_at_call 56; refine (HSB1.out).mono ?_; rintro e w2 ⟨rfl, hR2, hc2⟩; refine halt (fun XX hXX => ?_))
    have HA2 := hid (HA1.out.take hc2 hR2)
    clear HSB1 hR2 hc2 HA1
    rw [hXX.out]; clear hXX XX
    go_upto_region 6 with (first
      | (go_at_call 93; refine (fault_calls HA2.out.rd).mono ?_; rintro e w3 ⟨rfl, hd3⟩; have HA3 := hid (HA2.out.same hd3.chg); clear hd3)
      | (go_at_call 58; refine (sound_ok _).mono ?_; rintro e w4 ⟨rfl, rfl⟩))
    have HA := hid HA3.out
    clear HA2 HA3 HP HWH HH HV0 z1 z2 g1 g3 g2 hlt
    obtain ⟨w3, rfl⟩ : ∃ x : World, x = w4 := ⟨_, rfl⟩
    go_upto_region 7 with fail
    go_loopg [5, 36] n (fun gk v5 v36 wr => ∃ (j q : Nat) (xs : List Ev) (av : Option Addr) (cv : Nat) (rr : Option Nat), v5 = .slice av j cv ∧ v36 = .int .u64 j ∧ Hid (gk + j = n ∧ xs.length = j) ∧ Hid (TQ (fun _ : Unit => dEv l t) (fun _ => ()) n () p2 j () q xs) ∧ Hid (RV w wr b l ao cap q 0 0 av cv rr xs))
    case atStart => exact ⟨0, p2, [], none, 0, none, rfl, rfl, hid (by simp), hid (TQ.start _ _ _ _ _), HA⟩
    case round =>
      obtain ⟨j, q, xs, av, cv, rr, rfl, rfl, HG, HQ, HV⟩ := hrel
      by_cases hj : j < n
      · have hju : decide ((j : Int) < (n : Int)) = true := decide_eq_true (by omega)
        obtain ⟨kv, pa, ha, ba, hT⟩ : ∃ o p h b, rFixed 1 l ⟨q, 0, 0⟩ = (o, ⟨p, h, b⟩) := ⟨_, _, _, _, rfl⟩
        have hk256 : kv < 256 := by have := rFixed_ltT (L := l) ⟨q, 0, 0⟩; rw [hT] at this; exact this
        have htk := take_u8_calls HV.out.rd (by omega)
        rw [hT] at htk
        have HTK := hid htk
        have HT := hid hT
        have z3 : wrap64 (kv : Int) = (kv : Int) := IntWalk.wrap64_in _ (by omega)
        have z4 : IntKind.i64.wrap (kv : Int) = (kv : Int) := by rw [IntKind.wrap_i64]; omega
        clear htk hT
        go_upto_region 9 with (go_at_call 94; refine HTK.out.mono ?_; rintro e u1 ⟨rfl, hr1, hc1⟩; have HV1 := hid (HV.out.take hc1 hr1); clear hr1 hc1)
        have hbx := heap_alloc_new u1 (.cells #[.int .i64 kv, .int .i64 t, .int .i64 0] 28)
        have hV2 := HV1.out.same ((Chg.refl [] u1).alloc (.cells #[.int .i64 kv, .int .i64 t, .int .i64 0] 28))
        have hEb : u1.heap.size ≠ b := by have := blk_lt HV1.out.rd.blk; omega
        have hEr : rr ≠ some u1.heap.size := fun e => by have := HV1.out.row.lt _ e; omega
        have hEw : w.heap.size ≤ u1.heap.size := HV1.out.chg.size
        generalize u1.alloc (.cells #[.int .i64 kv, .int .i64 t, .int .i64 0] 28) = u2 at hbx hV2 ⊢
        generalize u1.heap.size = E at hbx hEb hEr hEw ⊢
        have HV2 := hid hV2
        have HB2 := hid hbx
        have x0 : u2.cell? ⟨E, 0, none⟩ = some (.int .i64 kv) := (blk_cell hbx 0).trans rfl
        clear hbx hV2 HTK HV1
        by_cases h11 : kv = 11
        · have hq : ((kv : Int) != 11) = false := by simp [h11]
          have HV3 := HV2
          have hbx3 := HB2.out
          obtain ⟨pb, rfl⟩ : ∃ x, x = pa := ⟨_, rfl⟩
          obtain ⟨hb, rfl⟩ : ∃ x, x = ha := ⟨_, rfl⟩
          obtain ⟨bb, rfl⟩ : ∃ x, x = ba := ⟨_, rfl⟩
          obtain ⟨u3, rfl⟩ : ∃ x : World, x = u2 := ⟨_, rfl⟩
          obtain ⟨ov, hov⟩ : ∃ ov : Nat, ov = 0 := ⟨_, rfl⟩
          have HPE := hid (show pEv l ⟨q, 0, 0⟩ = ((kv, ov), ⟨pb, hb, bb⟩) by rw [hov]; exact pEv_11 HT.out h11)
          rw [show (0 : Int) = (ov : Int) by rw [hov]; rfl] at hbx3
          clear h11 hov
          go_upto_region 11 with fail
          clear x0 HV2 HB2
          have HBX3 := hid hbx3
          clear hbx3
          have HD := hid (fun (h : bb ≠ 0 ∨ plainE ⟨(kv : Int), (t : Int), (ov : Int)⟩ = false) => (HR1.out.trans (HQ.out.stop hj (dEv_none HPE.out h))))
          by_cases hb0 : bb = 0
          · subst hb0
            obtain rfl := pEv_wh HPE.out
            have HPL := hid fun W => plain_calls ⟨(kv : Int), (t : Int), (ov : Int)⟩ W
            unfold evV at HPL
            simp only at HPL
            have y0 := (blk_cell HBX3.out 0).trans rfl
            cases hp : plainE ⟨(kv : Int), (t : Int), (ov : Int)⟩ with
            | false =>
              rw [hp] at HPL
              have HDN := hid (HD.out (.inr hp))
              clear hp y0
              go_wp2_with (first
                | (go_at_call 93; refine (fault_calls HV3.out.rd).mono ?_; rintro e u4 ⟨rfl, hd4⟩; have HV4 := hid (HV3.out.same hd4.chg); have hb4 := hd4.chg.heap (S := []) HBX3.out (by simp); have y0 := (blk_cell hb4 0).trans rfl; have y1 := (blk_cell hb4 1).trans rfl; have y2 := (blk_cell hb4 2).trans rfl; clear hb4 hd4)
                | (go_at_call 11; refine (HPL.out _).mono ?_; rintro e u5 ⟨rfl, hc5⟩; have HV5 := hid (HV4.out.same hc5); clear hc5)
                | (go_at_call 58; refine (sound_no _).mono ?_; rintro e u6 ⟨rfl, rfl⟩; unfold brokenE))
              exact ⟨rfl, .inr ⟨by rw [← HRD.out]; exact HDN.out, rfl, HV5.out.chg⟩⟩
            | true =>
              rw [hp] at HPL
              have HST := hid (HQ.out.step hj (dEv_some HPE.out hp))
              clear hp y0
              go_upto_region 13 with (first
                | (go_at_call 93; refine (fault_calls HV3.out.rd).mono ?_; rintro e u4 ⟨rfl, hd4⟩; have HV4 := hid (HV3.out.same hd4.chg); have HB4 := hid (hd4.chg.heap (S := []) HBX3.out (by simp)); have y0 := (blk_cell HB4.out 0).trans rfl; have y1 := (blk_cell HB4.out 1).trans rfl; have y2 := (blk_cell HB4.out 2).trans rfl; clear hd4)
                | (go_at_call 11; refine (HPL.out _).mono ?_; rintro e u5 ⟨rfl, hc5⟩; have HV5 := hid (HV4.out.same hc5); have HB5 := hid (hc5.heap HB4.out (by simp)); clear hc5)
                | (go_at_call 58; refine (sound_ok _).mono ?_; rintro e u6 ⟨rfl, rfl⟩))
              clear y0 y1 y2
              obtain ⟨u5, rfl⟩ : ∃ x : World, x = u6 := ⟨_, rfl⟩
              have y0 := (blk_cell HB5.out 0).trans rfl
              have y1 := (blk_cell HB5.out 1).trans rfl
              have y2 := (blk_cell HB5.out 2).trans rfl
              have hxj := HG.out.2
              have hrow5 := HV5.out.row
              rw [hxj] at hrow5
              have HXJ := hid hxj
              have HRW5 := hid hrow5
              clear hxj hrow5
              go_wp2_with (at_builtin; refine wpList_grew rfl _ _ 22 rfl elem_ev rfl (HRW5.out.keep ((Chg.refl [] u5).alloc _) (by simp)) rfl (View.struct _ [.int .i64 kv, .int .i64 t, .int .i64 ov] 28 rfl) (by simp [Value.oneCell']) (by unfold maxLen; omega) (by omega) (fun ao' cap' r' u7 hr7 hg7 => halt (fun X hX => ?_)))
              have hr7' : Row u7 28 3 (.slice ao' (xs.length + 1) cap') r' (xs.length + 1) ((xs ++ [(⟨(kv : Int), (t : Int), (ov : Int)⟩ : Ev)]).flatMap evC) := by rw [HXJ.out, ← evs_snoc]; exact hr7
              have HV7 := hid (HV5.out.app hr7' ((Chg.refl [] u5).alloc _) hg7)
              clear hr7 hg7 hr7' y0 y1 y2
              rw [hX.out]; clear hX
              go_wp2_with fail
              go_roundg (gk - 1)
              case measure => have := HG.out; omega
              case rel => exact ⟨j + 1, pb, xs ++ [⟨(kv : Int), (t : Int), (ov : Int)⟩], ao', cap', r', rfl, by go_num, hid (by have := HG.out; simp; omega), HST, HV7⟩
          · have hbb : ((bb : Int) == 0) = false := by simpa using hb0
            have HDN := hid (HD.out (.inl hb0))
            clear hb0
            go_wp2_with (first
              | (go_at_call 93; refine (fault_calls HV3.out.rd).mono ?_; rintro e u4 ⟨rfl, hd4⟩; have HV4 := hid (HV3.out.same hd4.chg); clear hd4)
              | (go_at_call 58; refine (sound_no _).mono ?_; rintro e u6 ⟨rfl, rfl⟩; unfold brokenE))
            exact ⟨rfl, .inr ⟨by rw [← HRD.out]; exact HDN.out, rfl, HV4.out.chg⟩⟩
        · have hq : ((kv : Int) != 11) = true := by simpa using (show (kv : Int) ≠ 11 by omega)
          obtain ⟨ov, pb, hb, bb, hS⟩ : ∃ o p h b, rShort 65535 l ⟨pa, ha, ba⟩ = (o, ⟨p, h, b⟩) := ⟨_, _, _, _, rfl⟩
          have hov : ov ≤ 65535 := by have := rShort_leT 65535 l ⟨pa, ha, ba⟩; rw [hS] at this; exact this
          have HPE := hid (pEv_no HT.out h11 hS)
          have hsh := rshort_calls HV2.out.rd (by omega) 65535
          rw [hS] at hsh
          have HSH := hid hsh
          have z5 : IntKind.i64.wrap (ov : Int) = (ov : Int) := by rw [IntKind.wrap_i64]; omega
          have z6 : wrap64 (ov : Int) = (ov : Int) := IntWalk.wrap64_in _ (by omega)
          clear hsh hS h11
          go_upto_region 11 with (go_at_call 56; refine HSH.out.mono ?_; rintro e u4 ⟨rfl, hr4, hc4⟩; have HV4 := hid (HV2.out.take hc4 hr4); have HB4 := hid (hc4.heap HB2.out (by simp; exact hEb)); have y2 := (blk_cell HB4.out 2).trans rfl; have yf := blk_free HB4.out 2; clear hr4 hc4)
          have hbx3 : (u4.setCell ⟨E, 2, none⟩ (.int .i64 ov)).heap[E]? = some (.cells #[.int .i64 kv, .int .i64 t, .int .i64 ov] 28 (0, 0)) := blk_set HB4.out 2 (.int .i64 ov)
          have hV3 := HV4.out.other ((Chg.refl [E] u4).setCell (p := ⟨E, 2, none⟩) (.inl (by simp)) (.int .i64 ov)) hEw hEr
          generalize u4.setCell ⟨E, 2, none⟩ (.int .i64 ov) = u3 at hbx3 hV3 ⊢
          have HV3 := hid hV3
          clear hV3 x0 y2 yf HV2 HB2 HSH HV4 HB4 z5 z6
          have HBX3 := hid hbx3
          clear hbx3
          have HD := hid (fun (h : bb ≠ 0 ∨ plainE ⟨(kv : Int), (t : Int), (ov : Int)⟩ = false) => (HR1.out.trans (HQ.out.stop hj (dEv_none HPE.out h))))
          by_cases hb0 : bb = 0
          · subst hb0
            obtain rfl := pEv_wh HPE.out
            have HPL := hid fun W => plain_calls ⟨(kv : Int), (t : Int), (ov : Int)⟩ W
            unfold evV at HPL
            simp only at HPL
            have y0 := (blk_cell HBX3.out 0).trans rfl
            cases hp : plainE ⟨(kv : Int), (t : Int), (ov : Int)⟩ with
            | false =>
              rw [hp] at HPL
              have HDN := hid (HD.out (.inr hp))
              clear hp y0
              go_wp2_with (first
                | (go_at_call 93; refine (fault_calls HV3.out.rd).mono ?_; rintro e u4 ⟨rfl, hd4⟩; have HV4 := hid (HV3.out.same hd4.chg); have hb4 := hd4.chg.heap (S := []) HBX3.out (by simp); have y0 := (blk_cell hb4 0).trans rfl; have y1 := (blk_cell hb4 1).trans rfl; have y2 := (blk_cell hb4 2).trans rfl; clear hb4 hd4)
                | (go_at_call 11; refine (HPL.out _).mono ?_; rintro e u5 ⟨rfl, hc5⟩; have HV5 := hid (HV4.out.same hc5); clear hc5)
                | (go_at_call 58; refine (sound_no _).mono ?_; rintro e u6 ⟨rfl, rfl⟩; unfold brokenE))
              exact ⟨rfl, .inr ⟨by rw [← HRD.out]; exact HDN.out, rfl, HV5.out.chg⟩⟩
            | true =>
              rw [hp] at HPL
              have HST := hid (HQ.out.step hj (dEv_some HPE.out hp))
              clear hp y0
              go_upto_region 13 with (first
                | (go_at_call 93; refine (fault_calls HV3.out.rd).mono ?_; rintro e u4 ⟨rfl, hd4⟩; have HV4 := hid (HV3.out.same hd4.chg); have HB4 := hid (hd4.chg.heap (S := []) HBX3.out (by simp)); have y0 := (blk_cell HB4.out 0).trans rfl; have y1 := (blk_cell HB4.out 1).trans rfl; have y2 := (blk_cell HB4.out 2).trans rfl; clear hd4)
                | (go_at_call 11; refine (HPL.out _).mono ?_; rintro e u5 ⟨rfl, hc5⟩; have HV5 := hid (HV4.out.same hc5); have HB5 := hid (hc5.heap HB4.out (by simp)); clear hc5)
                | (go_at_call 58; refine (sound_ok _).mono ?_; rintro e u6 ⟨rfl, rfl⟩))
              clear y0 y1 y2
              obtain ⟨u5, rfl⟩ : ∃ x : World, x = u6 := ⟨_, rfl⟩
              have y0 := (blk_cell HB5.out 0).trans rfl
              have y1 := (blk_cell HB5.out 1).trans rfl
              have y2 := (blk_cell HB5.out 2).trans rfl
              have hxj := HG.out.2
              have hrow5 := HV5.out.row
              rw [hxj] at hrow5
              have HXJ := hid hxj
              have HRW5 := hid hrow5
              clear hxj hrow5
              go_wp2_with (at_builtin; refine wpList_grew rfl _ _ 22 rfl elem_ev rfl (HRW5.out.keep ((Chg.refl [] u5).alloc _) (by simp)) rfl (View.struct _ [.int .i64 kv, .int .i64 t, .int .i64 ov] 28 rfl) (by simp [Value.oneCell']) (by unfold maxLen; omega) (by omega) (fun ao' cap' r' u7 hr7 hg7 => halt (fun X hX => ?_)))
              have hr7' : Row u7 28 3 (.slice ao' (xs.length + 1) cap') r' (xs.length + 1) ((xs ++ [(⟨(kv : Int), (t : Int), (ov : Int)⟩ : Ev)]).flatMap evC) := by rw [HXJ.out, ← evs_snoc]; exact hr7
              have HV7 := hid (HV5.out.app hr7' ((Chg.refl [] u5).alloc _) hg7)
              clear hr7 hg7 hr7' y0 y1 y2
              rw [hX.out]; clear hX
              go_wp2_with fail
              go_roundg (gk - 1)
              case measure => have := HG.out; omega
              case rel => exact ⟨j + 1, pb, xs ++ [⟨(kv : Int), (t : Int), (ov : Int)⟩], ao', cap', r', rfl, by go_num, hid (by have := HG.out; simp; omega), HST, HV7⟩
          · have hbb : ((bb : Int) == 0) = false := by simpa using hb0
            have HDN := hid (HD.out (.inl hb0))
            clear hb0
            go_wp2_with (first
              | (go_at_call 93; refine (fault_calls HV3.out.rd).mono ?_; rintro e u4 ⟨rfl, hd4⟩; have HV4 := hid (HV3.out.same hd4.chg); clear hd4)
              | (go_at_call 58; refine (sound_no _).mono ?_; rintro e u6 ⟨rfl, rfl⟩; unfold brokenE))
            exact ⟨rfl, .inr ⟨by rw [← HRD.out]; exact HDN.out, rfl, HV4.out.chg⟩⟩
      · obtain rfl : j = n := by have := HG.out; omega
        have HDN := hid (HR1.out.trans HQ.out.done)
        have hju : decide ((j : Int) < (j : Int)) = false := decide_eq_false (by omega)
        have hxj := HG.out.2
        go_wp2
        go_ret
        exact .inl ⟨xs, q, av, cv, rr, by rw [← HRD.out]; exact HDN.out, by rw [hxj]; rfl, HV.out⟩
  · have HDN := hid (show R = none by
      rw [← HRD.out]
      refine dRun_none HP.out ?_
      by_cases a : b2 = 0
      · by_cases c : n = 0
        · exact .inr (.inl c)
        · by_cases d : (t : Int) = last
          · exact .inr (.inr d)
          · exact absurd ⟨a, c, d⟩ hok
      · exact .inl a)
    have hcs : (((b2 : Int) == 0) = false) ∨ (((b2 : Int) == 0) = true ∧ decide ((0 : Int) < (n : Int)) = false ∧ decide (0 < n) = false ∧ ¬ 0 < n) ∨ (((b2 : Int) == 0) = true ∧ decide ((0 : Int) < (n : Int)) = true ∧ decide (0 < n) = true ∧ 0 < n ∧ (((t : Int)) != last) = false) := by
      by_cases a : b2 = 0
      · by_cases c : n = 0
        · exact .inr (.inl ⟨by simp [a], decide_eq_false (by omega), decide_eq_false (by omega), by omega⟩)
        · by_cases d : (t : Int) = last
          · exact .inr (.inr ⟨by simp [a], decide_eq_true (by omega), decide_eq_true (by omega), by omega, by simpa using d⟩)
          · exact absurd ⟨a, c, d⟩ hok
      · exact .inl (by simpa using a)
    clear hok HWH HH HP
    rcases hcs with g1 | ⟨g1, g2, g3, g4⟩ | ⟨g1, g2, g3, g4, g5⟩
    all_goals
      go_enter Tryz.func57, Tryz.ntmps57
      go_wp2_with (go_at_call 56; refine (HSA.out).mono ?_; rintro e w1 ⟨rfl, hR1, hc1⟩; refine halt (fun XX hXX => ?_))
      have HA1 := hid (HV0.out.take hc1 hR1)
      have HSB1 := hid (HSB.out w1 hR1)
      clear HSA HSB hR1 hc1
      rw [hXX.out]; clear hXX XX
      go_wp2_with (go_at_call 56; refine (HSB1.out).mono ?_; rintro e w2 ⟨rfl, hR2, hc2⟩; refine halt (fun XX hXX => ?_))
      have HA2 := hid (HA1.out.take hc2 hR2)
      clear HSB1 hR2 hc2 HA1
      rw [hXX.out]; clear hXX XX
      go_wp2_with (first
        | (go_at_call 93; refine (fault_calls HA2.out.rd).mono ?_; rintro e w3 ⟨rfl, hd3⟩; have HA3 := hid (HA2.out.same hd3.chg); clear hd3)
        | (go_at_call 58; refine (sound_no _).mono ?_; rintro e w4 ⟨rfl, rfl⟩; unfold brokenE))
      exact ⟨rfl, .inr ⟨HDN.out, rfl, HA3.out.chg⟩⟩
end Go.Proofs.YtbghkodcfedebaaGreatDoor
