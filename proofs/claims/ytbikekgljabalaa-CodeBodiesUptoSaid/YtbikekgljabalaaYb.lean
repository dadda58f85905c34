/- The document's reader of programs: walks of counted, takeVars. -/
import Derived.Test.YtbikekgljabalaaYa
import Derived.Test.YtbikekgljabalaaQe
import Derived.Test.YtbikekgljabalaaM05
namespace Go.Proofs.Ytbikekgljabalaa
open Go.RowKit Go.AB
set_option linter.unusedSimpArgs false
set_option linter.unusedVariables false
set_option linter.unusedSectionVars false

/-- The document's reader stands at pos. -/
structure OkQ (w : World) (b : Nat) (l : List UInt8) (ao : Option Addr) (cap pos wh bad : Nat) : Prop where
  rd : Rd 145 w b l ao cap pos wh bad
  lt : ∀ g, (Value.slice ao l.length cap).ownBlock = some g → g < w.heap.size
theorem OkQ.keep {w w' : World} {b : Nat} {l : List UInt8} {ao : Option Addr} {cap pos wh bad : Nat} (h : OkQ w b l ao cap pos wh bad) (hc : Chg [] w w') : OkQ w' b l ao cap pos wh bad :=
  ⟨h.rd.keep hc (by simp) (by simp), fun g hg => Nat.lt_of_lt_of_le (h.lt g hg) hc.size⟩
theorem OkQ.next {w w' : World} {b : Nat} {l : List UInt8} {ao : Option Addr} {cap pos wh bad p' h' b' : Nat} {S : List Nat} (h : OkQ w b l ao cap pos wh bad) (hc : Chg S w w') (hr : Rd 145 w' b l ao cap p' h' b') : OkQ w' b l ao cap p' h' b' :=
  ⟨hr, fun g hg => Nat.lt_of_lt_of_le (h.lt g hg) hc.size⟩
/-- A list that the document's reader answers. -/
def QL {α : Type} (f : α → List Value) (k T : Nat) (w : World) (b : Nat) (l : List UInt8) (ao : Option Addr) (cap : Nat) (R : List α × RS) (e : Ending) (w' : World) : Prop :=
  ∃ xs p h bd ao' cap' r, Hid (R = (xs, ⟨p, h, bd⟩)) ∧ e = .returned (.slice ao' xs.length cap') ∧ Row w' T k (.slice ao' xs.length cap') r xs.length (xs.flatMap f) ∧ Fresh w none r ∧ OkQ w' b l ao cap p h bd ∧ Chg [b] w w'
/-- What holds between the rounds. -/
structure LTQ {α : Type} (f : α → List Value) (k T : Nat) (d : RS → α × RS) (w : World) (b : Nat) (l : List UInt8) (ao : Option Addr) (cap n : Nat) (r0 : RS) (j p h bd : Nat) (xs : List α) (v : Value) (r : Option Nat) (wr : World) : Prop where
  row : Row wr T k v r j (xs.flatMap f)
  fr : Fresh w none r
  rd : OkQ wr b l ao cap p h bd
  chg : Chg [b] w wr
  eq : RQ (fun _ : Unit => d) (fun _ => ()) n () r0 j () ⟨p, h, bd⟩ xs
theorem LTQ.next {α : Type} {f : α → List Value} {k T : Nat} {d : RS → α × RS} {w : World} {b : Nat} {l : List UInt8} {ao : Option Addr} {cap n : Nat} {r0 : RS} {j p h : Nat} {xs : List α} {v v' : Value} {r r' : Option Nat} {wr wA w5 : World} {p' h' b' : Nat} {x : α} {cs : List Value}
    (H : LTQ f k T d w b l ao cap n r0 j p h 0 xs v r wr) (hbw : b < w.heap.size) (hlw : ∀ g, (Value.slice ao l.length cap).ownBlock = some g → g < w.heap.size) (hj : j < n) (hA : Chg [b] wr wA) (hR : Rd 145 wA b l ao cap p' h' b') (hr5 : Row w5 T k v' r' (j + 1) (xs.flatMap f ++ cs)) (hx : cs = f x) (hc5 : Chg r.toList wA w5) (hf5 : Fresh wA r r')
    (hd : d ⟨p, h, 0⟩ = (x, ⟨p', h', b'⟩)) : LTQ f k T d w b l ao cap n r0 (j + 1) p' h' b' (xs ++ [x]) v' r' w5 := by
  subst hx
  have hf : ∀ g, g ∈ r.toList → w.heap.size ≤ g := fun g hg => (H.fr g (by simpa using hg)).resolve_left (by simp)
  have hC := (H.chg.trans' hA).trans hc5 (fun x hx => .inr (hf x hx))
  refine ⟨?_, H.fr.trans (Nat.le_trans H.chg.size hA.size) hf5, ⟨hR.keep hc5 (fun hm => ?_) (fun g hg hm => ?_), fun g hg => Nat.lt_of_lt_of_le (hlw g hg) hC.size⟩, hC, H.eq.step hj rfl hd⟩
  · rw [List.flatMap_append]
    simp only [List.flatMap_cons, List.flatMap_nil, List.append_nil]
    exact hr5
  · have := hf b hm; omega
  · have h1 := hf g hm
    have h2 := hlw g hg
    omega
theorem LTQ.fin {α : Type} {f : α → List Value} {k T : Nat} {d : RS → α × RS} {w w0 : World} {b : Nat} {l : List UInt8} {ao : Option Addr} {cap n : Nat} {r0 : RS} {j p h bd : Nat} {xs : List α} {av : Option Addr} {cv : Nat} {r : Option Nat} {wr : World}
    (H : LTQ f k T d w0 b l ao cap n r0 j p h bd xs (.slice av j cv) r wr) (hj : j = n ∨ bd ≠ 0) (hc : Chg [b] w w0) : QL f k T w b l ao cap (repQ (fun _ : Unit => d) (fun _ => ()) n () r0) (.returned (.slice av j cv)) wr := by
  obtain ⟨h2, h3, h4, h5, h6⟩ := H
  have hl := h6.len
  subst hl
  exact ⟨xs, p, h, bd, av, cv, r, hid (h6.done hj), rfl, h2, h3.mono hc.size, h4, hc.trans' h5⟩
section
variable {w : World} {b : Nat} {l : List UInt8} {ao : Option Addr} {cap pos wh bad : Nat}
set_option maxHeartbeats 4000000 in
set_option maxRecDepth 100000 in
theorem q_counted (m : Nat) (hm : m ≤ 65535) (hR : OkQ w b l ao cap pos wh bad) (hl : l.length ≤ 16777216) :
    Calls Try.prog 90 #[.pointer (some ⟨b, 0, none⟩), .int .i64 m] w fun e w' => ∃ n p h bd, Hid (rShort m l ⟨pos, wh, bad⟩ = (n, ⟨p, h, bd⟩)) ∧ n ≤ m ∧ e = .returned (.int .i64 n) ∧ OkQ w' b l ao cap p h bd ∧ Chg [b] w w' := by
  have hs := q_short_calls hR.rd (by omega) m
  have hv := rShort_le m l ⟨pos, wh, bad⟩
  obtain ⟨n, p, h, bd, hn⟩ : ∃ n p h b, rShort m l ⟨pos, wh, bad⟩ = (n, ⟨p, h, b⟩) := ⟨_, _, _, _, rfl⟩
  rw [hn] at hs hv ⊢
  simp only at hv
  have HS := hid hs
  have z1 : IntKind.u64.wrap (m : Int) = (m : Int) := by rw [IntKind.wrap_u64]; omega
  have z2 : wrap64 (n : Int) = (n : Int) := IntWalk.wrap64_in _ (by omega)
  have z3 : IntKind.i64.wrap (n : Int) = (n : Int) := by rw [IntKind.wrap_i64]; omega
  clear hs hn
  go_enter Try.func90, Try.ntmps90
  go_wp2_with (go_at_call 106; refine (HS.out).mono ?_; rintro e w1 ⟨rfl, hR2, hc2⟩)
  go_ret
  exact ⟨n, p, h, bd, hid rfl, hv, rfl, hR.next hc2 hR2, hc2⟩
set_option maxHeartbeats 8000000 in
set_option maxRecDepth 100000 in
theorem q_takeVars (hR : OkQ w b l ao cap pos wh bad) (hl : l.length ≤ 16777216) :
    Calls Try.prog 89 #[.pointer (some ⟨b, 0, none⟩)] w (QL varC 2 53 w b l ao cap (qMany 4096 l (qVar l) ⟨pos, wh, bad⟩)) := by
  have hC := q_counted 4096 (by omega) hR hl
  have hbl := blk_lt hR.rd.blk
  have hlt0 := hR.lt
  obtain ⟨R, hRq⟩ : ∃ R, qMany 4096 l (qVar l) ⟨pos, wh, bad⟩ = R := ⟨_, rfl⟩
  rw [hRq]
  have HR := hid hRq
  have HC := hid hC
  clear hRq hC
  go_enter Try.func89, Try.ntmps89
  go_wp2_with (go_at_call 90; refine (HC.out).mono ?_; rintro e w1 ⟨n, p0, h0, bd0, HN, hn4, rfl, hR1, hc1⟩)
  have HF : Hid (∀ u wu, QL varC 2 53 w b l ao cap (repQ (fun _ : Unit => qVar l) (fun _ => ()) n () ⟨p0, h0, bd0⟩) u wu → QL varC 2 53 w b l ao cap R u wu) := hid (fun u wu h => by rw [← HR.out]; unfold qMany; rw [HN.out]; exact h)
  have HST : Hid (LTQ varC 2 53 (qVar l) w1 b l ao cap n ⟨p0, h0, bd0⟩ 0 p0 h0 bd0 [] (.slice none 0 0) none w1) := hid ⟨Row.nil _ _ _, Fresh.refl _ _, hR1, Chg.refl _ _, RQ.start _ _ _ _ _⟩
  have hb1 : b < w1.heap.size := Nat.lt_of_lt_of_le hbl hc1.size
  have hl1 : ∀ g, (Value.slice ao l.length cap).ownBlock = some g → g < w1.heap.size := hR1.lt
  clear HR HN hR1
  go_loopw [4, 5] (fun vl vi wr => ∃ (j p h bd : Nat) (xs : List VarD) (r : Option Nat) (av : Option Addr) (cv : Nat), j ≤ n ∧ vi = .int .i64 j ∧ vl = .slice av j cv ∧ Hid (LTQ varC 2 53 (qVar l) w1 b l ao cap n ⟨p0, h0, bd0⟩ j p h bd xs (.slice av j cv) r wr)) (fun _ vi _ => n - (intOf vi).toNat)
  case atStart => exact ⟨0, p0, h0, bd0, [], none, none, 0, Nat.zero_le _, rfl, rfl, HST⟩
  case round =>
    clear HST
    obtain ⟨j, p, h, bd, xs, r, av, cv, hj, rfl, rfl, hI⟩ := hrel
    have hbad := hI.out.rd.rd.c3
    by_cases hlt : j < n
    · have zl : (j : Int) < (n : Int) := by omega
      by_cases hb0 : bd = 0
      · subst hb0
        have hj4 : j ≤ 4096 := by omega
        obtain ⟨nm, p1, h1, b1, hT⟩ : ∃ nm p1 w1 b1, rText 24 l ⟨p, h, 0⟩ = (nm, ⟨p1, w1, b1⟩) := ⟨_, _, _, _, rfl⟩
        obtain ⟨fi, p2, h2, b2, hS⟩ : ∃ fi p2 w2 b2, rSigned l ⟨p1, h1, b1⟩ = (fi, ⟨p2, w2, b2⟩) := ⟨_, _, _, _, rfl⟩
        have hP : qVar l ⟨p, h, 0⟩ = (⟨⟨nm.toArray⟩, fi⟩, ⟨p2, h2, b2⟩) := by unfold qVar; rw [hT]; simp only [hS]
        have hNM := q_text_calls hI.out.rd.rd (by omega) 24 (by unfold I64; omega)
        rw [hT] at hNM
        have HNM := hid hNM
        have HS := hid hS
        have HP := hid hP
        have HRW := hid (fun u (hu : Chg [b] wr u) => hI.out.row.keep hu (fun g hg e => by
          have := hI.out.fr g hg
          simp at e
          subst e
          simp at this
          omega))
        clear hT hS hP hNM
        go_wp2_with (first
          | (go_at_call 91; refine (HNM.out).mono ?_; rintro e w2 ⟨rfl, hR2, hc2⟩; unfold strB)
          | (go_at_call 92; refine (q_signed_calls hR2 (by omega)).mono ?_; rw [HS.out]; rintro e w3 ⟨rfl, hR3, hc3⟩; have hA3 := hc2.trans' hc3)
          | (at_builtin; refine wpList_app rfl _ _ 23 rfl elem_var rfl (HRW.out _ (hA3.alloc _)) rfl (View.struct _ [.string ⟨nm.toArray⟩, .int .i64 fi] 53 rfl) (by simp [Value.oneCell']) (by unfold maxLen; omega) (by omega) (fun ao' cap' r' w5 hr5 hc5 hf5 _ => halt (fun X hX => ?_))))
        rw [hX.out]; clear hX
        have HNX := hid (hI.out.next hb1 hl1 hlt (hA3.alloc _) (hR3.keep ((Chg.refl [] _).alloc _) (by simp) (by simp)) hr5 rfl hc5 hf5 HP.out)
        clear hA3 hr5 hc5 hf5 hR2 hR3 hc2 hc3 hI hbad
        go_wp2
        go_roundw
        case rel => exact ⟨j + 1, p2, h2, b2, xs ++ [⟨⟨nm.toArray⟩, fi⟩], r', ao', cap', by omega, by go_num, by go_num, HNX⟩
        case measure => simp [intOf]; omega
      · have zb : ((bd : Int) == 0) = false := by simp; omega
        go_wp2
        go_ret
        exact HF.out _ _ (hI.out.fin (.inr hb0) hc1)
    · obtain rfl : j = n := by omega
      go_wp2
      go_ret
      exact HF.out _ _ (hI.out.fin (.inl rfl) hc1)
end
end Go.Proofs.Ytbikekgljabalaa
