/- The document's writers of a program's bytes: one list put behind another, numbers, texts. -/
import Derived.Test.YtbikekgljabalaaM01
import Derived.Test.YtbikekgljabalaaM04
namespace Go.Proofs.Ytbikekgljabalaa
open Go.RowKit Go.AB
set_option linter.unusedSimpArgs false
set_option linter.unusedVariables false
set_option linter.unusedSectionVars false

theorem own_stepS {a w w1 w2 : World} {r0 r : Option Nat} (h : Chg r0.toList a w) (hf : Fresh a r0 r) (h1 : Chg [] w w1) (k : Chg r.toList w1 w2) : Chg r0.toList a w2 :=
  (h.trans h1 (fun x hx => by cases hx)).trans k (fun x hx => (hf x (by simpa using hx)).imp (fun e => by simp [e]) id)
theorem fresh_stepS {a w w1 : World} {S : List Nat} {r0 r r' : Option Nat} (h : Chg S a w) (hf : Fresh a r0 r) (h1 : Chg [] w w1) (k : Fresh w1 r r') : Fresh a r0 r' :=
  hf.trans (Nat.le_trans h.size h1.size) k
/-- A list of bytes that is grown. -/
def GroB (w : World) (r : Option Nat) (l : List UInt8) (e : Ending) (w' : World) : Prop :=
  ∃ ao n cap r2, e = .returned (.slice ao n cap) ∧ Row w' 5 1 (.slice ao n cap) r2 n (l.map B) ∧ Chg r.toList w w' ∧ Fresh w r r2 ∧ Hid (n = l.length)
set_option maxHeartbeats 1000000 in
set_option maxRecDepth 100000 in
theorem q_put_calls (l c : List UInt8) (w : World) {ao : Option Addr} {n cap : Nat} {r : Option Nat} (hr : Row w 5 1 (.slice ao n cap) r n (l.map B)) {vb : Value} (hb : Bytes w vb c) (hd : ∀ g, vb.ownBlock = some g → r ≠ some g) (hn : n ≤ 549755813888) (hc : c.length ≤ 549755813888) :
    Calls Try.prog 95 #[.slice ao n cap, vb] w (GroB w r (l ++ c)) := by
  obtain ⟨aoc, capc, rfl, _, _, _, hcellc⟩ := hb.out
  have hnl : n = l.length := by have := hr.len; simpa using this.symm
  have HNL := hid hnl
  have HD := hid hd
  clear hb hd hnl
  go_enter Try.func95, Try.ntmps95
  go_wp2_with fail
  go_loopw [0, 5] (fun x i wr => ∃ k n1 r1 ao1 cap1, k ≤ c.length ∧ n1 ≤ n + k ∧ i = .int .i64 (k : Nat) ∧ x = .slice ao1 n1 cap1 ∧ Row wr 5 1 (.slice ao1 n1 cap1) r1 n1 ((l ++ c.take k).map B) ∧ Chg r.toList w wr ∧ Fresh w r r1)
    (fun _ i _ => c.length - (intOf i).toNat)
  case atStart => exact ⟨0, n, r, ao, cap, by omega, by omega, rfl, rfl, by simpa using hr, Chg.refl _ _, Fresh.refl _ _⟩
  case round =>
    obtain ⟨k, n1, r1, ao1, cap1, hk, hn1, rfl, rfl, hr1, hch, hfr⟩ := hrel
    have hrow := fun o => hr1.keep ((Chg.refl [] wr).alloc o) (by simp)
    have hca := fun o => (Chg.refl [] wr).alloc o
    by_cases hlt : k < c.length
    · obtain ⟨bb, off, rfl, hcc⟩ := hcellc (by omega)
      have hx := hch.cell (hcc k hlt) (by
        have h := HD.out bb rfl
        intro hm
        exact h (by simpa using hm))
      have HS := hid (take_snoc c k hlt)
      clear hcc hcellc hr
      go_wp2_with (at_builtin; refine wpList_app rfl _ _ 29 rfl elem_u8 rfl (hrow _) rfl (View.one _ _ _) (by simp [Value.oneCell']) (by unfold maxLen; omega) (by omega) (fun ao' cap' r' w2 hr2 hc2 hf2 _ => halt (fun X hX => ?_)))
      rw [hX.out]; clear hX
      go_wp2
      go_roundw
      case rel => exact ⟨k + 1, n1 + 1, r', ao', cap', by omega, by omega, by go_num, rfl, (by rw [HS.out, ← List.append_assoc, List.map_append]; exact hr2), own_stepS hch hfr (hca _) hc2, fresh_stepS hch hfr (hca _) hf2⟩
      case measure => simp [intOf]; omega
    · have he : c.take k = c := List.take_of_length_le (by omega)
      rw [he] at hr1
      have h1 := hr1.len
      clear hrow hca he
      go_wp2
      go_ret
      exact ⟨ao1, n1, cap1, r1, rfl, hr1, hch, hfr, hid (by simpa using h1.symm)⟩

/-- A list of new bytes that grows, and boxes that stay. -/
def On (w0 w : World) (l : List UInt8) (ao : Option Addr) (n cap : Nat) (K : List (Nat × Obj)) : Prop :=
  ∃ r, Row w 5 1 (.slice ao n cap) r n (l.map B) ∧ Chg [] w0 w ∧ Fresh w0 none r ∧ n = l.length ∧ ∀ q ∈ K, w.heap[q.1]? = some q.2 ∧ r ≠ some q.1
theorem On.chg {w0 w : World} {l : List UInt8} {ao : Option Addr} {n cap : Nat} {K : List (Nat × Obj)} (h : On w0 w l ao n cap K) : Chg [] w0 w := by obtain ⟨_, _, h2, _⟩ := h; exact h2
theorem On.n {w0 w : World} {l : List UInt8} {ao : Option Addr} {n cap : Nat} {K : List (Nat × Obj)} (h : On w0 w l ao n cap K) : n = l.length := by obtain ⟨_, _, _, _, h2, _⟩ := h; exact h2
theorem On.keep {w0 w w' : World} {l : List UInt8} {ao : Option Addr} {n cap : Nat} {K : List (Nat × Obj)} (h : On w0 w l ao n cap K) (hc : Chg [] w w') : On w0 w' l ao n cap K := by
  obtain ⟨r, h1, h2, h3, h4, h5⟩ := h
  exact ⟨r, h1.keep hc (by simp), h2.trans' hc, h3, h4, fun q hq => ⟨hc.heap (h5 q hq).1 (by simp), (h5 q hq).2⟩⟩
theorem On.box {w0 w : World} {l : List UInt8} {ao : Option Addr} {n cap : Nat} {K : List (Nat × Obj)} (h : On w0 w l ao n cap K) (o : Obj) : On w0 (w.alloc o) l ao n cap ((w.heap.size, o) :: K) := by
  obtain ⟨r, h1, h2, h3, h4, h5⟩ := h
  have hc := (Chg.refl [] w).alloc o
  refine ⟨r, h1.keep hc (by simp), h2.trans' hc, h3, h4, fun q hq => ?_⟩
  rcases List.mem_cons.1 hq with rfl | hq
  · exact ⟨heap_alloc_new w o, fun e => by have := h1.lt _ e; simp at this⟩
  · exact ⟨hc.heap (h5 q hq).1 (by simp), (h5 q hq).2⟩
theorem On.sub {w0 w : World} {l : List UInt8} {ao : Option Addr} {n cap : Nat} {K K' : List (Nat × Obj)} (h : On w0 w l ao n cap K) (hk : ∀ q ∈ K', q ∈ K) : On w0 w l ao n cap K' := by
  obtain ⟨r, h1, h2, h3, h4, h5⟩ := h
  exact ⟨r, h1, h2, h3, h4, fun q hq => h5 q (hk q hq)⟩
theorem On.cell {w0 w : World} {l : List UInt8} {ao : Option Addr} {n cap : Nat} {K : List (Nat × Obj)} (h : On w0 w l ao n cap K) {k : Nat} {cs : Array Value} {t : TypeId} {fr : Nat × Nat} (hk : (k, Obj.cells cs t fr) ∈ K) (i : Nat) : w.cell? ⟨k, i, none⟩ = cs[i]? := by
  obtain ⟨r, _, _, _, _, h5⟩ := h
  exact blk_cell (h5 _ hk).1 i
theorem On.nil (w0 w : World) (h : Chg [] w0 w) : On w0 w [] none 0 0 [] := ⟨none, Row.nil _ _ _, h, Fresh.refl _ _, rfl, by simp⟩
theorem On.step {w0 w w1 w2 : World} {r r' : Option Nat} {K : List (Nat × Obj)} {ao' : Option Addr} {n' cap' : Nat} {l' : List UInt8} {xs : List Value} (h2 : Chg [] w0 w) (h3 : Fresh w0 none r) (h5 : ∀ q ∈ K, w.heap[q.1]? = some q.2 ∧ r ≠ some q.1)
    (hn1 : Chg [] w w1) (hr2 : Row w2 5 1 (.slice ao' n' cap') r' n' xs) (hc2 : Chg r.toList w1 w2) (hf2 : Fresh w1 r r') (hx : xs = l'.map B) : On w0 w2 l' ao' n' cap' K := by
  subst hx
  have hn : n' = l'.length := by have := hr2.len; simpa using this.symm
  refine ⟨r', hr2, ((h2.trans' hn1).trans hc2 (fun x hx => ?_)), h3.trans (Nat.le_trans h2.size hn1.size) hf2, hn, fun q hq => ?_⟩
  · exact .inr ((h3 x (by simpa using hx)).resolve_left (by simp))
  · have hlt : q.1 < w1.heap.size := by
      have := blk_lt (hn1.heap (h5 q hq).1 (by simp))
      exact this
    refine ⟨hc2.heap (hn1.heap (h5 q hq).1 (by simp)) (fun hm => (h5 q hq).2 (by simpa using hm)), fun e2 => ?_⟩
    rcases hf2 q.1 e2 with h | h
    · exact (h5 q hq).2 h
    · omega
/-- What a writer answers. -/
def OnPost (w0 : World) (l : List UInt8) (K : List (Nat × Obj)) (e : Ending) (w' : World) : Prop := ∃ ao n cap, e = .returned (.slice ao n cap) ∧ Hid (On w0 w' l ao n cap K)

section
variable {w0 w : World} {l : List UInt8} {ao : Option Addr} {n cap : Nat} {K : List (Nat × Obj)} (hO : On w0 w l ao n cap K) (hl : l.length ≤ 274877906944)
include hO hl
theorem q_put_on (c : List UInt8) {vb : Value} {w1 : World} {rb : Option Nat} (hn1 : Chg [] w w1) {nb : Nat} (hrb : Row w1 5 1 vb rb nb (c.map B)) (hfb : Fresh w none rb) (hc : c.length ≤ 274877906944) :
    Calls Try.prog 95 #[.slice ao n cap, vb] w1 (OnPost w0 (l ++ c) K) := by
  obtain ⟨r, h1, h2, h3, h4, h5⟩ := hO
  have hnb : nb = c.length := by have := hrb.len; simpa using this.symm
  subst hnb
  have hd : ∀ g, vb.ownBlock = some g → r ≠ some g := fun g hg e => by
    have h6 := h1.lt g e
    rcases hrb.form with ⟨e3, _⟩ | ⟨g', _, _, e3, e4, _⟩
    · rw [e3] at hg; simp [Value.ownBlock] at hg
    · rw [e3] at hg
      simp only [Value.ownBlock, Option.some.injEq] at hg
      have h7 := (hfb g' e4).resolve_left (by simp)
      omega
  refine (q_put_calls l c w1 (h1.keep hn1 (by simp)) hrb.view hd (by omega) (by omega)).mono fun e w' ⟨ao2, n2, cap2, r2, he, hr2, hc2, hf2, hn2⟩ => ⟨ao2, n2, cap2, he, ?_⟩
  refine hid ⟨r2, hr2, ((h2.trans' hn1).trans hc2 (fun x hx => ?_)), h3.trans (Nat.le_trans h2.size hn1.size) hf2, hn2.out, fun q hq => ?_⟩
  · exact .inr ((h3 x (by simpa using hx)).resolve_left (by simp))
  · have hlt : q.1 < w1.heap.size := by
      have := blk_lt (hn1.heap (h5 q hq).1 (by simp))
      exact this
    refine ⟨hc2.heap (hn1.heap (h5 q hq).1 (by simp)) (fun hm => (h5 q hq).2 (by simpa using hm)), fun e2 => ?_⟩
    rcases hf2 q.1 e2 with h | h
    · exact (h5 q hq).2 h
    · omega
set_option maxRecDepth 100000 in
theorem q_short_on (m : Nat) (hm : m < 9223372036854775808) :
    Calls Try.prog 69 #[.slice ao n cap, .int .i64 m] w (OnPost w0 (l ++ shortB m) K) := by
  have hlen : (shortB m).length ≤ 10 := shortB_10 (by unfold U64; omega)
  have hs := ref_short_calls m (by unfold U64; omega) w
  have hw : IntKind.u64.wrap (m : Int) = (m : Int) := by rw [IntKind.wrap_u64]; omega
  have HS := hid hs
  have HP := hid fun (vb : Value) (w1 : World) (rb : Option Nat) (nb : Nat) (c : List UInt8) (h1 : Chg [] w w1) (h2 : Row w1 5 1 vb rb nb (c.map B)) (h3 : Fresh w none rb) (h4 : c.length ≤ 274877906944) => q_put_on hO hl c h1 h2 h3 h4
  clear hs
  go_enter Try.func69, Try.ntmps69
  go_wp2_with (first
    | (go_at_call 96; refine HS.out.mono ?_; rintro e w1 ⟨l1, ao1, cap1, r1, rfl, hr1, hf1, hc1, HL1⟩)
    | (go_at_call 95; refine (HP.out _ _ _ _ _ hc1 hr1 hf1 (by rw [HL1.out]; omega)).mono ?_; rintro e w2 ⟨ao2, n2, cap2, rfl, HO2⟩))
  go_ret
  exact ⟨ao2, n2, cap2, rfl, by rw [HL1.out] at HO2; exact HO2⟩
set_option maxRecDepth 100000 in
theorem q_text_on (s : ByteArray) (hs : s.size ≤ 1048576) :
    Calls Try.prog 70 #[.slice ao n cap, .string s] w (OnPost w0 (l ++ textB s) K) := by
  have hlen : (shortB s.size ++ s.data.toList).length ≤ 2097152 := by
    have h1 : (shortB s.size).length ≤ 10 := shortB_10 (by unfold U64; omega)
    have h2 : s.data.toList.length = s.size := Array.length_toList
    rw [List.length_append, h2]
    omega
  have hs := ref_text_calls s (by omega) w
  have HS := hid hs
  have HP := hid fun (vb : Value) (w1 : World) (rb : Option Nat) (nb : Nat) (c : List UInt8) (h1 : Chg [] w w1) (h2 : Row w1 5 1 vb rb nb (c.map B)) (h3 : Fresh w none rb) (h4 : c.length ≤ 274877906944) => q_put_on hO hl c h1 h2 h3 h4
  clear hs
  go_enter Try.func70, Try.ntmps70
  go_wp2_with (first
    | (go_at_call 97; refine HS.out.mono ?_; rintro e w1 ⟨l1, ao1, cap1, r1, rfl, hr1, hf1, hc1, HL1⟩)
    | (go_at_call 95; refine (HP.out _ _ _ _ _ hc1 hr1 hf1 (by rw [HL1.out]; omega)).mono ?_; rintro e w2 ⟨ao2, n2, cap2, rfl, HO2⟩))
  go_ret
  exact ⟨ao2, n2, cap2, rfl, by rw [HL1.out] at HO2; exact HO2⟩
set_option maxRecDepth 100000 in
theorem q_signed_on (x : Int) (hx : I64 x) :
    Calls Try.prog 71 #[.slice ao n cap, .int .i64 x] w (OnPost w0 (l ++ shortB (zig x)) K) := by
  have hlen : (shortB (zig x)).length ≤ 10 := shortB_10 (zig_U64 hx)
  have hs := ref_signed_calls x hx w
  have HS := hid hs
  have HP := hid fun (vb : Value) (w1 : World) (rb : Option Nat) (nb : Nat) (c : List UInt8) (h1 : Chg [] w w1) (h2 : Row w1 5 1 vb rb nb (c.map B)) (h3 : Fresh w none rb) (h4 : c.length ≤ 274877906944) => q_put_on hO hl c h1 h2 h3 h4
  clear hs
  go_enter Try.func71, Try.ntmps71
  go_wp2_with (first
    | (go_at_call 98; refine HS.out.mono ?_; rintro e w1 ⟨l1, ao1, cap1, r1, rfl, hr1, hf1, hc1, HL1⟩)
    | (go_at_call 95; refine (HP.out _ _ _ _ _ hc1 hr1 hf1 (by rw [HL1.out]; omega)).mono ?_; rintro e w2 ⟨ao2, n2, cap2, rfl, HO2⟩))
  go_ret
  exact ⟨ao2, n2, cap2, rfl, by rw [HL1.out] at HO2; exact HO2⟩
end
end Go.Proofs.Ytbikekgljabalaa
