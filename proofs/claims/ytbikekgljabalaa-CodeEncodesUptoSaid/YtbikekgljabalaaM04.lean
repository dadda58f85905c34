/- Several texts of this seat, one behind the other: Gg, Gh, Gi. -/
import Derived.Test.YtbikekgljabalaaGf
import Derived.Test.YtbikekgljabalaaM01
/- Walks of the code layer: numbers and texts laid one by one; variables laid. -/
namespace Go.Proofs.Ytbikekgljabalaa
open Go.RowKit Go.AB
set_option linter.unusedSectionVars false
set_option linter.unusedSimpArgs false
set_option linter.unusedVariables false

section
variable {w : World} {b : Nat} {r : Option Nat} {l : List UInt8} {ao : Option Addr} {cap : Nat} (hW : Wr 73 5 w b r l ao cap) (hl : l.length ≤ 274877906944)
include hW hl
theorem wr_new (t : TypeId) (x : Value) : Wr 73 5 (w.alloc (.cells #[x] t)) b r l ao cap := hW.keep ((Chg.refl [] w).alloc _) (by simp) (by simp)
theorem short_one (n : Nat) (hn : U64 n) : Calls Try.prog 34 #[.pointer (some ⟨b, 0, none⟩), .slice (some ⟨w.heap.size, 0, none⟩) 1 1] (w.alloc (.cells #[.int .u64 (n : Int)] 76)) (ShortPost 73 5 w b r (l ++ shortB n)) := by
  have hb := blk_lt hW.blk
  have h := shorts_calls [n] (by simpa using hn) (.slice (some ⟨w.heap.size, 0, none⟩) 1 1) _ b r l ao cap (wr_new hW hl 76 _) (by omega) (View.one w _ 76)
    (fun _ g hg => by
      have : g = w.heap.size := by simpa [Value.ownBlock] using hg.symm
      subst this
      exact ⟨by omega, fun e => by have := hW.row.lt _ e; omega⟩) (by simp)
  refine h.mono fun e w' ⟨he, hL⟩ => ⟨he, ?_⟩
  have h2 := hL.of ((Chg.refl [] w).alloc _)
  simpa using h2
theorem signed_one (n : Int) (hn : I64 n) : Calls Try.prog 36 #[.pointer (some ⟨b, 0, none⟩), .slice (some ⟨w.heap.size, 0, none⟩) 1 1] (w.alloc (.cells #[.int .i64 n] 3)) (ShortPost 73 5 w b r (l ++ shortB (zig n))) := by
  have hb := blk_lt hW.blk
  have h := signed_calls [n] (by simpa using hn) (.slice (some ⟨w.heap.size, 0, none⟩) 1 1) _ b r l ao cap (wr_new hW hl 3 _) (by omega) (View.one w _ 3)
    (fun _ g hg => by
      have : g = w.heap.size := by simpa [Value.ownBlock] using hg.symm
      subst this
      exact ⟨by omega, fun e => by have := hW.row.lt _ e; omega⟩) (by simp)
  refine h.mono fun e w' ⟨he, hL⟩ => ⟨he, ?_⟩
  have h2 := hL.of ((Chg.refl [] w).alloc _)
  simpa using h2
theorem byte_one (n : Nat) (hn : n < 256) : Calls Try.prog 78 #[.pointer (some ⟨b, 0, none⟩), .slice (some ⟨w.heap.size, 0, none⟩) 1 1] (w.alloc (.cells #[.int .u8 (n : Int)] 5)) (ShortPost 73 5 w b r (l ++ [UInt8.ofNat n])) := by
  have hb := blk_lt hW.blk
  have h := put_u8 [n] (by simpa using hn) (.slice (some ⟨w.heap.size, 0, none⟩) 1 1) _ b r l ao cap (wr_new hW hl 5 _) (by omega) (View.one w _ 5)
    (fun _ g hg => by
      have : g = w.heap.size := by simpa [Value.ownBlock] using hg.symm
      subst this
      exact ⟨by omega, fun e => by have := hW.row.lt _ e; omega⟩) (by simp)
  refine h.mono fun e w' ⟨he, hL⟩ => ⟨he, ?_⟩
  have h2 := hL.of ((Chg.refl [] w).alloc _)
  simpa [fixedB] using h2
end
end Go.Proofs.Ytbikekgljabalaa

/- Walks of the code layer: variables laid. -/
namespace Go.Proofs.Ytbikekgljabalaa
open Go.RowKit Go.AB
set_option linter.unusedSectionVars false
set_option linter.unusedSimpArgs false
set_option linter.unusedVariables false

/-- A writer that is new since w0, with its bytes; K: other blocks, and what they hold. -/
def Wn (w0 w : World) (b : Nat) (l : List UInt8) (K : List (Nat × Obj)) : Prop := ∃ r ao cap, Wr 73 5 w b r l ao cap ∧ Chg [] w0 w ∧ w0.heap.size ≤ b ∧ Fresh w0 none r ∧ ∀ q ∈ K, w.heap[q.1]? = some q.2 ∧ q.1 ≠ b ∧ r ≠ some q.1
theorem Wn.chg {w0 w : World} {b : Nat} {l : List UInt8} {K : List (Nat × Obj)} (h : Wn w0 w b l K) : Chg [] w0 w := by obtain ⟨_, _, _, _, h2, _⟩ := h; exact h2
theorem Wn.keep {w0 w w' : World} {b : Nat} {l : List UInt8} {K : List (Nat × Obj)} (h : Wn w0 w b l K) (hc : Chg [] w w') : Wn w0 w' b l K := by
  obtain ⟨r, ao, cap, h1, h2, h3, h4, h5⟩ := h
  exact ⟨r, ao, cap, h1.keep hc (by simp) (by simp), h2.trans' hc, h3, h4, fun q hq => ⟨hc.heap (h5 q hq).1 (by simp), (h5 q hq).2⟩⟩
theorem Wn.alloc {w0 w : World} {b : Nat} {l : List UInt8} {K : List (Nat × Obj)} (h : Wn w0 w b l K) (o : Obj) : Wn w0 (w.alloc o) b l K := h.keep ((Chg.refl [] w).alloc o)
theorem Wn.box {w0 w : World} {b : Nat} {l : List UInt8} {K : List (Nat × Obj)} (h : Wn w0 w b l K) (o : Obj) : Wn w0 (w.alloc o) b l ((w.heap.size, o) :: K) := by
  have h' := h
  obtain ⟨r, ao, cap, h1, h2, h3, h4, h5⟩ := h
  refine ⟨r, ao, cap, h1.keep ((Chg.refl [] w).alloc o) (by simp) (by simp), h2.alloc o, h3, h4, fun q hq => ?_⟩
  rcases List.mem_cons.1 hq with rfl | hq
  · exact ⟨heap_alloc_new w o, by have := blk_lt h1.blk; simp only; omega, fun e => by have := h1.row.lt _ e; simp only at this; omega⟩
  · exact ⟨((Chg.refl [] w).alloc o).heap (h5 q hq).1 (by simp), (h5 q hq).2⟩
theorem Wn.sub {w0 w : World} {b : Nat} {l : List UInt8} {K K' : List (Nat × Obj)} (h : Wn w0 w b l K) (hk : ∀ q ∈ K', q ∈ K) : Wn w0 w b l K' := by
  obtain ⟨r, ao, cap, h1, h2, h3, h4, h5⟩ := h
  exact ⟨r, ao, cap, h1, h2, h3, h4, fun q hq => h5 q (hk q hq)⟩
theorem Wn.cell {w0 w : World} {b : Nat} {l : List UInt8} {K : List (Nat × Obj)} (h : Wn w0 w b l K) {k : Nat} {cs : Array Value} {t : TypeId} {fr : Nat × Nat} (hk : (k, Obj.cells cs t fr) ∈ K) (i : Nat) : w.cell? ⟨k, i, none⟩ = cs[i]? := by
  obtain ⟨r, ao, cap, h1, h2, h3, h4, h5⟩ := h
  exact blk_cell (h5 _ hk).1 i
theorem Wn.laid {w0 w w' : World} {b : Nat} {r : Option Nat} {l2 : List UInt8} {K : List (Nat × Obj)} (h2 : Chg [] w0 w) (h3 : w0.heap.size ≤ b) (h4 : Fresh w0 none r) (h5 : ∀ q ∈ K, w.heap[q.1]? = some q.2 ∧ q.1 ≠ b ∧ r ≠ some q.1) (hL : LaidW 73 5 w b r l2 w') : Wn w0 w' b l2 K := by
  obtain ⟨l', r', ao', cap', k1, k2, k3, k4⟩ := hL
  have e : l' = l2 := k4.out
  subst e
  refine ⟨r', ao', cap', k1, h2.trans k2 (fun x hx => .inr (by
    rcases List.mem_cons.1 hx with h | h
    · omega
    · exact (h4 x (by simpa using h)).resolve_left (by simp))), h3, h4.trans h2.size k3, fun q hq => ?_⟩
  obtain ⟨q1, q2, q3⟩ := h5 q hq
  refine ⟨k2.heap q1 (fun hm => ?_), q2, fun e => ?_⟩
  · rcases List.mem_cons.1 hm with h | h
    · exact q2 h
    · exact q3 (by simpa using h)
  · rcases k3 _ e with h | h
    · exact q3 h
    · have := blk_lt q1; omega
section
variable {w0 w : World} {b : Nat} {l : List UInt8} {K : List (Nat × Obj)} (hW : Wn w0 w b l K) (hl : l.length ≤ 274877906944)
include hW hl
theorem short_n (n : Nat) (hn : U64 n) : Calls Try.prog 34 #[.pointer (some ⟨b, 0, none⟩), .slice (some ⟨w.heap.size, 0, none⟩) 1 1] (w.alloc (.cells #[.int .u64 (n : Int)] 76)) fun e w' => e = .returned (.tuple #[]) ∧ Wn w0 w' b (l ++ shortB n) K := by
  obtain ⟨r, ao, cap, h1, h2, h3, h4, h5⟩ := hW
  exact (short_one h1 hl n hn).mono fun e w' ⟨he, hL⟩ => ⟨he, Wn.laid h2 h3 h4 h5 hL⟩
theorem signed_n (n : Int) (hn : I64 n) : Calls Try.prog 36 #[.pointer (some ⟨b, 0, none⟩), .slice (some ⟨w.heap.size, 0, none⟩) 1 1] (w.alloc (.cells #[.int .i64 n] 3)) fun e w' => e = .returned (.tuple #[]) ∧ Wn w0 w' b (l ++ shortB (zig n)) K := by
  obtain ⟨r, ao, cap, h1, h2, h3, h4, h5⟩ := hW
  exact (signed_one h1 hl n hn).mono fun e w' ⟨he, hL⟩ => ⟨he, Wn.laid h2 h3 h4 h5 hL⟩
theorem byte_n (n : Nat) (hn : n < 256) : Calls Try.prog 78 #[.pointer (some ⟨b, 0, none⟩), .slice (some ⟨w.heap.size, 0, none⟩) 1 1] (w.alloc (.cells #[.int .u8 (n : Int)] 5)) fun e w' => e = .returned (.tuple #[]) ∧ Wn w0 w' b (l ++ [UInt8.ofNat n]) K := by
  obtain ⟨r, ao, cap, h1, h2, h3, h4, h5⟩ := hW
  exact (byte_one h1 hl n hn).mono fun e w' ⟨he, hL⟩ => ⟨he, Wn.laid h2 h3 h4 h5 hL⟩
theorem text_n (s : ByteArray) (hs : s.size ≤ 1048576) : Calls Try.prog 35 #[.pointer (some ⟨b, 0, none⟩), .string s] w fun e w' => e = .returned (.tuple #[]) ∧ Wn w0 w' b (l ++ textB s) K := by
  obtain ⟨r, ao, cap, h1, h2, h3, h4, h5⟩ := hW
  exact (text_calls s w b r l ao cap h1 (by omega) (by omega)).mono fun e w' ⟨he, hL⟩ => ⟨he, Wn.laid h2 h3 h4 h5 hL⟩
end
theorem shortB_10 {n : Nat} (h : U64 n) : (shortB n).length ≤ 10 := shortB_len10 h
theorem flat_le {α : Type} {f : α → List UInt8} {m : Nat} : ∀ (xs : List α), (∀ x ∈ xs, (f x).length ≤ m) → (xs.flatMap f).length ≤ xs.length * m
  | [], _ => by simp
  | x :: xs, h => by
    rw [List.flatMap_cons, List.length_append, List.length_cons, Nat.add_mul]
    have h1 := h x (by simp)
    have h2 := flat_le xs (fun y hy => h y (by simp [hy]))
    omega
theorem textB_len {s : ByteArray} (h : s.size ≤ 24) : (textB s).length ≤ 34 := by
  unfold textB
  rw [List.length_append]
  have h1 := shortB_10 (n := s.size) (by unfold U64; omega)
  have h2 : s.data.toList.length = s.size := by rw [Array.length_toList]; rfl
  omega
theorem zig_U64 {x : Int} (h : I64 x) : U64 (zig x) := by
  unfold I64 at h
  unfold U64 zig
  split <;> omega
theorem varB_len {v : VarD} (h : v.name.size ≤ 24) (h2 : I64 v.first) : (varB v).length ≤ 44 := by
  unfold varB
  rw [List.length_append]
  have := textB_len h
  have := shortB_10 (zig_U64 h2)
  omega

set_option maxHeartbeats 4000000 in
set_option maxRecDepth 100000 in
theorem layVars_calls (xs : List VarD) (hb : ∀ x ∈ xs, x.name.size ≤ 24 ∧ I64 x.first) (hn : xs.length ≤ 4096) {v : Value} {w0 w : World} {b : Nat} {l : List UInt8} {K : List (Nat × Obj)} (hW : Wn w0 w b l K) (hl : l.length ≤ 137438953472) (hv : Lst varC 2 w0 v xs) :
    Calls Try.prog 33 #[.pointer (some ⟨b, 0, none⟩), v] w fun e w' => e = .returned (.tuple #[]) ∧ Wn w0 w' b (l ++ varsL xs) K := by
  obtain ⟨ao, cap, rfl, _⟩ := hv.len
  have HV := hid hv
  have HB := hid hb
  have HW := hid hW
  obtain ⟨n, hnn⟩ : ∃ n, xs.length = n := ⟨_, rfl⟩
  have HN := hid hnn
  have hsn := short_n hW (by omega) n (by unfold U64; omega)
  rw [hnn] at HV hn ⊢
  have HSN := hid hsn
  have HLL : Hid (∀ k, k ≤ n → (l ++ shortB n ++ (xs.take k).flatMap varB).length ≤ 137439953472) := hid fun k hk => by
    rw [List.length_append, List.length_append]
    have h1 := shortB_10 (n := n) (by unfold U64; omega)
    have h2 := flat_le (f := varB) (m := 44) (xs.take k) (fun x hx => varB_len (hb x (List.mem_of_mem_take hx)).1 (hb x (List.mem_of_mem_take hx)).2)
    have h3 : (xs.take k).length ≤ 4096 := by rw [List.length_take]; omega
    omega
  clear hv hb hnn hW hsn hl
  go_enter Try.func33, Try.ntmps33
  go_wp2_with (go_at_call 34; (with_reducible refine HSN.out.mono ?_); rintro e w1 ⟨rfl, hw1⟩; have HW1 := hid hw1; clear hw1)
  go_loopw [14] (fun vi wr => ∃ k : Nat, k ≤ n ∧ vi = .int .i64 k ∧ Hid (Wn w0 wr b (l ++ shortB n ++ (xs.take k).flatMap varB) K)) (fun vi _ => n - (intOf vi).toNat)
  case atStart => exact ⟨0, Nat.zero_le _, rfl, by show Wn _ _ _ _ _; simpa using HW1.out⟩
  case round =>
    obtain ⟨k, hk, rfl, hw⟩ := hrel
    by_cases hlt : k < n
    · have hkl : k < xs.length := by rw [HN.out]; exact hlt
      obtain ⟨bb, off, hao, hcl⟩ := (HV.out.keep hw.out.chg).at varC_len hkl (by omega)
      have zl : (k : Int) < (n : Int) := by omega
      have c0 : wr.cell? ⟨bb, off + k * 2, none⟩ = some (.string xs[k].name) := hcl 0 (by omega)
      have c1 : wr.cell? ⟨bb, off + k * 2 + 1, none⟩ = some (.int .i64 xs[k].first) := hcl 1 (by omega)
      have hbx := HB.out _ (List.getElem_mem hkl)
      have htk : xs.take (k + 1) = xs.take k ++ [xs[k]] := List.take_succ_eq_append_getElem hkl
      have hlen := HLL.out k hk
      have hle2 := HLL.out (k + 1) (by omega)
      rw [htk, List.flatMap_append] at hle2
      obtain ⟨X, hX⟩ : ∃ X, xs[k] = X := ⟨_, rfl⟩
      rw [hX] at c0 c1 hbx htk hle2
      obtain ⟨nm, fi⟩ := X
      simp only at c0 c1 hbx
      have ht := text_n (hw.out.box (.cells #[.string nm, .int .i64 fi] 53)) (by omega) nm (by omega)
      have hs := fun (u : World) (hu : Wn w0 u b (l ++ shortB n ++ (xs.take k).flatMap varB ++ textB nm) ((wr.heap.size, .cells #[.string nm, .int .i64 fi] 53 (0, 0)) :: K)) => signed_n hu (by
        have := textB_len hbx.1
        simp only [List.length_append] at hlen ⊢
        omega) fi hbx.2
      have hfin : l ++ shortB n ++ (xs.take k).flatMap varB ++ textB nm ++ shortB (zig fi) = l ++ shortB n ++ (xs.take (k + 1)).flatMap varB := by
        rw [htk, List.flatMap_append]
        simp [varB, List.append_assoc]
      rw [hfin] at hs
      have HT := hid ht
      have HS := hid hs
      have HAO := hid hao
      subst hao
      clear ht hs hcl hw hX htk hlen hle2 hfin
      go_wp2_with (first
        | (go_at_call 35; (with_reducible refine HT.out.mono ?_); rintro e w2 ⟨rfl, hw2⟩; have k1 := hw2.cell (List.mem_cons_self ..) 1; have HW2 := hid hw2; clear hw2)
        | (go_at_call 36; (with_reducible refine (HS.out _ HW2.out).mono ?_); rintro e w3 ⟨rfl, hw3⟩; have HW3 := hid hw3; clear hw3))
      go_roundw
      case rel => exact ⟨k + 1, by omega, by go_num, HW3.out.sub (fun q hq => List.mem_cons_of_mem _ hq)⟩
      case measure => simp [intOf]; omega
    · obtain rfl : k = n := by omega
      have hf := hw.out
      rw [List.take_of_length_le (by rw [HN.out]; exact Nat.le_refl _)] at hf
      have hf2 : Wn w0 wr b (l ++ varsL xs) K := by
        unfold varsL
        rw [HN.out, ← List.append_assoc]
        exact hf
      have HF := hid hf2
      clear hw hf hf2
      go_wp2
      go_end0
      exact ⟨rfl, HF.out⟩
end Go.Proofs.Ytbikekgljabalaa

/- Walks of the code layer: a thread laid. -/
namespace Go.Proofs.Ytbikekgljabalaa
open Go.RowKit Go.AB
set_option linter.unusedSectionVars false
set_option linter.unusedSimpArgs false
set_option linter.unusedVariables false

/-- What a right instruction's numbers are. -/
theorem insB_out {x : InsD} (h : insB x = true) : 1 ≤ x.op ∧ x.op ≤ 20 ∧ (0 ≤ x.a ∧ x.a ≤ 15) ∧ (0 ≤ x.b ∧ x.b ≤ 15) ∧ (0 ≤ x.c ∧ x.c ≤ 15) ∧ (nN x.op = false → x.n = 0) := by
  unfold insB at h
  simp only [Bool.and_eq_true, decide_eq_true_eq, Bool.or_eq_true, beq_iff_eq] at h
  obtain ⟨⟨⟨⟨⟨h1, h2⟩, h3⟩, h4⟩, h5⟩, h6⟩ := h
  have reg : ∀ v is, regB v is = true → 0 ≤ v ∧ v ≤ 15 := fun v is hr => by
    cases is
    · rw [regB_false] at hr
      have := beq_iff_eq.1 hr
      omega
    · rw [regB_true] at hr
      simpa using hr
  exact ⟨h1, h2, reg _ _ h3, reg _ _ h4, reg _ _ h5, fun hn => by rcases h6 with h | h; rw [hn] at h; cases h; exact h⟩
theorem plcB_out {p : PlcD} (h : plcB p = true) : 0 ≤ p.line ∧ p.line ≤ 2147483647 ∧ 0 ≤ p.col ∧ p.col ≤ 2147483647 := by
  unfold plcB at h
  simp only [Bool.and_eq_true, decide_eq_true_eq] at h
  omega
theorem or_reg : ∀ a : Fin 16, ∀ b : Fin 16, bits .or .i64 (a.val : Int) ((b.val : Int) * 16) = (a.val : Int) + 16 * (b.val : Int) := by decide +kernel
theorem insL_len {line : Int} {x : InsD} {p : PlcD} (h : I64 x.n) (h2 : I64 (p.line - line)) (h3 : 0 ≤ p.col ∧ p.col ≤ 2147483647) : (insL line x p).length ≤ 33 := by
  unfold insL
  simp only [List.length_append, List.length_cons, List.length_nil]
  have a1 := shortB_10 (zig_U64 h)
  have a2 := shortB_10 (zig_U64 h2)
  have a3 := shortB_10 (n := p.col.toNat) (by unfold U64; omega)
  have b1 : (if nA x.op = true then [UInt8.ofNat (x.a + 16 * x.b).toNat] else []).length ≤ 1 := by split <;> simp
  have b2 : (if nC x.op = true then [UInt8.ofNat x.c.toNat] else []).length ≤ 1 := by split <;> simp
  have b3 : (if nN x.op = true then shortB (zig x.n) else []).length ≤ 10 := by
    split
    · exact a1
    · simp
  omega
/-- The bytes of the first instructions. -/
theorem inssL_step : ∀ (k : Nat) (line : Int) (xs : List InsD) (ps : List PlcD) (h1 : k < xs.length) (h2 : k < ps.length),
    inssL line (xs.take (k + 1)) (ps.take (k + 1)) = inssL line (xs.take k) (ps.take k) ++ insL (if k = 0 then line else (ps.getD (k - 1) ⟨0, 0⟩).line) xs[k] ps[k]
  | _, _, [], _, h1, _ => by simp at h1
  | _, _, _ :: _, [], _, h2 => by simp at h2
  | 0, line, x :: xs, p :: ps, _, _ => by simp [inssL]
  | k + 1, line, x :: xs, p :: ps, h1, h2 => by
    have ih := inssL_step k p.line xs ps (by simpa using h1) (by simpa using h2)
    simp only [List.take_succ_cons, inssL]
    rw [ih, List.append_assoc]
    congr 2
    by_cases hk : k = 0
    · subst hk; simp
    · rw [if_neg hk, if_neg (by omega)]
      obtain ⟨j, rfl⟩ : ∃ j, k = j + 1 := ⟨k - 1, by omega⟩
      simp
end Go.Proofs.Ytbikekgljabalaa
