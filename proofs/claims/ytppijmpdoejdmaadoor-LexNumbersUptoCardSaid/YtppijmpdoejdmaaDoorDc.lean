/- Walks of the lexer's laws: LexNumbers. -/
import Derived.Test.YtppijmpdoejdmaaDoorDb
import Derived.Test.YtppijmpdoejdmaaDoorAiD
namespace Go.Proofs.YtppijmpdoejdmaaDoor
open Go.RowKit Go.AB
set_option linter.unusedSimpArgs false
set_option linter.unusedVariables false

/-- The table of the powers of ten stands as the row says. -/
def Pow10 (w : World) : Prop := Lib.TabIs Tryd.prog w "internal/strconv.uint64pow10" .u64 Lib.pow10Tab
theorem chg_grow (w : World) (k : Nat) (os : Array Obj) : Chg [] w (Sort.grow (w.drewN k) os) := by
  refine ⟨rfl, rfl, rfl, ?_, fun i hi _ => ?_⟩
  · show w.heap.size ≤ (w.heap ++ os).size
    simp
  · show (w.heap ++ os)[i]? = w.heap[i]?
    rw [Array.getElem?_append_left hi]
theorem itoa_calls (n : Int) (h0 : -9223372036854775808 ≤ n) (h1 : n ≤ 9223372036854775807) (w : World) (htab : Pow10 w) :
    Calls Tryd.prog 4 #[.int .i64 n] w fun e w' => e = .returned (.string ⟨(Lib.itoa n).toArray⟩) ∧ Chg [] w w' := by
  refine (Tryd.strconv_Itoa n h0 h1 w htab).mono ?_
  rintro e w' ⟨rfl, k, os, rfl⟩
  exact ⟨rfl, chg_grow _ _ _⟩

theorem tok_num {s : ByteArray} {L : List UInt8} (hL : s.data.toList = L) (hs : s.size ≤ 1048576) {v : Int} {k : Nat} (h : scanD L 1 1 = ([⟨2, [], v, 1, 1⟩, ⟨7, [], 0, 1, k⟩], (0, 0, 0))) (w : World) :
    Calls Tryd.prog 5 #[.string s] w fun e w' => ∃ b off cap, e = .returned (.tuple #[.slice (some ⟨b, off, none⟩) 2 cap, .agg #[.int .i64 0, .int .i64 0, .int .i64 0]]) ∧ Chg [] w w' ∧ w'.cell? ⟨b, off, none⟩ = some (.int .i64 2) ∧ w'.cell? ⟨b, off + 2, none⟩ = some (.int .i64 v) := by
  have ht : tokensB L = ([⟨2, [], v, 1, 1⟩, ⟨7, [], 0, 1, k⟩], (0, 0, 0)) := by unfold tokensB; rw [h]; rfl
  have hc := tokens_calls w hs L (hid hL)
  rw [ht] at hc
  refine hc.mono ?_
  rintro e w' ⟨ts, ao, cap, r, rfl, hr, hf, hch, HL⟩
  have hts : ts = [⟨2, [], v, 1, 1⟩, ⟨7, [], 0, 1, k⟩] := HL.out
  subst hts
  have hv : TView w' (.slice ao 2 cap) [⟨2, [], v, 1, 1⟩, ⟨7, [], 0, 1, k⟩] := hr.view
  obtain ⟨b, off, rfl, a0, a1, a2, a3, a4⟩ := hv.at (i := 0) (by simp)
  exact ⟨b, off, cap, rfl, hch, a0, a2⟩
theorem tok_bad {s : ByteArray} {L : List UInt8} (hL : s.data.toList = L) (hs : s.size ≤ 1048576) (h : scanD L 1 1 = ([], (71, 1, 1))) (w : World) :
    Calls Tryd.prog 5 #[.string s] w fun e w' => ∃ ao cap, e = .returned (.tuple #[.slice ao 0 cap, .agg #[.int .i64 71, .int .i64 1, .int .i64 1]]) ∧ Chg [] w w' := by
  have ht : tokensB L = ([], (71, 1, 1)) := by unfold tokensB; rw [h]; rfl
  have hc := tokens_calls w hs L (hid hL)
  rw [ht] at hc
  refine hc.mono ?_
  rintro e w' ⟨ts, ao, cap, r, rfl, hr, hf, hch, HL⟩
  have hts : ts = [] := HL.out
  subst hts
  exact ⟨ao, cap, rfl, hch⟩

theorem cat_data (a b : ByteArray) : (a ++ b).data.toList = a.data.toList ++ b.data.toList := by rw [ByteArray.data_append, Array.toList_append]
theorem cat_size (a b : ByteArray) : (a ++ b).size = a.size + b.size := ByteArray.size_append
theorem digs_len (k u : Nat) (hu : u < 100000000000000000000) : (digs k u).length ≤ k + 20 := by
  have h : ∀ m u : Nat, u < 10 ^ (m + 1) → (Lib.decDigits u).length ≤ m + 1 := by
    intro m
    induction m with
    | zero => intro u hu; rw [dec_small (by simpa using hu)]; simp
    | succ m ih =>
      intro u hu
      by_cases h : u < 10
      · rw [dec_small h]; simp
      · rw [dec_big h, List.length_append]
        have := ih (u / 10) (by rw [Nat.div_lt_iff_lt_mul (by omega)]; rw [Nat.pow_succ] at hu; exact hu)
        simp only [List.length_cons, List.length_nil]
        omega
  have := h 19 u hu
  unfold digs
  rw [List.length_append, List.length_replicate]
  omega

/-- What the three texts in decimal digits are read as. -/
theorem dec_scan (b : Bool) (k u : Nat) (hu : u ≤ maxU b) : (∃ q, scanD (sgnL b ++ digs k u) 1 1 = ([⟨2, [], sgnI b u, 1, 1⟩, ⟨7, [], 0, 1, q⟩], (0, 0, 0))) ∧ scanD (sgnL b ++ digs k u ++ [95]) 1 1 = ([], (71, 1, 1)) ∧
    ((u ≤ 922337203685477580 ∧ ∃ v q, scanD (sgnL b ++ digs k u ++ [48]) 1 1 = ([⟨2, [], v, 1, 1⟩, ⟨7, [], 0, 1, q⟩], (0, 0, 0))) ∨ (922337203685477580 < u ∧ scanD (sgnL b ++ digs k u ++ [48]) 1 1 = ([], (71, 1, 1)))) := by
  have hne := digs_ne k u
  have hall := digs_all k u
  have h1 := numTok_dec b hne hall
  rw [digs_val, if_pos hu] at h1
  have s1 := sgn_start b hne hall []
  rw [List.append_nil] at s1
  have hne2 : digs k u ++ [48] ≠ [] := by simp
  have hall2 : ∀ c ∈ digs k u ++ [48], isDigit c = true := fun c hc => by
    rcases List.mem_append.1 hc with h | h
    · exact hall c h
    · simp only [List.mem_singleton] at h; subst h; decide
  have hv2 : decNat (digs k u ++ [48]) = 10 * u := by
    rw [decNat_snoc, digs_val]
    rfl
  have h2 := numTok_dec b hne2 hall2
  rw [hv2, ← List.append_assoc] at h2
  have s2 := sgn_start b hne2 hall2 []
  rw [List.append_nil, ← List.append_assoc] at s2
  refine ⟨⟨_, scan_one s1 h1⟩, scan_bad (sgn_start b hne hall [95]) (numTok_behind b hne hall), ?_⟩
  by_cases hf : 10 * u ≤ maxU b
  · rw [if_pos hf] at h2
    exact .inl ⟨by unfold maxU at hf; split at hf <;> omega, _, _, scan_one s2 h2⟩
  · rw [if_neg hf] at h2
    exact .inr ⟨by unfold maxU at hf; split at hf <;> omega, scan_bad s2 h2⟩
theorem hex_scan {n : Int} (h0 : -9223372036854775808 ≤ n) (h1 : n ≤ 9223372036854775807) : ∃ q, scanD (48 :: 120 :: hexD (n % 18446744073709551616).toNat) 1 1 = ([⟨2, [], n, 1, 1⟩, ⟨7, [], 0, 1, q⟩], (0, 0, 0)) := by
  have h := numTok_hex (u := (n % 18446744073709551616).toNat) (by omega)
  rw [asI64_of h0 h1] at h
  exact ⟨_, scan_one ⟨48, _, rfl, by decide, by decide, by decide, .inl (by decide)⟩ h⟩
end Go.Proofs.YtppijmpdoejdmaaDoor
