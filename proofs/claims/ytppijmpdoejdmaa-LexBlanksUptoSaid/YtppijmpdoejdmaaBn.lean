/- Walks of the lexer's laws: how many bytes a token has. -/
import Derived.Test.YtppijmpdoejdmaaBm
namespace Go.Proofs.Ytppijmpdoejdmaa
open Go.RowKit Go.AB
set_option linter.unusedSimpArgs false
set_option linter.unusedVariables false
set_option linter.unusedSectionVars false

/-- A byte's class, for the walk's tests. -/
theorem cls_cases (c : UInt8) : (numCls c = true ∧ ((48 ≤ c.toNat ∧ c.toNat ≤ 57) ∨ (97 ≤ c.toNat ∧ c.toNat ≤ 102) ∨ (65 ≤ c.toNat ∧ c.toNat ≤ 70) ∨ c.toNat = 120)) ∨
    (numCls c = false ∧ (c.toNat < 48 ∨ (57 < c.toNat ∧ c.toNat < 65) ∨ (70 < c.toNat ∧ c.toNat < 97) ∨ (102 < c.toNat ∧ c.toNat < 120) ∨ 120 < c.toNat)) := by
  by_cases h : (48 ≤ c.toNat ∧ c.toNat ≤ 57) ∨ (97 ≤ c.toNat ∧ c.toNat ≤ 102) ∨ (65 ≤ c.toNat ∧ c.toNat ≤ 70) ∨ c.toNat = 120
  · refine .inl ⟨?_, h⟩
    simp only [numCls, Bool.or_eq_true, beq_iff_eq, Bool.and_eq_true, decide_eq_true_eq]
    omega
  · refine .inr ⟨?_, by omega⟩
    simp only [numCls, Bool.or_eq_false_iff, beq_eq_false_iff_ne, Bool.and_eq_false_iff, decide_eq_false_iff_not]
    omega

set_option maxHeartbeats 4000000 in
set_option maxRecDepth 100000 in
theorem width_num {s : ByteArray} (w : World) (hs : s.size ≤ 4294967296) (L : List UInt8) (hL : Hid (s.data.toList = L)) (a n : Nat) (ha : a + n ≤ s.size) (hn : 1 ≤ n) (hin : ∀ c ∈ ((L.drop a).take n).drop 1, numCls c = true) (hout : ∀ c, (L.drop a)[n]? = some c → numCls c = false)
    (t : ByteArray) (v ln col : Int) : Calls Try.prog 17 #[.string s, .int .i64 a, .agg #[.int .i64 2, .string t, .int .i64 v, .int .i64 ln, .int .i64 col]] w fun e w' => e = .returned (.int .i64 n) ∧ Chg [] w w' := by
  have hca := (Chg.refl [] w).alloc (.cells #[.int .i64 2, .string t, .int .i64 v, .int .i64 ln, .int .i64 col] 38)
  have HLN := hid (len_of hL)
  have hI : ∀ m (hm : a + m < s.size), 1 ≤ m → m < n → numCls (s[a + m]'hm) = true := fun m hm h1 h2 => by
    have h3 : a + m < L.length := by rw [HLN.out]; exact hm
    rw [← get_eq hL hm h3]
    refine hin _ ?_
    rw [List.drop_take, List.drop_drop]
    have : L[a + m] = ((L.drop (a + 1)).take (n - 1))[m - 1]'(by rw [List.length_take, List.length_drop, HLN.out]; omega) := by
      rw [List.getElem_take, List.getElem_drop]
      congr 1
      omega
    rw [this]
    exact List.getElem_mem _
  have hO : ∀ (hm : a + n < s.size), numCls (s[a + n]'hm) = false := fun hm => by
    have h3 : a + n < L.length := by rw [HLN.out]; exact hm
    rw [← get_eq hL hm h3]
    exact hout _ (by rw [List.getElem?_drop, List.getElem?_eq_getElem h3])
  have HI := hid hI
  have HO := hid hO
  clear hin hout hI hO
  go_enter Try.func17, Try.ntmps17
  go_wp2
  go_loop [7] (fun i => ∃ m : Nat, 1 ≤ m ∧ m ≤ n ∧ i = .int .i64 m) (fun i => n - (intOf i).toNat)
  case atStart => exact ⟨1, Nat.le_refl _, hn, rfl⟩
  case round =>
    obtain ⟨m, hm1, hm2, rfl⟩ := hrel
    by_cases hlt : m < n
    · have hms : a + m < s.size := by omega
      have hc := HI.out m hms hm1 hlt
      have hx := (s[a + m]).toNat_lt
      rcases cls_cases s[a + m] with ⟨_, h⟩ | ⟨h, _⟩
      · have j1 : (a : Int) + (m : Int) < (s.size : Int) := by omega
        have j2 : (0 : Int) ≤ (a : Int) + (m : Int) := by omega
        clear hc
        rcases h with ⟨h1, h2⟩ | ⟨h1, h2⟩ | ⟨h1, h2⟩ | h1
        · go_wp2
          go_round
          case rel => exact ⟨m + 1, by omega, by omega, by go_num⟩
          case measure => simp [intOf]; omega
        · go_wp2
          go_round
          case rel => exact ⟨m + 1, by omega, by omega, by go_num⟩
          case measure => simp [intOf]; omega
        · go_wp2
          go_round
          case rel => exact ⟨m + 1, by omega, by omega, by go_num⟩
          case measure => simp [intOf]; omega
        · have e1 : ((s[a + m].toNat : Int) == 120) = true := by simp; omega
          have h2 : 120 ≤ s[a + m].toNat := by omega
          have h3 : s[a + m].toNat ≤ 120 := by omega
          clear h1
          go_wp2
          go_round
          case rel => exact ⟨m + 1, by omega, by omega, by go_num⟩
          case measure => simp [intOf]; omega
      · rw [h] at hc; cases hc
    · obtain rfl : m = n := by omega
      by_cases hms : a + m < s.size
      · have hc := HO.out hms
        have hx := (s[a + m]).toNat_lt
        rcases cls_cases s[a + m] with ⟨h, _⟩ | ⟨_, h⟩
        · rw [h] at hc; cases hc
        · clear hc
          have e1 : ((s[a + m].toNat : Int) == 120) = false := by simp; omega
          rcases h with h | ⟨h1, h2⟩ | ⟨h1, h2⟩ | ⟨h1, h2⟩ | h
          all_goals
            go_wp2
            go_ret
            exact ⟨rfl, hca⟩
      · go_wp2
        go_ret
        exact ⟨rfl, hca⟩

set_option maxHeartbeats 1000000 in
set_option maxRecDepth 100000 in
theorem width_name {s : ByteArray} (w : World) (a : Nat) (t : ByteArray) (ht : t.size ≤ 4294967296) (v ln col : Int) : Calls Try.prog 17 #[.string s, .int .i64 a, .agg #[.int .i64 1, .string t, .int .i64 v, .int .i64 ln, .int .i64 col]] w fun e w' => e = .returned (.int .i64 t.size) ∧ Chg [] w w' := by
  have hca := (Chg.refl [] w).alloc (.cells #[.int .i64 1, .string t, .int .i64 v, .int .i64 ln, .int .i64 col] 38)
  go_enter Try.func17, Try.ntmps17
  go_wp2
  go_ret
  exact ⟨rfl, hca⟩
set_option maxHeartbeats 1000000 in
set_option maxRecDepth 100000 in
theorem width_stop {s : ByteArray} (w : World) (a : Nat) (t : ByteArray) (v ln col : Int) : Calls Try.prog 17 #[.string s, .int .i64 a, .agg #[.int .i64 7, .string t, .int .i64 v, .int .i64 ln, .int .i64 col]] w fun e w' => e = .returned (.int .i64 0) ∧ Chg [] w w' := by
  have hca := (Chg.refl [] w).alloc (.cells #[.int .i64 7, .string t, .int .i64 v, .int .i64 ln, .int .i64 col] 38)
  go_enter Try.func17, Try.ntmps17
  go_wp2
  go_ret
  exact ⟨rfl, hca⟩
set_option maxHeartbeats 1000000 in
set_option maxRecDepth 100000 in
theorem width_one {s : ByteArray} (w : World) (a k : Nat) (hk : 3 ≤ k ∧ k ≤ 6) (t : ByteArray) (v ln col : Int) : Calls Try.prog 17 #[.string s, .int .i64 a, .agg #[.int .i64 k, .string t, .int .i64 v, .int .i64 ln, .int .i64 col]] w fun e w' => e = .returned (.int .i64 1) ∧ Chg [] w w' := by
  have hca := (Chg.refl [] w).alloc (.cells #[.int .i64 k, .string t, .int .i64 v, .int .i64 ln, .int .i64 col] 38)
  have e1 : ((k : Int) == 1) = false := by simp; omega
  have e2 : ((k : Int) == 7) = false := by simp; omega
  have e3 : ((k : Int) == 2) = false := by simp; omega
  have HK := hid hk
  clear hk
  go_enter Try.func17, Try.ntmps17
  go_wp2
  go_ret
  exact ⟨rfl, hca⟩
/-- A token's width is how many bytes it has. -/
theorem width_calls {s : ByteArray} (w : World) (hs : s.size ≤ 4294967296) (L : List UInt8) (hL : Hid (s.data.toList = L)) (a : Nat) (ha : a ≤ s.size) {k : Nat} {t : List UInt8} {v : Int} {n : Nat} (h : act1 (L.drop a) = .tok k t v n) (ln col : Int) :
    Calls Try.prog 17 #[.string s, .int .i64 a, .agg #[.int .i64 k, .string ⟨t.toArray⟩, .int .i64 v, .int .i64 ln, .int .i64 col]] w fun e w' => e = .returned (.int .i64 n) ∧ Chg [] w w' := by
  by_cases hk : k = 7
  · subst hk
    rcases act1_tok h with ⟨_, _, _, _, rfl⟩ | ⟨_, _, h1, _⟩
    · exact width_stop w a _ v ln col
    · omega
  · have hl := tok_le h hk
    have hln := len_of hL
    have hle := hl.2.1
    rw [List.length_drop] at hle
    rcases act1_kind h hk with ⟨rfl, ht⟩ | ⟨rfl, rfl, h1, h2⟩ | ⟨h1, h2, rfl, rfl⟩
    · have := width_name (s := s) w a ⟨t.toArray⟩ (by show t.toArray.size ≤ _; simp; omega) v ln col
      rw [show (⟨t.toArray⟩ : ByteArray).size = n from by show t.toArray.size = n; simp; exact ht] at this
      exact this
    · exact width_num w hs L hL a n (by omega) hl.1 h1 h2 _ v ln col
    · exact width_one w a k ⟨h1, h2⟩ _ v ln col
end Go.Proofs.Ytppijmpdoejdmaa
