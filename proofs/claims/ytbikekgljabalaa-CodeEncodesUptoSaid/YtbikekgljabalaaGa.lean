/- Walks of the code layer: what an operation names, both. -/
import Derived.Test.YtbikekgljabalaaM01
import Derived.Test.YtbikekgljabalaaFe
namespace Go.Proofs.Ytbikekgljabalaa
open Go.RowKit Go.AB
set_option linter.unusedSimpArgs false
set_option linter.unusedVariables false

theorem ret_4 {a b c d a' b' c' d' : Bool} (h1 : a = a') (h2 : b = b') (h3 : c = c') (h4 : d = d') : Ending.returned (.tuple #[.bool a, .bool b, .bool c, .bool d]) = .returned (.tuple #[.bool a', .bool b', .bool c', .bool d']) := by rw [h1, h2, h3, h4]
theorem op_cases (op : Int) : op < 1 ∨ 20 ≤ op ∨ op = 1 ∨ op = 2 ∨ op = 3 ∨ op = 4 ∨ op = 5 ∨ op = 6 ∨ op = 7 ∨ op = 8 ∨ op = 9 ∨ op = 10 ∨ op = 11 ∨ op = 12 ∨ op = 13 ∨ op = 14 ∨ op = 15 ∨ op = 16 ∨ op = 17 ∨ op = 18 ∨ op = 19 := by omega
theorem not_op {op : Int} (h : op < 1 ∨ 20 ≤ op) : (op == 1) = false ∧ (op == 2) = false ∧ (op == 3) = false ∧ (op == 4) = false ∧ (op == 5) = false ∧ (op == 6) = false ∧ (op == 7) = false ∧ (op == 8) = false ∧ (op == 9) = false ∧ (op == 10) = false ∧ (op == 11) = false ∧ (op == 12) = false ∧ (op == 13) = false ∧ (op == 14) = false ∧ (op == 15) = false ∧ (op == 16) = false ∧ (op == 17) = false ∧ (op == 18) = false ∧ (op == 19) = false := by
  simp only [beq_eq_false_iff_ne]; omega

set_option maxHeartbeats 4000000 in
set_option maxRecDepth 100000 in
theorem names_out (op : Int) (h : op < 1 ∨ 20 ≤ op) (w : World) : Calls Try.prog 22 #[.int .i64 op] w fun e w' => e = .returned (.tuple #[.bool false, .bool false, .bool false, .bool false]) ∧ w = w' := by
  obtain ⟨h1, h2, h3, h4, h5, h6, h7, h8, h9, h10, h11, h12, h13, h14, h15, h16, h17, h18, h19⟩ := not_op h
  clear h
  go_enter Try.func22, Try.ntmps22
  go_wp2
  exact bodyPost_ret (v := .tuple #[.bool false, .bool false, .bool false, .bool false]) (by simp [results, Try.results22, go_sem]) rfl ⟨rfl, rfl⟩
set_option maxHeartbeats 4000000 in
set_option maxRecDepth 100000 in
theorem names_calls (op : Int) (w : World) : Calls Try.prog 22 #[.int .i64 op] w fun e w' => e = .returned (.tuple #[.bool (nA op), .bool (nB op), .bool (nC op), .bool (nN op)]) ∧ w = w' := by
  rcases op_cases op with h | h | rfl | rfl | rfl | rfl | rfl | rfl | rfl | rfl | rfl | rfl | rfl | rfl | rfl | rfl | rfl | rfl | rfl | rfl | rfl
  · refine (names_out op (.inl h) w).mono fun e w' ⟨he, hw⟩ => ⟨?_, hw⟩
    rw [he]; unfold nA nB nC nN; rw [namedI_out (.inl h)]; rfl
  · refine (names_out op (.inr h) w).mono fun e w' ⟨he, hw⟩ => ⟨?_, hw⟩
    rw [he]; unfold nA nB nC nN; rw [namedI_out (.inr h)]; rfl
  · go_enter Try.func22, Try.ntmps22
    go_wp2
    exact bodyPost_ret (v := .tuple #[.bool true, .bool false, .bool false, .bool true]) (by simp [results, Try.results22, go_sem]) rfl ⟨rfl, rfl⟩
  · go_enter Try.func22, Try.ntmps22
    go_wp2
    exact bodyPost_ret (v := .tuple #[.bool true, .bool true, .bool false, .bool false]) (by simp [results, Try.results22, go_sem]) rfl ⟨rfl, rfl⟩
  · go_enter Try.func22, Try.ntmps22
    go_wp2
    exact bodyPost_ret (v := .tuple #[.bool true, .bool true, .bool true, .bool false]) (by simp [results, Try.results22, go_sem]) rfl ⟨rfl, rfl⟩
  · go_enter Try.func22, Try.ntmps22
    go_wp2
    exact bodyPost_ret (v := .tuple #[.bool true, .bool true, .bool true, .bool false]) (by simp [results, Try.results22, go_sem]) rfl ⟨rfl, rfl⟩
  · go_enter Try.func22, Try.ntmps22
    go_wp2
    exact bodyPost_ret (v := .tuple #[.bool true, .bool true, .bool true, .bool false]) (by simp [results, Try.results22, go_sem]) rfl ⟨rfl, rfl⟩
  · go_enter Try.func22, Try.ntmps22
    go_wp2
    exact bodyPost_ret (v := .tuple #[.bool true, .bool true, .bool true, .bool false]) (by simp [results, Try.results22, go_sem]) rfl ⟨rfl, rfl⟩
  · go_enter Try.func22, Try.ntmps22
    go_wp2
    exact bodyPost_ret (v := .tuple #[.bool true, .bool true, .bool true, .bool false]) (by simp [results, Try.results22, go_sem]) rfl ⟨rfl, rfl⟩
  · go_enter Try.func22, Try.ntmps22
    go_wp2
    exact bodyPost_ret (v := .tuple #[.bool false, .bool false, .bool false, .bool true]) (by simp [results, Try.results22, go_sem]) rfl ⟨rfl, rfl⟩
  · go_enter Try.func22, Try.ntmps22
    go_wp2
    exact bodyPost_ret (v := .tuple #[.bool true, .bool false, .bool false, .bool true]) (by simp [results, Try.results22, go_sem]) rfl ⟨rfl, rfl⟩
  · go_enter Try.func22, Try.ntmps22
    go_wp2
    exact bodyPost_ret (v := .tuple #[.bool true, .bool false, .bool false, .bool false]) (by simp [results, Try.results22, go_sem]) rfl ⟨rfl, rfl⟩
  · go_enter Try.func22, Try.ntmps22
    go_wp2
    exact bodyPost_ret (v := .tuple #[.bool true, .bool false, .bool false, .bool true]) (by simp [results, Try.results22, go_sem]) rfl ⟨rfl, rfl⟩
  · go_enter Try.func22, Try.ntmps22
    go_wp2
    exact bodyPost_ret (v := .tuple #[.bool true, .bool false, .bool false, .bool true]) (by simp [results, Try.results22, go_sem]) rfl ⟨rfl, rfl⟩
  · go_enter Try.func22, Try.ntmps22
    go_wp2
    exact bodyPost_ret (v := .tuple #[.bool true, .bool false, .bool false, .bool true]) (by simp [results, Try.results22, go_sem]) rfl ⟨rfl, rfl⟩
  · go_enter Try.func22, Try.ntmps22
    go_wp2
    exact bodyPost_ret (v := .tuple #[.bool true, .bool false, .bool false, .bool true]) (by simp [results, Try.results22, go_sem]) rfl ⟨rfl, rfl⟩
  · go_enter Try.func22, Try.ntmps22
    go_wp2
    exact bodyPost_ret (v := .tuple #[.bool false, .bool false, .bool false, .bool true]) (by simp [results, Try.results22, go_sem]) rfl ⟨rfl, rfl⟩
  · go_enter Try.func22, Try.ntmps22
    go_wp2
    exact bodyPost_ret (v := .tuple #[.bool false, .bool false, .bool false, .bool true]) (by simp [results, Try.results22, go_sem]) rfl ⟨rfl, rfl⟩
  · go_enter Try.func22, Try.ntmps22
    go_wp2
    exact bodyPost_ret (v := .tuple #[.bool false, .bool false, .bool false, .bool true]) (by simp [results, Try.results22, go_sem]) rfl ⟨rfl, rfl⟩
  · go_enter Try.func22, Try.ntmps22
    go_wp2
    exact bodyPost_ret (v := .tuple #[.bool false, .bool false, .bool false, .bool true]) (by simp [results, Try.results22, go_sem]) rfl ⟨rfl, rfl⟩
  · go_enter Try.func22, Try.ntmps22
    go_wp2
    exact bodyPost_ret (v := .tuple #[.bool false, .bool false, .bool false, .bool true]) (by simp [results, Try.results22, go_sem]) rfl ⟨rfl, rfl⟩

set_option maxRecDepth 100000 in
/-- Is a byte in a text? -/
theorem has_calls (s : ByteArray) (l : List UInt8) (hl : s.data.toList = l) (hs : s.size ≤ 1048576) (c : UInt8) (w : World) : Calls Try.prog 60 #[.string s, .int .u8 (c.toNat : Nat)] w fun e w' => e = .returned (.bool (hasB c l)) ∧ w = w' := by
  have hsz : s.size = l.length := by rw [← hl, Array.length_toList]; rfl
  have hget : ∀ k (hk : k < s.size), l.drop k = s[k] :: l.drop (k + 1) := fun k hk => by
    subst hl
    rw [List.drop_eq_getElem_cons (by rw [Array.length_toList]; exact hk)]
    rfl
  have HG := hid hget
  have HS := hid hsz
  clear hget hl hsz
  go_enter Try.func60, Try.ntmps60
  go_wp2
  go_loop [5] (fun vi => ∃ k : Nat, k ≤ s.size ∧ vi = .int .i64 k ∧ Hid (hasB c l = hasB c (l.drop k))) (fun vi => s.size - (intOf vi).toNat)
  case atStart => exact ⟨0, Nat.zero_le _, rfl, rfl⟩
  case round =>
    obtain ⟨k, hk, rfl, hh⟩ := hrel
    by_cases hlt : k < s.size
    · have hg := HG.out k hlt
      have zl : (k : Int) < (s.size : Int) := by omega
      have hh2 := hh.out
      rw [hg] at hh2
      by_cases hc : s[k] = c
      · have hr : hasB c l = true := by rw [hh2, hasB_cons, if_pos hc]
        have HR := hid hr
        have z1 : ((s[k].toNat : Int) == (c.toNat : Int)) = true := by rw [hc]; simp
        have z2 : (s[k].toNat == c.toNat) = true := by rw [hc]; simp
        clear hh hg hh2 hr hc
        go_wp2
        go_ret
        exact ⟨by rw [HR.out]; rfl, rfl⟩
      · have hn : ¬ s[k].toNat = c.toNat := fun h => hc (UInt8.toNat_inj.1 h)
        have hr : hasB c l = hasB c (l.drop (k + 1)) := by rw [hh2, hasB_cons, if_neg hc]
        have HR := hid hr
        have z1 : ((s[k].toNat : Int) == (c.toNat : Int)) = false := by rw [beq_eq_false_iff_ne]; omega
        have z2 : (s[k].toNat == c.toNat) = false := by rw [beq_eq_false_iff_ne]; exact hn
        clear hh hg hh2 hr hc
        go_wp2
        refine ⟨⟨k + 1, by omega, by go_num, HR⟩, by simp [intOf]; omega⟩
    · obtain rfl : k = s.size := by omega
      have hr : hasB c l = false := by rw [hh.out, List.drop_eq_nil_of_le (by rw [HS.out]; exact Nat.le_refl _)]; rfl
      have HR := hid hr
      clear hh hr
      go_wp2
      go_ret
      exact ⟨by rw [HR.out]; rfl, rfl⟩
def namedCs : Array Value := #[.string ⟨#[]⟩, .string ⟨#[97, 110]⟩, .string ⟨#[97, 98]⟩, .string ⟨#[97, 98, 99]⟩, .string ⟨#[97, 98, 99]⟩, .string ⟨#[97, 98, 99]⟩, .string ⟨#[97, 98, 99]⟩, .string ⟨#[97, 98, 99]⟩, .string ⟨#[110]⟩, .string ⟨#[97, 110]⟩, .string ⟨#[97]⟩, .string ⟨#[97, 110]⟩, .string ⟨#[97, 110]⟩, .string ⟨#[97, 110]⟩, .string ⟨#[97, 110]⟩, .string ⟨#[110]⟩, .string ⟨#[110]⟩, .string ⟨#[110]⟩, .string ⟨#[110]⟩, .string ⟨#[110]⟩, .string ⟨#[]⟩]
theorem namedCs_at (k : Nat) (h1 : 1 ≤ k) (h2 : k ≤ 20) : namedCs[k]? = some (.string ⟨(namedI k).toArray⟩) := by
  rcases (by omega : k = 1 ∨ k = 2 ∨ k = 3 ∨ k = 4 ∨ k = 5 ∨ k = 6 ∨ k = 7 ∨ k = 8 ∨ k = 9 ∨ k = 10 ∨ k = 11 ∨ k = 12 ∨ k = 13 ∨ k = 14 ∨ k = 15 ∨ k = 16 ∨ k = 17 ∨ k = 18 ∨ k = 19 ∨ k = 20) with rfl | rfl | rfl | rfl | rfl | rfl | rfl | rfl | rfl | rfl | rfl | rfl | rfl | rfl | rfl | rfl | rfl | rfl | rfl | rfl
  all_goals rfl
set_option maxHeartbeats 1000000 in
set_option maxRecDepth 100000 in
theorem r_named_calls (op : Int) (w : World) : Calls Try.prog 59 #[.int .i64 op] w fun e w' => e = .returned (.string ⟨(namedI op).toArray⟩) ∧ Chg [] w w' := by
  by_cases h1 : op < 1
  · rw [namedI_out (.inl h1)]
    go_enter Try.func59, Try.ntmps59
    go_wp2
    go_ret
    exact ⟨rfl, (Chg.refl _ _).alloc _⟩
  · by_cases h2 : 21 ≤ op
    · rw [namedI_out (.inr (by omega))]
      go_enter Try.func59, Try.ntmps59
      go_wp2
      go_ret
      exact ⟨rfl, (Chg.refl _ _).alloc _⟩
    · have hk := namedCs_at op.toNat (by omega) (by omega)
      rw [Int.toNat_of_nonneg (by omega)] at hk
      obtain ⟨S, hS⟩ : ∃ S : ByteArray, ⟨(namedI op).toArray⟩ = S := ⟨_, rfl⟩
      rw [hS] at hk ⊢
      have hc : (w.alloc (.cells namedCs 9)).cell? ⟨w.heap.size, op.toNat, none⟩ = some (.string S) := by
        rw [blk_cell (heap_alloc_new w _), hk]
      unfold namedCs at hc
      have z1 : 1 ≤ op := by omega
      have z2 : op < 21 := by omega
      clear hS hk h1 h2
      go_enter Try.func59, Try.ntmps59
      go_wp2
      go_ret
      exact ⟨rfl, (Chg.refl _ _).alloc _⟩
theorem namedI_len (op : Int) : (namedI op).length ≤ 3 := by
  rcases op_cases op with h | h | rfl | rfl | rfl | rfl | rfl | rfl | rfl | rfl | rfl | rfl | rfl | rfl | rfl | rfl | rfl | rfl | rfl | rfl | rfl
  · rw [namedI_out (.inl h)]; simp
  · rw [namedI_out (.inr h)]; simp
  all_goals decide
set_option maxHeartbeats 1000000 in
set_option maxRecDepth 100000 in
theorem r_names_calls (op : Int) (w : World) : Calls Try.prog 23 #[.int .i64 op] w fun e w' => e = .returned (.tuple #[.bool (nA op), .bool (nB op), .bool (nC op), .bool (nN op)]) ∧ Chg [] w w' := by
  have hn := r_named_calls op w
  have hl := namedI_len op
  unfold nA nB nC nN
  have hh := fun c => has_calls ⟨(namedI op).toArray⟩ (namedI op) rfl (by show (namedI op).toArray.size ≤ _; rw [List.size_toArray]; omega) c
  have ha := hh 97
  have hb := hh 98
  have hc := hh 99
  have hd := hh 110
  obtain ⟨S, hS⟩ : ∃ S : ByteArray, ⟨(namedI op).toArray⟩ = S := ⟨_, rfl⟩
  rw [hS] at hn ha hb hc hd
  have HN := hid hn
  have HA : Hid (∀ u, Calls Try.prog 60 #[.string S, .int .u8 97] u _) := hid ha
  have HB : Hid (∀ u, Calls Try.prog 60 #[.string S, .int .u8 98] u _) := hid hb
  have HC : Hid (∀ u, Calls Try.prog 60 #[.string S, .int .u8 99] u _) := hid hc
  have HD : Hid (∀ u, Calls Try.prog 60 #[.string S, .int .u8 110] u _) := hid hd
  clear hn hl hh ha hb hc hd hS
  go_enter Try.func23, Try.ntmps23
  go_wp2_with (first
    | (go_at_call 59; refine HN.out.mono ?_; rintro e w1 ⟨rfl, hc1⟩)
    | (go_at_call 60; (with_reducible refine (HA.out _).mono ?_); rintro e w' ⟨rfl, rfl⟩)
    | (go_at_call 60; (with_reducible refine (HB.out _).mono ?_); rintro e w' ⟨rfl, rfl⟩)
    | (go_at_call 60; (with_reducible refine (HC.out _).mono ?_); rintro e w' ⟨rfl, rfl⟩)
    | (go_at_call 60; (with_reducible refine (HD.out _).mono ?_); rintro e w' ⟨rfl, rfl⟩))
  exact bodyPost_ret (v := .tuple #[.bool (hasB 97 (namedI op)), .bool (hasB 98 (namedI op)), .bool (hasB 99 (namedI op)), .bool (hasB 110 (namedI op))]) (by simp [results, Try.results23, go_sem]) rfl ⟨rfl, hc1⟩
end Go.Proofs.Ytbikekgljabalaa
