/- Walks of the code layer: is a name too long? Printed by gen_contains.py. -/
import Derived.Test.YtbikekgljabalaaM03
namespace Go.Proofs.Ytbikekgljabalaa
open Go.RowKit Go.AB
set_option linter.unusedSimpArgs false
set_option linter.unusedVariables false

def longB (s : ByteArray) : Bool := decide (24 < s.size)
set_option maxRecDepth 100000 in
theorem long_calls (s : ByteArray) (hs : s.size ≤ 1048576) (w : World) : Calls Try.prog 27 #[.string s] w fun e w' => e = .returned (.bool (longB s)) ∧ Chg [] w w' := by
  go_enter Try.func27, Try.ntmps27
  go_wp2
  go_ret
  exact ⟨ret_b (by unfold longB; rw [Bool.eq_iff_iff]; simp; omega), Chg.refl _ _⟩
set_option maxRecDepth 100000 in
theorem longv1_calls (s : ByteArray) (hs : s.size ≤ 1048576) (x : Int) (w : World) : Calls Try.prog 26 #[.agg #[.string s, .int .i64 x]] w fun e w' => e = .returned (.bool (longB s)) ∧ Chg [] w w' := by
  have HL := hid (long_calls s hs)
  go_enter Try.func26, Try.ntmps26
  go_wp2_with (go_at_call 27; refine (HL.out _).mono ?_; rintro e w1 ⟨rfl, hc1⟩)
  go_ret
  exact ⟨rfl, ((Chg.refl _ _).alloc _).trans' hc1⟩
set_option maxRecDepth 100000 in
theorem longv2_calls (s : ByteArray) (hs : s.size ≤ 1048576) (x : Int) (w : World) : Calls Try.prog 31 #[.agg #[.string s, .int .i64 x]] w fun e w' => e = .returned (.bool (longB s)) ∧ Chg [] w w' := by
  have HL := hid (long_calls s hs)
  go_enter Try.func31, Try.ntmps31
  go_wp2_with (go_at_call 27; refine (HL.out _).mono ?_; rintro e w1 ⟨rfl, hc1⟩)
  go_ret
  exact ⟨rfl, ((Chg.refl _ _).alloc _).trans' hc1⟩
set_option maxHeartbeats 2000000 in
set_option maxRecDepth 100000 in
theorem index_var (xs : List VarD) (hb : ∀ x ∈ xs, x.name.size ≤ 1048576) (hn : xs.length ≤ 1048576) {ao : Option Addr} {cap : Nat} (w : World) (hv : Lst varC 2 w (.slice ao xs.length cap) xs) :
    Calls Try.prog 73 #[.slice ao xs.length cap, .func (.func 26) #[] #[]] w fun e w' => ∃ r : Int, e = .returned (.int .i64 r) ∧ (0 ≤ r ↔ (xs.any fun x => longB x.name) = true) ∧ Chg [] w w' := by
  have HV := hid hv
  have HB := hid hb
  obtain ⟨n, hnn⟩ : ∃ n, xs.length = n := ⟨_, rfl⟩
  have HN := hid hnn
  rw [hnn] at HV hn ⊢
  clear hv hb hnn
  go_enter Try.func73, Try.ntmps73
  go_wp2
  go_loopw [8] (fun vi wr => ∃ k : Nat, k ≤ n ∧ vi = .int .i64 k ∧ Chg [] w wr ∧ Hid ((xs.any fun x => longB x.name) = ((xs.drop k).any fun x => longB x.name))) (fun vi _ => n - (intOf vi).toNat)
  case atStart => exact ⟨0, Nat.zero_le _, rfl, Chg.refl _ _, rfl⟩
  case round =>
    obtain ⟨k, hk, rfl, hch, hh⟩ := hrel
    by_cases hlt : k < n
    · have hkl : k < xs.length := by rw [HN.out]; exact hlt
      obtain ⟨b, off, hao, hcl⟩ := (HV.out.keep hch).at varC_len hkl (by omega)
      have zl : (k : Int) < (n : Int) := by omega
      have c0 : wr.cell? ⟨b, off + k * 2, none⟩ = some (.string xs[k].name) := hcl 0 (by omega)
      have c1 : wr.cell? ⟨b, off + k * 2 + 1, none⟩ = some (.int .i64 xs[k].first) := hcl 1 (by omega)
      have hbx := HB.out _ (List.getElem_mem hkl)
      have hdr : xs.drop k = xs[k] :: xs.drop (k + 1) := List.drop_eq_getElem_cons hkl
      have hh2 := hh.out
      rw [hdr, List.any_cons] at hh2
      obtain ⟨S, hS⟩ : ∃ S, xs[k].name = S := ⟨_, rfl⟩
      obtain ⟨X, hX⟩ : ∃ X, xs[k].first = X := ⟨_, rfl⟩
      rw [hS] at c0 hbx hh2
      rw [hX] at c1
      obtain ⟨q, hq⟩ : ∃ q, longB S = q := ⟨_, rfl⟩
      have hcall := longv1_calls S hbx X
      rw [hq] at hcall hh2
      have HC := hid hcall
      have HCH := hid hch
      have HH := hid hh2
      have HAO := hid hao
      subst hao
      clear hcl hh hh2 hcall hch hq hdr hbx hS hX
      cases q
      · go_wp2_with (go_at_call 26; refine (HC.out _).mono ?_; rintro e w1 ⟨rfl, hc1⟩)
        go_roundw
        case rel => exact ⟨k + 1, by omega, by go_num, HCH.out.trans' hc1, by rw [HH.out]; rfl⟩
        case measure => simp [intOf]; omega
      · go_wp2_with (go_at_call 26; refine (HC.out _).mono ?_; rintro e w1 ⟨rfl, hc1⟩)
        go_ret
        exact ⟨_, rfl, ⟨fun _ => by rw [HH.out]; rfl, fun _ => by omega⟩, HCH.out.trans' hc1⟩
    · obtain rfl : k = n := by omega
      have hfin : (xs.any fun x => longB x.name) = false := by rw [hh.out, List.drop_eq_nil_of_le (by rw [HN.out]; exact Nat.le_refl _)]; rfl
      have HF := hid hfin
      have HCH := hid hch
      clear hh hfin hch
      go_wp2
      go_ret
      exact ⟨_, rfl, by rw [HF.out]; simp, HCH.out⟩
set_option maxRecDepth 100000 in
theorem contains_var (xs : List VarD) (hb : ∀ x ∈ xs, x.name.size ≤ 1048576) (hn : xs.length ≤ 1048576) {v : Value} (w : World) (hv : Lst varC 2 w v xs) :
    Calls Try.prog 28 #[v, .func (.func 26) #[] #[]] w fun e w' => e = .returned (.bool (xs.any fun x => longB x.name)) ∧ Chg [] w w' := by
  obtain ⟨ao, cap, rfl, _⟩ := hv.len
  have HI := hid (index_var xs hb hn w hv)
  obtain ⟨q, hq⟩ : ∃ q, (xs.any fun x => longB x.name) = q := ⟨_, rfl⟩
  rw [hq] at HI ⊢
  clear hv hb hq
  go_enter Try.func28, Try.ntmps28
  go_wp2_with (go_at_call 73; refine HI.out.mono ?_; rintro e w1 ⟨r, rfl, hr, hc1⟩)
  go_ret
  exact ⟨congrArg (fun b => Ending.returned (.bool b)) (by cases q <;> simp_all), hc1⟩
set_option maxHeartbeats 2000000 in
set_option maxRecDepth 100000 in
theorem index_bar (xs : List VarD) (hb : ∀ x ∈ xs, x.name.size ≤ 1048576) (hn : xs.length ≤ 1048576) {ao : Option Addr} {cap : Nat} (w : World) (hv : Lst varC 2 w (.slice ao xs.length cap) xs) :
    Calls Try.prog 75 #[.slice ao xs.length cap, .func (.func 31) #[] #[]] w fun e w' => ∃ r : Int, e = .returned (.int .i64 r) ∧ (0 ≤ r ↔ (xs.any fun x => longB x.name) = true) ∧ Chg [] w w' := by
  have HV := hid hv
  have HB := hid hb
  obtain ⟨n, hnn⟩ : ∃ n, xs.length = n := ⟨_, rfl⟩
  have HN := hid hnn
  rw [hnn] at HV hn ⊢
  clear hv hb hnn
  go_enter Try.func75, Try.ntmps75
  go_wp2
  go_loopw [8] (fun vi wr => ∃ k : Nat, k ≤ n ∧ vi = .int .i64 k ∧ Chg [] w wr ∧ Hid ((xs.any fun x => longB x.name) = ((xs.drop k).any fun x => longB x.name))) (fun vi _ => n - (intOf vi).toNat)
  case atStart => exact ⟨0, Nat.zero_le _, rfl, Chg.refl _ _, rfl⟩
  case round =>
    obtain ⟨k, hk, rfl, hch, hh⟩ := hrel
    by_cases hlt : k < n
    · have hkl : k < xs.length := by rw [HN.out]; exact hlt
      obtain ⟨b, off, hao, hcl⟩ := (HV.out.keep hch).at varC_len hkl (by omega)
      have zl : (k : Int) < (n : Int) := by omega
      have c0 : wr.cell? ⟨b, off + k * 2, none⟩ = some (.string xs[k].name) := hcl 0 (by omega)
      have c1 : wr.cell? ⟨b, off + k * 2 + 1, none⟩ = some (.int .i64 xs[k].first) := hcl 1 (by omega)
      have hbx := HB.out _ (List.getElem_mem hkl)
      have hdr : xs.drop k = xs[k] :: xs.drop (k + 1) := List.drop_eq_getElem_cons hkl
      have hh2 := hh.out
      rw [hdr, List.any_cons] at hh2
      obtain ⟨S, hS⟩ : ∃ S, xs[k].name = S := ⟨_, rfl⟩
      obtain ⟨X, hX⟩ : ∃ X, xs[k].first = X := ⟨_, rfl⟩
      rw [hS] at c0 hbx hh2
      rw [hX] at c1
      obtain ⟨q, hq⟩ : ∃ q, longB S = q := ⟨_, rfl⟩
      have hcall := longv2_calls S hbx X
      rw [hq] at hcall hh2
      have HC := hid hcall
      have HCH := hid hch
      have HH := hid hh2
      have HAO := hid hao
      subst hao
      clear hcl hh hh2 hcall hch hq hdr hbx hS hX
      cases q
      · go_wp2_with (go_at_call 31; refine (HC.out _).mono ?_; rintro e w1 ⟨rfl, hc1⟩)
        go_roundw
        case rel => exact ⟨k + 1, by omega, by go_num, HCH.out.trans' hc1, by rw [HH.out]; rfl⟩
        case measure => simp [intOf]; omega
      · go_wp2_with (go_at_call 31; refine (HC.out _).mono ?_; rintro e w1 ⟨rfl, hc1⟩)
        go_ret
        exact ⟨_, rfl, ⟨fun _ => by rw [HH.out]; rfl, fun _ => by omega⟩, HCH.out.trans' hc1⟩
    · obtain rfl : k = n := by omega
      have hfin : (xs.any fun x => longB x.name) = false := by rw [hh.out, List.drop_eq_nil_of_le (by rw [HN.out]; exact Nat.le_refl _)]; rfl
      have HF := hid hfin
      have HCH := hid hch
      clear hh hfin hch
      go_wp2
      go_ret
      exact ⟨_, rfl, by rw [HF.out]; simp, HCH.out⟩
set_option maxRecDepth 100000 in
theorem contains_bar (xs : List VarD) (hb : ∀ x ∈ xs, x.name.size ≤ 1048576) (hn : xs.length ≤ 1048576) {v : Value} (w : World) (hv : Lst varC 2 w v xs) :
    Calls Try.prog 30 #[v, .func (.func 31) #[] #[]] w fun e w' => e = .returned (.bool (xs.any fun x => longB x.name)) ∧ Chg [] w w' := by
  obtain ⟨ao, cap, rfl, _⟩ := hv.len
  have HI := hid (index_bar xs hb hn w hv)
  obtain ⟨q, hq⟩ : ∃ q, (xs.any fun x => longB x.name) = q := ⟨_, rfl⟩
  rw [hq] at HI ⊢
  clear hv hb hq
  go_enter Try.func30, Try.ntmps30
  go_wp2_with (go_at_call 75; refine HI.out.mono ?_; rintro e w1 ⟨r, rfl, hr, hc1⟩)
  go_ret
  exact ⟨congrArg (fun b => Ending.returned (.bool b)) (by cases q <;> simp_all), hc1⟩
set_option maxHeartbeats 2000000 in
set_option maxRecDepth 100000 in
theorem index_str (xs : List ByteArray) (hb : ∀ x ∈ xs, x.size ≤ 1048576) (hn : xs.length ≤ 1048576) {ao : Option Addr} {cap : Nat} (w : World) (hv : Lst strC 1 w (.slice ao xs.length cap) xs) :
    Calls Try.prog 74 #[.slice ao xs.length cap, .func (.func 27) #[] #[]] w fun e w' => ∃ r : Int, e = .returned (.int .i64 r) ∧ (0 ≤ r ↔ (xs.any fun x => longB x) = true) ∧ Chg [] w w' := by
  have HV := hid hv
  have HB := hid hb
  obtain ⟨n, hnn⟩ : ∃ n, xs.length = n := ⟨_, rfl⟩
  have HN := hid hnn
  rw [hnn] at HV hn ⊢
  clear hv hb hnn
  go_enter Try.func74, Try.ntmps74
  go_wp2
  go_loopw [8] (fun vi wr => ∃ k : Nat, k ≤ n ∧ vi = .int .i64 k ∧ Chg [] w wr ∧ Hid ((xs.any fun x => longB x) = ((xs.drop k).any fun x => longB x))) (fun vi _ => n - (intOf vi).toNat)
  case atStart => exact ⟨0, Nat.zero_le _, rfl, Chg.refl _ _, rfl⟩
  case round =>
    obtain ⟨k, hk, rfl, hch, hh⟩ := hrel
    by_cases hlt : k < n
    · have hkl : k < xs.length := by rw [HN.out]; exact hlt
      obtain ⟨b, off, hao, hcl⟩ := (HV.out.keep hch).at strC_len hkl (by omega)
      have zl : (k : Int) < (n : Int) := by omega
      have c0 : wr.cell? ⟨b, off + k, none⟩ = some (.string xs[k]) := by have := hcl 0 (by omega); rwa [Nat.mul_one, Nat.add_zero] at this
      have hbx := HB.out _ (List.getElem_mem hkl)
      have hdr : xs.drop k = xs[k] :: xs.drop (k + 1) := List.drop_eq_getElem_cons hkl
      have hh2 := hh.out
      rw [hdr, List.any_cons] at hh2
      obtain ⟨S, hS⟩ : ∃ S, xs[k] = S := ⟨_, rfl⟩
      rw [hS] at c0 hbx hh2
      obtain ⟨q, hq⟩ : ∃ q, longB S = q := ⟨_, rfl⟩
      have hcall := long_calls S hbx
      rw [hq] at hcall hh2
      have HC := hid hcall
      have HCH := hid hch
      have HH := hid hh2
      have HAO := hid hao
      subst hao
      clear hcl hh hh2 hcall hch hq hdr hbx hS
      cases q
      · go_wp2_with (go_at_call 27; refine (HC.out _).mono ?_; rintro e w1 ⟨rfl, hc1⟩)
        go_roundw
        case rel => exact ⟨k + 1, by omega, by go_num, HCH.out.trans' hc1, by rw [HH.out]; rfl⟩
        case measure => simp [intOf]; omega
      · go_wp2_with (go_at_call 27; refine (HC.out _).mono ?_; rintro e w1 ⟨rfl, hc1⟩)
        go_ret
        exact ⟨_, rfl, ⟨fun _ => by rw [HH.out]; rfl, fun _ => by omega⟩, HCH.out.trans' hc1⟩
    · obtain rfl : k = n := by omega
      have hfin : (xs.any fun x => longB x) = false := by rw [hh.out, List.drop_eq_nil_of_le (by rw [HN.out]; exact Nat.le_refl _)]; rfl
      have HF := hid hfin
      have HCH := hid hch
      clear hh hfin hch
      go_wp2
      go_ret
      exact ⟨_, rfl, by rw [HF.out]; simp, HCH.out⟩
set_option maxRecDepth 100000 in
theorem contains_str (xs : List ByteArray) (hb : ∀ x ∈ xs, x.size ≤ 1048576) (hn : xs.length ≤ 1048576) {v : Value} (w : World) (hv : Lst strC 1 w v xs) :
    Calls Try.prog 29 #[v, .func (.func 27) #[] #[]] w fun e w' => e = .returned (.bool (xs.any fun x => longB x)) ∧ Chg [] w w' := by
  obtain ⟨ao, cap, rfl, _⟩ := hv.len
  have HI := hid (index_str xs hb hn w hv)
  obtain ⟨q, hq⟩ : ∃ q, (xs.any fun x => longB x) = q := ⟨_, rfl⟩
  rw [hq] at HI ⊢
  clear hv hb hq
  go_enter Try.func29, Try.ntmps29
  go_wp2_with (go_at_call 74; refine HI.out.mono ?_; rintro e w1 ⟨r, rfl, hr, hc1⟩)
  go_ret
  exact ⟨congrArg (fun b => Ending.returned (.bool b)) (by cases q <;> simp_all), hc1⟩
end Go.Proofs.Ytbikekgljabalaa
