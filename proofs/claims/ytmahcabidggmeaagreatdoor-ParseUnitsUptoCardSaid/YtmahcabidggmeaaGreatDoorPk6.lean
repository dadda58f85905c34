/- Joined by join.py out of Vpc, Vpo, Vpd, Vpe. -/
import Derived.Test.YtmahcabidggmeaaGreatDoorPk5
import Derived.Test.YtmahcabidggmeaaGreatDoorShelf
import Derived.Lib.SlicesS
import Derived.Test.YtmahcabidggmeaaGreatDoorPk3
set_option linter.unusedSimpArgs false
set_option linter.unusedVariables false
set_option linter.unusedSectionVars false

/- Walks of the parser: registers, words, names. -/
set_option linter.unusedVariables false
set_option linter.unusedSectionVars false
set_option linter.unusedSimpArgs false
namespace Go.AB
open Go.RowKit
/-- A number of 8 bits, as the library reads it. -/
def p8 (l : List UInt8) : Option Nat := match Lib.parseUintB 8 l with | .ok u => some u | _ => none
theorem p8_dec : ∀ v : Nat, v < 16 → p8 (Lib.decDigits v) = some v := by decide +kernel
theorem reg_at : ∀ v : Nat, v < 16 → regL (114 :: Lib.decDigits v) = v := by decide +kernel
theorem reg_none {s : List UInt8} (h : ∀ v : Nat, v < 16 → s ≠ 114 :: Lib.decDigits v) : regL s = -1 := by
  unfold regL
  rw [idx_none]
  · rfl
  · intro x hx e
    obtain ⟨v, hv, rfl⟩ := List.mem_map.1 hx
    exact h v (by simpa using hv) e.symm
theorem reg_p8 {d : List UInt8} (h : p8 d = none) : regL (114 :: d) = -1 := reg_none fun v hv e => by
  simp only [List.cons.injEq, true_and] at e
  rw [e, p8_dec v hv] at h
  cases h
theorem reg_big {d : List UInt8} {u : Nat} (h : p8 d = some u) (hu : ¬ u < 16) : regL (114 :: d) = -1 := reg_none fun v hv e => by
  simp only [List.cons.injEq, true_and] at e
  rw [e, p8_dec v hv] at h
  cases h
  exact hu hv
theorem reg_odd {d : List UInt8} {u : Nat} (h : p8 d = some u) (hd : Lib.decDigits u ≠ d) : regL (114 :: d) = -1 := reg_none fun v hv e => by
  simp only [List.cons.injEq, true_and] at e
  rw [e, p8_dec v hv] at h
  cases h
  exact hd e.symm
theorem pre_r (s : List UInt8) : (∃ d, s = 114 :: d ∧ Lib.hasPrefix s [114] = true ∧ Lib.trimPrefix s [114] = d) ∨ ((∀ d, s ≠ 114 :: d) ∧ Lib.hasPrefix s [114] = false ∧ Lib.trimPrefix s [114] = s) := by
  cases s with
  | nil => exact .inr ⟨(fun d h => by cases h), rfl, rfl⟩
  | cons c r =>
    by_cases h : c = 114
    · subst h
      exact .inl ⟨r, rfl, rfl, rfl⟩
    · have h1 : Lib.hasPrefix (c :: r) [114] = false := by simp only [Lib.hasPrefix, List.isPrefixOf, Bool.and_true, beq_eq_false_iff_ne]; exact fun e => h e.symm
      exact .inr ⟨fun d e => h (by cases e; rfl), h1, by unfold Lib.trimPrefix; rw [h1]; rfl⟩
theorem kind_mem (s : List UInt8) : decide (kindL s ≠ 0) = true ↔ s ∈ kindTab := by
  rw [decide_eq_true_eq]
  constructor
  · intro h
    apply Decidable.byContradiction
    intro hn
    exact h (idx_none fun x hx e => hn (e ▸ hx))
  · intro h
    simp only [kindTab, List.mem_cons, List.not_mem_nil, or_false] at h
    rcases h with rfl | rfl | rfl | rfl | rfl <;> decide +kernel
def startsL : List ByteArray := ⟨#[]⟩ :: kindTab.map bA
theorem starts_mem {s : List UInt8} (hs : s ≠ []) : Lib.containsS (startsL.take 6) (bA s) = decide (kindL s ≠ 0) := by
  rw [Bool.eq_iff_iff, Lib.containsS_iff, kind_mem]
  show bA s ∈ startsL ↔ _
  unfold startsL
  rw [List.mem_cons]
  constructor
  · rintro (h | h)
    · exact absurd (congrArg (fun b : ByteArray => b.data.toList) h) hs
    · obtain ⟨x, hx, e⟩ := List.mem_map.1 h
      have : x = s := congrArg (fun b : ByteArray => b.data.toList) e
      exact this ▸ hx
  · intro h
    exact .inr (List.mem_map.2 ⟨s, h, rfl⟩)
theorem bA_size (l : List UInt8) : (bA l).size = l.length := by show (l.toArray).size = _; simp
end Go.AB
namespace Go.Proofs.YtmahcabidggmeaaGreatDoor
open Go.RowKit Go.AB
set_option linter.unusedSimpArgs false
set_option linter.unusedVariables false
set_option linter.unusedSectionVars false

/-- The table of the powers of ten stands as the row says. -/
def Pow10 (w : World) : Prop := Lib.TabIs Tryz.prog w "internal/strconv.uint64pow10" .u64 Lib.pow10Tab
theorem tab_chg {P : Program} {w w' : World} {name : String} {k : IntKind} {zs : List Int} (h : Lib.TabIs P w name k zs) (hc : Chg [] w w') : Lib.TabIs P w' name k zs := by
  unfold Lib.TabIs World.var? at *
  cases hg : P.globalNamed name with
  | none => simp [hg] at h
  | some g =>
    simp only [hg, Option.bind_some] at h ⊢
    have hlt : g < w.heap.size := by
      rcases Nat.lt_or_ge g w.heap.size with h' | h'
      · exact h'
      · rw [Array.getElem?_eq_none h'] at h; simp at h
    rw [hc.block g hlt (by simp)]
    exact h
def ErrAt (g : Nat) (w : World) : Prop := ∃ te pe, w.cell? ⟨g, 0, none⟩ = some (.iface te pe)
/-- The library's variables stand as the row says. -/
structure VarsP (w : World) : Prop where
  pow : Pow10 w
  es : ErrAt 1 w
  er : ErrAt 2 w
theorem VarsP.keep {w w' : World} (h : VarsP w) (hc : Chg [] w w') : VarsP w' :=
  ⟨tab_chg h.pow hc, by obtain ⟨t, p, e⟩ := h.es; exact ⟨t, p, hc.cell e (by simp)⟩, by obtain ⟨t, p, e⟩ := h.er; exact ⟨t, p, hc.cell e (by simp)⟩⟩
theorem chg_grow (w : World) (k : Nat) (os : Array Obj) : Chg [] w (Sort.grow (w.drewN k) os) := by
  refine ⟨rfl, rfl, rfl, ?_, fun i hi _ => ?_⟩
  · show w.heap.size ≤ (w.heap ++ os).size
    simp
  · show (w.heap ++ os)[i]? = w.heap[i]?
    rw [Array.getElem?_append_left hi]
theorem chg_bytes (w : World) (e : TypeId) (s : ByteArray) : Chg [] w (Lib.bytesWorld w e s) := by
  refine ⟨?_, ?_, ?_, ?_, fun k hk _ => Lib.bytesWorld_at_old w e s k hk⟩
  · rfl
  · rfl
  · rfl
  · unfold Lib.bytesWorld
    simp [World.freeze]
/-- A number's text. -/
theorem itoaI_calls (n : Int) (h0 : -9223372036854775808 ≤ n) (h1 : n ≤ 9223372036854775807) (w : World) (hv : VarsP w) :
    Calls Tryz.prog 28 #[.int .i64 n] w fun e w' => e = .returned (.string (bA (Lib.itoa n))) ∧ Chg [] w w' := by
  refine (Tryz.strconv_Itoa n h0 h1 w hv.pow).mono ?_
  rintro e w' ⟨rfl, k, os, rfl⟩
  exact ⟨rfl, chg_grow _ _ _⟩
def P8 (o : Option Nat) (e : Ending) : Prop := match o with
  | some n => e = .returned (.tuple #[.int .u64 n, .nilIface])
  | none => ∃ (x : Int) (t : TypeId) (p : Value), e = .returned (.tuple #[.int .u64 x, .iface t p])
theorem parse8_calls (t : ByteArray) (hmax : t.size ≤ 1048576) (w : World) (hv : VarsP w) :
    Calls Tryz.prog 96 #[.string t, .int .i64 10, .int .i64 8] w fun e w' => P8 (p8 t.data.toList) e ∧ Chg [] w w' := by
  unfold p8
  cases h : Lib.parseUintB 8 t.data.toList
  · rename_i u
    refine (Tryz.strconv_ParseUint_10_at8_ok t (by omega) u h w).mono ?_
    rintro e w' ⟨rfl, rfl | rfl⟩
    · exact ⟨rfl, Chg.refl _ _⟩
    · exact ⟨rfl, chg_bytes _ _ _⟩
  · obtain ⟨te, pe, he⟩ := hv.es
    refine (Any.strconv_ParseUint_10_at8_syntax Tryz.laysPu14 t (by omega) h _ w he (.inr ⟨_, _, rfl⟩)).mono ?_
    rintro e w' ⟨N, rfl, _, _, hb⟩
    exact ⟨⟨_, _, _, rfl⟩, Chg.of_below hb _⟩
  · obtain ⟨te, pe, he⟩ := hv.er
    refine (Tryz.strconv_ParseUint_10_at8_range t (by omega) h _ w he (.inr ⟨_, _, rfl⟩)).mono ?_
    rintro e w' ⟨N, rfl, _, _, hb⟩
    exact ⟨⟨_, _, _, rfl⟩, Chg.of_below hb _⟩

set_option maxHeartbeats 4000000 in
set_option maxRecDepth 100000 in
theorem register_calls (L : List UInt8) (hL : L.length ≤ 1048576) (w : World) (hv : VarsP w) :
    Calls Tryz.prog 74 #[.string (bA L)] w fun e w' => e = .returned (.int .i64 (regL L)) ∧ Chg [] w w' := by
  have HP := hid fun d (hd : d.length ≤ 1048576) => parse8_calls (bA d) (by rw [bA_size]; exact hd) w hv
  have HI := hid fun (n : Nat) (hn : n < 16) W (hc : Chg [] w W) => itoaI_calls n (by omega) (by omega) W (hv.keep hc)
  have HX := hid fun W => Tryz.strings_CutPrefix (bA L) ⟨#[114]⟩ W
  rcases pre_r L with ⟨d, rfl, hp, ht⟩ | ⟨hn, hp, ht⟩
  · have hd : d.length ≤ 1048576 := by simp only [List.length_cons] at hL; omega
    have HPD := hid (HP.out d hd)
    have HC : Hid (∀ W, Calls Tryz.prog 95 #[.string (bA (114 :: d)), .string ⟨#[114]⟩] W fun e w' => e = .returned (.tuple #[.string (bA d), .bool true]) ∧ w' = W) := hid (fun W => by
      have h := HX.out W
      rw [show (bA (114 :: d)).data.toList = 114 :: d from rfl, show (⟨#[114]⟩ : ByteArray).data.toList = [114] from rfl, hp, ht] at h
      exact h)
    clear HX HP hp ht hL hd
    rw [show (bA d).data.toList = d from rfl] at HPD
    cases h8 : p8 d with
    | none =>
      have HO := hid (reg_p8 h8)
      rw [h8] at HPD
      clear h8
      go_enter Tryz.func74, Tryz.ntmps74
      go_wp2_with (first
        | (go_at_call 95; refine (HC.out _).mono ?_; rintro e w' ⟨rfl, rfl⟩)
        | (go_at_call 96; refine HPD.out.mono ?_; rintro e w1 ⟨⟨x, t, p, rfl⟩, hc1⟩))
      go_ret
      exact ⟨by rw [HO.out]; rfl, hc1⟩
    | some u =>
      rw [h8] at HPD
      by_cases hu : u < 16
      · have hdec := by
          have := reg_at u hu
          exact this
        by_cases hde : Lib.decDigits u = d
        · have HO : Hid (regL (114 :: d) = u) := hid (by rw [← hde]; exact reg_at u hu)
          have hb : ((bA (Lib.itoa (u : Int))).toList == (bA d).toList) = true := by
            rw [Lib.itoa_nonneg, bA_toList, bA_toList, hde]; simp
          have h16 : decide ((16 : Int) ≤ (u : Int)) = false := decide_eq_false (by omega)
          clear h8 hde hdec
          go_enter Tryz.func74, Tryz.ntmps74
          go_wp2_with (first
            | (go_at_call 95; refine (HC.out _).mono ?_; rintro e w' ⟨rfl, rfl⟩)
            | (go_at_call 96; refine HPD.out.mono ?_; rintro e w1 ⟨he, hc1⟩; obtain rfl : e = .returned (.tuple #[.int .u64 u, .nilIface]) := he)
            | (go_at_call 28; refine (HI.out u hu _ hc1).mono ?_; rintro e w2 ⟨rfl, hc2⟩))
          go_ret
          exact ⟨by rw [HO.out]; rfl, hc1.trans' hc2⟩
        · have HO := hid (reg_odd h8 hde)
          have hb : ((bA (Lib.itoa (u : Int))).toList == (bA d).toList) = false := by
            rw [Lib.itoa_nonneg, bA_toList, bA_toList]; simpa using hde
          have h16 : decide ((16 : Int) ≤ (u : Int)) = false := decide_eq_false (by omega)
          clear h8 hde hdec
          go_enter Tryz.func74, Tryz.ntmps74
          go_wp2_with (first
            | (go_at_call 95; refine (HC.out _).mono ?_; rintro e w' ⟨rfl, rfl⟩)
            | (go_at_call 96; refine HPD.out.mono ?_; rintro e w1 ⟨he, hc1⟩; obtain rfl : e = .returned (.tuple #[.int .u64 u, .nilIface]) := he)
            | (go_at_call 28; refine (HI.out u hu _ hc1).mono ?_; rintro e w2 ⟨rfl, hc2⟩))
          go_ret
          exact ⟨by rw [HO.out]; rfl, hc1.trans' hc2⟩
      · have HO := hid (reg_big h8 hu)
        clear h8
        go_enter Tryz.func74, Tryz.ntmps74
        go_wp2_with (first
          | (go_at_call 95; refine (HC.out _).mono ?_; rintro e w' ⟨rfl, rfl⟩)
          | (go_at_call 96; refine HPD.out.mono ?_; rintro e w1 ⟨he, hc1⟩; obtain rfl : e = .returned (.tuple #[.int .u64 u, .nilIface]) := he))
        go_ret
        exact ⟨by rw [HO.out]; rfl, hc1⟩
  · have HO := hid (reg_none (s := L) fun v hv => hn _)
    have HPD := hid (HP.out L hL)
    have HC : Hid (∀ W, Calls Tryz.prog 95 #[.string (bA L), .string ⟨#[114]⟩] W fun e w' => e = .returned (.tuple #[.string (bA L), .bool false]) ∧ w' = W) := hid (fun W => by
      have h := HX.out W
      rw [show (bA L).data.toList = L from rfl, show (⟨#[114]⟩ : ByteArray).data.toList = [114] from rfl, hp, ht] at h
      exact h)
    have HPE : Hid (Calls Tryz.prog 96 #[.string (bA L), .int .i64 10, .int .i64 8] w fun e w' => ∃ x v, e = .returned (.tuple #[.int .u64 x, v]) ∧ Chg [] w w') := hid (HPD.out.mono (by
      rintro e w' ⟨he, hc⟩
      cases h8 : p8 (bA L).data.toList with
      | none => rw [h8] at he; obtain ⟨x, t, p, rfl⟩ := he; exact ⟨_, _, rfl, hc⟩
      | some u => rw [h8] at he; exact ⟨_, _, he, hc⟩))
    clear HX HP HPD hp ht hL hn
    go_enter Tryz.func74, Tryz.ntmps74
    go_wp2_with (first
      | (go_at_call 95; refine (HC.out _).mono ?_; rintro e w' ⟨rfl, rfl⟩)
      | (go_at_call 96; refine HPE.out.mono ?_; rintro e w1 ⟨x, v, rfl, hc1⟩))
    go_ret
    exact ⟨by rw [HO.out]; rfl, hc1⟩
end Go.Proofs.YtmahcabidggmeaaGreatDoor

/- Names' bytes. (Out of XOa.) -/
set_option linter.unusedVariables false
set_option linter.unusedSectionVars false
set_option linter.unusedSimpArgs false
namespace Go.Proofs.YtmahcabidggmeaaGreatDoor
open Go.RowKit Go.AB
set_option linter.unusedSimpArgs false
set_option linter.unusedVariables false
set_option linter.unusedSectionVars false

theorem nameB_iff (s : ByteArray) : nameB s = true ↔ ∃ h : 0 < s.size, s.size ≤ 24 ∧ isLett s[0] = true ∧ ∀ k (h : k < s.size), isNameC s[k] = true := by
  obtain ⟨L, hL⟩ : ∃ L, s.data.toList = L := ⟨_, rfl⟩
  have hsz : L.length = s.size := by rw [← hL, Array.length_toList]; rfl
  have hg : ∀ k (h : k < s.size) (h2 : k < L.length), s[k] = L[k] := fun k h h2 => by subst hL; rfl
  unfold nameB
  rw [hL]
  clear hL
  cases L with
  | nil =>
    simp only [List.length_nil] at hsz
    simp only [nameL, Bool.false_eq_true, false_iff]
    rintro ⟨h, _⟩
    omega
  | cons c r =>
    simp only [List.length_cons] at hsz
    have h0 : s[0]'(by omega) = c := hg 0 (by omega) (by simp)
    simp only [nameL, Bool.and_eq_true, decide_eq_true_eq, List.all_eq_true]
    constructor
    · rintro ⟨⟨h1, h2⟩, h3⟩
      refine ⟨by omega, by omega, by rw [h0]; exact h2, fun k hk => ?_⟩
      rw [hg k hk (by simp; omega)]
      cases k with
      | zero => simp only [List.getElem_cons_zero]; simp [isNameC, h2]
      | succ k => simp only [List.getElem_cons_succ]; exact h3 _ (List.getElem_mem _)
    · rintro ⟨h, h1, h2, h3⟩
      rw [h0] at h2
      refine ⟨⟨by omega, h2⟩, fun x hx => ?_⟩
      obtain ⟨k, hk, rfl⟩ := List.mem_iff_getElem.1 hx
      have := h3 (k + 1) (by omega)
      rwa [hg (k + 1) (by omega) (by simp; omega)] at this

theorem isEmpty_size {s : ByteArray} : s.toList.isEmpty = decide (s.size = 0) := by
  have h : (s.toList == (ByteArray.mk #[]).toList) = decide (s.size = 0) := by
    rw [← beq_toListBytes, ba_beq]
    by_cases h : s.size = 0
    · have e : s = ⟨#[]⟩ := by
        cases s with | mk x =>
        have : x.size = 0 := h
        rw [Array.eq_empty_of_size_eq_zero this]
      rw [decide_eq_true h, decide_eq_true e]
    · have e : ¬ s = ⟨#[]⟩ := fun e => h (by rw [e]; rfl)
      rw [decide_eq_false h, decide_eq_false e]
  have h2 : (ByteArray.mk #[]).toList = [] := by simp
  rw [← h, h2]
  cases s.toList <;> rfl
theorem nameC_ways (x : UInt8) (h2 : isLett x = false) : (isNameC x = true ∧ ((x.toNat : Int) != 95) = false) ∨ (isNameC x = true ∧ ((x.toNat : Int) != 95) = true ∧ decide ((x.toNat : Int) < 48) = false ∧ decide ((57 : Int) < (x.toNat : Int)) = false) ∨
    (isNameC x = false ∧ ((x.toNat : Int) != 95) = true ∧ decide ((x.toNat : Int) < 48) = true) ∨ (isNameC x = false ∧ ((x.toNat : Int) != 95) = true ∧ decide ((x.toNat : Int) < 48) = false ∧ decide ((57 : Int) < (x.toNat : Int)) = true) := by
  have h : isNameC x = (decide (x.toNat = 95) || (decide (48 ≤ x.toNat) && decide (x.toNat ≤ 57))) := by unfold isNameC; rw [h2]; rfl
  rw [h]
  generalize x.toNat = n
  by_cases h1 : n = 95
  · left; simp [h1]
  · have e1 : ((n : Int) != 95) = true := by simp; omega
    by_cases h3 : n < 48
    · right; right; left
      exact ⟨by simp; omega, e1, by simp; omega⟩
    · by_cases h4 : n ≤ 57
      · right; left
        exact ⟨by simp; omega, e1, by simp; omega, by simp; omega⟩
      · right; right; right
        exact ⟨by simp; omega, e1, by simp; omega, by simp; omega⟩
theorem nameB_no {s : ByteArray} {k : Nat} (h : k < s.size) (h2 : isNameC s[k] = false) : nameB s = false := by
  rw [← Bool.not_eq_true, nameB_iff]
  rintro ⟨_, _, _, h3⟩
  rw [h3 k h] at h2
  cases h2
theorem nameB_head {s : ByteArray} (h : 0 < s.size) (h2 : isLett s[0] = false) : nameB s = false := by
  rw [← Bool.not_eq_true, nameB_iff]
  rintro ⟨_, _, h3, _⟩
  rw [h3] at h2
  cases h2
theorem nameB_long {s : ByteArray} (h : ¬ s.size ≤ 24) : nameB s = false := by
  rw [← Bool.not_eq_true, nameB_iff]
  rintro ⟨_, h3, _⟩
  exact h h3
theorem nameB_empty {s : ByteArray} (h : ¬ 0 < s.size) : nameB s = false := by
  rw [← Bool.not_eq_true, nameB_iff]
  rintro ⟨h3, _⟩
  exact h h3
/-- Are the first bytes right? -/
def NmTo (s : ByteArray) (k : Nat) : Prop := ∀ j (h : j < s.size), j < k → isNameC s[j] = true
theorem NmTo.succ {s : ByteArray} {k : Nat} (h : NmTo s k) (hk : k < s.size) (hx : isNameC s[k] = true) : NmTo s (k + 1) := fun j hj hlt => by
  by_cases e : j = k
  · subst e; exact hx
  · exact h j hj (by omega)

end Go.Proofs.YtmahcabidggmeaaGreatDoor

/- Walks of the parser: words, names. -/
set_option linter.unusedVariables false
set_option linter.unusedSectionVars false
set_option linter.unusedSimpArgs false
namespace Go.Proofs.YtmahcabidggmeaaGreatDoor
open Go.RowKit Go.AB
set_option linter.unusedSimpArgs false
set_option linter.unusedVariables false
set_option linter.unusedSectionVars false

theorem starts_calls (w : World) : Calls Tryz.prog 44 #[] w fun e w' => ∃ b, e = .returned (.slice (some ⟨b, 0, none⟩) 6 6) ∧ (∀ j, j < startsL.length → w'.cell? ⟨b, 0 + j, none⟩ = some (.string (startsL.getD j ByteArray.empty))) ∧ Chg [] w w' := by
  have hc := (Chg.refl [] w).alloc (.cells #[.string ⟨#[]⟩, .string ⟨#[118, 97, 114]⟩, .string ⟨#[118, 111, 108]⟩, .string ⟨#[109, 117, 116, 101, 120]⟩, .string ⟨#[103, 97, 116, 101]⟩, .string ⟨#[116, 104, 114, 101, 97, 100]⟩] 9)
  have hb := heap_alloc_new w (.cells #[.string ⟨#[]⟩, .string ⟨#[118, 97, 114]⟩, .string ⟨#[118, 111, 108]⟩, .string ⟨#[109, 117, 116, 101, 120]⟩, .string ⟨#[103, 97, 116, 101]⟩, .string ⟨#[116, 104, 114, 101, 97, 100]⟩] 9)
  have HB := hid hb
  clear hb
  go_enter Tryz.func44, Tryz.ntmps44
  go_wp2
  go_ret
  refine ⟨_, rfl, fun j hj => ?_, hc⟩
  rw [Nat.zero_add, blk_cell HB.out]
  have : j = 0 ∨ j = 1 ∨ j = 2 ∨ j = 3 ∨ j = 4 ∨ j = 5 := by simp only [startsL, kindTab, List.length_cons, List.length_map, List.length_nil] at hj; omega
  rcases this with rfl | rfl | rfl | rfl | rfl | rfl <;> rfl
theorem bA_emp {L : List UInt8} (h : L ≠ []) : (bA L).toList.isEmpty = false := by
  rw [bA_toList]
  cases L with
  | nil => exact absurd rfl h
  | cons c r => rfl
theorem wordL_nil : wordL [] = false := by decide +kernel
set_option maxHeartbeats 4000000 in
set_option maxRecDepth 100000 in
theorem word_calls (L : List UInt8) (hL : L.length ≤ 1048576) (w : World) (hv : VarsP w) :
    Calls Tryz.prog 77 #[.string (bA L)] w fun e w' => e = .returned (.bool (wordL L)) ∧ Chg [] w w' := by
  by_cases h0 : L = []
  · subst h0
    have he : (bA []).toList.isEmpty = true := by rw [bA_toList]; rfl
    rw [wordL_nil]
    go_enter Tryz.func77, Tryz.ntmps77
    go_wp2
    go_ret
    exact ⟨rfl, Chg.refl _ _⟩
  have he := bA_emp h0
  have HO := hid fun W => op_calls (bA L) W
  rw [show (bA L).data.toList = L from rfl] at HO
  have HR := hid fun W (hc : Chg [] w W) => register_calls L hL W (hv.keep hc)
  have hw : wordL L = (decide (opL L ≠ 0) || decide (0 ≤ regL L) || decide (kindL L ≠ 0)) := rfl
  have hk := starts_mem h0
  have HC := hid fun (b : Nat) W hcells => Tryz.slices_Contains_string b 0 6 6 startsL (bA L) W (by decide) (by omega) hcells
  rw [hk] at HC
  obtain ⟨n, hn⟩ : ∃ n, opL L = n := ⟨_, rfl⟩
  obtain ⟨r, hr⟩ : ∃ r, regL L = r := ⟨_, rfl⟩
  obtain ⟨kb, hkb⟩ : ∃ kb, decide (kindL L ≠ 0) = kb := ⟨_, rfl⟩
  rw [hw, hn, hr, hkb]
  rw [hn] at HO
  rw [hr] at HR
  rw [hkb] at HC
  clear hn hr hkb hk hw hL hv h0
  by_cases h1 : n = 0
  · subst h1
    by_cases h2 : 0 ≤ r
    · have t2 : decide (0 ≤ r) = true := decide_eq_true h2
      rw [t2]
      go_enter Tryz.func77, Tryz.ntmps77
      go_wp2_with (first
        | (go_at_call 42; refine (HO.out _).mono ?_; rintro e w1 ⟨rfl, hc1⟩)
        | (go_at_call 74; refine (HR.out _ hc1).mono ?_; rintro e w2 ⟨rfl, hc2⟩))
      go_ret
      exact ⟨ret_bool (by simp), hc1.trans' hc2⟩
    · have t2 : decide (0 ≤ r) = false := decide_eq_false h2
      rw [t2]
      go_enter Tryz.func77, Tryz.ntmps77
      go_wp2_with (first
        | (go_at_call 42; refine (HO.out _).mono ?_; rintro e w1 ⟨rfl, hc1⟩)
        | (go_at_call 74; refine (HR.out _ hc1).mono ?_; rintro e w2 ⟨rfl, hc2⟩)
        | (go_at_call 44; refine (starts_calls _).mono ?_; rintro e w3 ⟨b, rfl, hcl, hc3⟩)
        | (go_at_call 97; refine (HC.out _ _ hcl).mono ?_; rintro e w4 ⟨rfl, rfl⟩))
      go_ret
      exact ⟨ret_bool (by simp), (hc1.trans' hc2).trans' hc3⟩
  · have t1 : ((n : Int) == 0) = false := by simp; omega
    rw [show decide (n ≠ 0) = true from decide_eq_true h1]
    go_enter Tryz.func77, Tryz.ntmps77
    go_wp2_with (first
      | (go_at_call 42; refine (HO.out _).mono ?_; rintro e w1 ⟨rfl, hc1⟩))
    go_ret
    exact ⟨ret_bool (by simp [t1]), hc1⟩
theorem nameP_eq (L : List UInt8) : nameP L = (nameB (bA L) && !wordL L) := rfl
theorem or_ways (x : UInt8) : ∃ y : Int, bits .or .u8 (x.toNat : Int) 32 = y ∧ ((isLett x = true ∧ decide ((97 : Int) ≤ y) = true ∧ decide (y ≤ 122) = true) ∨ (isLett x = false ∧ decide ((97 : Int) ≤ y) = false) ∨ (isLett x = false ∧ decide ((97 : Int) ≤ y) = true ∧ decide (y ≤ 122) = false)) := by
  have h := x.toNat_lt
  refine ⟨_, or32 x.toNat h, ?_⟩
  have h2 := lett_or x.toNat h
  have h3 : isLett x = lettB x.toNat := rfl
  rw [h3]
  revert h2
  generalize (x.toNat ||| 32) = y
  generalize lettB x.toNat = b
  intro h2
  by_cases h4 : 97 ≤ y
  · by_cases h5 : y ≤ 122
    · have h6 := h2.1 ⟨h4, h5⟩
      exact .inl ⟨h6, decide_eq_true (by omega), decide_eq_true (by omega)⟩
    · exact .inr (.inr ⟨by cases b; rfl; exact absurd (h2.2 rfl).2 h5, decide_eq_true (by omega), decide_eq_false (by omega)⟩)
  · exact .inr (.inl ⟨by cases b; rfl; exact absurd (h2.2 rfl).1 h4, decide_eq_false (by omega)⟩)

set_option maxHeartbeats 4000000 in
set_option maxRecDepth 100000 in
theorem name_calls (L : List UInt8) (hL : L.length ≤ 1048576) (w : World) (hv : VarsP w) :
    Calls Tryz.prog 50 #[.string (bA L)] w fun e w' => e = .returned (.bool (nameP L)) ∧ Chg [] w w' := by
  have HW := hid (word_calls L hL w hv)
  have hsz : (bA L).size = L.length := bA_size L
  rw [nameP_eq]
  obtain ⟨s, hs⟩ : ∃ s, bA L = s := ⟨_, rfl⟩
  obtain ⟨wb, hwb⟩ : ∃ wb, wordL L = wb := ⟨_, rfl⟩
  rw [hs, hwb] at HW ⊢
  rw [hs] at hsz
  have hs1 : s.size ≤ 1048576 := by omega
  have he := isEmpty_size (s := s)
  clear hs hwb hsz hv hL
  by_cases h0 : 0 < s.size
  · rw [decide_eq_false (by omega)] at he
    by_cases h24 : s.size ≤ 24
    · have hg : decide (24 < (s.size : Int)) = false := decide_eq_false (by omega)
      cases wb with
      | true =>
        rw [show (nameB s && !true) = false from by simp]
        go_enter Tryz.func50, Tryz.ntmps50
        go_wp2_with (go_at_call 77; refine HW.out.mono ?_; rintro e w' ⟨rfl, hc⟩)
        go_ret
        exact ⟨rfl, hc⟩
      | false =>
        rw [show (nameB s && !false) = nameB s from by simp]
        go_enter Tryz.func50, Tryz.ntmps50
        go_wp2_with (go_at_call 77; refine HW.out.mono ?_; rintro e w1 ⟨rfl, hc1⟩)
        go_loopw [19] (fun i wr => ∃ k : Nat, k ≤ s.size ∧ i = .int .i64 k ∧ wr = w1 ∧ Hid (NmTo s k ∧ (0 < k → isLett s[0] = true))) (fun i _ => s.size - (intOf i).toNat)
        case atStart => exact ⟨0, by omega, rfl, rfl, hid ⟨fun j _ h => by omega, fun h => by omega⟩⟩
        case round =>
          obtain ⟨k, hk, rfl, hw, HB⟩ := hrel
          subst hw
          by_cases hlt : k < s.size
          · obtain ⟨y, hy, hways⟩ := or_ways (s[k])
            rcases hways with ⟨hl, t1, t2⟩ | hways
            · have HN : Hid (NmTo s (k + 1) ∧ (0 < k + 1 → isLett s[0] = true)) := hid ⟨HB.out.1.succ hlt (by unfold isNameC; rw [hl]; rfl), fun _ => by
                by_cases e : k = 0
                · subst e; exact hl
                · exact HB.out.2 (by omega)⟩
              clear hl
              go_wp2
              go_roundw
              case rel => exact ⟨k + 1, by omega, by go_num, by trivial, HN⟩
              case measure => simp [intOf]; omega
            · have hl : isLett s[k] = false := by rcases hways with h | h <;> exact h.1
              by_cases hk0 : k = 0
              · subst hk0
                have HN := hid (nameB_head h0 hl)
                clear hl
                rcases hways with ⟨_, t1⟩ | ⟨_, t1, t2⟩
                · go_wp2
                  go_ret
                  exact ⟨ret_bool HN.out.symm, hc1⟩
                · go_wp2
                  go_ret
                  exact ⟨ret_bool HN.out.symm, hc1⟩
              · have t0 : ((k : Int) == 0) = false := by simp; omega
                have hways2 := nameC_ways (s[k]) hl
                clear hl
                rcases hways2 with ⟨hn, t3⟩ | ⟨hn, t3, t4, t5⟩ | ⟨hn, t3, t4⟩ | ⟨hn, t3, t4, t5⟩
                · have HN : Hid (NmTo s (k + 1) ∧ (0 < k + 1 → isLett s[0] = true)) := hid ⟨HB.out.1.succ hlt hn, fun _ => HB.out.2 (by omega)⟩
                  clear hn
                  rcases hways with ⟨_, t1⟩ | ⟨_, t1, t2⟩
                  all_goals
                    go_wp2
                    go_roundw
                    case rel => exact ⟨k + 1, by omega, by go_num, by trivial, HN⟩
                    case measure => simp [intOf]; omega
                · have HN : Hid (NmTo s (k + 1) ∧ (0 < k + 1 → isLett s[0] = true)) := hid ⟨HB.out.1.succ hlt hn, fun _ => HB.out.2 (by omega)⟩
                  clear hn
                  rcases hways with ⟨_, t1⟩ | ⟨_, t1, t2⟩
                  all_goals
                    go_wp2
                    go_roundw
                    case rel => exact ⟨k + 1, by omega, by go_num, by trivial, HN⟩
                    case measure => simp [intOf]; omega
                · have HN := hid (nameB_no hlt hn)
                  clear hn
                  rcases hways with ⟨_, t1⟩ | ⟨_, t1, t2⟩
                  all_goals
                    go_wp2
                    go_ret
                    exact ⟨ret_bool HN.out.symm, hc1⟩
                · have HN := hid (nameB_no hlt hn)
                  clear hn
                  rcases hways with ⟨_, t1⟩ | ⟨_, t1, t2⟩
                  all_goals
                    go_wp2
                    go_ret
                    exact ⟨ret_bool HN.out.symm, hc1⟩
          · have HN : Hid (nameB s = true) := hid ((nameB_iff s).2 ⟨h0, h24, HB.out.2 (by omega), fun j hj => HB.out.1 j hj (by omega)⟩)
            go_wp2
            go_ret
            exact ⟨ret_bool HN.out.symm, hc1⟩
    · have hg : decide (24 < (s.size : Int)) = true := decide_eq_true (by omega)
      rw [nameB_long h24]
      go_enter Tryz.func50, Tryz.ntmps50
      go_wp2
      go_ret
      exact ⟨rfl, Chg.refl _ _⟩
  · rw [decide_eq_true (by omega)] at he
    rw [nameB_empty h0]
    go_enter Tryz.func50, Tryz.ntmps50
    go_wp2
    go_ret
    exact ⟨rfl, Chg.refl _ _⟩
end Go.Proofs.YtmahcabidggmeaaGreatDoor

/- Walks of the parser: the reader's small steps. -/
set_option linter.unusedVariables false
set_option linter.unusedSectionVars false
set_option linter.unusedSimpArgs false
namespace Go.Proofs.YtmahcabidggmeaaGreatDoor
open Go.RowKit Go.AB
set_option linter.unusedSimpArgs false
set_option linter.unusedVariables false
set_option linter.unusedSectionVars false

section
variable {w0 w : World} {b : Nat} {t : Tok} {r : List Tok} {ds : List DcD} {q : RQ} {m : Nat} {X : List It}
theorem field_place (t : Tok) (W : World) : (Instr.field 63 (.agg #[.int .i64 t.kind, .string (bA t.text), .int .i64 t.num, .int .i64 t.line, .int .i64 t.col]) 3).run Tryz.prog W = .ok (.agg #[.int .i64 t.line, .int .i64 t.col]) W := by
  have h1 : (Instr.field 63 (.agg #[.int .i64 t.kind, .string (bA t.text), .int .i64 t.num, .int .i64 t.line, .int .i64 t.col]) 3).run Tryz.prog W = .ok (.agg #[.int .i64 t.line, .int .i64 t.col]) W := by kernel_rfl
  exact h1
theorem field_kind (t : Tok) (W : World) : (Instr.field 63 (.agg #[.int .i64 t.kind, .string (bA t.text), .int .i64 t.num, .int .i64 t.line, .int .i64 t.col]) 0).run Tryz.prog W = .ok (.int .i64 t.kind) W := by
  have h1 : (Instr.field 63 (.agg #[.int .i64 t.kind, .string (bA t.text), .int .i64 t.num, .int .i64 t.line, .int .i64 t.col]) 0).run Tryz.prog W = .ok (.int .i64 t.kind) W := by kernel_rfl
  exact h1
theorem field_text (t : Tok) (W : World) : (Instr.field 63 (.agg #[.int .i64 t.kind, .string (bA t.text), .int .i64 t.num, .int .i64 t.line, .int .i64 t.col]) 1).run Tryz.prog W = .ok (.string (bA t.text)) W := by
  have h1 : (Instr.field 63 (.agg #[.int .i64 t.kind, .string (bA t.text), .int .i64 t.num, .int .i64 t.line, .int .i64 t.col]) 1).run Tryz.prog W = .ok (.string (bA t.text)) W := by kernel_rfl
  exact h1
theorem field_num (t : Tok) (W : World) : (Instr.field 63 (.agg #[.int .i64 t.kind, .string (bA t.text), .int .i64 t.num, .int .i64 t.line, .int .i64 t.col]) 2).run Tryz.prog W = .ok (.int .i64 t.num) W := by
  have h1 : (Instr.field 63 (.agg #[.int .i64 t.kind, .string (bA t.text), .int .i64 t.num, .int .i64 t.line, .int .i64 t.col]) 2).run Tryz.prog W = .ok (.int .i64 t.num) W := by kernel_rfl
  exact h1
theorem nameT_cons (t : Tok) (r : List Tok) : nameT (t :: r) = if freeB t = false then .error (fltAt 82 t) else if 24 < t.text.length then .error (fltAt 84 t) else .ok (t, r) := rfl
set_option maxHeartbeats 2000000 in
set_option maxRecDepth 100000 in
theorem here_calls (h : RS w0 w b (t :: r) ds q m X) : Calls Tryz.prog 21 #[.pointer (some ⟨b, 0, none⟩)] w fun e w' => e = .returned (.agg #[.int .i64 t.kind, .string (bA t.text), .int .i64 t.num, .int .i64 t.line, .int .i64 t.col]) ∧ Chg [] w w' := by
  have c0 := h.c0
  obtain ⟨d0, d1, d2, d3, d4⟩ := h.head
  have hb := h.lt
  have ht := World.block_lt_of_cell? w _ d0
  simp only at ht
  obtain ⟨n, hn⟩ : ∃ n, (t :: r).length = n := ⟨_, rfl⟩
  have h0 : 0 < n := by rw [← hn]; simp
  rw [hn] at c0
  have d1' : w.cell? ⟨q.tb, q.off + 1, none⟩ = some (.string (bA t.text)) := d1
  have hc := (Chg.refl [] w)
  clear hn h d1
  go_enter Tryz.func21, Tryz.ntmps21
  go_wp2
  exact bodyPost_ret (v := .agg #[.int .i64 t.kind, .string (bA t.text), .int .i64 t.num, .int .i64 t.line, .int .i64 t.col]) (by simp [results, Tryz.results21, go_sem]) rfl ⟨rfl, hc.alloc _⟩
set_option maxHeartbeats 2000000 in
set_option maxRecDepth 100000 in
theorem fail_calls (h : RS w0 w b (t :: r) ds q m X) (c : Int) : Calls Tryz.prog 46 #[.pointer (some ⟨b, 0, none⟩), .int .i64 c] w (badP w0 (fltAt c t)) := by
  have H := hid (here_calls h)
  have HC := hid h.hp.chg
  have hf := field_place t
  clear h
  go_enter Tryz.func46, Tryz.ntmps46
  go_wp2_with (go_at_call 21; refine H.out.mono ?_; rintro e w' ⟨rfl, hc⟩)
  exact ⟨rfl, rfl, HC.out.trans' hc⟩
set_option maxHeartbeats 4000000 in
set_option maxRecDepth 100000 in
theorem take_ok (h : RS w0 w b (t :: r) ds q m X) (k : Int) (hk : (t.kind : Int) = k) (h7 : t.kind ≠ 7) : Calls Tryz.prog 22 #[.pointer (some ⟨b, 0, none⟩), .int .i64 k] w fun e w' =>
    e = .returned (.agg #[.int .i64 t.kind, .string (bA t.text), .int .i64 t.num, .int .i64 t.line, .int .i64 t.col]) ∧ RS w0 w' b r ds q.next (m - 1) X ∧ 0 < m := by
  subst hk
  have hca := (Chg.refl [] w).alloc (.cells #[.int .i64 0, .string ⟨#[]⟩, .int .i64 0, .int .i64 0, .int .i64 0] 63)
  have hba := heap_alloc_new w (.cells #[.int .i64 0, .string ⟨#[]⟩, .int .i64 0, .int .i64 0, .int .i64 0] 63)
  have hz := h.same hca
  have H := hid (here_calls hz)
  have HR := hid h
  have hbl := h.lt
  have HL := h.len
  simp only [List.length_cons] at HL
  have HA := hid (And.intro hca (And.intro hba hz))
  clear hz h hca hba
  go_enter Tryz.func22, Tryz.ntmps22
  go_wp2_with (go_at_call 21; refine H.out.mono ?_; rintro e w1 ⟨rfl, hc⟩; refine halt (fun X hX => ?_))
  have h1 := HA.out.2.2.same hc
  have c0 := h1.c0
  have b0 := hc.heap HA.out.2.1 (by simp)
  have fr := blk_free b0
  have cc := blk_cell b0
  have hb1 := h1.lt
  have hf1 := h1.fr 0
  have hw1 := blk_lt b0
  have hne : b ≠ w.heap.size := by omega
  simp only [List.length_cons] at c0
  obtain ⟨n, hn⟩ : ∃ n, r.length = n := ⟨_, rfl⟩
  rw [hn] at c0 HL
  have hn1 : 1 ≤ n := by
    rw [← hn]
    exact List.length_pos_iff.2 (HR.out.e7.tail h7).ne
  have htc : ¬ q.tc = 1 := by omega
  have htd : ¬ q.tc - 1 = 0 := by omega
  have HN := hid hn
  have HH := hid (And.intro h1 (And.intro hc b0))
  clear hn b0 h1 hc
  rw [hX.out]; clear hX
  go_wp2
  obtain ⟨h1, hc, b0⟩ := HH.out
  have g0 : ((((((w1.setCell ⟨b, 0, none⟩ (.slice (some ⟨q.tb, q.off + 5, none⟩) n (q.tc - 1))).setCell ⟨w.heap.size, 0, none⟩ (.int .i64 t.kind)).setCell ⟨w.heap.size, 1, none⟩ (.string (bA t.text))).setCell ⟨w.heap.size, 2, none⟩ (.int .i64 t.num)).setCell ⟨w.heap.size, 3, none⟩ (.int .i64 t.line)).setCell ⟨w.heap.size, 4, none⟩ (.int .i64 t.col)).heap[b]? = some (.cells #[.slice (some ⟨q.tb, q.off + 5, none⟩) n (q.tc - 1), .slice q.a0 ds.length q.c0, .slice q.a1 q.bs.length q.c1] 69 (0, 0)) := by
    rw [blk_set_other hne, blk_set_other hne, blk_set_other hne, blk_set_other hne, blk_set_other hne, blk_set h1.blk 0]
    rfl
  have g1 := blk_set (blk_set (blk_set (blk_set (blk_set ((blk_set_other (b := b) (c := w.heap.size) (by omega) 0 (.slice (some ⟨q.tb, q.off + 5, none⟩) n (q.tc - 1))).trans b0) 0 (.int .i64 t.kind)) 1 (.string (bA t.text))) 2 (.int .i64 t.num)) 3 (.int .i64 t.line)) 4 (.int .i64 t.col)
  have g2 : Chg [b] w ((((((w1.setCell ⟨b, 0, none⟩ (.slice (some ⟨q.tb, q.off + 5, none⟩) n (q.tc - 1))).setCell ⟨w.heap.size, 0, none⟩ (.int .i64 t.kind)).setCell ⟨w.heap.size, 1, none⟩ (.string (bA t.text))).setCell ⟨w.heap.size, 2, none⟩ (.int .i64 t.num)).setCell ⟨w.heap.size, 3, none⟩ (.int .i64 t.line)).setCell ⟨w.heap.size, 4, none⟩ (.int .i64 t.col)) :=
    ((((((HA.out.1.trans' hc).nil.setCell (p := ⟨b, 0, none⟩) (.inl (by simp)) _).setCell (p := ⟨w.heap.size, 0, none⟩) (.inr (Nat.le_refl _)) _).setCell (p := ⟨w.heap.size, 1, none⟩) (.inr (Nat.le_refl _)) _).setCell (p := ⟨w.heap.size, 2, none⟩) (.inr (Nat.le_refl _)) _).setCell (p := ⟨w.heap.size, 3, none⟩) (.inr (Nat.le_refl _)) _).setCell (p := ⟨w.heap.size, 4, none⟩) (.inr (Nat.le_refl _)) _
  generalize ((((((w1.setCell ⟨b, 0, none⟩ (.slice (some ⟨q.tb, q.off + 5, none⟩) n (q.tc - 1))).setCell ⟨w.heap.size, 0, none⟩ (.int .i64 t.kind)).setCell ⟨w.heap.size, 1, none⟩ (.string (bA t.text))).setCell ⟨w.heap.size, 2, none⟩ (.int .i64 t.num)).setCell ⟨w.heap.size, 3, none⟩ (.int .i64 t.line)).setCell ⟨w.heap.size, 4, none⟩ (.int .i64 t.col)) = W at g0 g1 g2 ⊢
  have g3 : ∀ o, (W.alloc o).heap[w.heap.size]? = _ := fun o => blk_alloc_old g1 o
  have u0 : ∀ o, (W.alloc o).cell? ⟨w.heap.size, 0, none⟩ = some (.int .i64 t.kind) := fun o => blk_cell (g3 o) 0
  have u1 : ∀ o, (W.alloc o).cell? ⟨w.heap.size, 1, none⟩ = some (.string (bA t.text)) := fun o => blk_cell (g3 o) 1
  have u2 : ∀ o, (W.alloc o).cell? ⟨w.heap.size, 2, none⟩ = some (.int .i64 t.num) := fun o => blk_cell (g3 o) 2
  have u3 : ∀ o, (W.alloc o).cell? ⟨w.heap.size, 3, none⟩ = some (.int .i64 t.line) := fun o => blk_cell (g3 o) 3
  have u4 : ∀ o, (W.alloc o).cell? ⟨w.heap.size, 4, none⟩ = some (.int .i64 t.col) := fun o => blk_cell (g3 o) 4
  have hn := HN.out
  subst hn
  exact bodyPost_ret (v := .agg #[.int .i64 t.kind, .string (bA t.text), .int .i64 t.num, .int .i64 t.line, .int .i64 t.col]) (by simp [results, Tryz.results22, go_sem, u0, u1, u2, u3, u4]) rfl ⟨rfl, HR.out.next h7 (g2.alloc _) (blk_alloc_old g0 _)⟩
set_option maxHeartbeats 4000000 in
set_option maxRecDepth 100000 in
theorem take_bad (h : RS w0 w b (t :: r) ds q m X) (k : Int) (hk : (t.kind : Int) ≠ k) : Calls Tryz.prog 22 #[.pointer (some ⟨b, 0, none⟩), .int .i64 k] w (badP w0 (fltAt 82 t)) := by
  have hca := (Chg.refl [] w).alloc (.cells #[.int .i64 0, .string ⟨#[]⟩, .int .i64 0, .int .i64 0, .int .i64 0] 63)
  have hz := h.same hca
  have H := hid (here_calls hz)
  have HZ := hid hz
  have hkb : ((t.kind : Int) == k) = false := by simpa using hk
  clear hz h hca hk
  go_enter Tryz.func22, Tryz.ntmps22
  go_wp2_with (first
    | (go_at_call 21; refine H.out.mono ?_; rintro e w1 ⟨rfl, hc⟩)
    | (go_at_call 46; refine (fail_calls (HZ.out.same (hc.alloc _)) 82).mono ?_; rintro e w2 ⟨rfl, hc2⟩))
  exact ⟨rfl, rfl, hc2⟩
set_option maxHeartbeats 4000000 in
set_option maxRecDepth 100000 in
theorem ends_calls (h : RS w0 w b (t :: r) ds q m X) : Calls Tryz.prog 41 #[.pointer (some ⟨b, 0, none⟩)] w fun e w' => e = .returned (.bool (endsB t)) ∧ Chg [] w w' := by
  have H := hid fun W (hc : Chg [] w W) => here_calls (h.same hc)
  have hc0 := Chg.refl [] w
  have hf0 := field_kind t
  have hf1 := field_text t
  clear h
  by_cases h6 : t.kind = 6
  · have hE : endsB t = true := by simp [endsB, h6]
    have e6 : ((t.kind : Int) == 6) = true := by simp; omega
    rw [hE]
    clear hE h6
    go_enter Tryz.func41, Tryz.ntmps41
    go_wp2_with (go_at_call 21; refine (H.out _ (by assumption)).mono ?_; rintro e w1 ⟨rfl, hc⟩)
    go_ret
    exact ⟨ret_bool (by simp [e6]), hc⟩
  · have hE : endsB t = decide (t.kind = 7) := by simp [endsB, h6]
    have e6 : ((t.kind : Int) == 6) = false := by simp; omega
    have e7 : ((t.kind : Int) == 7) = decide (t.kind = 7) := by rw [Bool.eq_iff_iff]; simp; omega
    rw [hE]
    clear hE h6
    go_enter Tryz.func41, Tryz.ntmps41
    go_wp2_with (first
      | (go_at_call 21; refine (H.out w hc0).mono ?_; rintro e w1 ⟨rfl, hc⟩)
      | (go_at_call 21; refine (H.out _ hc).mono ?_; rintro e w2 ⟨rfl, hc2⟩))
    go_ret
    exact ⟨ret_bool (by simp [e6, e7]), hc.trans' hc2⟩
theorem tx_small (h : RS w0 w b (t :: r) ds q m X) : t.text.length ≤ 1048576 := h.tx t (List.mem_cons_self ..)
set_option maxHeartbeats 4000000 in
set_option maxRecDepth 100000 in
theorem free_calls (h : RS w0 w b (t :: r) ds q m X) (hv : VarsP w0) : Calls Tryz.prog 70 #[.pointer (some ⟨b, 0, none⟩)] w fun e w' => e = .returned (.bool (freeB t)) ∧ Chg [] w w' := by
  have H := hid fun W (hc : Chg [] w W) => here_calls (h.same hc)
  have HW := hid fun W (hc : Chg [] w W) => word_calls t.text (tx_small h) W (hv.keep (h.hp.chg.trans' hc))
  have hc0 := Chg.refl [] w
  have hf0 := field_kind t
  have hf1 := field_text t
  clear h hv
  by_cases h1 : t.kind = 1
  · have hE : freeB t = !wordL t.text := by simp [freeB, h1]
    have e1 : ((t.kind : Int) == 1) = true := by simp; omega
    rw [hE]
    clear hE h1
    go_enter Tryz.func70, Tryz.ntmps70
    go_wp2_with (first
      | (go_at_call 21; refine (H.out w hc0).mono ?_; rintro e w1 ⟨rfl, hc⟩)
      | (go_at_call 21; refine (H.out _ hc).mono ?_; rintro e w2 ⟨rfl, hc2⟩)
      | (go_at_call 77; refine (HW.out _ (hc.trans' hc2)).mono ?_; rintro e w3 ⟨rfl, hc3⟩))
    go_ret
    exact ⟨ret_bool (by simp [e1]), (hc.trans' hc2).trans' hc3⟩
  · have hE : freeB t = false := by simp [freeB, h1]
    have e1 : ((t.kind : Int) == 1) = false := by simp; omega
    rw [hE]
    clear hE h1
    go_enter Tryz.func70, Tryz.ntmps70
    go_wp2_with (go_at_call 21; refine (H.out w hc0).mono ?_; rintro e w1 ⟨rfl, hc⟩)
    go_ret
    exact ⟨ret_bool (by simp [e1]), hc⟩
theorem free_kind {t : Tok} (h : freeB t = true) : (t.kind : Int) = 1 ∧ t.kind ≠ 7 := by
  unfold freeB at h
  simp only [Bool.and_eq_true, decide_eq_true_eq] at h
  omega
theorem RS.put5 {ts : List Tok} {p : Nat} {a0 a1 a2 a3 a4 : Value} {T : TypeId} (h : RS w0 w b ts ds q m (.box p (.cells #[a0, a1, a2, a3, a4] T (0, 0)) :: X)) (v0 v1 v2 v3 v4 : Value) :
    RS w0 (((((w.setCell ⟨p, 0, none⟩ v0).setCell ⟨p, 1, none⟩ v1).setCell ⟨p, 2, none⟩ v2).setCell ⟨p, 3, none⟩ v3).setCell ⟨p, 4, none⟩ v4) b ts ds q m (.box p (.cells #[v0, v1, v2, v3, v4] T (0, 0)) :: X) :=
  ((((h.putX 0 rfl 0 v0 rfl).putX 0 rfl 1 v1 rfl).putX 0 rfl 2 v2 rfl).putX 0 rfl 3 v3 rfl).putX 0 rfl 4 v4 rfl
/-- What name answers. -/
def NameP (w0 : World) (b : Nat) (ds : List DcD) (q : RQ) (m : Nat) (X : List It) (x : Except Flt (Tok × List Tok)) (e : Ending) (w' : World) : Prop := OutP (badP w0) x (fun p e w' => e = .returned (.agg #[.int .i64 p.1.kind, .string (bA p.1.text), .int .i64 p.1.num, .int .i64 p.1.line, .int .i64 p.1.col]) ∧ RS w0 w' b p.2 ds q.next (m - 1) X ∧ 0 < m ∧ freeB p.1 = true) e w'
set_option maxHeartbeats 4000000 in
set_option maxRecDepth 100000 in
theorem name_tok (h : RS w0 w b (t :: r) ds q m X) (hv : VarsP w0) : Calls Tryz.prog 47 #[.pointer (some ⟨b, 0, none⟩)] w (NameP w0 b ds q m X (nameT (t :: r))) := by
  have hz := h.box (.cells #[.int .i64 0, .string ⟨#[]⟩, .int .i64 0, .int .i64 0, .int .i64 0] 63)
  have HF := hid (free_calls hz hv)
  have HH := hid fun W (hc : Chg [] (w.alloc (.cells #[.int .i64 0, .string ⟨#[]⟩, .int .i64 0, .int .i64 0, .int .i64 0] 63)) W) => hz.same hc
  obtain ⟨N, hN⟩ : ∃ N, nameT (t :: r) = N := ⟨_, rfl⟩
  rw [hN]
  rw [nameT_cons] at hN
  have hf1 := field_text t
  cases hf : freeB t with
  | false =>
    rw [if_pos hf] at hN
    subst hN
    rw [hf] at HF
    clear hz h hf
    go_enter Tryz.func47, Tryz.ntmps47
    go_wp2_with (first
      | (go_at_call 70; refine HF.out.mono ?_; rintro e w1 ⟨rfl, hc⟩)
      | (go_at_call 46; refine (fail_calls (HH.out _ hc) 82).mono ?_; rintro e w2 ⟨rfl, hc2⟩))
    exact ⟨rfl, rfl, hc2⟩
  | true =>
    rw [if_neg (by simp [hf])] at hN
    rw [hf] at HF
    have htx := tx_small h
    have hsz : (bA t.text).size = t.text.length := bA_size _
    by_cases hl : 24 < t.text.length
    · rw [if_pos hl] at hN
      subst hN
      have hg : decide ((24 : Int) < ((bA t.text).size : Int)) = true := decide_eq_true (by rw [hsz]; omega)
      clear hz h hf hl hsz
      go_enter Tryz.func47, Tryz.ntmps47
      go_wp2_with (first
        | (go_at_call 70; refine HF.out.mono ?_; rintro e w1 ⟨rfl, hc⟩)
        | (go_at_call 21; refine (here_calls (HH.out _ hc)).mono ?_; rintro e w2 ⟨rfl, hc2⟩)
        | (go_at_call 46; refine (fail_calls (HH.out _ (hc.trans' hc2)) 84).mono ?_; rintro e w3 ⟨rfl, hc3⟩))
      exact ⟨rfl, rfl, hc3⟩
    · rw [if_neg hl] at hN
      subst hN
      have hg : decide ((24 : Int) < ((bA t.text).size : Int)) = false := decide_eq_false (by rw [hsz]; omega)
      have HK := hid (free_kind hf)
      have HFR := hid hf
      clear hz h hf hl hsz
      go_enter Tryz.func47, Tryz.ntmps47
      go_wp2_with (first
        | (go_at_call 70; refine HF.out.mono ?_; rintro e w1 ⟨rfl, hc⟩)
        | (go_at_call 21; refine (here_calls (HH.out _ hc)).mono ?_; rintro e w2 ⟨rfl, hc2⟩)
        | (go_at_call 22; refine (take_ok (HH.out _ (hc.trans' hc2)) 1 HK.out.1 HK.out.2).mono ?_; rintro e w3 ⟨rfl, h3, hm3⟩; have b0 := h3.getX (j := 0) rfl; have fr := blk_free b0; have cc := blk_cell b0; have hw3 := blk_lt b0; have HH3 := hid h3; have HB0 := hid b0; clear h3 b0))
      have h5 := HH3.out.put5 (.int .i64 t.kind) (.string (bA t.text)) (.int .i64 t.num) (.int .i64 t.line) (.int .i64 t.col)
      have b5 := h5.getX (j := 0) rfl
      generalize (((((w3.setCell ⟨w.heap.size, 0, none⟩ (.int .i64 t.kind)).setCell ⟨w.heap.size, 1, none⟩ (.string (bA t.text))).setCell ⟨w.heap.size, 2, none⟩ (.int .i64 t.num)).setCell ⟨w.heap.size, 3, none⟩ (.int .i64 t.line)).setCell ⟨w.heap.size, 4, none⟩ (.int .i64 t.col)) = W at h5 b5 ⊢
      have u0 : W.cell? ⟨w.heap.size, 0, none⟩ = some (.int .i64 t.kind) := blk_cell b5 0
      have u1 : W.cell? ⟨w.heap.size, 1, none⟩ = some (.string (bA t.text)) := blk_cell b5 1
      have u2 : W.cell? ⟨w.heap.size, 2, none⟩ = some (.int .i64 t.num) := blk_cell b5 2
      have u3 : W.cell? ⟨w.heap.size, 3, none⟩ = some (.int .i64 t.line) := blk_cell b5 3
      have u4 : W.cell? ⟨w.heap.size, 4, none⟩ = some (.int .i64 t.col) := blk_cell b5 4
      exact bodyPost_ret (v := .agg #[.int .i64 t.kind, .string (bA t.text), .int .i64 t.num, .int .i64 t.line, .int .i64 t.col]) (by simp [results, Tryz.results47, go_sem, u0, u1, u2, u3, u4]) rfl ⟨rfl, h5.subX (.cons _ (.refl _)), hm3, HFR.out⟩
set_option maxHeartbeats 4000000 in
set_option maxRecDepth 100000 in
theorem block_none (h : RS w0 w b (t :: r) ds q m X) (hq : q.bs = []) : Calls Tryz.prog 71 #[.pointer (some ⟨b, 0, none⟩)] w (badP w0 (fltAt 81 t)) := by
  have c2 := h.c2
  have HF := hid fun W (hc : Chg [] w W) => fail_calls (h.same hc) 81
  have hc0 := hid (Chg.refl [] w)
  rw [hq, List.length_nil] at c2
  clear h hq
  go_enter Tryz.func71, Tryz.ntmps71
  go_wp2_with (go_at_call 46; refine (HF.out _ hc0.out).mono ?_; rintro e w2 ⟨rfl, hc2⟩)
  exact ⟨rfl, rfl, hc2⟩
set_option maxHeartbeats 4000000 in
set_option maxRecDepth 100000 in
theorem block_some (h : RS w0 w b (t :: r) ds q m X) {init : List BlO} {x : BlO} (hq : q.bs = init ++ [x]) {g : Nat} (hg : q.r1 = some g) : Calls Tryz.prog 71 #[.pointer (some ⟨b, 0, none⟩)] w fun e w' => e = .returned (.pointer (some ⟨g, init.length * 4, none⟩)) ∧ Chg [] w w' := by
  have c2 := h.c2
  obtain ⟨g', hg', ha, _⟩ := h.last hq
  rw [hg] at hg'
  cases hg'
  have hl : q.bs.length = init.length + 1 := by rw [hq]; simp
  have hsm := h.lb
  have hm := h.sm
  have hb := h.lt
  rw [hl] at hsm
  rw [hl, ha] at c2
  obtain ⟨n, hn⟩ : ∃ n, init.length = n := ⟨_, rfl⟩
  rw [hn] at c2 hsm ⊢
  have t0 : (((n + 1 : Nat) : Int) == 0) = false := by simp; omega
  have hc0 := hid (Chg.refl [] w)
  have i1 : (0 : Int) ≤ (n : Int) := by omega
  have i2 : (n : Int) < ((n + 1 : Nat) : Int) := by omega
  clear h hq hn hl ha hg
  go_enter Tryz.func71, Tryz.ntmps71
  go_wp2
  go_quiet (fail)
  all_goals
    go_wp2
    go_ret
    exact ⟨rfl, Chg.of_drewN _ _ _⟩
end
end Go.Proofs.YtmahcabidggmeaaGreatDoor
