/- Walks of the parser: registers, words, names. -/
import Derived.Test.YtmahcabidggmeaaGreatDoorVpb
import Derived.Test.YtmahcabidggmeaaGreatDoorShelf
import Derived.Lib.SlicesS
set_option linter.unusedVariables false
set_option linter.unusedSectionVars false
set_option linter.unusedSimpArgs false
namespace Go.AB
open Go.RowKit
/-- A number of 8 bits, as the library reads it. -/
def p8 (l : List UInt8) : Option Nat := match Lib.parseUintB 8 l with | .ok u => some u | _ => none
theorem p8_dec : ∀ v : Nat, v < 16 → p8 (Lib.decDigits v) = some v := by decide +kernel
theorem reg_at : ∀ v : Nat, v < 16 → regL (114 :: Lib.decDigits v) = v := by decide +kernel
theorem reg_none {s : List UInt8} (h : ∀ v : Nat, v < 16 → s ≠ 114 :: Lib.decDigits v) : regL s = -1 := by
  unfold regL
  rw [idx_none]
  · rfl
  · intro x hx e
    obtain ⟨v, hv, rfl⟩ := List.mem_map.1 hx
    exact h v (by simpa using hv) e.symm
theorem reg_p8 {d : List UInt8} (h : p8 d = none) : regL (114 :: d) = -1 := reg_none fun v hv e => by
  simp only [List.cons.injEq, true_and] at e
  rw [e, p8_dec v hv] at h
  cases h
theorem reg_big {d : List UInt8} {u : Nat} (h : p8 d = some u) (hu : ¬ u < 16) : regL (114 :: d) = -1 := reg_none fun v hv e => by
  simp only [List.cons.injEq, true_and] at e
  rw [e, p8_dec v hv] at h
  cases h
  exact hu hv
theorem reg_odd {d : List UInt8} {u : Nat} (h : p8 d = some u) (hd : Lib.decDigits u ≠ d) : regL (114 :: d) = -1 := reg_none fun v hv e => by
  simp only [List.cons.injEq, true_and] at e
  rw [e, p8_dec v hv] at h
  cases h
  exact hd e.symm
theorem pre_r (s : List UInt8) : (∃ d, s = 114 :: d ∧ Lib.hasPrefix s [114] = true ∧ Lib.trimPrefix s [114] = d) ∨ ((∀ d, s ≠ 114 :: d) ∧ Lib.hasPrefix s [114] = false ∧ Lib.trimPrefix s [114] = s) := by
  cases s with
  | nil => exact .inr ⟨(fun d h => by cases h), rfl, rfl⟩
  | cons c r =>
    by_cases h : c = 114
    · subst h
      exact .inl ⟨r, rfl, rfl, rfl⟩
    · have h1 : Lib.hasPrefix (c :: r) [114] = false := by simp only [Lib.hasPrefix, List.isPrefixOf, Bool.and_true, beq_eq_false_iff_ne]; exact fun e => h e.symm
      exact .inr ⟨fun d e => h (by cases e; rfl), h1, by unfold Lib.trimPrefix; rw [h1]; rfl⟩
theorem kind_mem (s : List UInt8) : decide (kindL s ≠ 0) = true ↔ s ∈ kindTab := by
  rw [decide_eq_true_eq]
  constructor
  · intro h
    apply Decidable.byContradiction
    intro hn
    exact h (idx_none fun x hx e => hn (e ▸ hx))
  · intro h
    simp only [kindTab, List.mem_cons, List.not_mem_nil, or_false] at h
    rcases h with rfl | rfl | rfl | rfl | rfl <;> decide +kernel
def startsL : List ByteArray := ⟨#[]⟩ :: kindTab.map bA
theorem starts_mem {s : List UInt8} (hs : s ≠ []) : Lib.containsS (startsL.take 6) (bA s) = decide (kindL s ≠ 0) := by
  rw [Bool.eq_iff_iff, Lib.containsS_iff, kind_mem]
  show bA s ∈ startsL ↔ _
  unfold startsL
  rw [List.mem_cons]
  constructor
  · rintro (h | h)
    · exact absurd (congrArg (fun b : ByteArray => b.data.toList) h) hs
    · obtain ⟨x, hx, e⟩ := List.mem_map.1 h
      have : x = s := congrArg (fun b : ByteArray => b.data.toList) e
      exact this ▸ hx
  · intro h
    exact .inr (List.mem_map.2 ⟨s, h, rfl⟩)
theorem bA_size (l : List UInt8) : (bA l).size = l.length := by show (l.toArray).size = _; simp
end Go.AB
namespace Go.Proofs.YtmahcabidggmeaaGreatDoor
open Go.RowKit Go.AB
set_option linter.unusedSimpArgs false
set_option linter.unusedVariables false
set_option linter.unusedSectionVars false

/-- The table of the powers of ten stands as the row says. -/
def Pow10 (w : World) : Prop := Lib.TabIs Tryz.prog w "internal/strconv.uint64pow10" .u64 Lib.pow10Tab
theorem tab_chg {P : Program} {w w' : World} {name : String} {k : IntKind} {zs : List Int} (h : Lib.TabIs P w name k zs) (hc : Chg [] w w') : Lib.TabIs P w' name k zs := by
  unfold Lib.TabIs World.var? at *
  cases hg : P.globalNamed name with
  | none => simp [hg] at h
  | some g =>
    simp only [hg, Option.bind_some] at h ⊢
    have hlt : g < w.heap.size := by
      rcases Nat.lt_or_ge g w.heap.size with h' | h'
      · exact h'
      · rw [Array.getElem?_eq_none h'] at h; simp at h
    rw [hc.block g hlt (by simp)]
    exact h
def ErrAt (g : Nat) (w : World) : Prop := ∃ te pe, w.cell? ⟨g, 0, none⟩ = some (.iface te pe)
/-- The library's variables stand as the row says. -/
structure VarsP (w : World) : Prop where
  pow : Pow10 w
  es : ErrAt 1 w
  er : ErrAt 2 w
theorem VarsP.keep {w w' : World} (h : VarsP w) (hc : Chg [] w w') : VarsP w' :=
  ⟨tab_chg h.pow hc, by obtain ⟨t, p, e⟩ := h.es; exact ⟨t, p, hc.cell e (by simp)⟩, by obtain ⟨t, p, e⟩ := h.er; exact ⟨t, p, hc.cell e (by simp)⟩⟩
theorem chg_grow (w : World) (k : Nat) (os : Array Obj) : Chg [] w (Sort.grow (w.drewN k) os) := by
  refine ⟨rfl, rfl, rfl, ?_, fun i hi _ => ?_⟩
  · show w.heap.size ≤ (w.heap ++ os).size
    simp
  · show (w.heap ++ os)[i]? = w.heap[i]?
    rw [Array.getElem?_append_left hi]
theorem chg_bytes (w : World) (e : TypeId) (s : ByteArray) : Chg [] w (Lib.bytesWorld w e s) := by
  refine ⟨?_, ?_, ?_, ?_, fun k hk _ => Lib.bytesWorld_at_old w e s k hk⟩
  · rfl
  · rfl
  · rfl
  · unfold Lib.bytesWorld
    simp [World.freeze]
/-- A number's text. -/
theorem itoaI_calls (n : Int) (h0 : -9223372036854775808 ≤ n) (h1 : n ≤ 9223372036854775807) (w : World) (hv : VarsP w) :
    Calls Tryz.prog 28 #[.int .i64 n] w fun e w' => e = .returned (.string (bA (Lib.itoa n))) ∧ Chg [] w w' := by
  refine (Tryz.strconv_Itoa n h0 h1 w hv.pow).mono ?_
  rintro e w' ⟨rfl, k, os, rfl⟩
  exact ⟨rfl, chg_grow _ _ _⟩
def P8 (o : Option Nat) (e : Ending) : Prop := match o with
  | some n => e = .returned (.tuple #[.int .u64 n, .nilIface])
  | none => ∃ (x : Int) (t : TypeId) (p : Value), e = .returned (.tuple #[.int .u64 x, .iface t p])
theorem parse8_calls (t : ByteArray) (hmax : t.size ≤ 1048576) (w : World) (hv : VarsP w) :
    Calls Tryz.prog 96 #[.string t, .int .i64 10, .int .i64 8] w fun e w' => P8 (p8 t.data.toList) e ∧ Chg [] w w' := by
  unfold p8
  cases h : Lib.parseUintB 8 t.data.toList
  · rename_i u
    refine (Tryz.strconv_ParseUint_10_at8_ok t (by omega) u h w).mono ?_
    rintro e w' ⟨rfl, rfl | rfl⟩
    · exact ⟨rfl, Chg.refl _ _⟩
    · exact ⟨rfl, chg_bytes _ _ _⟩
  · obtain ⟨te, pe, he⟩ := hv.es
    refine (Any.strconv_ParseUint_10_at8_syntax Tryz.laysPu14 t (by omega) h _ w he (.inr ⟨_, _, rfl⟩)).mono ?_
    rintro e w' ⟨N, rfl, _, _, hb⟩
    exact ⟨⟨_, _, _, rfl⟩, Chg.of_below hb _⟩
  · obtain ⟨te, pe, he⟩ := hv.er
    refine (Tryz.strconv_ParseUint_10_at8_range t (by omega) h _ w he (.inr ⟨_, _, rfl⟩)).mono ?_
    rintro e w' ⟨N, rfl, _, _, hb⟩
    exact ⟨⟨_, _, _, rfl⟩, Chg.of_below hb _⟩

set_option maxHeartbeats 4000000 in
set_option maxRecDepth 100000 in
theorem register_calls (L : List UInt8) (hL : L.length ≤ 1048576) (w : World) (hv : VarsP w) :
    Calls Tryz.prog 74 #[.string (bA L)] w fun e w' => e = .returned (.int .i64 (regL L)) ∧ Chg [] w w' := by
  have HP := hid fun d (hd : d.length ≤ 1048576) => parse8_calls (bA d) (by rw [bA_size]; exact hd) w hv
  have HI := hid fun (n : Nat) (hn : n < 16) W (hc : Chg [] w W) => itoaI_calls n (by omega) (by omega) W (hv.keep hc)
  have HX := hid fun W => Tryz.strings_CutPrefix (bA L) ⟨#[114]⟩ W
  rcases pre_r L with ⟨d, rfl, hp, ht⟩ | ⟨hn, hp, ht⟩
  · have hd : d.length ≤ 1048576 := by simp only [List.length_cons] at hL; omega
    have HPD := hid (HP.out d hd)
    have HC : Hid (∀ W, Calls Tryz.prog 95 #[.string (bA (114 :: d)), .string ⟨#[114]⟩] W fun e w' => e = .returned (.tuple #[.string (bA d), .bool true]) ∧ w' = W) := hid (fun W => by
      have h := HX.out W
      rw [show (bA (114 :: d)).data.toList = 114 :: d from rfl, show (⟨#[114]⟩ : ByteArray).data.toList = [114] from rfl, hp, ht] at h
      exact h)
    clear HX HP hp ht hL hd
    rw [show (bA d).data.toList = d from rfl] at HPD
    cases h8 : p8 d with
    | none =>
      have HO := hid (reg_p8 h8)
      rw [h8] at HPD
      clear h8
      go_enter Tryz.func74, Tryz.ntmps74
      go_wp2_with (first
        | (go_at_call 95; refine (HC.out _).mono ?_; rintro e w' ⟨rfl, rfl⟩)
        | (go_at_call 96; refine HPD.out.mono ?_; rintro e w1 ⟨⟨x, t, p, rfl⟩, hc1⟩))
      go_ret
      exact ⟨by rw [HO.out]; rfl, hc1⟩
    | some u =>
      rw [h8] at HPD
      by_cases hu : u < 16
      · have hdec := by
          have := reg_at u hu
          exact this
        by_cases hde : Lib.decDigits u = d
        · have HO : Hid (regL (114 :: d) = u) := hid (by rw [← hde]; exact reg_at u hu)
          have hb : ((bA (Lib.itoa (u : Int))).toList == (bA d).toList) = true := by
            rw [Lib.itoa_nonneg, bA_toList, bA_toList, hde]; simp
          have h16 : decide ((16 : Int) ≤ (u : Int)) = false := decide_eq_false (by omega)
          clear h8 hde hdec
          go_enter Tryz.func74, Tryz.ntmps74
          go_wp2_with (first
            | (go_at_call 95; refine (HC.out _).mono ?_; rintro e w' ⟨rfl, rfl⟩)
            | (go_at_call 96; refine HPD.out.mono ?_; rintro e w1 ⟨he, hc1⟩; obtain rfl : e = .returned (.tuple #[.int .u64 u, .nilIface]) := he)
            | (go_at_call 28; refine (HI.out u hu _ hc1).mono ?_; rintro e w2 ⟨rfl, hc2⟩))
          go_ret
          exact ⟨by rw [HO.out]; rfl, hc1.trans' hc2⟩
        · have HO := hid (reg_odd h8 hde)
          have hb : ((bA (Lib.itoa (u : Int))).toList == (bA d).toList) = false := by
            rw [Lib.itoa_nonneg, bA_toList, bA_toList]; simpa using hde
          have h16 : decide ((16 : Int) ≤ (u : Int)) = false := decide_eq_false (by omega)
          clear h8 hde hdec
          go_enter Tryz.func74, Tryz.ntmps74
          go_wp2_with (first
            | (go_at_call 95; refine (HC.out _).mono ?_; rintro e w' ⟨rfl, rfl⟩)
            | (go_at_call 96; refine HPD.out.mono ?_; rintro e w1 ⟨he, hc1⟩; obtain rfl : e = .returned (.tuple #[.int .u64 u, .nilIface]) := he)
            | (go_at_call 28; refine (HI.out u hu _ hc1).mono ?_; rintro e w2 ⟨rfl, hc2⟩))
          go_ret
          exact ⟨by rw [HO.out]; rfl, hc1.trans' hc2⟩
      · have HO := hid (reg_big h8 hu)
        clear h8
        go_enter Tryz.func74, Tryz.ntmps74
        go_wp2_with (first
          | (go_at_call 95; refine (HC.out _).mono ?_; rintro e w' ⟨rfl, rfl⟩)
          | (go_at_call 96; refine HPD.out.mono ?_; rintro e w1 ⟨he, hc1⟩; obtain rfl : e = .returned (.tuple #[.int .u64 u, .nilIface]) := he))
        go_ret
        exact ⟨by rw [HO.out]; rfl, hc1⟩
  · have HO := hid (reg_none (s := L) fun v hv => hn _)
    have HPD := hid (HP.out L hL)
    have HC : Hid (∀ W, Calls Tryz.prog 95 #[.string (bA L), .string ⟨#[114]⟩] W fun e w' => e = .returned (.tuple #[.string (bA L), .bool false]) ∧ w' = W) := hid (fun W => by
      have h := HX.out W
      rw [show (bA L).data.toList = L from rfl, show (⟨#[114]⟩ : ByteArray).data.toList = [114] from rfl, hp, ht] at h
      exact h)
    have HPE : Hid (Calls Tryz.prog 96 #[.string (bA L), .int .i64 10, .int .i64 8] w fun e w' => ∃ x v, e = .returned (.tuple #[.int .u64 x, v]) ∧ Chg [] w w') := hid (HPD.out.mono (by
      rintro e w' ⟨he, hc⟩
      cases h8 : p8 (bA L).data.toList with
      | none => rw [h8] at he; obtain ⟨x, t, p, rfl⟩ := he; exact ⟨_, _, rfl, hc⟩
      | some u => rw [h8] at he; exact ⟨_, _, he, hc⟩))
    clear HX HP HPD hp ht hL hn
    go_enter Tryz.func74, Tryz.ntmps74
    go_wp2_with (first
      | (go_at_call 95; refine (HC.out _).mono ?_; rintro e w' ⟨rfl, rfl⟩)
      | (go_at_call 96; refine HPE.out.mono ?_; rintro e w1 ⟨x, v, rfl, hc1⟩))
    go_ret
    exact ⟨by rw [HO.out]; rfl, hc1⟩
end Go.Proofs.YtmahcabidggmeaaGreatDoor
