/- Joined by join.py out of Tha, Tra, Trb. -/
import Derived.Test.YtbghkodcfedebaaGreatDoorTj2
import Derived.Test.YtbghkodcfedebaaGreatDoorTj1
import Derived.Lib.ItoaNum
import Derived.Lib.AtoiAll
import Derived.Lib.AtoiAllCases
set_option linter.unusedSimpArgs false
set_option linter.unusedVariables false
set_option linter.unusedSectionVars false

/- Programs read out of bytes, plain: parsers, and the bytes that they take. No program in sight. -/
namespace Go.AB
open Go.RowKit
set_option linter.unusedVariables false

/-- A parser at a place; none: given up. -/
def Ps (α : Type) : Type := Nat → Option (α × Nat)
/-- What a parser takes is just what is laid so. -/
structure Codec {α : Type} (L : List UInt8) (d : Ps α) (enc : α → List UInt8) (ok : α → Prop) : Prop where
  fwd : ∀ p x q, p ≤ L.length → d p = some (x, q) → ok x ∧ q ≤ L.length ∧ L.take q = L.take p ++ enc x
  bwd : ∀ p x rest, ok x → L.drop p = enc x ++ rest → d p = some (x, p + (enc x).length)
/-- A step of a reader whose fault stays. -/
structure Prim {α : Type} (L : List UInt8) (f : RS → α × RS) (enc : α → List UInt8) (ok : α → Prop) : Prop where
  stick : ∀ s, s.bad ≠ 0 → (f s).2.bad ≠ 0
  fwd : ∀ s, s.ok L → (f s).2.bad = 0 → (f s).2.wh = s.wh ∧ (f s).2.ok L ∧ L.take (f s).2.pos = L.take s.pos ++ enc (f s).1 ∧ ok (f s).1
  bwd : ∀ p wh x rest, ok x → L.drop p = enc x ++ rest → f ⟨p, wh, 0⟩ = (x, ⟨p + (enc x).length, wh, 0⟩)
theorem Prim.bad0 {α : Type} {L : List UInt8} {f : RS → α × RS} {enc : α → List UInt8} {ok : α → Prop} (h : Prim L f enc ok) {s : RS} (hb : (f s).2.bad = 0) : s.bad = 0 := by
  by_cases h0 : s.bad = 0
  · exact h0
  · exact absurd hb (h.stick s h0)
theorem drop_app {L x rest : List UInt8} {p : Nat} (h : L.drop p = x ++ rest) : L.drop (p + x.length) = rest := by rw [← List.drop_drop, h, List.drop_left]
theorem Prim.pair {α β : Type} {L : List UInt8} {f : RS → α × RS} {g : α → RS → β × RS} {e1 : α → List UInt8} {e2 : α → β → List UInt8} {ok1 : α → Prop} {ok2 : α → β → Prop}
    (h1 : Prim L f e1 ok1) (h2 : ∀ x, Prim L (g x) (e2 x) (ok2 x)) :
    Prim L (fun s => (((f s).1, (g (f s).1 (f s).2).1), (g (f s).1 (f s).2).2)) (fun x => e1 x.1 ++ e2 x.1 x.2) (fun x => ok1 x.1 ∧ ok2 x.1 x.2) := by
  refine ⟨fun s hs => (h2 _).stick _ (h1.stick s hs), fun s hs hb => ?_, fun p wh x rest ho hd => ?_⟩
  · simp only at hb ⊢
    obtain ⟨a2, a3, a4, a5⟩ := h1.fwd s hs ((h2 _).bad0 hb)
    obtain ⟨b2, b3, b4, b5⟩ := (h2 (f s).1).fwd (f s).2 a3 hb
    exact ⟨b2.trans a2, b3, by rw [b4, a4, List.append_assoc], a5, b5⟩
  · obtain ⟨x, y⟩ := x
    simp only at ho hd ⊢
    rw [List.append_assoc] at hd
    have a := h1.bwd p wh x _ ho.1 hd
    have b := (h2 x).bwd (p + (e1 x).length) wh y rest ho.2 (drop_app hd)
    simp only [a, b, List.length_append, Nat.add_assoc]
/-- Where a thing is named it is read, else it is as given. -/
theorem Prim.opt {α : Type} {L : List UInt8} {f : RS → α × RS} {enc : α → List UInt8} {ok : α → Prop} (h : Prim L f enc ok) (b : Bool) (z : α) :
    Prim L (fun s => if b then f s else (z, s)) (fun x => if b then enc x else []) (fun x => if b then ok x else x = z) := by
  cases b
  · exact ⟨fun s hs => hs, fun s hs hb => ⟨rfl, hs, by simp, rfl⟩, fun p wh x rest ho hd => by simp only [Bool.false_eq_true, if_false] at ho; subst ho; simp⟩
  · simpa using h
/-- With a fault or where the test fails it is given up. -/
def sureP {α : Type} (f : RS → α × RS) (c : α → Bool) : Ps α := fun p => if (f ⟨p, 0, 0⟩).2.bad = 0 ∧ c (f ⟨p, 0, 0⟩).1 = true then some ((f ⟨p, 0, 0⟩).1, (f ⟨p, 0, 0⟩).2.pos) else none
theorem Prim.sure {α : Type} {L : List UInt8} {f : RS → α × RS} {enc : α → List UInt8} {ok : α → Prop} (h : Prim L f enc ok) (c : α → Bool) : Codec L (sureP f c) enc (fun x => ok x ∧ c x = true) := by
  refine ⟨fun p x q hp hd => ?_, fun p x rest ho hd => ?_⟩
  · unfold sureP at hd
    split at hd
    · rename_i hc
      simp only [Option.some.injEq, Prod.mk.injEq] at hd
      obtain ⟨rfl, rfl⟩ := hd
      obtain ⟨_, a2, a3, a4⟩ := h.fwd ⟨p, 0, 0⟩ hp hc.1
      exact ⟨⟨a4, hc.2⟩, a2, a3⟩
    · cases hd
  · unfold sureP
    rw [h.bwd p 0 x rest ho.1 hd]
    simp [ho.2]
theorem Codec.pair {α β : Type} {L : List UInt8} {d1 : Ps α} {d2 : α → Ps β} {e1 : α → List UInt8} {e2 : α → β → List UInt8} {ok1 : α → Prop} {ok2 : α → β → Prop}
    (h1 : Codec L d1 e1 ok1) (h2 : ∀ x, ok1 x → Codec L (d2 x) (e2 x) (ok2 x)) :
    Codec L (fun p => (d1 p).bind fun r => (d2 r.1 r.2).map fun t => ((r.1, t.1), t.2)) (fun x => e1 x.1 ++ e2 x.1 x.2) (fun x => ok1 x.1 ∧ ok2 x.1 x.2) := by
  refine ⟨fun p x q hp hd => ?_, fun p x rest ho hd => ?_⟩
  · rcases h : d1 p with _ | ⟨a, r⟩
    · simp [h] at hd
    · rcases k : d2 a r with _ | ⟨b, t⟩
      · simp [h, k] at hd
      · simp only [h, k, Option.bind_some, Option.map_some, Option.some.injEq, Prod.mk.injEq] at hd
        obtain ⟨rfl, rfl⟩ := hd
        obtain ⟨a1, a2, a3⟩ := h1.fwd p a r hp h
        obtain ⟨b1, b2, b3⟩ := (h2 a a1).fwd r b t a2 k
        exact ⟨⟨a1, b1⟩, b2, by rw [b3, a3, List.append_assoc]⟩
  · obtain ⟨x, y⟩ := x
    simp only at ho hd ⊢
    rw [List.append_assoc] at hd
    rw [h1.bwd p x _ ho.1 hd]
    simp only [Option.bind_some]
    rw [(h2 x ho.1).bwd _ y rest ho.2 (drop_app hd)]
    simp [Nat.add_assoc]
/-- The same under other names. -/
theorem Codec.to {α β : Type} {L : List UInt8} {d : Ps α} {enc : α → List UInt8} {ok : α → Prop} (h : Codec L d enc ok) (f : α → β) {enc' : β → List UInt8} {ok' : β → Prop}
    (h1 : ∀ x, ok x → ok' (f x) ∧ enc' (f x) = enc x) (h2 : ∀ y, ok' y → ∃ x, ok x ∧ f x = y) : Codec L (fun p => (d p).map fun r => (f r.1, r.2)) enc' ok' := by
  refine ⟨fun p x q hp hd => ?_, fun p y rest ho hd => ?_⟩
  · rcases k : d p with _ | ⟨a, r⟩
    · simp [k] at hd
    · simp only [k, Option.map_some, Option.some.injEq, Prod.mk.injEq] at hd
      obtain ⟨rfl, rfl⟩ := hd
      obtain ⟨a1, a2, a3⟩ := h.fwd p a r hp k
      exact ⟨(h1 a a1).1, a2, by rw [(h1 a a1).2, a3]⟩
  · obtain ⟨x, hx, rfl⟩ := h2 y ho
    rw [(h1 x hx).2] at hd ⊢
    rw [h.bwd p x rest hx hd]
    rfl
/-- So many, one behind the other; each is told what the one ahead of it was. -/
def rep {α σ : Type} (d : σ → Ps α) (nx : α → σ) : Nat → σ → Ps (List α)
  | 0, _ => fun p => some ([], p)
  | n + 1, s => fun p => (d s p).bind fun r => (rep d nx n (nx r.1) r.2).map fun t => (r.1 :: t.1, t.2)
def encs {α σ : Type} (enc : σ → α → List UInt8) (nx : α → σ) : σ → List α → List UInt8
  | _, [] => []
  | s, x :: xs => enc s x ++ encs enc nx (nx x) xs
theorem rep_codec {α σ : Type} {L : List UInt8} {d : σ → Ps α} {nx : α → σ} {enc : σ → α → List UInt8} {ok : α → Prop} {V : σ → Prop} (h : ∀ s, V s → Codec L (d s) (enc s) ok) (hn : ∀ x, ok x → V (nx x)) :
    ∀ n s, V s → Codec L (rep d nx n s) (encs enc nx s) (fun xs => xs.length = n ∧ ∀ x ∈ xs, ok x)
  | 0, s, _ => ⟨fun p x q hp hd => by simp only [rep, Option.some.injEq, Prod.mk.injEq] at hd; obtain ⟨rfl, rfl⟩ := hd; simp [encs]; exact hp,
      fun p x rest ho hd => by obtain rfl := List.eq_nil_of_length_eq_zero ho.1; simp [rep, encs]⟩
  | n + 1, s, hV => by
    refine ⟨fun p x q hp hd => ?_, fun p x rest ho hd => ?_⟩
    · rcases k : d s p with _ | ⟨a, r⟩
      · simp [rep, k] at hd
      · rcases k2 : rep d nx n (nx a) r with _ | ⟨b, t⟩
        · simp [rep, k, k2] at hd
        · simp only [rep, k, k2, Option.bind_some, Option.map_some, Option.some.injEq, Prod.mk.injEq] at hd
          obtain ⟨rfl, rfl⟩ := hd
          obtain ⟨a1, a2, a3⟩ := (h s hV).fwd p a r hp k
          obtain ⟨b1, b2, b3⟩ := (rep_codec h hn n (nx a) (hn a a1)).fwd r b t a2 k2
          refine ⟨⟨by simp [b1.1], fun y hy => ?_⟩, b2, by rw [b3, a3]; simp [encs, List.append_assoc]⟩
          rcases List.mem_cons.1 hy with rfl | hy
          · exact a1
          · exact b1.2 y hy
    · rcases x with _ | ⟨y, ys⟩
      · simp at ho
      · simp only [encs, List.append_assoc] at hd
        have hy := ho.2 y (by simp)
        have a := (h s hV).bwd p y _ hy hd
        have b := (rep_codec h hn n (nx y) (hn y hy)).bwd _ ys rest ⟨by have := ho.1; simp at this; omega, fun z hz => ho.2 z (by simp [hz])⟩ (drop_app hd)
        simp only [rep, a, b, Option.bind_some, Option.map_some, encs, List.length_append, Nat.add_assoc]
theorem encs_flat {α : Type} (enc : α → List UInt8) (xs : List α) : encs (fun _ : Unit => enc) (fun _ => ()) () xs = xs.flatMap enc := by
  induction xs with
  | nil => rfl
  | cons x xs ih => simp [encs, ih]
end Go.AB

/- Events, their text: what is told, what is read. No program in sight. (Printed by gen_tplain.py.) -/
set_option linter.unusedSimpArgs false
set_option linter.unusedVariables false
set_option linter.unusedSectionVars false
namespace Go.AB
open Go.RowKit

structure Ev where
  k : Int
  t : Int
  o : Int
def evC (e : Ev) : List Value := [.int .i64 e.k, .int .i64 e.t, .int .i64 e.o]
theorem evC_len (e : Ev) : (evC e).length = 3 := rfl
theorem one_ev (x : Ev) : ∀ u ∈ evC x, u.oneCell' = true := by
  intro u hu
  simp only [evC, List.mem_cons, List.not_mem_nil, or_false] at hu
  rcases hu with rfl | rfl | rfl <;> rfl
theorem Ev.same {x y : Ev} (h1 : x.k = y.k) (h2 : x.t = y.t) (h3 : x.o = y.o) : x = y := by
  cases x; cases y; simp_all
theorem evC_inj {x y : Ev} (h : evC x = evC y) : x = y := by
  simp only [evC, List.cons.injEq, Value.int.injEq, true_and, and_true] at h
  exact Ev.same h.1 h.2.1 h.2.2
/-- Below this an event's thing lies; 0: the kind is none. -/
def mostE (k : Int) : Int := if k = 11 then 1 else if k = 7 ∨ k = 8 then 65535 else if 1 ≤ k ∧ k ≤ 11 then 4096 else 0
def plainE (e : Ev) : Bool := decide (0 ≤ e.t ∧ e.t < 65535 ∧ 0 ≤ e.o ∧ e.o < mostE e.k)
theorem plainE_out {e : Ev} (h : plainE e = true) : (1 ≤ e.k ∧ e.k ≤ 11) ∧ (0 ≤ e.t ∧ e.t < 65535) ∧ (0 ≤ e.o ∧ e.o < 65535) ∧ (e.k = 11 → e.o = 0) := by
  unfold plainE mostE at h
  have h := of_decide_eq_true h
  obtain ⟨h1, h2, h3, h4⟩ := h
  split at h4
  · omega
  · split at h4
    · omega
    · split at h4 <;> omega
def wordTab : List (List UInt8) := [[114, 101, 97, 100], [119, 114, 105, 116, 101], [108, 111, 111, 107], [115, 101, 116], [108, 111, 99, 107], [117, 110, 108, 111, 99, 107], [102, 111, 114, 107], [106, 111, 105, 110], [97, 114, 114, 105, 118, 101], [100, 101, 112, 97, 114, 116], [101, 120, 105, 116]]
def wordE (k : Int) : List UInt8 := wordTab.getD (k - 1).toNat []
theorem word_no : ∀ w ∈ wordTab, 32 ∉ w ∧ 10 ∉ w ∧ w.length ≤ 6 := by decide +kernel
theorem word_eq (k : Nat) (h1 : 1 ≤ k) (h2 : k ≤ 11) : wordE (k : Int) = wordTab.getD (k - 1) [] := by
  unfold wordE
  congr 1
  omega
theorem word_mem {k : Int} (h1 : 1 ≤ k) (h2 : k ≤ 11) : wordE k ∈ wordTab := by
  exact (by decide +kernel : ∀ i : Fin 11, wordTab.getD i.val [] ∈ wordTab) ⟨(k - 1).toNat, by omega⟩
/-- The place of a word in the table, from 1 on; 0: it is none. -/
def idxE (s : List UInt8) : Nat := go wordTab 1
where go : List (List UInt8) → Nat → Nat
  | [], _ => 0
  | x :: r, i => if x = s then i else go r (i + 1)
theorem idx_word : ∀ k : Nat, k < 11 → idxE (wordTab.getD k []) = k + 1 := by decide +kernel
theorem idx_go (s : List UInt8) : ∀ (l : List (List UInt8)) (i : Nat), 1 ≤ i → (idxE.go s l i = 0 ∧ s ∉ l) ∨ (i ≤ idxE.go s l i ∧ idxE.go s l i < i + l.length ∧ l.getD (idxE.go s l i - i) [] = s)
  | [], i, _ => by simp [idxE.go]
  | x :: r, i, hi => by
    unfold idxE.go
    by_cases h : x = s
    · rw [if_pos h]
      right
      refine ⟨Nat.le_refl _, by simp, ?_⟩
      simpa using h
    · rw [if_neg h]
      rcases idx_go s r (i + 1) (by omega) with ⟨h1, h2⟩ | ⟨h1, h2, h3⟩
      · left
        exact ⟨h1, by simp only [List.mem_cons, not_or]; exact ⟨fun e => h e.symm, h2⟩⟩
      · right
        refine ⟨by omega, by simp only [List.length_cons]; omega, ?_⟩
        have e : idxE.go s r (i + 1) - i = (idxE.go s r (i + 1) - (i + 1)) + 1 := by omega
        rw [e, List.getD_cons_succ]
        exact h3
theorem idx_at (s : List UInt8) : (idxE s = 0 ∧ s ∉ wordTab) ∨ (1 ≤ idxE s ∧ idxE s ≤ 11 ∧ wordTab.getD (idxE s - 1) [] = s) := by
  rcases idx_go s wordTab 1 (Nat.le_refl _) with h | ⟨h1, h2, h3⟩
  · exact .inl h
  · have hl : wordTab.length = 11 := rfl
    exact .inr ⟨h1, by unfold idxE; omega, h3⟩
/-- A plain event's text, its line feed with it. -/
def lineE (e : Ev) : List UInt8 := wordE e.k ++ [32] ++ Lib.itoa e.t ++ (if e.k = 11 then [] else [32] ++ Lib.itoa e.o) ++ [10]
def linesE (l : List Ev) : List UInt8 := l.flatMap lineE
/-- A list's text, or the refusal. -/
def textD (l : List Ev) : List UInt8 × Nat := if l.all plainE then (if 16777216 < (linesE l).length then ([], 3) else (linesE l, 0)) else ([], 6)

/-! reading -/
/-- The pieces between blanks. -/
def splitE : List UInt8 → List (List UInt8)
  | [] => [[]]
  | c :: r => if c = 32 then [] :: splitE r else match splitE r with
    | [] => [[c]]
    | x :: l => (c :: x) :: l
theorem splitE_ne : ∀ s, splitE s ≠ []
  | [] => by simp [splitE]
  | c :: r => by
    unfold splitE
    split
    · simp
    · cases h : splitE r with
      | nil => simp
      | cons x l => simp
theorem splitE_no : ∀ (s : List UInt8), 32 ∉ s → splitE s = [s]
  | [], _ => rfl
  | c :: r, h => by
    simp only [List.mem_cons, not_or] at h
    unfold splitE
    rw [if_neg (fun e => h.1 e.symm), splitE_no r h.2]
theorem splitE_app : ∀ (a r : List UInt8), 32 ∉ a → splitE (a ++ 32 :: r) = a :: splitE r
  | [], r, _ => by simp [splitE]
  | c :: a, r, h => by
    simp only [List.mem_cons, not_or] at h
    rw [List.cons_append, splitE, if_neg (fun e => h.1 e.symm), splitE_app a r h.2]
theorem splitE_join : ∀ (s x : List UInt8) (l : List (List UInt8)), splitE s = x :: l → 32 ∉ x ∧ s = x ++ (l.flatMap fun y => 32 :: y)
  | [], x, l, h => by
    simp only [splitE, List.cons.injEq] at h
    obtain ⟨rfl, rfl⟩ := h
    simp
  | c :: r, x, l, h => by
    unfold splitE at h
    split at h
    · rename_i hc
      simp only [List.cons.injEq] at h
      obtain ⟨rfl, rfl⟩ := h
      cases h2 : splitE r with
      | nil => exact absurd h2 (splitE_ne r)
      | cons y m =>
        obtain ⟨_, h3⟩ := splitE_join r y m h2
        refine ⟨by simp, ?_⟩
        rw [hc]
        simp [← h3]
    · rename_i hc
      cases h2 : splitE r with
      | nil => exact absurd h2 (splitE_ne r)
      | cons y m =>
        obtain ⟨h4, h3⟩ := splitE_join r y m h2
        rw [h2] at h
        simp only [List.cons.injEq] at h
        obtain ⟨rfl, rfl⟩ := h
        refine ⟨by simp only [List.mem_cons, not_or]; exact ⟨fun e => hc e.symm, h4⟩, ?_⟩
        rw [h3]
        rfl
/-- A number as it is written. -/
def numE (s : List UInt8) : Option Int := match Lib.atoiAll s with
  | .ok v => if 0 ≤ v ∧ Lib.itoa v = s then some v else none
  | _ => none
theorem numE_some {s : List UInt8} {v : Int} (h : numE s = some v) : 0 ≤ v ∧ Lib.itoa v = s := by
  unfold numE at h
  split at h
  · split at h
    · rename_i hc
      simp only [Option.some.injEq] at h
      subst h
      exact hc
    · cases h
  · cases h
theorem itoa_nat (u : Nat) : Lib.itoa (u : Int) = Lib.decDigits u := by unfold Lib.itoa; rw [if_neg (by omega)]; simp
theorem p10_app : ∀ (l : List UInt8) (c : UInt8) (acc v : Nat), Lib.parseUint10 acc l = .ok v → 48 ≤ c.toNat → c.toNat ≤ 57 → v * 10 + (c.toNat - 48) < 18446744073709551616 → Lib.parseUint10 acc (l ++ [c]) = .ok (v * 10 + (c.toNat - 48))
  | [], c, acc, v, h, h1, h2, h3 => by
    simp only [Lib.parseUint10, Lib.NumEnd.ok.injEq] at h
    subst h
    simp only [List.nil_append, Lib.parseUint10, if_pos (show 48 ≤ c.toNat ∧ c.toNat ≤ 57 from ⟨h1, h2⟩)]
    rw [if_neg (by omega), if_neg (by omega)]
  | d :: l, c, acc, v, h, h1, h2, h3 => by
    rw [List.cons_append]
    unfold Lib.parseUint10 at h ⊢
    split at h
    · split at h
      · cases h
      · split at h
        · cases h
        · rename_i g1 g2 g3
          rw [if_pos g1, if_neg g2, if_neg g3]
          exact p10_app l c _ v h h1 h2 h3
    · cases h
theorem dig_b {v : Nat} (h : v < 10) : (UInt8.ofNat (48 + v)).toNat = 48 + v := by simp; omega
theorem p10_dec : ∀ (n u : Nat), u < n → u < 18446744073709551616 → Lib.parseUint10 0 (Lib.decDigits u) = .ok u
  | 0, u, h, _ => absurd h (Nat.not_lt_zero _)
  | n + 1, u, h, hb => by
    by_cases h10 : u < 10
    · rw [Lib.decDigits, dif_pos h10]
      simp only [Lib.parseUint10, dig_b h10]
      rw [if_pos (by omega), if_neg (by omega), if_neg (by omega)]
      congr 1
      omega
    · rw [Lib.decDigits, dif_neg h10]
      have h2 := dig_b (v := u % 10) (by omega)
      have h := p10_app (Lib.decDigits (u / 10)) (UInt8.ofNat (48 + u % 10)) 0 (u / 10) (p10_dec n (u / 10) (by omega) (by omega)) (by omega) (by omega) (by omega)
      rw [h, h2]
      congr 1
      omega
theorem dec_digits : ∀ (n u : Nat), u < n → (∀ c ∈ Lib.decDigits u, 48 ≤ c.toNat ∧ c.toNat ≤ 57) ∧ Lib.decDigits u ≠ []
  | 0, u, h => absurd h (Nat.not_lt_zero _)
  | n + 1, u, h => by
    by_cases h10 : u < 10
    · rw [Lib.decDigits, dif_pos h10]
      refine ⟨fun c hc => ?_, by simp⟩
      rw [List.mem_singleton] at hc
      subst hc
      rw [dig_b h10]
      omega
    · rw [Lib.decDigits, dif_neg h10]
      refine ⟨fun c hc => ?_, by simp⟩
      rcases List.mem_append.1 hc with h1 | h1
      · exact (dec_digits n (u / 10) (by omega)).1 c h1
      · rw [List.mem_singleton] at h1
        subst h1
        rw [dig_b (by omega)]
        omega
theorem itoa_digits {n : Int} (h : 0 ≤ n) : (∀ c ∈ Lib.itoa n, 48 ≤ c.toNat ∧ c.toNat ≤ 57) ∧ Lib.itoa n ≠ [] := by
  obtain ⟨u, rfl⟩ : ∃ u : Nat, n = u := ⟨n.toNat, by omega⟩
  rw [itoa_nat]
  exact dec_digits _ u (Nat.lt_succ_self _)
theorem itoa_no {n : Int} (h : 0 ≤ n) : 32 ∉ Lib.itoa n ∧ 10 ∉ Lib.itoa n := by
  have hd := (itoa_digits h).1
  exact ⟨fun hm => absurd (hd _ hm).1 (by decide), fun hm => absurd (hd _ hm).1 (by decide)⟩
theorem atoi_itoa {n : Int} (h : 0 ≤ n) (h2 : n < 9223372036854775808) : Lib.atoiAll (Lib.itoa n) = .ok n := by
  obtain ⟨hd, hne⟩ := itoa_digits h
  obtain ⟨u, rfl⟩ : ∃ u : Nat, n = u := ⟨n.toNat, by omega⟩
  rw [itoa_nat] at hd hne ⊢
  have hp := p10_dec _ u (Nat.lt_succ_self _) (by omega)
  cases hl : Lib.decDigits u with
  | nil => exact absurd hl hne
  | cons c r =>
    have hc := hd c (by rw [hl]; exact List.mem_cons_self ..)
    rw [Lib.atoiAll_plain c r (by omega) (by omega)]
    have hm : Lib.parseMag (c :: r) = .ok u := by
      unfold Lib.parseMag
      rw [if_neg (by simp), ← hl]
      exact hp
    rw [hm]
    unfold Lib.signless
    simp only
    rw [if_neg (by omega)]
theorem numE_itoa {n : Int} (h : 0 ≤ n) (h2 : n < 9223372036854775808) : numE (Lib.itoa n) = some n := by
  unfold numE
  rw [atoi_itoa h h2]
  simp [h]
theorem numE_none {s : List UInt8} (h : ∀ v : Int, 0 ≤ v → v < 9223372036854775808 → s ≠ Lib.itoa v) : numE s = none := by
  cases hn : numE s with
  | none => rfl
  | some v =>
    exfalso
    have h1 := numE_some hn
    unfold numE at hn
    split at hn
    · rename_i x hx
      have h2 := (Lib.atoiAll_bounds hx).2
      split at hn
      · simp only [Option.some.injEq] at hn
        subst hn
        exact h x h1.1 (by omega) h1.2.symm
      · cases hn
    · cases hn
def chkE (e : Ev) : Option Ev := if plainE e then some e else none
/-- The plain event whose text a line (without its line feed) is. -/
def readE (s : List UInt8) : Option Ev := match splitE s with
  | [w, a] => if idxE w = 11 then (numE a).bind fun t => chkE ⟨11, t, 0⟩ else none
  | [w, a, b] => if idxE w = 0 ∨ idxE w = 11 then none else (numE a).bind fun t => (numE b).bind fun o => chkE ⟨idxE w, t, o⟩
  | _ => none
theorem chkE_some {e x : Ev} (h : chkE e = some x) : x = e ∧ plainE e = true := by
  unfold chkE at h
  split at h
  · rename_i hc
    simp only [Option.some.injEq] at h
    exact ⟨h.symm, hc⟩
  · cases h
theorem chkE_ok {e : Ev} (h : plainE e = true) : chkE e = some e := by unfold chkE; rw [if_pos h]
theorem word_idx {w : List UInt8} (h : idxE w ≠ 0) : wordE (idxE w : Nat) = w ∧ 1 ≤ idxE w ∧ idxE w ≤ 11 := by
  rcases idx_at w with ⟨h1, _⟩ | ⟨h1, h2, h3⟩
  · exact absurd h1 h
  · exact ⟨(word_eq _ h1 h2).trans h3, h1, h2⟩
theorem line_read {s : List UInt8} {e : Ev} (h : readE s = some e) : plainE e = true ∧ s ++ [10] = lineE e := by
  unfold readE at h
  split at h
  · rename_i w a hs
    obtain ⟨_, hj⟩ := splitE_join _ _ _ hs
    split at h
    · rename_i hw
      cases ha : numE a with
      | none => rw [ha] at h; cases h
      | some t =>
        rw [ha] at h
        obtain ⟨rfl, hp⟩ := chkE_some (show chkE ⟨11, t, 0⟩ = some e from h)
        refine ⟨hp, ?_⟩
        obtain ⟨_, h2⟩ := numE_some ha
        obtain ⟨h3, _⟩ := word_idx (w := w) (by omega)
        rw [hw] at h3
        unfold lineE
        simp only [if_true]
        rw [hj, h2, show wordE (11 : Int) = w from h3]
        simp
    · cases h
  · rename_i w a b hs
    obtain ⟨_, hj⟩ := splitE_join _ _ _ hs
    split at h
    · cases h
    · rename_i hw
      cases ha : numE a with
      | none => rw [ha] at h; cases h
      | some t =>
        rw [ha] at h
        cases hb : numE b with
        | none => simp only [Option.bind_some, hb] at h; cases h
        | some o =>
          simp only [Option.bind_some, hb] at h
          obtain ⟨rfl, hp⟩ := chkE_some h
          refine ⟨hp, ?_⟩
          obtain ⟨_, h2⟩ := numE_some ha
          obtain ⟨_, h4⟩ := numE_some hb
          obtain ⟨h3, _⟩ := word_idx (w := w) (by omega)
          unfold lineE
          simp only
          rw [if_neg (by omega), hj, h2, h3, h4]
          simp
  · cases h
/-- A line without its line feed. -/
def lineS (e : Ev) : List UInt8 := wordE e.k ++ [32] ++ Lib.itoa e.t ++ (if e.k = 11 then [] else [32] ++ Lib.itoa e.o)
theorem lineE_S (e : Ev) : lineE e = lineS e ++ [10] := rfl
theorem line_no {e : Ev} (h : plainE e = true) : 10 ∉ lineS e := by
  obtain ⟨h1, h2, h3, _⟩ := plainE_out h
  have hw := (word_no _ (word_mem h1.1 h1.2)).2.1
  have ht := (itoa_no h2.1).2
  have ho := (itoa_no h3.1).2
  unfold lineS
  split <;> simp [hw, ht, ho]
theorem read_line {e : Ev} (h : plainE e = true) : readE (lineS e) = some e := by
  obtain ⟨h1, h2, h3, h4⟩ := plainE_out h
  have hw := (word_no _ (word_mem h1.1 h1.2)).1
  have ht := (itoa_no h2.1).1
  have ho := (itoa_no h3.1).1
  have hi : idxE (wordE e.k) = e.k.toNat := by
    have := idx_word (e.k - 1).toNat (by omega)
    unfold wordE
    omega
  have hk : ((idxE (wordE e.k) : Nat) : Int) = e.k := by omega
  by_cases hx : e.k = 11
  · have hs : splitE (lineS e) = [wordE e.k, Lib.itoa e.t] := by
      unfold lineS
      rw [if_pos hx, List.append_nil, List.append_assoc, List.singleton_append, splitE_app _ _ hw, splitE_no _ ht]
    unfold readE
    rw [hs]
    simp only
    rw [if_pos (by omega), numE_itoa h2.1 (by omega)]
    have he : e = ⟨11, e.t, 0⟩ := Ev.same hx rfl (h4 hx)
    simp only [Option.bind_some]
    rw [← he]
    exact chkE_ok h
  · have hs : splitE (lineS e) = [wordE e.k, Lib.itoa e.t, Lib.itoa e.o] := by
      unfold lineS
      rw [if_neg hx]
      simp only [List.append_assoc, List.singleton_append, List.cons_append, List.nil_append]
      rw [splitE_app _ _ hw, splitE_app _ _ ht, splitE_no _ ho]
    unfold readE
    rw [hs]
    simp only
    rw [if_neg (by omega), numE_itoa h2.1 (by omega), numE_itoa h3.1 (by omega)]
    simp only [Option.bind_some]
    rw [hk]
    exact chkE_ok h
/-- The text up to the first line feed, and what stands behind it. -/
def cutE : List UInt8 → Option (List UInt8 × List UInt8)
  | [] => none
  | c :: r => if c = 10 then some ([], r) else (cutE r).map fun p => (c :: p.1, p.2)
theorem cutE_app : ∀ (a r : List UInt8), 10 ∉ a → cutE (a ++ 10 :: r) = some (a, r)
  | [], r, _ => by simp [cutE]
  | c :: a, r, h => by
    simp only [List.mem_cons, not_or] at h
    rw [List.cons_append, cutE, if_neg (fun e => h.1 e.symm), cutE_app a r h.2]
    rfl
theorem cutE_some : ∀ {s a r : List UInt8}, cutE s = some (a, r) → 10 ∉ a ∧ s = a ++ 10 :: r
  | [], a, r, h => by cases h
  | c :: s, a, r, h => by
    unfold cutE at h
    split at h
    · rename_i hc
      simp only [Option.some.injEq, Prod.mk.injEq] at h
      obtain ⟨rfl, rfl⟩ := h
      exact ⟨by simp, by rw [hc]; rfl⟩
    · rename_i hc
      cases h2 : cutE s with
      | none => rw [h2] at h; cases h
      | some p =>
        rw [h2] at h
        simp only [Option.map_some, Option.some.injEq, Prod.mk.injEq] at h
        obtain ⟨rfl, rfl⟩ := h
        obtain ⟨h3, h4⟩ := cutE_some (a := p.1) (r := p.2) h2
        exact ⟨by simp only [List.mem_cons, not_or]; exact ⟨fun e => hc e.symm, h3⟩, by rw [h4]; rfl⟩
theorem cutE_none : ∀ {s : List UInt8}, cutE s = none ↔ 10 ∉ s
  | [] => by simp [cutE]
  | c :: s => by
    unfold cutE
    split
    · rename_i hc
      simp [hc]
    · rename_i hc
      rw [Option.map_eq_none_iff, cutE_none]
      simp only [List.mem_cons, not_or]
      exact ⟨fun h => ⟨fun e => hc e.symm, h⟩, fun h => h.2⟩
/-- What stands in a text behind acc's lines; an error tells the line. -/
def parseE : Nat → List UInt8 → List Ev → Except Nat (List Ev)
  | 0, _, acc => .error (acc.length + 1)
  | n + 1, s, acc => if s = [] then .ok acc else match cutE s with
    | none => .error (acc.length + 1)
    | some (a, r) => match readE a with
      | none => .error (acc.length + 1)
      | some e => parseE n r (acc ++ [e])
def parseD (s : List UInt8) : Except Nat (List Ev) := parseE (s.length + 1) s []
theorem parseE_nil (n : Nat) (acc : List Ev) : parseE (n + 1) [] acc = .ok acc := by simp [parseE]
theorem parseE_fed {n : Nat} {s a r : List UInt8} {e : Ev} {acc : List Ev} (h1 : cutE s = some (a, r)) (h2 : readE a = some e) : parseE (n + 1) s acc = parseE n r (acc ++ [e]) := by
  have hs : s ≠ [] := fun e => by rw [e] at h1; cases h1
  conv => lhs; unfold parseE
  rw [if_neg hs, h1]
  simp only [h2]
theorem parseE_bad {n : Nat} {s : List UInt8} {acc : List Ev} (hs : s ≠ []) (h : cutE s = none ∨ ∃ a r, cutE s = some (a, r) ∧ readE a = none) : parseE (n + 1) s acc = .error (acc.length + 1) := by
  unfold parseE
  rw [if_neg hs]
  rcases h with h | ⟨a, r, h, h2⟩
  · rw [h]
  · rw [h]; simp only [h2]
theorem parse_lines : ∀ (l : List Ev) (n : Nat) (acc : List Ev), (∀ e ∈ l, plainE e = true) → l.length < n → parseE n (linesE l) acc = .ok (acc ++ l)
  | [], 0, _, _, h => absurd h (by simp)
  | [], n + 1, acc, _, _ => by simp [linesE, parseE]
  | e :: l, 0, _, _, h => absurd h (by simp)
  | e :: l, n + 1, acc, h, hn => by
    have he := h e (List.mem_cons_self ..)
    have hs : linesE (e :: l) = lineS e ++ 10 :: linesE l := by simp [linesE, lineE_S]
    rw [hs, parseE_fed (cutE_app _ _ (line_no he)) (read_line he), parse_lines l n _ (fun x hx => h x (List.mem_cons_of_mem _ hx)) (by simp only [List.length_cons] at hn; omega)]
    simp
theorem lines_parse : ∀ (n : Nat) (s : List UInt8) (acc l : List Ev), parseE n s acc = .ok l → ∃ m, l = acc ++ m ∧ linesE m = s ∧ ∀ e ∈ m, plainE e = true
  | 0, _, _, _, h => by cases h
  | n + 1, s, acc, l, h => by
    unfold parseE at h
    split at h
    · rename_i hs
      simp only [Except.ok.injEq] at h
      exact ⟨[], by simp [h], by simp [linesE, hs], by simp⟩
    · split at h
      · cases h
      · rename_i a r hc
        cases hr : readE a with
        | none => rw [hr] at h; cases h
        | some e =>
          rw [hr] at h
          obtain ⟨m, h1, h2, h3⟩ := lines_parse n r _ l h
          obtain ⟨h4, h5⟩ := line_read hr
          refine ⟨e :: m, by rw [h1]; simp, ?_, fun x hx => ?_⟩
          · obtain ⟨_, h6⟩ := cutE_some hc
            rw [h6]
            show lineE e ++ linesE m = _
            rw [← h5, h2]
            simp
          · rcases List.mem_cons.1 hx with rfl | hx
            · exact h4
            · exact h3 x hx
theorem line_len (e : Ev) : 1 ≤ (lineE e).length := by unfold lineE; simp; omega
theorem lines_len : ∀ l : List Ev, l.length ≤ (linesE l).length
  | [] => by simp [linesE]
  | e :: l => by
    have h1 := line_len e
    have h2 := lines_len l
    simp only [linesE, List.flatMap_cons, List.length_append, List.length_cons] at h2 ⊢
    omega
/-- What is told of a list is read as that list. -/
theorem text_back {l : List Ev} {s : List UInt8} (h : textD l = (s, 0)) : parseD s = .ok l := by
  unfold textD at h
  split at h
  · rename_i hp
    split at h
    · simp at h
    · simp only [Prod.mk.injEq, and_true] at h
      subst h
      unfold parseD
      rw [parse_lines l _ [] (fun e he => List.all_eq_true.1 hp e he) (by have := lines_len l; omega)]
      rfl
  · simp at h
/-- What is read of a text is told as that text. -/
theorem text_again {l : List Ev} {s : List UInt8} (h : parseD s = .ok l) (hs : s.length ≤ 16777216) : textD l = (s, 0) := by
  obtain ⟨m, h1, h2, h3⟩ := lines_parse _ _ _ _ h
  rw [List.nil_append] at h1
  subst h1
  unfold textD
  rw [if_pos (List.all_eq_true.2 h3), h2, if_neg (by omega)]
end Go.AB

/- Events as bytes, plain: runs, what is laid, what is read. No program in sight. -/
set_option linter.unusedSimpArgs false
set_option linter.unusedVariables false
set_option linter.unusedSectionVars false
namespace Go.AB
open Go.RowKit

section
variable {L : List UInt8}
theorem rShort_whT {m : Nat} {s : RS} (h : (rShort m L s).2.bad = 0) : (rShort m L s).2.wh = s.wh ∧ s.bad = 0 ∧ (rShort m L s).1 ≤ m := by
  revert h
  unfold rShort
  repeat' split
  all_goals (intro h; simp_all [RS.fails])
theorem rFixed_whT {m : Nat} {s : RS} (h : (rFixed m L s).2.bad = 0) : (rFixed m L s).2.wh = s.wh ∧ s.bad = 0 := by
  revert h
  unfold rFixed
  repeat' split
  all_goals (intro h; simp_all [RS.fails])
theorem rFixed_ltT (s : RS) : (rFixed 1 L s).1 < 256 := by
  unfold rFixed
  repeat' split
  · show 0 < 256; omega
  · show 0 < 256; omega
  · have := leNat_lt ((L.drop s.pos).take 1)
    have h1 : ((L.drop s.pos).take 1).length ≤ 1 := by rw [List.length_take]; omega
    exact Nat.lt_of_lt_of_le this (Nat.le_trans (Nat.pow_le_pow_right (by decide) h1) (by decide))
theorem p_shortT (m : Nat) : Prim L (rShort m L) shortB (fun v => v ≤ m ∧ U64 v) :=
  ⟨fun s hs => by unfold rShort; rw [if_pos hs]; exact hs,
   fun s hs hb => ⟨(rShort_whT hb).1, rShort_ok hs, ((step_short L m s hs).keep hb).2, (rShort_whT hb).2.2, rShort_U64 m L s⟩,
   fun p wh x rest ho hd => back_short ho.2 ho.1 hd⟩
theorem p_byteT : Prim L (rFixed 1 L) (fun v => [UInt8.ofNat v]) (fun v => v < 256) :=
  ⟨fun s hs => by unfold rFixed; rw [if_pos hs]; exact hs,
   fun s hs hb => ⟨(rFixed_whT hb).1, rFixed_ok hs, by simpa [fixedB] using ((step_fixed L 1 (by omega) s hs).keep hb).2, rFixed_ltT s⟩,
   fun p wh x rest ho hd => by
    have h := back_fixed (n := 1) (m := x) (wh := wh) (rest := rest) (by simpa [fixedB] using hd)
    rw [h]
    simp only [List.length_cons, List.length_nil, Nat.zero_add, Nat.pow_one]
    rw [Nat.mod_eq_of_lt ho]⟩
end
/-- As rep_codec, where what is right hangs on what stood ahead. -/
def oks {α σ : Type} (ok : σ → α → Prop) (nx : α → σ) : σ → List α → Prop
  | _, [] => True
  | s, x :: xs => ok s x ∧ oks ok nx (nx x) xs
theorem rep_codec2 {α σ : Type} {L : List UInt8} {d : σ → Ps α} {nx : α → σ} {enc : σ → α → List UInt8} {ok : σ → α → Prop} (h : ∀ s, Codec L (d s) (enc s) (ok s)) :
    ∀ n s, Codec L (rep d nx n s) (encs enc nx s) (fun xs => xs.length = n ∧ oks ok nx s xs)
  | 0, s => ⟨fun p x q hp hd => by simp only [rep, Option.some.injEq, Prod.mk.injEq] at hd; obtain ⟨rfl, rfl⟩ := hd; simp [encs, oks]; exact hp,
      fun p x rest ho hd => by obtain rfl := List.eq_nil_of_length_eq_zero ho.1; simp [rep, encs]⟩
  | n + 1, s => by
    refine ⟨fun p x q hp hd => ?_, fun p x rest ho hd => ?_⟩
    · rcases k : d s p with _ | ⟨a, r⟩
      · simp [rep, k] at hd
      · rcases k2 : rep d nx n (nx a) r with _ | ⟨b, t⟩
        · simp [rep, k, k2] at hd
        · simp only [rep, k, k2, Option.bind_some, Option.map_some, Option.some.injEq, Prod.mk.injEq] at hd
          obtain ⟨rfl, rfl⟩ := hd
          obtain ⟨a1, a2, a3⟩ := (h s).fwd p a r hp k
          obtain ⟨b1, b2, b3⟩ := (rep_codec2 h n (nx a)).fwd r b t a2 k2
          exact ⟨⟨by simp [b1.1], a1, b1.2⟩, b2, by rw [b3, a3]; simp [encs, List.append_assoc]⟩
    · rcases x with _ | ⟨y, ys⟩
      · simp at ho
      · simp only [encs, List.append_assoc] at hd
        have a := (h s).bwd p y _ ho.2.1 hd
        have b := (rep_codec2 h n (nx y)).bwd _ ys rest ⟨by have := ho.1; simp at this; omega, ho.2.2⟩ (drop_app hd)
        simp only [rep, a, b, Option.bind_some, Option.map_some, encs, List.length_append, Nat.add_assoc]

/-! runs -/
/-- The runs of one thread. -/
def runsE : List Ev → List (List Ev)
  | [] => []
  | e :: l => match runsE l with
    | [] => [[e]]
    | [] :: rs => [e] :: [] :: rs
    | (x :: r) :: rs => if x.t = e.t then (e :: x :: r) :: rs else [e] :: (x :: r) :: rs
/-- The thread of a run. -/
def thrE (r : List Ev) : Int := (r.head?.map Ev.t).getD 0
/-- A run of plain events of one thread, which is not the one ahead of it. -/
def runOk (last : Int) (r : List Ev) : Prop := r ≠ [] ∧ thrE r ≠ last ∧ ∀ e ∈ r, e.t = thrE r
def runPl (last : Int) (r : List Ev) : Prop := runOk last r ∧ ∀ e ∈ r, plainE e = true
theorem runs_cons (e : Ev) (l : List Ev) (last : Int) (he : e.t ≠ last) : oks runOk thrE last (runsE (e :: l)) ∧ (runsE (e :: l)).flatten = e :: l ∧ ∃ r rs, runsE (e :: l) = r :: rs ∧ r.head? = some e := by
  induction l generalizing e last with
  | nil => exact ⟨⟨⟨by simp, by simpa [thrE] using he, by simp [thrE]⟩, trivial⟩, rfl, [e], [], rfl, rfl⟩
  | cons x l ih =>
    obtain ⟨r, rs, hr, hx⟩ := (ih x (x.t + 1) (by omega)).2.2
    have hfl := (ih x (x.t + 1) (by omega)).2.1
    cases r with
    | nil => cases hx
    | cons y r =>
      simp only [List.head?_cons, Option.some.injEq] at hx
      subst hx
      unfold runsE
      rw [hr] at hfl ⊢
      simp only
      split
      · rename_i hxe
        refine ⟨?_, by simp only [List.flatten_cons, List.cons_append] at hfl ⊢; rw [hfl], _, _, rfl, rfl⟩
        have h1 := (ih y (y.t + 1) (by omega)).1
        rw [hr] at h1
        obtain ⟨⟨_, _, h2⟩, h3⟩ := h1
        have ht : thrE (e :: y :: r) = thrE (y :: r) := by simp [thrE, hxe]
        refine ⟨⟨by simp, by simpa [thrE] using he, fun z hz => ?_⟩, by rw [ht]; exact h3⟩
        rw [ht]
        rcases List.mem_cons.1 hz with rfl | hz
        · simp [thrE, hxe]
        · exact h2 z hz
      · rename_i hxe
        have h1 := (ih y e.t hxe).1
        rw [hr] at h1
        refine ⟨⟨⟨by simp, by simpa [thrE] using he, by simp [thrE]⟩, ?_⟩, by simp only [List.flatten_cons, List.cons_append, List.nil_append] at hfl ⊢; rw [hfl], _, _, rfl, rfl⟩
        simpa [thrE] using h1
theorem runs_ok (l : List Ev) (last : Int) (h : ∀ e ∈ l.head?, e.t ≠ last) : oks runOk thrE last (runsE l) := by
  cases l with
  | nil => trivial
  | cons e l => exact (runs_cons e l last (h e rfl)).1
theorem runs_flat (l : List Ev) : (runsE l).flatten = l := by
  cases l with
  | nil => rfl
  | cons e l => exact (runs_cons e l (e.t + 1) (by omega)).2.1
theorem runs_of : ∀ (rs : List (List Ev)) (last : Int), oks runOk thrE last rs → runsE rs.flatten = rs
  | [], _, _ => rfl
  | r :: rs, last, ⟨⟨h1, h2, h3⟩, h4⟩ => by
    have ih := runs_of rs _ h4
    have go : ∀ (r : List Ev), r ≠ [] → (∀ e ∈ r, e.t = thrE r) → (∀ r2 rs2, rs = r2 :: rs2 → r2 ≠ [] ∧ thrE r2 ≠ thrE r) → runsE (r ++ rs.flatten) = r :: rs := by
      intro r
      induction r with
      | nil => intro h; exact absurd rfl h
      | cons e r ihr =>
        intro _ ha hb
        rw [List.cons_append]
        cases r with
        | nil =>
          rw [List.nil_append]
          unfold runsE
          rw [ih]
          cases rs with
          | nil => rfl
          | cons r2 rs2 =>
            obtain ⟨hb1, hb2⟩ := hb r2 rs2 rfl
            cases r2 with
            | nil => exact absurd rfl hb1
            | cons y r2 =>
              simp only
              rw [if_neg (by simpa [thrE] using hb2)]
        | cons y r =>
          have hte : thrE (e :: y :: r) = e.t := by simp [thrE]
          have hy : y.t = e.t := by rw [← hte]; exact ha y (by simp)
          have hty : thrE (y :: r) = e.t := by simp [thrE, hy]
          have h5 := ihr (by simp) (fun z hz => by rw [hty, ← hte]; exact ha z (List.mem_cons_of_mem _ hz)) (fun r2 rs2 he => by rw [hty, ← hte]; exact hb r2 rs2 he)
          unfold runsE
          rw [h5]
          simp only
          rw [if_pos hy]
    rw [List.flatten_cons]
    refine go r h1 h3 (fun r2 rs2 he => ?_)
    rw [he] at h4
    exact ⟨h4.1.1, h4.1.2.1⟩
theorem oks_mono {α σ : Type} {ok ok' : σ → α → Prop} {nx : α → σ} (h : ∀ s x, ok s x → ok' s x) : ∀ (l : List α) (s : σ), oks ok nx s l → oks ok' nx s l
  | [], _, _ => trivial
  | x :: l, s, ⟨h1, h2⟩ => ⟨h s x h1, oks_mono h l _ h2⟩
theorem oks_mem {α σ : Type} {ok : σ → α → Prop} {nx : α → σ} {Q : α → Prop} (h : ∀ s x, ok s x → Q x) : ∀ (l : List α) (s : σ), oks ok nx s l → ∀ x ∈ l, Q x
  | [], _, _, _, hx => absurd hx (by simp)
  | y :: l, s, ⟨h1, h2⟩, x, hx => by
    rcases List.mem_cons.1 hx with rfl | hx
    · exact h s x h1
    · exact oks_mem h l _ h2 x hx
theorem oks_and {α σ : Type} {ok : σ → α → Prop} {nx : α → σ} {Q : α → Prop} : ∀ (l : List α) (s : σ), oks ok nx s l → (∀ x ∈ l, Q x) → oks (fun s x => ok s x ∧ Q x) nx s l
  | [], _, _, _ => trivial
  | x :: l, s, ⟨h1, h2⟩, h => ⟨⟨h1, h x (List.mem_cons_self ..)⟩, oks_and l _ h2 (fun y hy => h y (List.mem_cons_of_mem _ hy))⟩
theorem runs_len (l : List Ev) : (runsE l).length ≤ l.length := by
  have h := runs_flat l
  have hne := oks_mem (nx := thrE) (Q := fun r : List Ev => 1 ≤ r.length) (fun s x (hx : runOk s x) => by have := List.length_pos_iff.2 hx.1; omega) (runsE l)
  cases l with
  | nil => simp [runsE]
  | cons e l =>
    have h2 := hne (e.t + 1) (runs_ok (e :: l) (e.t + 1) (fun x hx => by simp only [List.head?_cons, Option.mem_def, Option.some.injEq] at hx; subst hx; omega))
    have hc := congrArg List.length h
    rw [List.length_flatten] at hc
    have : (runsE (e :: l)).length ≤ ((runsE (e :: l)).map List.length).sum := by
      generalize runsE (e :: l) = rs at h2
      clear hc h hne
      induction rs with
      | nil => simp
      | cons r rs ih =>
        have h3 := h2 r (List.mem_cons_self ..)
        have := ih (fun x hx => h2 x (List.mem_cons_of_mem _ hx))
        simp only [List.map_cons, List.sum_cons, List.length_cons]
        omega
    omega

/-! bytes -/
def evB (e : Ev) : List UInt8 := [UInt8.ofNat e.k.toNat] ++ (if e.k = 11 then [] else shortB e.o.toNat)
def runB (r : List Ev) : List UInt8 := (shortB (thrE r).toNat ++ shortB r.length) ++ r.flatMap evB
def bodyE (l : List Ev) : List UInt8 := shortB (runsE l).length ++ (runsE l).flatMap runB
/-- A list's bytes, or the refusal. -/
def encE (l : List Ev) : List UInt8 × Nat := if l.all plainE then (if 16777216 < (bodyE l).length then ([], 3) else (frameB 3 (bodyE l), 0)) else ([], 6)
/-- An event of a thread, taken. -/
def pEv (L : List UInt8) (s : RS) : (Nat × Nat) × RS :=
  let k := rFixed 1 L s
  let o := (fun t => if k.1 ≠ 11 then rShort 65535 L t else (0, t)) k.2
  ((k.1, o.1), o.2)
def evOf (t : Nat) (r : Nat × Nat) : Ev := ⟨r.1, t, r.2⟩
def dEv (L : List UInt8) (t : Nat) : Ps Ev := fun p => (sureP (pEv L) (fun r => plainE (evOf t r)) p).map fun r => (evOf t r.1, r.2)
def pRun (L : List UInt8) (s : RS) : (Nat × Nat) × RS := (((rShort 65534 L s).1, (rShort 16777216 L (rShort 65534 L s).2).1), (rShort 16777216 L (rShort 65534 L s).2).2)
def dRun (L : List UInt8) (last : Int) : Ps (List Ev) := fun p =>
  ((sureP (pRun L) (fun r => decide (r.2 ≠ 0) && decide ((r.1 : Int) ≠ last)) p).bind fun r => (rep (fun _ : Unit => dEv L r.1.1) (fun _ => ()) r.1.2 () r.2).map fun t => ((r.1, t.1), t.2)).map fun r => (r.1.2, r.2)
def dRuns (L : List UInt8) : Ps (List (List Ev)) := fun p =>
  ((sureP (rShort 16777216 L) (fun _ => true) p).bind fun r => (rep (dRun L) thrE r.1 (-1) r.2).map fun t => ((r.1, t.1), t.2)).map fun r => (r.1.2, r.2)
def dBodyE (L : List UInt8) : Option (List Ev) := (dRuns L 0).bind fun r => if r.2 = L.length then some r.1.flatten else none
/-- What bytes say: the list, or the refusal. -/
def decE (L : List UInt8) : List Ev × Nat := if (openB L).2.2 ≠ 0 then ([], (openB L).2.2) else if (openB L).1 ≠ 3 then ([], 182) else match dBodyE (openB L).2.1 with
  | some l => (l, 0)
  | none => ([], 181)
section
variable {L : List UInt8}
theorem c_ev (t : Nat) : Codec L (dEv L t) evB (fun e => plainE e = true ∧ e.t = t) := by
  have hp := (p_byteT (L := L)).pair (fun k => (p_shortT (L := L) 65535).opt (decide (k ≠ 11)) 0)
  have hp' : Prim L (pEv L) (fun x => [UInt8.ofNat x.1] ++ (if decide (x.1 ≠ 11) = true then shortB x.2 else [])) (fun x => x.1 < 256 ∧ (if decide (x.1 ≠ 11) = true then x.2 ≤ 65535 ∧ U64 x.2 else x.2 = 0)) := by
    have e : (fun s => (((rFixed 1 L s).1, (if decide ((rFixed 1 L s).1 ≠ 11) = true then rShort 65535 L (rFixed 1 L s).2 else (0, (rFixed 1 L s).2)).1), (if decide ((rFixed 1 L s).1 ≠ 11) = true then rShort 65535 L (rFixed 1 L s).2 else (0, (rFixed 1 L s).2)).2)) = pEv L := by
      funext s
      unfold pEv
      simp only [decide_eq_true_eq]
    rw [← e]
    exact hp
  refine (hp'.sure (fun r => plainE (evOf t r))).to (enc' := evB) (ok' := fun e => plainE e = true ∧ e.t = t) (evOf t) (fun x hx => ⟨⟨hx.2, rfl⟩, ?_⟩) (fun y hy => ?_)
  · unfold evB evOf
    simp only [Int.toNat_natCast, decide_eq_true_eq]
    by_cases h : x.1 = 11
    · rw [if_pos (by omega), if_neg (by omega)]
    · rw [if_neg (by omega), if_pos h]
  · obtain ⟨k, t', o⟩ := y
    obtain ⟨h1, h2⟩ := hy
    simp only at h2
    subst h2
    obtain ⟨g1, g2, g3, g4⟩ := plainE_out h1
    simp only at g1 g2 g3 g4
    have he : evOf t (k.toNat, o.toNat) = ⟨k, t, o⟩ := Ev.same (by simp only [evOf]; omega) rfl (by simp only [evOf]; omega)
    refine ⟨(k.toNat, o.toNat), ⟨⟨by simp only; omega, ?_⟩, by rw [he]; exact h1⟩, he⟩
    simp only [decide_eq_true_eq]
    by_cases h : k.toNat = 11
    · rw [if_neg (by omega)]
      have := g4 (by omega)
      omega
    · rw [if_pos h]
      exact ⟨by omega, by unfold U64; omega⟩
theorem c_run (last : Int) (hl : last < 0 ∨ 0 ≤ last) : Codec L (dRun L last) runB (fun r => runPl last r ∧ r.length ≤ 16777216) := by
  refine (Codec.pair (((p_shortT (L := L) 65534).pair (fun _ => p_shortT 16777216)).sure (fun r => decide (r.2 ≠ 0) && decide ((r.1 : Int) ≠ last))) (fun x _ => rep_codec (V := fun _ => True) (fun _ _ => c_ev x.1) (fun _ _ => trivial) x.2 () trivial)).to
    (enc' := runB) (ok' := fun r => runPl last r ∧ r.length ≤ 16777216) (fun r => r.2) (fun x hx => ?_) (fun y hy => ?_)
  · obtain ⟨⟨t, n⟩, l⟩ := x
    obtain ⟨⟨⟨⟨h1, h2⟩, h3, h4⟩, h5⟩, h6, h7⟩ := hx
    simp only at h1 h2 h3 h4 h5 h6 h7 ⊢
    simp only [Bool.and_eq_true, decide_eq_true_eq] at h5
    subst h6
    cases l with
    | nil => exact absurd rfl h5.1
    | cons e l =>
      have ht : thrE (e :: l) = t := by simp only [thrE, List.head?_cons, Option.map_some, Option.getD_some]; exact (h7 e (List.mem_cons_self ..)).2
      refine ⟨⟨⟨⟨by simp, by rw [ht]; exact h5.2, fun z hz => by rw [ht]; exact (h7 z hz).2⟩, fun z hz => (h7 z hz).1⟩, h3⟩, ?_⟩
      unfold runB
      rw [ht, encs_flat]
      simp only [Int.toNat_natCast]
  · obtain ⟨⟨⟨h1, h2, h3⟩, h4⟩, h5⟩ := hy
    cases y with
    | nil => exact absurd rfl h1
    | cons e l =>
      obtain ⟨_, g2, _⟩ := plainE_out (h4 e (List.mem_cons_self ..))
      have ht : thrE (e :: l) = e.t := rfl
      refine ⟨((e.t.toNat, (e :: l).length), e :: l), ⟨⟨⟨⟨by simp only; omega, by unfold U64; simp only; omega⟩, h5, by unfold U64; simp only; omega⟩, ?_⟩, rfl, fun z hz => ⟨h4 z hz, ?_⟩⟩, rfl⟩
      · simp only [Bool.and_eq_true, decide_eq_true_eq, List.length_cons]
        refine ⟨by omega, ?_⟩
        rw [ht] at h2
        omega
      · have := h3 z hz
        rw [ht] at this
        simp only
        omega
theorem c_runs : Codec L (dRuns L) (fun rs => shortB rs.length ++ rs.flatMap runB) (fun rs => rs.length ≤ 16777216 ∧ oks (fun last r => runPl last r ∧ r.length ≤ 16777216) thrE (-1) rs) := by
  have hfl : ∀ (rs : List (List Ev)) (s : Int), encs (fun _ : Int => runB) thrE s rs = rs.flatMap runB := fun rs => by
    induction rs with
    | nil => intro s; rfl
    | cons r rs ih => intro s; simp [encs, ih]
  refine (Codec.pair ((p_shortT (L := L) 16777216).sure (fun _ => true)) (fun n _ => rep_codec2 (fun s => c_run s (by omega)) n (-1))).to (enc' := fun rs => shortB rs.length ++ rs.flatMap runB) (ok' := fun rs => rs.length ≤ 16777216 ∧ oks (fun last r => runPl last r ∧ r.length ≤ 16777216) thrE (-1) rs) (fun r => r.2) (fun x hx => ?_) (fun y hy => ?_)
  · obtain ⟨n, l⟩ := x
    obtain ⟨⟨⟨h1, h2⟩, _⟩, h3, h4⟩ := hx
    simp only at h1 h2 h3 h4 ⊢
    subst h3
    exact ⟨⟨h1, h4⟩, by rw [hfl]⟩
  · exact ⟨(y.length, y), ⟨⟨⟨hy.1, by unfold U64; simp only; have := hy.1; omega⟩, rfl⟩, rfl, hy.2⟩, rfl⟩
/-- A body is taken just if it is a list's of plain events. -/
theorem dBodyE_iff {l : List Ev} (hL : L.length ≤ 16777216) : dBodyE L = some l ↔ (∀ e ∈ l, plainE e = true) ∧ L = bodyE l := by
  constructor
  · intro h
    unfold dBodyE at h
    rcases k : dRuns L 0 with _ | ⟨rs, q⟩
    · simp [k] at h
    simp only [k, Option.bind_some] at h
    split at h
    · rename_i hc
      simp only [Option.some.injEq] at h
      subst h
      obtain ⟨⟨a1, a2⟩, _, a3⟩ := c_runs.fwd _ _ _ (Nat.zero_le _) k
      have hro := runs_of rs _ (oks_mono (fun s x hx => hx.1.1) _ _ a2)
      refine ⟨fun e he => ?_, ?_⟩
      · obtain ⟨r, hr, her⟩ := List.mem_flatten.1 he
        exact oks_mem (Q := fun r => ∀ e ∈ r, plainE e = true) (fun s x hx => hx.1.2) _ _ a2 r hr e her
      · unfold bodyE
        rw [hro]
        rw [hc, List.take_length] at a3
        simpa using a3
    · cases h
  · rintro ⟨hp, he⟩
    have hfl := runs_flat l
    have hpl : ∀ r ∈ runsE l, ∀ e ∈ r, plainE e = true := fun r hr e her => hp e (by rw [← hfl]; exact List.mem_flatten.2 ⟨r, hr, her⟩)
    have hb1 : ∀ e : Ev, 1 ≤ (evB e).length := fun e => by unfold evB; simp
    have hb2 : ∀ l : List Ev, l.length ≤ (l.flatMap evB).length := fun l => by
      induction l with
      | nil => simp
      | cons e l ih => have := hb1 e; simp only [List.flatMap_cons, List.length_append, List.length_cons]; omega
    have hs1 : ∀ v : Nat, 1 ≤ (shortB v).length := fun v => by rw [shortB]; split <;> simp
    have hb3 : ∀ r : List Ev, r.length ≤ (runB r).length ∧ 1 ≤ (runB r).length := fun r => by
      have h1 := hb2 r
      have h2 := hs1 (thrE r).toNat
      unfold runB
      simp only [List.length_append]
      omega
    have hb4 : ∀ rs : List (List Ev), rs.length ≤ (rs.flatMap runB).length ∧ ∀ r ∈ rs, r.length ≤ (rs.flatMap runB).length := fun rs => by
      induction rs with
      | nil => simp
      | cons r rs ih =>
        have h1 := hb3 r
        simp only [List.flatMap_cons, List.length_append, List.length_cons]
        refine ⟨by omega, fun x hx => ?_⟩
        rcases List.mem_cons.1 hx with rfl | hx
        · omega
        · have := ih.2 x hx; omega
    have hlen : ((runsE l).flatMap runB).length ≤ 16777216 := by
      rw [he] at hL
      unfold bodyE at hL
      rw [List.length_append] at hL
      omega
    have hok := oks_and (Q := fun r : List Ev => (∀ e ∈ r, plainE e = true) ∧ r.length ≤ 16777216) (runsE l) (-1) (runs_ok l (-1) (fun e he => by
      have := (plainE_out (hp e (List.mem_of_mem_head? he))).2.1
      omega)) (fun r hr => ⟨hpl r hr, by have := (hb4 (runsE l)).2 r hr; omega⟩)
    have hk := c_runs.bwd (L := L) 0 (runsE l) [] ⟨by have := (hb4 (runsE l)).1; omega, oks_mono (fun s x hx => ⟨⟨hx.1, hx.2.1⟩, hx.2.2⟩) _ _ hok⟩ (by rw [List.drop_zero, List.append_nil]; exact he)
    unfold dBodyE
    rw [hk]
    simp only [Option.bind_some, Nat.zero_add]
    rw [if_pos (by rw [he]; rfl), hfl]
end
/-- What is told of a list is read as that list. -/
theorem enc_back {l : List Ev} {b : List UInt8} (h : encE l = (b, 0)) : decE b = (l, 0) := by
  unfold encE at h
  split at h
  · rename_i hp
    split at h
    · simp at h
    · rename_i hl
      simp only [Prod.mk.injEq, and_true] at h
      subst h
      have hd := (dBodyE_iff (L := bodyE l) (l := l) (by omega)).2 ⟨fun e he => List.all_eq_true.1 hp e he, rfl⟩
      unfold decE
      rw [openB_of_frame 3 _ (by omega)]
      simp [hd]
  · simp at h
/-- What is read of bytes is told as those bytes. -/
theorem enc_again {l : List Ev} {b : List UInt8} (h : decE b = (l, 0)) (hb : b.length ≤ 16777216) : encE l = (b, 0) := by
  unfold decE at h
  split at h
  · rename_i hc
    simp only [Prod.mk.injEq] at h
    exact absurd h.2 hc
  · rename_i hc
    split at h
    · simp at h
    · rename_i hk
      have hf := openB_frame b (by simpa using hc)
      have hbl := congrArg List.length hf
      rw [frameB_length] at hbl
      cases hd : dBodyE (openB b).2.1 with
      | none => rw [hd] at h; simp at h
      | some m =>
        rw [hd] at h
        simp only [Prod.mk.injEq, and_true] at h
        subst h
        obtain ⟨h1, h2⟩ := (dBodyE_iff (by omega)).1 hd
        unfold encE
        rw [if_pos (List.all_eq_true.2 h1), ← h2, if_neg (by omega)]
        congr 1
        simp only [ne_eq, Decidable.not_not] at hk
        rw [hk] at hf
        exact hf.symm
end Go.AB
