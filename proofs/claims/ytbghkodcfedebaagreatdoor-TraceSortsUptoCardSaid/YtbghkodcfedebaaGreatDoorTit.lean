/- A range over a function whose arguments lie in memory: the iterator's contract, the loop's law (in the plain walk). K: blocks that no round may change; E: what is handed over. -/
import Derived.Test.YtbghkodcfedebaaGreatDoorTj1
import Derived.RangeFuncNested
import Derived.RangeFuncBound
import Derived.RangeFuncCalls
import Derived.RangeFuncLeaves
namespace Go.AB
open Go.RowKit
set_option linter.unusedVariables false

theorem Chg.putObj {S : List Nat} {a b : World} (h : Chg S a b) {l : Nat} (hl : l ∈ S ∨ a.heap.size ≤ l) (o : Obj) : Chg S a (b.putObj l o) :=
  h.trans (T := [l]) ⟨rfl, rfl, rfl, by simp, fun k _ hk => World.putObj_heap_other (by simpa using hk)⟩
    fun x hx => by simp at hx; subst hx; exact hl

/-- Blocks between n and n + k. -/
def Mid (n k : Nat) (S : List Nat) : Prop := ∀ b, b ∈ S → n ≤ b ∧ b < n + k
theorem Mid.nil (n k : Nat) : Mid n k [] := fun _ h => by cases h

/-- What a round may change: blocks that lay ahead of the iterator, or were the caller's own when the last round was over. -/
def Rnd (K : List Nat) (n k m : Nat) (A B : World) : Prop := ∃ S, Chg S A B ∧ ∀ b, b ∈ S → b ∉ K ∧ (b < n ∨ (n + k ≤ b ∧ b < m))

/-- What abides the iterator's own steps. -/
def Abide {α : Type} (n k : Nat) (J : List α → World → Prop) : Prop := ∀ S pre A B, J pre A → Chg S A B → Mid n k S → J pre B

/-- The iterator's contract: it holds k blocks of its own, laid first; it gives T, one by one; or is stopped. -/
def Gives {α : Type} (P : Program) (g : Nat) (lb : Array Value) (E : α → World → World → Array Value → Prop) (T : List α) (k : Nat) (K : List Nat) (w : World) : Prop :=
  ∀ (l : Nat) (J Jx : List α → World → Prop), Abide w.heap.size k J → Abide w.heap.size k Jx →
    (∀ S0 pre x args A0 A, pre ++ [x] <+: T → J pre A0 → w.heap.size + k ≤ A0.heap.size → Chg S0 A0 A → Mid w.heap.size k S0 → E x A0 A args → YieldAt Fence.wide 0 P l args A fun e B =>
      Rnd K w.heap.size k A0.heap.size A B ∧ ((e = .returned (.bool true) ∧ J (pre ++ [x]) B) ∨ (e = .returned (.bool false) ∧ Jx (pre ++ [x]) B))) →
    J [] w →
    Calls P g (#[.func (.yield l) #[] #[]] ++ lb) w fun e W' => (∃ v, e = .returned v) ∧ (J T W' ∨ ∃ pre, pre <+: T ∧ Jx pre W')

/-- How the body of a round may be left. -/
def bodyR {α : Type} (K : List Nat) (n k m : Nat) (I : List α → World → Prop) (Ix : Code → List α → World → Prop) (xs : List α) (W : World) : Exit → Act → World → Prop
  | .normal, _, W' => Rnd K n k m W W' ∧ I xs W'
  | .ret, _, W' => Rnd K n k m W W' ∧ Ix .ret xs W'
  | .exit id, _, W' => Rnd K n k m W W' ∧ Ix (.exit id) xs W'
  | .goto t, _, W' => Rnd K n k m W W' ∧ Ix (.goto t) xs W'
  | .panic _, _, _ => False
  | .outgrown, _, _ => False

theorem wp_rangeFunc {α : Type} {P : Program} {g : Operand} {ps : Array Tmp} {assign body : Code} {Q : Exit → Act → World → Prop} {a : Act} {w : World}
    {gf : Nat} {lb : Array Value} (hg : a.eval g = .func (.func gf) #[] lb) (eg : ∀ args w, (callFunc gf args).run P w = .ok (.enter gf args) w)
    {E : α → World → World → Array Value → Prop} {T : List α} {k : Nat} {K : List Nat} (hKl : ∀ b ∈ K, b < w.heap.size) (hseq : ∀ o1 o2, Gives P gf lb E T k K ((w.alloc o1).alloc o2)) (hps : ∀ x A0 W args, E x A0 W args → args.size = ps.size)
    (I : List α → World → Prop) (Ix : Code → List α → World → Prop) (hI : Abide w.heap.size (2 + k) I) (hIx : ∀ c, Abide w.heap.size (2 + k) (Ix c)) (h0 : I [] w) (Ax : α → World → World → Act → World → Prop) (hAx : ∀ x A0 W a' A B, w.heap.size + 2 + k ≤ A0.heap.size → Ax x A0 W a' A → Chg [w.heap.size + 1] A B → Ax x A0 W a' B)
    (hassign : ∀ (l : Nat) (x : α) (args : Array Value) (A0 W : World) (K' : Act → World → Prop), E x A0 W args → w.heap.size + 2 ≤ W.heap.size → (∀ a' A, Ax x A0 W a' A → Chg [] W A → K' a' A) →
      assign.wpIn (Fence.wide.inRound l) 0 P (Exit.then K' (fun _ _ _ => False)) { tmps := (ps.zip args).foldl (fun t (p, v) => t.setIfInBounds p v) a.tmps, defers := [] } W)
    (hbody : ∀ (l : Nat) (S0 : List Nat) (pre : List α) (x : α) (A0 W A : World) (a' : Act), pre ++ [x] <+: T → I pre A0 → w.heap.size + 2 + k ≤ A0.heap.size → A0.heap.size ≤ W.heap.size → Chg S0 A0 A → Mid w.heap.size (2 + k) S0 → Ax x A0 W a' A →
      body.wpIn (Fence.wide.inRound l) 0 P (bodyR K w.heap.size (2 + k) A0.heap.size I Ix (pre ++ [x]) A) a' A)
    (hdone : ∀ (W : World), I T W → W.heap[w.heap.size]? = some (.deferred (some [])) → Q .normal { a with defers := { target := .collected w.heap.size, args := #[] } :: a.defers } W)
    (hstop : ∀ (c : Code) (pre : List α) (W : World), pre <+: T → Ix c pre W → W.heap[w.heap.size]? = some (.deferred (some [])) → c.wp P Q { a with defers := { target := .collected w.heap.size, args := #[] } :: a.defers } W) :
    (Code.rangeFunc g ps assign body).wp P Q a w := by
  refine wpIn_wide (n := 0).1 (wpIn_rangeFunc ?_)
  intro fn hfn
  obtain ⟨rec, hrec⟩ : ∃ rec : LoopState → Option Code → Loop, rec = fun st pe => { state := st, pending := pe, fn, tmps := a.tmps, params := ps, assign, body, defers := w.heap.size } := ⟨_, rfl⟩
  obtain ⟨W1, hW1⟩ : ∃ W1, (w.alloc (.deferred (some []))).alloc (.loop (rec .ready none)) = W1 := ⟨_, rfl⟩
  have hL1 : W1.heap[w.heap.size + 1]? = some (.loop (rec .ready none)) := by
    rw [← hW1]; have := World.alloc_heap_new (w.alloc (.deferred (some []))) (.loop (rec .ready none)); rwa [World.size_alloc] at this
  have hK1 : W1.heap[w.heap.size]? = some (.deferred (some [])) := by
    rw [← hW1]; exact (Below.heap_alloc _ _ _ (by simp)).trans (World.alloc_heap_new w _)
  have hC1 : Chg [] w W1 := by rw [← hW1]; exact ((Chg.refl [] w).alloc _).alloc _
  have hI1 : I [] W1 := hI _ _ _ _ h0 hC1 (Mid.nil _ _)
  have hz1 : W1.heap.size = w.heap.size + 2 := by rw [← hW1]; simp
  refine ⟨w.heap.size + 1, [{ target := .collected w.heap.size, args := #[] }], W1, { target := .fn (.func gf) lb, args := #[.func (.yield (w.heap.size + 1)) #[] #[]] }, W1, gf,
    #[.func (.yield (w.heap.size + 1)) #[] #[]] ++ lb, W1, ?_, ?_, ?_, ?_, (fun h => by cases h), ?_⟩
  · rw [← hW1, hrec]; exact run_enterLoop_outer _ _ _ _ _
  · simp only [resolve, hg]
    simp [go_sem]
  · intro f' hf'; exact trivial
  · simp [invoke, go_sem, eg]
  · have hseq1 := hseq (.deferred (some [])) (.loop (rec .ready none))
    rw [hW1] at hseq1
    have mid : ∀ {S : List Nat}, Mid W1.heap.size k S → Mid w.heap.size (2 + k) S := fun h b hb => by have := h b hb; omega
    have mid1 : Mid w.heap.size (2 + k) [w.heap.size + 1] := fun b hb => by simp at hb; omega
    have keep : ∀ {S : List Nat} {A B : World} {i : Nat} {o : Obj}, i < w.heap.size + 2 → Mid W1.heap.size k S → Chg S A B → A.heap[i]? = some o → B.heap[i]? = some o :=
      fun hi hm hc h => hc.heap h (fun hS => by have := hm _ hS; omega)
    refine callsIn_wide.2 ((hseq1 (w.heap.size + 1)
      (fun pre W => I pre W ∧ W.heap[w.heap.size + 1]? = some (.loop (rec .ready none)) ∧ W.heap[w.heap.size]? = some (.deferred (some [])))
      (fun pre W => ∃ c, Ix c pre W ∧ W.heap[w.heap.size + 1]? = some (.loop (rec .done (some c))) ∧ W.heap[w.heap.size]? = some (.deferred (some [])))
      (fun S pre A B hs hc hm => ⟨hI _ _ _ _ hs.1 hc (mid hm), keep (by omega) hm hc hs.2.1, keep (by omega) hm hc hs.2.2⟩)
      (fun S pre A B hs hc hm => by
        obtain ⟨c, hs1, hs2, hs3⟩ := hs
        exact ⟨c, hIx c _ _ _ _ hs1 hc (mid hm), keep (by omega) hm hc hs2, keep (by omega) hm hc hs3⟩)
      ?_ ⟨hI1, hL1, hK1⟩).mono ?_)
    · rintro S0 pre x args A0 W hpre ⟨hi0, hl0, hk0⟩ hsz hc0 hm0 hEx
      have hl := keep (by omega) hm0 hc0 hl0
      have hk := keep (by omega) hm0 hc0 hk0
      have hlt : w.heap.size + 1 < W.heap.size := (Array.getElem?_eq_some_iff.1 hl).1
      have hy := run_yield (P := P) (args := args) hl (by rw [hrec]; exact hps x A0 W args hEx)
      rw [hrec] at hy
      refine ⟨fn, _, assign, body, hy, roundIn_of_wpIn hfn (hassign _ x args A0 W _ hEx (by omega) ?_)⟩
      intro a' Wa hax hca
      have hl := hca.heap hl (by simp)
      have hk := hca.heap hk (by simp)
      have hlt : w.heap.size + 1 < Wa.heap.size := (Array.getElem?_eq_some_iff.1 hl).1
      refine ⟨_, run_beginRound hl (by rw [hrec]), ?_⟩
      obtain ⟨W2, hW2⟩ : ∃ W2, Wa.putObj (w.heap.size + 1) (.loop { rec .ready none with state := .busy }) = W2 := ⟨_, rfl⟩
      have hl2 : W2.heap[w.heap.size + 1]? = some (.loop { rec .ready none with state := .busy }) := by rw [← hW2]; exact World.putObj_heap_same hlt
      have hk2 : W2.heap[w.heap.size]? = some (.deferred (some [])) := by rw [← hW2]; exact (World.putObj_heap_other (by omega)).trans hk
      have hcp1 : Chg [w.heap.size + 1] Wa W2 := by rw [← hW2]; exact (Chg.refl _ Wa).putObj (.inl (by simp)) _
      have hcp : Chg [w.heap.size + 1] W W2 := hca.nil.trans' hcp1
      have hszW := hc0.size
      have hc2 : Chg ((w.heap.size + 1) :: S0) A0 W2 := (hc0.mono (fun b hb => .inl (List.mem_cons_of_mem _ hb))).trans hcp (fun b hb => .inl (by simp at hb; simp [hb]))
      rw [hW2]
      refine wpIn_mono (hbody _ _ pre x A0 W W2 a' hpre hi0 (by omega) hszW hc2 (fun b hb => by rcases List.mem_cons.1 hb with h1 | h1; omega; exact mid hm0 b h1) (hAx _ _ _ _ _ _ (by omega) hax hcp1)) ?_
      have fin : ∀ (jump : Option Code) (W3 : World), Rnd K w.heap.size (2 + k) A0.heap.size W2 W3 →
          ∃ W4, (Instr.endRound (w.heap.size + 1) jump).run P W3 = .ok (.bool jump.isNone) W4 ∧ Chg [w.heap.size + 1] W3 W4 ∧
          W4.heap[w.heap.size + 1]? = some (.loop (rec (if jump.isNone then .ready else .done) jump)) ∧ W4.heap[w.heap.size]? = some (.deferred (some [])) ∧ Rnd K W1.heap.size k A0.heap.size W W4 := fun jump W3 hr3 => by
        obtain ⟨S, hcS, hS⟩ := hr3
        have hl3 := hcS.heap hl2 (fun h => by have := hS _ h; omega)
        have hk3 := hcS.heap hk2 (fun h => by have := hS _ h; omega)
        have h4 := run_endRound (P := P) jump hl3
        refine ⟨_, h4, (Chg.refl _ W3).putObj (.inl (by simp)) _, ?_, (World.putObj_heap_other (by omega)).trans hk3, (w.heap.size + 1) :: S, ?_, ?_⟩
        · rw [World.putObj_heap_same (Array.getElem?_eq_some_iff.1 hl3).1, hrec]
        · exact ((hcp.mono (fun b hb => .inl (by simp at hb; simp [hb]))).trans (hcS.mono (fun b hb => .inl (List.mem_cons_of_mem _ hb))) (fun b hb => .inl hb)).putObj (.inl (by simp)) _
        · intro b hb
          rcases List.mem_cons.1 hb with h1 | h1
          · exact ⟨fun hK => by have := hKl b hK; omega, by omega⟩
          · have := hS b h1; exact ⟨this.1, by omega⟩
      rintro e a3 W3 hp
      cases e with
      | normal =>
        obtain ⟨hr3, hi3⟩ := hp
        obtain ⟨W4, h1, h2, h3, h4, h5⟩ := fin none W3 hr3
        exact ⟨_, _, h1, h5, .inl ⟨rfl, hI _ _ _ _ hi3 h2 mid1, h3, h4⟩⟩
      | ret =>
        obtain ⟨hr3, hi3⟩ := hp
        obtain ⟨W4, h1, h2, h3, h4, h5⟩ := fin (some .ret) W3 hr3
        exact ⟨_, _, h1, h5, .inr ⟨rfl, _, (hIx _) _ _ _ _ hi3 h2 mid1, h3, h4⟩⟩
      | exit id =>
        obtain ⟨hr3, hi3⟩ := hp
        obtain ⟨W4, h1, h2, h3, h4, h5⟩ := fin (some (.exit id)) W3 hr3
        exact ⟨_, _, h1, h5, .inr ⟨rfl, _, (hIx _) _ _ _ _ hi3 h2 mid1, h3, h4⟩⟩
      | goto t =>
        obtain ⟨hr3, hi3⟩ := hp
        obtain ⟨W4, h1, h2, h3, h4, h5⟩ := fin (some (.goto t)) W3 hr3
        exact ⟨_, _, h1, h5, .inr ⟨rfl, _, (hIx _) _ _ _ _ hi3 h2 mid1, h3, h4⟩⟩
      | panic ch => exact hp.elim
      | outgrown => exact hp.elim
    · rintro e W2 ⟨⟨v, rfl⟩, (⟨hi, hl, hk⟩ | ⟨pre, hSp, c, hi, hl, hk⟩)⟩
      · have hlt := (Array.getElem?_eq_some_iff.1 hl).1
        have hc : Chg [w.heap.size + 1] W2 (W2.putObj (w.heap.size + 1) (.loop { rec .ready none with state := .exhausted })) := (Chg.refl _ W2).putObj (.inl (by simp)) _
        exact ⟨none, _, by have := run_endLoop (P := P) hl (by rw [hrec]; simp); rw [hrec] at this ⊢; exact this, hdone _ (hI _ _ _ _ hi hc mid1) (hc.heap hk (by simp))⟩
      · have hc : Chg [w.heap.size + 1] W2 (W2.putObj (w.heap.size + 1) (.loop { rec .done (some c) with state := .exhausted })) := (Chg.refl _ W2).putObj (.inl (by simp)) _
        exact ⟨some c, _, by have := run_endLoop (P := P) hl (by rw [hrec]; simp); rw [hrec] at this ⊢; exact this, wpIn_wide.2 (hstop c pre _ hSp (hIx c _ _ _ _ hi hc mid1) (hc.heap hk (by simp)))⟩

end Go.AB
