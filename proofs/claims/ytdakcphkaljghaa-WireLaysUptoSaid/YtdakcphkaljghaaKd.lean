/- A book that grows. -/
import Derived.Test.YtdakcphkaljghaaKb
namespace Go.Proofs.Ytdakcphkaljghaa
open Go.RowKit Go.AB
set_option linter.unusedSimpArgs false
set_option linter.unusedVariables false

/-- Since the world w0 the book has grown, in new memory. -/
structure Grown (w0 : World) (b : Nat) (es : List Ent) (rl rw : Option Nat) (w : World) (es' : List Ent) (rl' rw' : Option Nat) : Prop where
  chg : Chg (b :: (rl.toList ++ rw.toList)) w0 w
  fl : Fresh w0 rl rl'
  fw : Fresh w0 rw rw'
  es : ∀ e, e ∈ es' → e ∈ es ∨ ((∀ g, e.r = some g → w0.heap.size ≤ g) ∧ (∀ g, e.q = some g → w0.heap.size ≤ g))
section
variable {w0 w w' : World} {b : Nat} {es es' : List Ent} {rl rw rl' rw' : Option Nat}
theorem Grown.refl (w0 : World) (b : Nat) (es : List Ent) (rl rw : Option Nat) : Grown w0 b es rl rw w0 es rl rw := ⟨Chg.refl _ _, Fresh.refl _ _, Fresh.refl _ _, fun e he => .inl he⟩
theorem Grown.step (h : Grown w0 b es rl rw w es' rl' rw') (hc : Chg [] w w') : Grown w0 b es rl rw w' es' rl' rw' := ⟨h.chg.trans hc (fun x hx => by simp at hx), h.fl, h.fw, h.es⟩
theorem Grown.blocks (h : Grown w0 b es rl rw w es' rl' rw') : ∀ g, g ∈ bkBlocks b es' rl' rw' → g ∈ bkBlocks b es rl rw ∨ w0.heap.size ≤ g := by
  intro g hg
  rcases bk_mem.1 hg with rfl | h1 | h1 | ⟨e, he, h1⟩
  · exact .inl (bk_mem.2 (.inl rfl))
  · rcases h.fl g h1 with h2 | h2
    · exact .inl (bk_mem.2 (.inr (.inl h2)))
    · exact .inr h2
  · rcases h.fw g h1 with h2 | h2
    · exact .inl (bk_mem.2 (.inr (.inr (.inl h2))))
    · exact .inr h2
  · rcases h.es e he with h2 | h2
    · exact .inl (bk_mem.2 (.inr (.inr (.inr ⟨e, h2, h1⟩))))
    · rcases h1 with h1 | h1
      · exact .inr (h2.1 g h1)
      · exact .inr (h2.2 g h1)
theorem Grown.mem (h : Grown w0 b es rl rw w es' rl' rw') : ∀ g, g ∈ b :: (rl'.toList ++ rw'.toList) → g ∈ b :: (rl.toList ++ rw.toList) ∨ w0.heap.size ≤ g := by
  intro g hg
  simp only [List.mem_cons, List.mem_append, Option.mem_toList] at hg ⊢
  rcases hg with h1 | h1 | h1
  · exact .inl (.inl h1)
  · rcases h.fl g h1 with h2 | h2
    · exact .inl (.inr (.inl h2))
    · exact .inr h2
  · rcases h.fw g h1 with h2 | h2
    · exact .inl (.inr (.inr h2))
    · exact .inr h2
end

/-- Behind a keeping. -/
def KeepG (w0 : World) (b : Nat) (es0 : List Ent) (rl0 rw0 : Option Nat) (w : World) (es : List Ent) (rl rw : Option Nat) (n : Nat) (e : Ending) (w' : World) : Prop :=
  e = .returned (.tuple #[]) ∧ ∃ es' rl' rw' al' aw' cl' cw', Bk w' b es' rl' rw' al' aw' cl' cw' ∧ Grown w0 b es0 rl0 rw0 w' es' rl' rw' ∧ es'.length = es.length + 1 ∧ (∀ e, e ∈ es' → e ∈ es ∨ e.l.length = n) ∧ Chg (b :: (rl.toList ++ rw.toList)) w w'
theorem keeps_grown {w0 w : World} {b : Nat} {es0 es : List Ent} {rl0 rw0 rl rw : Option Nat} {al aw : Option Addr} {cl cw : Nat} (hG : Grown w0 b es0 rl0 rw0 w es rl rw) (h : Bk w b es rl rw al aw cl cw) (hn : es.length ≤ 16777216)
    {ao : Option Addr} {cap n : Nat} {r : Option Nat} {l : List UInt8} (hnl : l.length = n) (hr : Row w 5 1 (.slice ao n cap) r n (l.map B)) (hrb : ∀ g, r = some g → g ∉ bkBlocks b es rl rw) (hr0 : ∀ g, r = some g → w0.heap.size ≤ g)
    {wo0 : Option Addr} {wc0 : Nat} (hw : View w 1 (.slice wo0 n wc0) n (l.map B)) (hw2 : ∀ g, (Value.slice wo0 n wc0).ownBlock = some g → g ∉ b :: (rl.toList ++ rw.toList)) (hl : n ≤ 1099511627776) :
    Calls Try.prog 15 #[.pointer (some ⟨b, 0, none⟩), .slice ao n cap, .slice wo0 n wc0] w (KeepG w0 b es0 rl0 rw0 w es rl rw n) := by
  subst hnl
  refine (keeps_calls h hn hr hrb (wo0 := wo0) (wc0 := wc0) hw (fun g hg => ?_) hl).mono ?_
  · have := hw2 g hg
    simp only [List.mem_cons, List.mem_append, Option.mem_toList, not_or] at this
    exact ⟨this.1, this.2.1, this.2.2⟩
  · rintro e w' ⟨rfl, wo, wc, q, rl', rw', al', aw', cl', cw', hB, hc, f1, f2, f3⟩
    have hs := hG.chg.size
    refine ⟨rfl, _, rl', rw', al', aw', cl', cw', hB, ⟨hG.chg.trans hc (hG.mem), hG.fl.trans hs f1, hG.fw.trans hs f2, fun e he => ?_⟩, by simp, fun e he => ?_, hc⟩
    · rcases List.mem_append.1 he with he | he
      · exact hG.es e he
      · rw [List.mem_singleton.1 he]
        exact .inr ⟨hr0, fun g hg => by have := (f3 g hg).resolve_left (by simp); omega⟩
    · rcases List.mem_append.1 he with he | he
      · exact .inl he
      · rw [List.mem_singleton.1 he]; exact .inr rfl
end Go.Proofs.Ytdakcphkaljghaa
