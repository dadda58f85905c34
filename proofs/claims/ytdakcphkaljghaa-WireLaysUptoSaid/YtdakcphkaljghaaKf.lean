/- A new book; a keeping, where its blocks stand. -/
import Derived.Test.YtdakcphkaljghaaKe
namespace Go.Proofs.Ytdakcphkaljghaa
open Go.RowKit Go.AB
set_option linter.unusedSimpArgs false
set_option linter.unusedVariables false

theorem Bk.new (w : World) : Bk (w.alloc (.cells #[.slice none 0 0, .slice none 0 0, .slice none 0 0] 31)) w.heap.size [] none none none none 0 0 := by
  refine ⟨heap_alloc_new w _, Row.nil _ _ _, Row.nil _ _ _, Owns.nil _ _ _, fun e he => ?_, by simp, by simp, by simp, fun e he => ?_, fun e he => ?_, fun e he => ?_⟩
  all_goals simp at he

/-- Behind a keeping. -/
def KeepX (w0 : World) (b : Nat) (es0 : List Ent) (rl0 rw0 : Option Nat) (w : World) (es : List Ent) (rl rw : Option Nat) (n : Nat) (r : Option Nat) (e : Ending) (w' : World) : Prop :=
  e = .returned (.tuple #[]) ∧ ∃ es' rl' rw' al' aw' cl' cw', Bk w' b es' rl' rw' al' aw' cl' cw' ∧ Grown w0 b es0 rl0 rw0 w' es' rl' rw' ∧ es'.length = es.length + 1 ∧ (∀ e, e ∈ es' → e ∈ es ∨ e.l.length = n) ∧ Chg (b :: (rl.toList ++ rw.toList)) w w' ∧
    (∀ g, g ∈ bkBlocks b es' rl' rw' → g ∈ bkBlocks b es rl rw ∨ r = some g ∨ w.heap.size ≤ g)
theorem keeps_grownX {w0 w : World} {b : Nat} {es0 es : List Ent} {rl0 rw0 rl rw : Option Nat} {al aw : Option Addr} {cl cw : Nat} (hG : Grown w0 b es0 rl0 rw0 w es rl rw) (h : Bk w b es rl rw al aw cl cw) (hn : es.length ≤ 16777216)
    {ao : Option Addr} {cap n : Nat} {r : Option Nat} {l : List UInt8} (hnl : l.length = n) (hr : Row w 5 1 (.slice ao n cap) r n (l.map B)) (hrb : ∀ g, r = some g → g ∉ bkBlocks b es rl rw) (hr0 : ∀ g, r = some g → w0.heap.size ≤ g)
    {wo0 : Option Addr} {wc0 : Nat} (hw : View w 1 (.slice wo0 n wc0) n (l.map B)) (hw2 : ∀ g, (Value.slice wo0 n wc0).ownBlock = some g → g ∉ b :: (rl.toList ++ rw.toList)) (hl : n ≤ 1099511627776) :
    Calls Try.prog 15 #[.pointer (some ⟨b, 0, none⟩), .slice ao n cap, .slice wo0 n wc0] w (KeepX w0 b es0 rl0 rw0 w es rl rw n r) := by
  subst hnl
  refine (keeps_calls h hn hr hrb (wo0 := wo0) (wc0 := wc0) hw (fun g hg => ?_) hl).mono ?_
  · have := hw2 g hg
    simp only [List.mem_cons, List.mem_append, Option.mem_toList, not_or] at this
    exact ⟨this.1, this.2.1, this.2.2⟩
  · rintro e w' ⟨rfl, wo, wc, q, rl', rw', al', aw', cl', cw', hB, hc, f1, f2, f3⟩
    have hs := hG.chg.size
    refine ⟨rfl, _, rl', rw', al', aw', cl', cw', hB, ⟨hG.chg.trans hc (hG.mem), hG.fl.trans hs f1, hG.fw.trans hs f2, fun e he => ?_⟩, by simp, fun e he => ?_, hc, fun g hg => ?_⟩
    · rcases List.mem_append.1 he with he | he
      · exact hG.es e he
      · rw [List.mem_singleton.1 he]
        exact .inr ⟨hr0, fun g hg => by have := (f3 g hg).resolve_left (by simp); omega⟩
    · rcases List.mem_append.1 he with he | he
      · exact .inl he
      · rw [List.mem_singleton.1 he]; exact .inr rfl
    · rcases bk_mem.1 hg with rfl | h1 | h1 | ⟨e, he, h1⟩
      · exact .inl (bk_mem.2 (.inl rfl))
      · exact (f1 g h1).elim (fun h2 => .inl (bk_mem.2 (.inr (.inl h2)))) (fun h2 => .inr (.inr h2))
      · exact (f2 g h1).elim (fun h2 => .inl (bk_mem.2 (.inr (.inr (.inl h2))))) (fun h2 => .inr (.inr h2))
      · rcases List.mem_append.1 he with he | he
        · exact .inl (bk_mem.2 (.inr (.inr (.inr ⟨e, he, h1⟩))))
        · rw [List.mem_singleton.1 he] at h1
          rcases h1 with h1 | h1
          · exact .inr (.inl h1)
          · exact .inr (.inr ((f3 g h1).resolve_left (by simp)))
end Go.Proofs.Ytdakcphkaljghaa
