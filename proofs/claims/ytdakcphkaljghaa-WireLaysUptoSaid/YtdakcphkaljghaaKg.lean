/- The law WireLays: what holds between the steps (a writer, what is wanted of it, the book). -/
import Derived.Test.YtdakcphkaljghaaKf
namespace Go.Proofs.Ytdakcphkaljghaa
open Go.RowKit Go.AB
set_option linter.unusedSimpArgs false
set_option linter.unusedVariables false

structure LI (wb : World) (bw b : Nat) (w : World) (rW : Option Nat) (LW : List UInt8) (aoW : Option Addr) (capW : Nat) (rQ : Option Nat) (LQ : List UInt8) (aoQ : Option Addr) (capQ : Nat) (es : List Ent) (rl rw : Option Nat) (al aw : Option Addr) (cl cw : Nat) : Prop where
  wr : Wr 27 5 w bw rW LW aoW capW
  q : Row w 5 1 (.slice aoQ LQ.length capQ) rQ LQ.length (LQ.map B)
  bk : Bk w b es rl rw al aw cl cw
  chg : Chg [bw, b] wb w
  bwlt : bw < wb.heap.size
  blt : b < wb.heap.size
  ne : bw ≠ b
  fW : ∀ g, rW = some g → wb.heap.size ≤ g
  fQ : ∀ g, rQ = some g → wb.heap.size ≤ g
  fB : ∀ g, g ∈ bkBlocks b es rl rw → g = b ∨ wb.heap.size ≤ g
  dWQ : ∀ g, rW = some g → rQ ≠ some g
  dWB : ∀ g, rW = some g → g ∉ bkBlocks b es rl rw
  dQB : ∀ g, rQ = some g → g ∉ bkBlocks b es rl rw
  el : ∀ e, e ∈ es → e.l.length ≤ 16777216
section
variable {wb w w' : World} {bw b : Nat} {rW rQ rW' rQ' rl rw rl' rw' : Option Nat} {LW LQ LW' LQ' : List UInt8} {aoW aoQ aoW' aoQ' al aw al' aw' : Option Addr} {capW capQ capW' capQ' cl cw cl' cw' : Nat} {es es' : List Ent}
theorem LI.bwB (h : LI wb bw b w rW LW aoW capW rQ LQ aoQ capQ es rl rw al aw cl cw) : bw ∉ bkBlocks b es rl rw := fun hm => by
  have h1 := h.ne
  have h2 := h.bwlt
  rcases h.fB bw hm with h3 | h3 <;> omega
theorem LI.step0 (h : LI wb bw b w rW LW aoW capW rQ LQ aoQ capQ es rl rw al aw cl cw) (hc : Chg [] w w') : LI wb bw b w' rW LW aoW capW rQ LQ aoQ capQ es rl rw al aw cl cw :=
  ⟨h.wr.keep hc (by simp) (by simp), h.q.keep hc (by simp), h.bk.keep hc (by simp), h.chg.trans hc (by simp), h.bwlt, h.blt, h.ne, h.fW, h.fQ, h.fB, h.dWQ, h.dWB, h.dQB, h.el⟩
theorem LI.stepW (h : LI wb bw b w rW LW aoW capW rQ LQ aoQ capQ es rl rw al aw cl cw) (hW : Wr 27 5 w' bw rW' LW' aoW' capW') (hc : Chg (bw :: rW.toList) w w') (hf : Fresh w rW rW') : LI wb bw b w' rW' LW' aoW' capW' rQ LQ aoQ capQ es rl rw al aw cl cw := by
  have hs := h.chg.size
  have hb := h.bwlt
  refine ⟨hW, h.q.keep hc (fun g hg hm => ?_), h.bk.keep hc (fun g hg hm => ?_), h.chg.trans hc (fun x hx => ?_), h.bwlt, h.blt, h.ne, fun g hg => ?_, h.fQ, h.fB, fun g hg hq => ?_, fun g hg hm => ?_, h.dQB, h.el⟩
  · rcases List.mem_cons.1 hm with h1 | h1
    · have := h.fQ g hg; omega
    · exact h.dWQ g (by simpa using h1) hg
  · rcases List.mem_cons.1 hg with h1 | h1
    · subst h1; exact h.bwB hm
    · exact h.dWB g (by simpa using h1) hm
  · rcases List.mem_cons.1 hx with h1 | h1
    · exact .inl (by simp [h1])
    · exact .inr (h.fW x (by simpa using h1))
  · rcases hf g hg with h1 | h1
    · exact h.fW g h1
    · omega
  · rcases hf g hg with h1 | h1
    · exact h.dWQ g h1 hq
    · have := h.q.lt g hq; omega
  · rcases hf g hg with h1 | h1
    · exact h.dWB g h1 hm
    · have := h.bk.lt g hm; omega
theorem LI.stepQ (h : LI wb bw b w rW LW aoW capW rQ LQ aoQ capQ es rl rw al aw cl cw) (hq : Row w' 5 1 (.slice aoQ' LQ'.length capQ') rQ' LQ'.length (LQ'.map B)) (hc : Chg rQ.toList w w') (hf : Fresh w rQ rQ') : LI wb bw b w' rW LW aoW capW rQ' LQ' aoQ' capQ' es rl rw al aw cl cw := by
  have hs := h.chg.size
  have hb := h.bwlt
  refine ⟨h.wr.keep hc (fun hm => ?_) (fun g hg hm => ?_), hq, h.bk.keep hc (fun g hg hm => ?_), h.chg.trans hc (fun x hx => ?_), h.bwlt, h.blt, h.ne, h.fW, fun g hg => ?_, h.fB, fun g hg hq => ?_, h.dWB, fun g hg hm => ?_, h.el⟩
  · have := h.fQ bw (by simpa using hm); omega
  · exact h.dWQ g hg (by simpa using hm)
  · exact h.dQB g (by simpa using hg) hm
  · exact .inr (h.fQ x (by simpa using hx))
  · rcases hf g hg with h1 | h1
    · exact h.fQ g h1
    · omega
  · rcases hf g hq with h1 | h1
    · exact h.dWQ g hg h1
    · have := h.wr.row.lt g hg; omega
  · rcases hf g hg with h1 | h1
    · exact h.dQB g h1 hm
    · have := h.bk.lt g hm; omega
theorem LI.stepB (h : LI wb bw b w rW LW aoW capW rQ LQ aoQ capQ es rl rw al aw cl cw) (hB : Bk w' b es' rl' rw' al' aw' cl' cw') (hc : Chg (b :: (rl.toList ++ rw.toList)) w w') (hm : ∀ g, g ∈ bkBlocks b es' rl' rw' → g ∈ bkBlocks b es rl rw ∨ (rW ≠ some g ∧ rQ ≠ some g ∧ wb.heap.size ≤ g)) (he : ∀ e, e ∈ es' → e.l.length ≤ 16777216) : LI wb bw b w' rW LW aoW capW rQ LQ aoQ capQ es' rl' rw' al' aw' cl' cw' := by
  have hin : ∀ g, g ∈ b :: (rl.toList ++ rw.toList) → g ∈ bkBlocks b es rl rw := fun g hg => by
    simp only [List.mem_cons, List.mem_append, Option.mem_toList] at hg
    rcases hg with h1 | h1 | h1
    · exact bk_mem.2 (.inl h1)
    · exact bk_mem.2 (.inr (.inl h1))
    · exact bk_mem.2 (.inr (.inr (.inl h1)))
  refine ⟨h.wr.keep hc (fun hm => h.bwB (hin _ hm)) (fun g hg hm => h.dWB g hg (hin _ hm)), h.q.keep hc (fun g hg hm => h.dQB g hg (hin _ hm)), hB, h.chg.trans hc (fun x hx => ?_), h.bwlt, h.blt, h.ne, h.fW, h.fQ, fun g hg => ?_, h.dWQ, fun g hg hg2 => ?_, fun g hg hg2 => ?_, he⟩
  · rcases h.fB x (hin x hx) with h1 | h1
    · exact .inl (by simp [h1])
    · exact .inr h1
  · rcases hm g hg with h1 | h1
    · exact h.fB g h1
    · exact .inr h1.2.2
  · rcases hm g hg2 with h1 | h1
    · exact h.dWB g hg h1
    · exact h1.1 hg
  · rcases hm g hg2 with h1 | h1
    · exact h.dQB g hg h1
    · exact h1.2.1 hg
theorem LI.keeps (h : LI wb bw b w rW LW aoW capW rQ LQ aoQ capQ es rl rw al aw cl cw) (hn : es.length ≤ 16777216) (hl : LQ.length ≤ 16777216) {w1 : World} {ao : Option Addr} {cap : Nat} {r : Option Nat} {l : List UInt8} (hlq : l = LQ)
    (hr : Row w1 5 1 (.slice ao l.length cap) r l.length (l.map B)) (hf : Fresh w none r) (hc : Chg [] w w1) :
    Calls Try.prog 15 #[.pointer (some ⟨b, 0, none⟩), .slice ao l.length cap, .slice aoQ LQ.length capQ] w1 fun e w' => e = .returned (.tuple #[]) ∧ ∃ es' rl' rw' al' aw' cl' cw', LI wb bw b w' rW LW aoW capW rQ LQ aoQ capQ es' rl' rw' al' aw' cl' cw' ∧ Hid (es'.length = es.length + 1) := by
  subst hlq
  have h1 := h.step0 hc
  have hs := hc.size
  refine (keeps_grownX ((Grown.refl w b es rl rw).step hc) h1.bk hn rfl hr (fun g hg hm => ?_) (fun g hg => (hf g hg).resolve_left (by simp)) h1.q.view (fun g hg hm => ?_) (by omega)).mono ?_
  · have := (hf g hg).resolve_left (by simp)
    have := h.bk.lt g hm
    omega
  · have hq : rQ = some g := h1.q.blk.symm.trans hg
    refine h.dQB g hq ?_
    simp only [List.mem_cons, List.mem_append, Option.mem_toList] at hm
    rcases hm with h1 | h1 | h1
    · exact bk_mem.2 (.inl h1)
    · exact bk_mem.2 (.inr (.inl h1))
    · exact bk_mem.2 (.inr (.inr (.inl h1)))
  · rintro e w' ⟨rfl, es', rl', rw', al', aw', cl', cw', hB, _, hl', hb', hc', hm'⟩
    have hs0 := h.chg.size
    refine ⟨rfl, es', rl', rw', al', aw', cl', cw', h1.stepB hB hc' (fun g hg => ?_) (fun e he => ?_), hid hl'⟩
    · have key : w.heap.size ≤ g → (rW ≠ some g ∧ rQ ≠ some g ∧ wb.heap.size ≤ g) := fun h2 => ⟨fun h3 => by have := h.wr.row.lt g h3; omega, fun h3 => by have := h.q.lt g h3; omega, by omega⟩
      rcases hm' g hg with h2 | h2 | h2
      · exact .inl h2
      · exact .inr (key ((hf g h2).resolve_left (by simp)))
      · exact .inr (key (by omega))
    · rcases hb' e he with h2 | h2
      · exact h.el e h2
      · omega
end
end Go.Proofs.Ytdakcphkaljghaa
