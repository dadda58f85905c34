/- The lexer's iterator; an append in a round. -/
import Derived.Test.YtppijmpdoejdmaaIa
import Derived.Test.YtppijmpdoejdmaaCh
import Derived.Test.YtppijmpdoejdmaaCe
import Derived.Test.YtppijmpdoejdmaaAi
import Derived.RangeFuncLeaves
import Derived.Shelf.Abstract
namespace Go.AB
open Go.RowKit
theorem wpListIn_grew {F : Fence} {fn : Nat} {P : Program} {w : World} {ops : Array Oper} {rest : List Oper} {o : Oper} {a : Act} {Q : Exit → Act → World → Prop} (hgd : o.guard = none) (s x : Operand) (t : TypeId)
    (ho : o.op = .call { callee := .builtin .append, args := #[s, x], argTypes := #[t, t] }) {e k bytes : Nat} (E : ElemOk P t e k bytes)
    {v : Value} {r : Option Nat} {n : Nat} {xs : List Value} (hs : a.eval s = v) (hrow : Row w e k v r n xs)
    {y : Value} {m : Nat} {ys : List Value} (hx : a.eval x = y) (hy : View w k y m ys) (h1 : ∀ u ∈ ys, u.oneCell' = true) (h63 : n + m ≤ maxLen) (hbytes : (n + m) * bytes ≤ 140737488355328)
    (h : ∀ ao' cap' r' w', Row w' e k (.slice ao' (n + m) cap') r' (n + m) (xs ++ ys) → Grew w w' r r' → wpListIn F fn P ops Q rest (a.put o.dst (.slice ao' (n + m) cap')) w') : wpListIn F fn P ops Q (o :: rest) a w := by
  obtain ⟨i, z, hi, hz, hs', hb, hzs⟩ := E.info
  have hlen : (Builtin.lenOf y).run P w = .ok m w := by obtain ⟨_, _, ao, cap, rfl, _⟩ := hy; rfl
  obtain ⟨v', w', r', hr, h2, h3, h4⟩ := run_append_grew (P := P) w t t o.type e _ i z k bytes E.und E.und (.inl ⟨_, rfl⟩) hi hz hs' hb hzs E.pos v r n xs hrow y m ys hy.1 hlen (firstCells_view hy) h1 h63 hbytes
  refine wpListIn_plain hgd fun _ hK => ?_
  unfold Oper.wpIn
  refine ⟨?_, ?_⟩
  · simp [Oper.about, ho, resolve, Target.leads, Sem.run_pure]
  · rw [Oper.semAt_plain F _ _ (by rw [ho]; intro c hc'; cases hc')]
    obtain ⟨ao', cap', rfl⟩ := h2.shape
    simp [execOp, ho, resolve, invoke, builtin, hs, hx, hr, Result.andThen]
    exact hK _ _ (h ao' cap' r' w' h2 h3)

end Go.AB
namespace Go.Proofs.Ytppijmpdoejdmaa
open Go.RowKit Go.AB
set_option linter.unusedSimpArgs false
set_option linter.unusedVariables false
set_option linter.unusedSectionVars false

/-- What Each answers: a function that gives the tokens. -/
theorem seq_gives {w : World} {B : Nat} {s : ByteArray} (hB : w.cell? ⟨B, 0, none⟩ = some (.string s)) (hs : s.size ≤ 1048576) (L : List UInt8) (hL : Hid (s.data.toList = L)) :
    Gives Try.prog 27 #[.pointer (some ⟨B, 0, none⟩)] (fun x => #[.agg (tokC x).toArray]) (scanD L 1 1).1 2 w := by
  intro l J Jx hJ hJx hY h0
  show Calls Try.prog 27 #[.func (.yield l) #[] #[], .pointer (some ⟨B, 0, none⟩)] w _
  have HE := hid (each_gives hs L hL hJ hJx hY h0)
  clear hJ hJx hY h0
  go_enter Try.func27, Try.ntmps27
  go_wp2_with (go_at_call 23; refine HE.out.mono ?_; rintro e w2 ⟨⟨v, rfl⟩, h2⟩)
  first | go_ret | go_end0
  exact ⟨⟨_, rfl⟩, h2⟩

theorem eachS_calls (w : World) (s : ByteArray) : Calls Try.prog 19 #[.string s] w fun e w' => e = .returned (.func (.func 27) #[] #[.pointer (some ⟨w.heap.size, 0, none⟩)]) ∧ w' = w.alloc (.cells #[.string s] 9) := by
  go_enter Try.func19, Try.ntmps19
  go_wp2
  go_ret
  exact ⟨rfl, rfl⟩
end Go.Proofs.Ytppijmpdoejdmaa
