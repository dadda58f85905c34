/- What CodeEncodes needs of both Encodes, and of a program that is written over. -/
import Derived.Test.YtbikekgljabalaaZb
import Derived.Test.YtbikekgljabalaaVe
import Derived.Test.YtbikekgljabalaaUf
namespace Go.Proofs.Ytbikekgljabalaa
open Go.RowKit Go.AB
set_option linter.unusedVariables false
set_option linter.unusedSimpArgs false

def encL (p : PrgD) : List UInt8 := if prgB p then frameB 1 (bodyL p) else []
def encC (p : PrgD) : Int := if prgB p then 0 else 4
/-- What either Encode answers. -/
def EncP (w : World) (p : PrgD) (e : Ending) (w' : World) : Prop :=
  ∃ (ao : Option Addr) (n cap : Nat) (r : Option Nat), e = .returned (.tuple #[.slice ao n cap, .int .i64 (encC p)]) ∧ n = (encL p).length ∧ Row w' 5 1 (.slice ao n cap) r n ((encL p).map B) ∧ Fresh w none r ∧ Chg [] w w'
theorem encP_good {w w' : World} {p : PrgD} {e : Ending} (hg : prgB p = true) (h : NewB2 5 w (frameB 1 (bodyL p)) 0 e w') : EncP w p e w' := by
  obtain ⟨l', ao, cap, r, he, hr, hf, hc, hl⟩ := h
  have h1 : encL p = l' := by unfold encL; rw [if_pos hg, hl.out]
  have h2 : encC p = 0 := by unfold encC; rw [if_pos hg]
  exact ⟨ao, l'.length, cap, r, by rw [h2]; exact he, by rw [h1], by rw [h1]; exact hr, hf, hc⟩
theorem encP_bad {w w' : World} {p : PrgD} {e : Ending} (hg : prgB p = false) (h : e = .returned (.tuple #[.slice none 0 0, .int .i64 4]) ∧ Chg [] w w') : EncP w p e w' := by
  have h1 : encL p = [] := by unfold encL; rw [hg]; rfl
  have h2 : encC p = 4 := by unfold encC; rw [hg]; rfl
  exact ⟨none, 0, 0, none, by rw [h2]; exact h.1, by rw [h1]; rfl, by rw [h1]; exact Row.nil _ _ _, Fresh.refl _ _, h.2⟩
theorem enc_calls (p : PrgD) (hs : SmallP p) (hw64 : Wf64 p) {v : Value} (w : World) (hv : PrgV w v p) : Calls Try.prog 13 #[v] w (EncP w p) := by
  cases hg : prgB p with
  | true => exact (encode_good p hs hw64 hg w hv).mono fun e w' h => encP_good hg h
  | false => exact (encode_bad p hs hg w hv).mono fun e w' h => encP_bad hg h
theorem q_enc_calls (p : PrgD) (hs : SmallP p) (hw64 : Wf64 p) {v : Value} (w : World) (hv : PrgV w v p) : Calls Try.prog 10 #[v] w (EncP w p) := by
  cases hg : prgB p with
  | true => exact (q_encode_good p hs hw64 hg w hv).mono fun e w' h => encP_good hg h
  | false => exact (q_encode_bad p hs hg w hv).mono fun e w' h => encP_bad hg h
theorem encC_test (p : PrgD) : (encC p == 0) = prgB p := by
  unfold encC
  cases prgB p <;> rfl
theorem encL_len (p : PrgD) (hw64 : Wf64 p) : (encL p).length ≤ 16777232 := by
  unfold encL
  cases hg : prgB p with
  | true =>
    have h := bodyL_len hg hw64
    have h2 := frameB_length 1 (bodyL p)
    simp only [if_true]
    omega
  | false => simp
/-! a program that is written over -/
theorem small_turn {p : PrgD} (hs : SmallP p) (hl : ∀ x ∈ p.locks, x.size + 1 ≤ 1048576) : SmallP (turnP p) := by
  constructor
  · simpa [turnP] using hs.vars
  · simpa [turnP] using hs.vols
  · simpa [turnP] using hs.locks
  · simpa [turnP] using hs.bars
  · simpa [turnP] using hs.thrs
  · intro x hx
    obtain ⟨y, hy, rfl⟩ := List.mem_map.1 hx
    exact hs.nvars y hy
  · exact hs.nvols
  · intro x hx
    obtain ⟨y, hy, rfl⟩ := List.mem_map.1 hx
    have := hl y hy
    simp only [tL]
    rw [ByteArray.size_append]
    exact this
  · exact hs.nbars
  · intro x hx
    obtain ⟨y, hy, rfl⟩ := List.mem_map.1 hx
    have := hs.nthrs y hy
    simpa [tT] using this
theorem lock_in {p : PrgD} (h : (p.vars.map szVar).sum + (p.vols.map szVar).sum + (p.locks.map szStr).sum + (p.bars.map szVar).sum + (p.thrs.map fun t => t.name.size + t.code.length + t.places.length + 1).sum ≤ 1048576) : ∀ x ∈ p.locks, x.size + 1 ≤ 1048576 := fun x hx => by
  have h1 := mem_le_sum szStr hx
  have h2 : x.size + 1 ≤ szStr x := by unfold szStr; omega
  omega
end Go.Proofs.Ytbikekgljabalaa
