/- The law CodeBack: its walk, whatever comes in. -/
import Derived.Test.YtbikekgljabalaaUe
namespace Go.Proofs.Ytbikekgljabalaa
open Go.RowKit Go.AB

theorem back_walk (p : PrgD) (hs : SmallP p) (hw64 : Wf64 p) {v vb : Value} (L : List UInt8) (hl : L.length ≤ 1048576) (w : World) (hv : PrgV w v p) (hb : Bytes w vb L) :
    Calls Try.prog 8 #[v, vb] w fun e w' => e = .returned (.bool true) ∧ Chg [] w w' := by
  rcases decB_cases (L := L) (by omega) with ⟨c, hc0, hd⟩ | ⟨q, hd, hgq, hwq, hLq⟩
  · cases hg : prgB p with
    | false => exact back_00 p hs hw64 hg c hc0 L hd hl w hv hb
    | true => exact back_10 p hs hw64 hg c hc0 L hd hl w hv hb
  · cases hg : prgB p with
    | false => exact back_01 p hs hw64 hg q hgq hwq L hd hLq hl w hv hb
    | true => exact back_11 p hs hw64 hg q hgq hwq L hd hLq hl w hv hb
end Go.Proofs.Ytbikekgljabalaa
