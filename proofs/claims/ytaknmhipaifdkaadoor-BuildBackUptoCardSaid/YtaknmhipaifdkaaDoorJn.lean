/- Walks of the builder's laws: nameless, a program's names without their first byte. (Printed by gen_nameless.py.) -/
import Derived.Test.YtaknmhipaifdkaaDoorJm
set_option linter.unusedSimpArgs false
set_option linter.unusedVariables false
set_option linter.unusedSectionVars false
namespace Go.AB
open Go.RowKit
/-- A name without its first byte. -/
def dz (s : ByteArray) : ByteArray := if s.size = 0 then ByteArray.empty else s.extract 1 s.size
def rVn (v : VarD) : VarD := ⟨dz v.name, v.first⟩
def rTd (t : ThrD) : ThrD := ⟨dz t.name, t.code, t.places⟩
def rTn (x : ThrV) : ThrV := ⟨rTd x.t, x.code, x.places⟩
def lessD (p : PrgD) : PrgD := ⟨p.vars.map rVn, p.vols.map rVn, p.locks.map dz, p.bars.map rVn, p.thrs.map rTd⟩
end Go.AB
namespace Go.Proofs.YtaknmhipaifdkaaDoor
open Go.RowKit Go.AB
set_option linter.unusedSimpArgs false
set_option linter.unusedVariables false
set_option linter.unusedSectionVars false

end Go.Proofs.YtaknmhipaifdkaaDoor
