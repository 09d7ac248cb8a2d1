/-
  PROVED HERE: Rows.EngineNamesSaid. The law takes no arguments: the kernel runs it with the interpreter, whose soundness is VaiS18; the run is cut at calls (VaiD).
-/
import Derived.Test.YtoofpgianedgnaaGreatEngineNamesOver
namespace Go.Proofs.YtoofpgianedgnaaGreat.engineNames

/-- ████ THE STATEMENT ████ -/
theorem proved : Rows.EngineNamesSaid := over
#print axioms proved
end Go.Proofs.YtoofpgianedgnaaGreat.engineNames
