/- What each row of this seat leans on. -/
import Derived.Test.YtaefcmmjeloccaaRows
import Derived.KernelRfl
import Derived.ProofKit
namespace Go.Proofs.Ytaefcmmjeloccaa
theorem rowOwn : ownKnob Try.prog.godebug = none := by kernel_rfl
theorem rowLaidOut : laidOutB Try.prog = true := by kernel_rfl
end Go.Proofs.Ytaefcmmjeloccaa
