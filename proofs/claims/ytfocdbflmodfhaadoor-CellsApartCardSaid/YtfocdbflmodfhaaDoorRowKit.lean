/- What each row of this seat leans on. -/
import Derived.Test.YtfocdbflmodfhaaDoorRows
import Derived.KernelRfl
import Derived.ProofKit
namespace Go.Proofs.YtfocdbflmodfhaaDoor
theorem rowOwn : ownKnob Tryd.prog.godebug = none := by kernel_rfl
theorem rowLaidOut : laidOutB Tryd.prog = true := by kernel_rfl
end Go.Proofs.YtfocdbflmodfhaaDoor
