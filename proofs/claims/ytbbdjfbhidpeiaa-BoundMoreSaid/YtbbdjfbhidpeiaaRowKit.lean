/- What each row of this seat leans on. -/
import Derived.Test.YtbbdjfbhidpeiaaRows
import Derived.KernelRfl
import Derived.ProofKit
namespace Go.Proofs.Ytbbdjfbhidpeiaa
theorem rowOwn : ownKnob Try.prog.godebug = none := by kernel_rfl
theorem rowLaidOut : laidOutB Try.prog = true := by kernel_rfl
end Go.Proofs.Ytbbdjfbhidpeiaa
