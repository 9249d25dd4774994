/- The abstract run of EventNames comes to true on all ways: reckoned by the kernel. -/
import Derived.Test.YtooblilpklkpiaaGreatRows
import Derived.KernelRfl
import Derived.Test.YtooblilpklkpiaaGreatAbRec3
namespace Go.Proofs.YtooblilpklkpiaaGreat
set_option maxRecDepth 1000000
/-- The statement's function, by the abstract interpreter: true, whatever the tape. -/
theorem eventNames_all : Go.Ab.HM.all Go.Ab.yesV ((Go.Ab.recA Tryz.prog 40).call 3 Tryz.f3 [] .ret) ⟨.nil, 0⟩ = true := by kernel_rfl
end Go.Proofs.YtooblilpklkpiaaGreat
