/- Closed facts on the program's types. -/
import Derived.Test.YtaokmbmimogdgaaRows
import Derived.KernelRfl
import Derived.OwnWalk
namespace Go.Proofs.Ytaokmbmimogdgaa
theorem infoU8 : (Try.prog.info? 5).map (fun i => (i.zero, i.size, i.bytes)) = some (some (.int .u8 0), 1, 1) := by kernel_rfl
theorem infoBs : (Try.prog.info? 40).map (fun i => (i.zero, i.size, i.bytes)) = some (some (.slice none 0 0), 1, 24) := by kernel_rfl
end Go.Proofs.Ytaokmbmimogdgaa
