import Derived.Test.YtoaaalokldaddaaGreatDoorNamesMemo
namespace Go.Proofs.YtoaaalokldaddaaGreatDoor
open Go Go.AM
set_option maxRecDepth 1000000
theorem alive_ce : ce Tryz.prog ext1 dom1 1000 100000 19 [] (AM.start hp0 7) = some (.bool true) := by kernel_rfl
end Go.Proofs.YtoaaalokldaddaaGreatDoor
