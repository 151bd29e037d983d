import Derived.Test.YtoaaalokldaddaaGreatDoorNamesMemo
namespace Go.Proofs.YtoaaalokldaddaaGreatDoor
open Go Go.AM Go.RowKit
set_option maxRecDepth 1000000
/-- besides: alive() -/
def memo2 : Ext := fun g l => bif Nat.beq g 19 then (match l with | [] => some (.bool true) | _ => none) else memo1 g l
def dom2 : FuncId → Bool := fun g => Nat.beq g 19 || dom1 g
noncomputable def ext2 : Ext := extOf Tryz.prog memo2
theorem names_ce : ce Tryz.prog ext2 dom2 1000 100000 8 [] (AM.start hp0 7) = some (.bool true) := by kernel_rfl
end Go.Proofs.YtoaaalokldaddaaGreatDoor
