import Derived.Test.YtoaaalokldaddaaGreatDoorRows
import Derived.Test.YtoaaalokldaddaaGreatDoorAmZ2
import Derived.KernelRfl
namespace Go.Proofs.YtoaaalokldaddaaGreatDoor
open Go Go.AM
set_option maxRecDepth 1000000
theorem names_ok : Tryz.prog.funcs.all nameOk = true := by kernel_rfl
/-- the functions' texts are good, in six parts -/
noncomputable def partsOk (i n : Nat) : Bool := ((Tryz.prog.funcs.toList.drop i).take n).all (codeOk 7)
theorem codes0 : partsOk 0 50 = true := by kernel_rfl
theorem codes1 : partsOk 50 50 = true := by kernel_rfl
theorem codes2 : partsOk 100 50 = true := by kernel_rfl
theorem codes3 : partsOk 150 50 = true := by kernel_rfl
theorem codes4 : partsOk 200 50 = true := by kernel_rfl
theorem codes5 : partsOk 250 50 = true := by kernel_rfl
theorem size_ok : Tryz.prog.funcs.toList.length = 300 := by kernel_rfl
theorem part_get {i n f : Nat} {fn : Func} (h : partsOk i n = true) (h1 : i ≤ f) (h2 : f < i + n) (hf : Tryz.prog.funcs[f]? = some fn) : codeOk 7 fn = true := by
  unfold partsOk at h
  rw [List.all_eq_true] at h
  refine h fn ?_
  have hf' : Tryz.prog.funcs.toList[f]? = some fn := by simpa using hf
  refine List.mem_of_getElem? (i := f - i) ?_
  rw [List.getElem?_take_of_lt (by omega), List.getElem?_drop]
  have : i + (f - i) = f := by omega
  rw [this]
  exact hf'
theorem code_ok {f : Nat} {fn : Func} (hf : Tryz.prog.funcs[f]? = some fn) : codeOk 7 fn = true := by
  have hlt : f < 300 := by
    have h1 : f < Tryz.prog.funcs.size := (Array.getElem?_eq_some_iff.1 hf).1
    have h2 : Tryz.prog.funcs.toList.length = Tryz.prog.funcs.size := Array.length_toList
    rw [← h2, size_ok] at h1
    exact h1
  by_cases h0 : f < 50
  · exact part_get codes0 (by omega) (by omega) hf
  · by_cases h1 : f < 100
    · exact part_get codes1 (by omega) (by omega) hf
    · by_cases h2 : f < 150
      · exact part_get codes2 (by omega) (by omega) hf
      · by_cases h3 : f < 200
        · exact part_get codes3 (by omega) (by omega) hf
        · by_cases h4 : f < 250
          · exact part_get codes4 (by omega) (by omega) hf
          · exact part_get codes5 (by omega) (by omega) hf
end Go.Proofs.YtoaaalokldaddaaGreatDoor
