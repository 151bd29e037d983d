/- TrackletNames answers true at its one call. Condition: the package-level variables that its row lists hold what the program text lays (the card ties them). -/
import Derived.Test.YtoaaalokldaddaaGreatDoorNamesRow
import Derived.Test.YtoaaalokldaddaaGreatDoorNamesRun
import Derived.Test.YtoaaalokldaddaaGreatDoorNamesAlive
set_option linter.unusedVariables false
namespace Go.Proofs.YtoaaalokldaddaaGreatDoor
open Go Go.AM Go.RowKit
set_option maxRecDepth 1000000
theorem body19 : (Tryz.prog.funcs[19]?).map (·.body.isSome) = some true := by kernel_rfl
/-- alive() answers true -/
theorem alive_known {W : World} (hL : laidMetH Tryz.prog laidT W) (ext : Ext) : AM.Known { P := Tryz.prog, ext := ext, w0 := W, ng := 7 } 19 [] (.bool true) := by
  obtain ⟨s', hs⟩ := ce_run (domOK1 W) alive_ce
  exact known memo1_ok rfl rfl hs hL
theorem memo2_ok : MemoOk memo2 := by
  intro W hL g l v h
  unfold memo2 at h
  cases h1 : Nat.beq g 19 with
  | true =>
    rw [h1] at h
    have hg : g = 19 := Nat.eq_of_beq_eq_true h1
    subst hg
    simp only [cond_true] at h
    split at h
    · cases h
      exact ⟨rfl, rfl, body_of body19, alive_known hL _⟩
    · cases h
  | false =>
    rw [h1] at h
    obtain ⟨a, b, d, e⟩ := memo1_ok W hL g l v h
    exact ⟨a, b, d, e⟩
theorem domOK2 (W : World) : DomOK Tryz.prog ext2 dom2 := domOK W fun f l h => by
  simp only [dom2, dom1, Bool.or_eq_false_iff] at h
  simp only [memo2, memo1, h.1, h.2.1, h.2.2, cond_false]
/-- the law's call answers true, wherever the tables lie as the text lays them -/
theorem names_walk : trackletNames.Walk := fun W hL => by
  obtain ⟨s', hs⟩ := ce_run (domOK2 W) names_ce
  exact calls_run memo2_ok rfl rfl hs hL
theorem trackletNames_card : Rows.TrackletNamesCardSaid := trackletNames.card_of names_walk
end Go.Proofs.YtoaaalokldaddaaGreatDoor
