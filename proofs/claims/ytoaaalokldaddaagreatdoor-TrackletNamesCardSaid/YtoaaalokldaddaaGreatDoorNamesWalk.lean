import Derived.Test.YtoaaalokldaddaaGreatDoorNamesGood
import Derived.Test.YtoaaalokldaddaaGreatDoorNamesReady
namespace Go.Proofs.YtoaaalokldaddaaGreatDoor
open Go Go.AM Go.RowKit
/-- a table of calls that are known, at every world that holds the laid variables -/
def MemoOk (memo : Ext) : Prop := ∀ W, laidMetH Tryz.prog laidT W → ∀ (g : FuncId) (l : List Value) (v : Value), memo g l = some v →
  l.all (flat 0) = true ∧ flat 2 v = true ∧ (∀ fn, Tryz.prog.funcs[g]? = some fn → fn.body.isSome = true) ∧ AM.Known { P := Tryz.prog, ext := extOf Tryz.prog memo, w0 := W, ng := 7 } g l v
theorem good {memo : Ext} (hm : MemoOk memo) {W : World} (hL : laidMetH Tryz.prog laidT W) : AM.Good { P := Tryz.prog, ext := extOf Tryz.prog memo, w0 := W, ng := 7 } :=
  good_of (fun f fn hf => by have := all_funcs names_ok hf; simpa [nameOk] using this)
    (fun f fn body hf hb => by have := code_ok hf; simp only [codeOk, hb] at this; exact this) (hm W hL)
/-- FROM A RUN TO WHAT IS KNOWN of a closed call -/
theorem known {memo : Ext} (hm : MemoOk memo) {n : Nat} {f : FuncId} {args : List Value} {v : Value} {s' : St} (ha : args.all (flat 0) = true) (hv : flat 2 v = true)
    (h : AM.run Tryz.prog (extOf Tryz.prog memo) n (.call f args) (AM.start hp0 7) = some (.ret v, s')) {W : World} (hL : laidMetH Tryz.prog laidT W) : AM.Known { P := Tryz.prog, ext := extOf Tryz.prog memo, w0 := W, ng := 7 } f args v :=
  known_of_run (good hm hL) (ready_of_laid hL) ha hv h
theorem calls_run {memo : Ext} (hm : MemoOk memo) {n : Nat} {f : FuncId} {args : List Value} {v : Value} {s' : St} (ha : args.all (flat 0) = true) (hv : flat 2 v = true)
    (h : AM.run Tryz.prog (extOf Tryz.prog memo) n (.call f args) (AM.start hp0 7) = some (.ret v, s')) {W : World} (hL : laidMetH Tryz.prog laidT W) : Calls Tryz.prog f ⟨args⟩ W fun e w' => e = .returned v ∧ Below W.heap.size W w' :=
  (known hm ha hv h hL).calls (Below.refl _ _)
theorem memo_none : MemoOk (fun _ _ => none) := fun W hL g l v h => by cases h
end Go.Proofs.YtoaaalokldaddaaGreatDoor
