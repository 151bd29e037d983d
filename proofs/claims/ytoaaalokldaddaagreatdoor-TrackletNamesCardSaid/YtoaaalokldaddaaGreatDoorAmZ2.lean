import Derived.Test.YtoaaalokldaddaaGreatDoorAmZ
set_option linter.unusedSimpArgs false
set_option linter.unusedVariables false
namespace Go.AM
open Go Go.RowKit

/-- what is known already, or the program's functions without a Go body -/
def extOf (P : Program) (memo : Ext) : Ext := fun g l => match memo g l with
  | some v => some v
  | none => extP P g l

theorem extP_some {P : Program} {g : FuncId} {l : List Value} {v : Value} (h : extP P g l = some v) : l.all (flat 0) = true ∧ flat 2 v = true ∧ pr P (callFunc g ⟨l⟩) = some (.value v) := by
  unfold extP at h
  split at h
  · rename_i h1
    split at h
    · rename_i u h2
      split at h
      · rename_i h3
        cases h
        exact ⟨h1, h3, h2⟩
      · cases h
    · cases h
  · cases h

theorem good_of {P : Program} {memo : Ext} {w0 : World} {ng : Nat}
    (names : ∀ (f : FuncId) (fn : Func), P.funcs[f]? = some fn → (fn.name == "runtime.NumGoroutine") = false)
    (codes : ∀ (f : FuncId) (fn : Func) (body : Code), P.funcs[f]? = some fn → fn.body = some body → okC ng body = true)
    (known : ∀ (g : FuncId) (l : List Value) (v : Value), memo g l = some v → l.all (flat 0) = true ∧ flat 2 v = true ∧ (∀ fn, P.funcs[g]? = some fn → fn.body.isSome = true) ∧ Known { P := P, ext := extOf P memo, w0 := w0, ng := ng } g l v) :
    Good { P := P, ext := extOf P memo, w0 := w0, ng := ng } := by
  refine ⟨names, codes, fun g l v h => ?_⟩
  have h' : extOf P memo g l = some v := h
  unfold extOf at h'
  cases hm : memo g l with
  | some u =>
    rw [hm] at h'
    cases h'
    obtain ⟨a, b, d, e⟩ := known g l v hm
    exact ⟨a, b, fun fn hf => ⟨fun hb => (by have := d fn hf; rw [hb] at this; cases this), fun _ => e⟩⟩
  | none =>
    rw [hm] at h'
    obtain ⟨a, b, d⟩ := extP_some h'
    refine ⟨a, b, fun fn hf => ⟨fun hb w => pr_run P _ d w, fun hb => ?_⟩⟩
    obtain ⟨body, hbody⟩ := Option.isSome_iff_exists.1 hb
    have h1 := pr_run P _ d w0
    rw [callFunc_enter hf hbody (names g fn hf) w0] at h1
    cases h1

theorem all_funcs {P : Program} {p : Func → Bool} (h : P.funcs.all p = true) {f : FuncId} {fn : Func} (hf : P.funcs[f]? = some fn) : p fn = true := by
  rw [Array.all_eq_true_iff_forall_mem] at h
  exact h fn (Array.mem_of_getElem? hf)
def nameOk (fn : Func) : Bool := !(fn.name == "runtime.NumGoroutine")
def codeOk (ng : Nat) (fn : Func) : Bool := match fn.body with
  | some b => okC ng b
  | none => true
end Go.AM
