import Derived.Test.YtoaaalokldaddaaGreatDoorAmN
import Derived.Defers
set_option linter.unusedSimpArgs false
set_option linter.unusedVariables false
namespace Go.AM
open Go Go.RowKit

/-! ### Activations -/
inductive DR1 (ρ : Map) (V : Nat → Prop) : Deferred → Deferred → Prop where
  | fn (g : FuncId) (cap cap' args args' : List Value) (h : LR ρ V cap cap') (k : LR ρ V args args') : DR1 ρ V ⟨.fn (.func g) ⟨cap⟩, ⟨args⟩⟩ ⟨.fn (.func g) ⟨cap'⟩, ⟨args'⟩⟩
  | coll (r : Nat) (h : V r) : DR1 ρ V ⟨.collected r, #[]⟩ ⟨.collected (ρ r).r, #[]⟩
def DR (ρ : Map) (V : Nat → Prop) : List Deferred → List Deferred → Prop
  | [], [] => True
  | d :: l, d' :: l' => DR1 ρ V d d' ∧ DR ρ V l l'
  | _, _ => False
structure AR (ρ : Map) (V : Nat → Prop) (a : A) (A' : Act) : Prop where
  size : A'.tmps.size = a.n
  tm : ∀ t, VR ρ V (a.get t) (A'.tmps.getD t undef)
  df : DR ρ V a.df A'.defers
theorem DR1.mono {ρ ρ' : Map} {V V' : Nat → Prop} (hs : SameOn V ρ ρ') (hB : ∀ b, V b → V' b) {d d' : Deferred} (h : DR1 ρ V d d') : DR1 ρ' V' d d' := by
  cases h with
  | fn g cap cap' args args' h k => exact .fn g cap cap' args args' (h.mono hs hB) (k.mono hs hB)
  | coll r h => rw [← hs r h]; exact .coll r (hB r h)
theorem DR.mono {ρ ρ' : Map} {V V' : Nat → Prop} (hs : SameOn V ρ ρ') (hB : ∀ b, V b → V' b) : ∀ {l l' : List Deferred}, DR ρ V l l' → DR ρ' V' l l'
  | [], [], _ => trivial
  | _ :: _, _ :: _, h => ⟨h.1.mono hs hB, DR.mono hs hB h.2⟩
theorem AR.mono {ρ ρ' : Map} {V V' : Nat → Prop} (hs : SameOn V ρ ρ') (hB : ∀ b, V b → V' b) {a : A} {A' : Act} (h : AR ρ V a A') : AR ρ' V' a A' :=
  ⟨h.size, fun t => (h.tm t).mono hs hB, h.df.mono hs hB⟩
theorem AR.put {ρ : Map} {V : Nat → Prop} {a : A} {A' : Act} (h : AR ρ V a A') (d : Option Nat) {v v' : Value} (hv : VR ρ V v v') : AR ρ V (a.put d v) (A'.put d v') := by
  cases d with
  | none => exact h
  | some d =>
    by_cases hd : d < a.n
    · have e1 : a.put (some d) v = { a with tm := a.tm.set v d } := by simp [A.put, hd]
      rw [e1]
      refine ⟨by simp [Act.put, h.size], fun t => ?_, h.df⟩
      have hs : d < A'.tmps.size := by rw [h.size]; exact hd
      simp only [A.get, Tr.get_set, Act.put]
      by_cases ht : t = d
      · subst ht
        simp [Array.getD_eq_getD_getElem?, Array.getElem?_setIfInBounds, hs]
        exact hv
      · rw [if_neg ht]
        have := h.tm t
        simp only [A.get] at this
        simp only [Array.getD_eq_getD_getElem?, Array.getElem?_setIfInBounds, if_neg (Ne.symm ht)] at this ⊢
        exact this
    · have e1 : a.put (some d) v = a := by simp [A.put, hd]
      have e2 : A'.put (some d) v' = A' := by
        simp only [Act.put]
        rw [Array.setIfInBounds_eq_of_size_le (by rw [h.size]; omega)]
      rw [e1, e2]
      exact h

def KindOK (kind : CallKind) (cs : List Frame) : Prop := kind = .normal ∨ (kind = .deferred ∧ ∃ f l, cs = f :: l ∧ f.mode = .returning)
/-- a frame that has returned a value -/
structure Left (P : Program) (f : FuncId) (kind : CallKind) (fr : Frame) (v : Value) (w : World) : Prop where
  fn : fr.fn = f
  kind : fr.kind = kind
  mode : fr.mode = .returning
  defers : fr.defers = []
  res : ∃ fn, P.funcs[f]? = some fn ∧ (results fn fr.tmps).run P w = .ok v w

/-- what a call comes to that is known already -/
def Known (c : Cx) (f : FuncId) (args : List Value) (v : Value) : Prop :=
  ∀ (w : World) (kind : CallKind) (cs : List Frame), Below c.w0.heap.size c.w0 w → KindOK kind cs →
    ∃ w' fr, Below w.heap.size w w' ∧ Steps c.P (lone (Frame.enter c.P f ⟨args⟩ kind) cs w) (lone fr cs w') ∧ Left c.P f kind fr v w'
/-- what is asked of the program as a whole -/
structure Good (c : Cx) : Prop where
  names : ∀ (f : FuncId) (fn : Func), c.P.funcs[f]? = some fn → (fn.name == "runtime.NumGoroutine") = false
  codes : ∀ (f : FuncId) (fn : Func) (body : Code), c.P.funcs[f]? = some fn → fn.body = some body → okC c.ng body = true
  ext : ∀ (g : FuncId) (l : List Value) (v : Value), c.ext g l = some v → l.all (flat 0) = true ∧ flat 2 v = true ∧
    ∀ fn, c.P.funcs[g]? = some fn → (fn.body = none → ∀ w, (callFunc g ⟨l⟩).run c.P w = .ok (.value v) w) ∧ (fn.body.isSome = true → Known c g l v)

section
variable {c : Cx} {ρ : Map} {V : Nat → Prop} {s s' : St} {w : World}

theorem eval_sound {hp : Hp Blk} {a : A} {A' : Act} (hR : Rel c ρ V hp w) (hA : AR ρ V a A') {x : Operand} (hx : okX c.ng x = true) : VR ρ V (a.eval x) (A'.eval x) := by
  cases x with
  | tmp t => exact hA.tm t
  | const v => exact flat_vr 3 v hx
  | global g =>
    have := hR.glob g (of_decide_eq_true hx)
    have h := VR.ptr (ρ := ρ) (V := V) g 0 this.1
    rw [this.2] at h
    exact h
  | func f => exact VR.func_of f LR.nil LR.nil
theorem evals_sound {hp : Hp Blk} {a : A} {A' : Act} (hR : Rel c ρ V hp w) (hA : AR ρ V a A') {xs : List Operand} (hx : okXs c.ng xs = true) : LR ρ V (xs.map a.eval) (xs.map A'.eval) := by
  refine LR.map_of xs fun x hm => eval_sound hR hA ?_
  simp only [okXs, List.all_eq_true] at hx
  exact hx x hm

def OpR (c : Cx) (w w' : World) (ρ : Map) (V : Nat → Prop) (m : Sem Next) : R → Prop
  | .val v => ∃ v', m.run c.P w = .ok (.value v') w' ∧ VR ρ V v v'
  | .skip => m.run c.P w = .ok .skip w'
  | .enter f args => ∃ args', m.run c.P w = .ok (.enter f ⟨args'⟩) w' ∧ LR ρ V args args'
  | .yield l args => ∃ args', m.run c.P w = (Instr.yield (ρ l).r ⟨args'⟩).run c.P w' ∧ V l ∧ LR ρ V args args'
  | .defer d => ∃ d', m.run c.P w = .ok (.defer d') w' ∧ DR1 ρ V d d'
  | .recover => m.run c.P w = .ok .recover w'

theorem func_inv {g : FuncId} {first captured : Array Value} {v' : Value} (h : VR ρ V (.func (.func g) first captured) v') : ∃ f' c', v' = .func (.func g) ⟨f'⟩ ⟨c'⟩ ∧ LR ρ V first.toList f' ∧ LR ρ V captured.toList c' := by
  cases h with
  | atom v h => simp [atomV] at h
  | func f xs xs' ys ys' hx hy kx ky => exact ⟨xs', ys', rfl, ⟨hx, kx⟩, ⟨hy, ky⟩⟩
theorem yield_inv {l : Nat} {first captured : Array Value} {v' : Value} (h : VR ρ V (.func (.yield l) first captured) v') : V l ∧ v' = .func (.yield (ρ l).r) #[] #[] := by
  cases h with
  | atom v h => simp [atomV] at h
  | yield l h => exact ⟨h, rfl⟩

theorem callFunc_enter {P : Program} {f : FuncId} {fn : Func} {body : Code} {args : Array Value} (hf : P.funcs[f]? = some fn) (hb : fn.body = some body) (hn : (fn.name == "runtime.NumGoroutine") = false) (w : World) :
    (callFunc f args).run P w = .ok (.enter f args) w := by
  have hn' : ¬ fn.name = "runtime.NumGoroutine" := by simpa using hn
  simp [callFunc, program, Sem.run, hf, hb, hn']

/-- the machine's call of a function value -/
def callSem (f : Value) (args : Array Value) : Sem Next := do let d ← Deferred.ofValue f args; invoke d.target d.args

theorem callV_sound (hG : Good c) {f f' : Value} {args args' : List Value} {r : R} (h : callV c.P c.ext f args s = some (r, s')) (hR : Rel c ρ V s.hp w) (hf : VR ρ V f f') (ha : LR ρ V args args') :
    s' = s ∧ OpR c w w ρ V (callSem f' ⟨args'⟩) r ∧ ((∃ g l, r = .enter g l) ∨ (∃ v, r = .val v) ∨ ∃ l as, r = .yield l as) := by
  unfold callV at h
  split at h
  · rename_i g first captured
    obtain ⟨fn, s1, h1, h2⟩ := bind_some h
    obtain ⟨q1, rfl⟩ := lift_some h1
    obtain ⟨f1, c1, rfl, hf1, hc1⟩ := func_inv hf
    have hall : LR ρ V ((first.toList ++ args) ++ captured.toList) ((f1 ++ args') ++ c1) := (hf1.append ha).append hc1
    have harr : ((⟨f1⟩ : Array Value) ++ (⟨args'⟩ : Array Value)) ++ (⟨c1⟩ : Array Value) = ⟨(f1 ++ args') ++ c1⟩ := by simp
    have hrun : ∀ w, (callSem (.func (.func g) ⟨f1⟩ ⟨c1⟩) ⟨args'⟩).run c.P w = (callFunc g ⟨(f1 ++ args') ++ c1⟩).run c.P w := by
      intro w
      simp only [callSem, Deferred.ofValue, Sem.run_bind, Sem.run_pure, Result.andThen_ok, invoke]
      rw [harr]
    unfold enterF at h2
    cases q3 : fn.body with
    | none =>
      simp only [q3] at h2
      obtain ⟨v, s2, h3, h4⟩ := bind_some h2
      obtain ⟨hv, rfl⟩ := lift_some h3
      obtain ⟨rfl, rfl⟩ := pure_some h4
      obtain ⟨e1, e2, e3⟩ := hG.ext _ _ _ hv
      have : (f1 ++ args') ++ c1 = (first.toList ++ args) ++ captured.toList := flats_eq e1 hall
      exact ⟨rfl, ⟨v, by rw [hrun, this]; exact (e3 fn q1).1 q3 w, flat_vr 2 v e2⟩, .inr (.inl ⟨v, rfl⟩)⟩
    | some body =>
      simp only [q3] at h2
      obtain ⟨rfl, rfl⟩ := pure_some h2
      refine ⟨rfl, ⟨_, ?_, hall⟩, .inl ⟨_, _, rfl⟩⟩
      rw [hrun]
      exact callFunc_enter q1 q3 (hG.names _ _ q1) w
  · rename_i l
    obtain ⟨rfl, rfl⟩ := pure_some h
    obtain ⟨hl, rfl⟩ := yield_inv hf
    refine ⟨rfl, ⟨args', ?_, hl, ha⟩, .inr (.inr ⟨_, _, rfl⟩)⟩
    simp only [callSem, Deferred.ofValue, Sem.run_bind, Sem.run_pure, Result.andThen_ok, invoke]
    simp
  · exact (fail_some h).elim
end
end Go.AM
