import Derived.Test.YtoaaalokldaddaaGreatDoorAmV
set_option linter.unusedSimpArgs false
set_option linter.unusedVariables false
namespace Go.AM
open Go Go.RowKit

section
variable {c : Cx} {n : Nat} {ρ : Map} {V : Nat → Prop} {s s' : St} {w : World} {A' : Act} {b : Frame} {k : List Item} {cs : List Frame} {rf : Option Nat} {fn : FuncId} {a : A} {out : Out}

theorem lone_inj {fr fr' : Frame} {cs cs' : List Frame} {w w' : World} (h : lone fr cs w = lone fr' cs' w') : fr = fr' := by
  have h1 := congrArg Machine.gs h
  simp only [lone] at h1
  have h2 := congrArg (fun (l : Array Goroutine) => l.toList) h1
  simp at h2
  exact h2.1
theorem Steps.next {P : Program} {m m1 t : Machine} (h : Steps P m t) (hne : m ≠ t) (h1 : Go.step P m = .next m1) : Steps P m1 t := by
  obtain ⟨i, hi⟩ := h
  cases i with
  | zero => simp [runN] at hi; exact absurd hi hne
  | succ i =>
    simp only [runN, h1] at hi
    exact ⟨i, hi⟩
theorem atR_todo (b : Frame) (a : Act) (k : List Item) : (b.atR a k).todo = k := rfl
theorem Lands.next {P : Program} {m1 : Machine} {a1 : Act} {x : Code} {e : Ex} {A2 : Act} {w2 : World} (h : Lands P (lone (b.atR A' (.code (.loop x) :: k)) cs w) b k cs e A2 w2) (h1 : Go.step P (lone (b.atR A' (.code (.loop x) :: k)) cs w) = .next m1) : Lands P m1 b k cs e A2 w2 := by
  have ne : ∀ (k' : List Item), .code (.loop x) :: k ≠ k' → lone (b.atR A' (.code (.loop x) :: k)) cs w ≠ lone (b.atR A2 k') cs w2 := by
    intro k' hk he
    have := congrArg Frame.todo (lone_inj he)
    exact hk this
  cases e with
  | normal => exact Steps.next h (ne _ (by simp)) h1
  | exit id => obtain ⟨k', e1, e2⟩ := h; exact ⟨k', e1, Steps.next e2 (ne _ (by simp)) h1⟩
  | goto l => obtain ⟨k', e1, e2⟩ := h; exact ⟨k', e1, Steps.next e2 (ne _ (by simp)) h1⟩
  | ret => obtain ⟨k', e2⟩ := h; exact ⟨k', Steps.next e2 (ne _ (by simp)) h1⟩
theorem stepR_scope {P : Program} {x : Code} : Go.step P (lone (b.atR A' (.code (.scope x) :: k)) cs w) = .next (lone (b.atR A' (.code x :: .inScope x :: k)) cs w) :=
  step_lone_go (by simp [stepG, stepG.exec, Frame.atR])
theorem stepR_inScope {P : Program} {x : Code} : Go.step P (lone (b.atR A' (.inScope x :: k)) cs w) = .next (lone (b.atR A' k) cs w) :=
  step_lone_go (by simp [stepG, stepG.exec, Frame.atR])

/-- an item that no jump ends at -/
def plainI : Item → Bool
  | .inBlock _ | .inScope _ => false
  | _ => true
theorem Lands.pass {P : Program} {m : Machine} {x : Item} {e : Ex} {A2 : Act} {w2 : World} (hx : plainI x = true) (he : e ≠ .normal) (h : Lands P m b (x :: k) cs e A2 w2) : Lands P m b k cs e A2 w2 := by
  cases e with
  | normal => exact absurd rfl he
  | exit id => obtain ⟨k', e1, e2⟩ := h; exact ⟨k', (by rw [e1]; cases x <;> first | rfl | (cases hx)), e2⟩
  | goto l => obtain ⟨k', e1, e2⟩ := h; exact ⟨k', (by rw [e1]; cases x <;> first | rfl | (cases hx)), e2⟩
  | ret => exact h

theorem onNormal_some {next : A → M Out} {o : Out} (h : onNormal next o s = some (out, s')) : (∃ a, o = .code .normal a ∧ next a s = some (out, s')) ∨ ∃ e a, e ≠ .normal ∧ o = .code e a ∧ out = .code e a ∧ s' = s := by
  unfold onNormal at h
  split at h
  · exact .inl ⟨_, rfl, h⟩
  · rename_i e a hne
    obtain ⟨rfl, rfl⟩ := pure_some h
    exact .inr ⟨e, a, hne, rfl, rfl, rfl⟩
  · exact (fail_some (s := s) h).elim

theorem seq_sound (ih : Snd c n) {x y : Code} (h : ((run c.P c.ext n (.code x a rf fn)).bind (onNormal fun a => run c.P c.ext n (.code y a rf fn))) s = some (out, s')) (hx : okC c.ng x = true) (hy : okC c.ng y = true) (hl : s.lim ≤ s.nx) (hR : Rel c ρ V s.hp w) (hf : Free V s.nx s'.nx) (hA : AR ρ V a A')
    (hF : FrOK ρ V rf fn b cs) : CodeOK c ρ V s s' (lone (b.atR A' (.code x :: .code y :: k)) cs w) b k cs out := by
  obtain ⟨o, s1, h1, h2⟩ := bind_some h
  obtain ⟨g1, g2⟩ := (Fr.run c.P c.ext n _).grows h1 hl
  have g3 : s1.nx ≤ s'.nx := ((Fr.onNormal (fun a => Fr.run c.P c.ext n _) o).grows h2 g2).1
  obtain ⟨e, a1, ρ1, w1, A1, e1, m1, m2, m3⟩ := ih.code (k := .code y :: k) h1 hx hl hR (hf.left g3) hA hF
  rcases onNormal_some h2 with ⟨a2, rfl, h3⟩ | ⟨e2, a2, hne, rfl, rfl, rfl⟩
  · cases e1
    have := ih.code (k := k) h3 hy g2 m1.rel (hf.right g1) m2 (hF.mono m1.same VU.sub)
    exact CodeOK.of_steps m3 (CodeOK.after g1 g3 m1 this)
  · cases e1
    exact ⟨e, a1, ρ1, w1, A1, rfl, m1, m2, m3.pass rfl hne⟩

theorem loop_sound (ih : Snd c n) {x : Code} (h : ((run c.P c.ext n (.code x a rf fn)).bind (onNormal fun a => run c.P c.ext n (.code (.loop x) a rf fn))) s = some (out, s')) (hx : okC c.ng x = true) (hl : s.lim ≤ s.nx) (hR : Rel c ρ V s.hp w) (hf : Free V s.nx s'.nx) (hA : AR ρ V a A')
    (hF : FrOK ρ V rf fn b cs) : CodeOK c ρ V s s' (lone (b.atR A' (.code (.loop x) :: k)) cs w) b k cs out := by
  refine CodeOK.of_steps (.one stepR_loop) ?_
  obtain ⟨o, s1, h1, h2⟩ := bind_some h
  obtain ⟨g1, g2⟩ := (Fr.run c.P c.ext n _).grows h1 hl
  have g3 : s1.nx ≤ s'.nx := ((Fr.onNormal (fun a => Fr.run c.P c.ext n _) o).grows h2 g2).1
  obtain ⟨e, a1, ρ1, w1, A1, e1, m1, m2, m3⟩ := ih.code (k := .inLoop x :: k) h1 hx hl hR (hf.left g3) hA hF
  rcases onNormal_some h2 with ⟨a2, rfl, h3⟩ | ⟨e2, a2, hne, rfl, rfl, rfl⟩
  · cases e1
    have := ih.code (k := k) h3 (cd := .loop x) hx g2 m1.rel (hf.right g1) m2 (hF.mono m1.same VU.sub)
    obtain ⟨e3, a3, ρ3, w3, A3, q1, q2, q3, q4⟩ := CodeOK.after g1 g3 m1 this
    refine ⟨e3, a3, ρ3, w3, A3, q1, q2, q3, ?_⟩
    have q5 : Lands c.P (lone (b.atR A1 (.code x :: .inLoop x :: k)) cs w1) b k cs e3 A3 w3 := q4.next (a1 := A1) stepR_loop
    exact Lands.of_steps m3 (Lands.of_steps (.one stepR_inLoop) q5)
  · cases e1
    exact ⟨e, a1, ρ1, w1, A1, rfl, m1, m2, m3.pass rfl hne⟩

theorem block_sound (ih : Snd c n) {id : Nat} {x : Code} (h : ((run c.P c.ext n (.code x a rf fn)).bind (onBlock id)) s = some (out, s')) (hx : okC c.ng x = true) (hl : s.lim ≤ s.nx) (hR : Rel c ρ V s.hp w) (hf : Free V s.nx s'.nx) (hA : AR ρ V a A')
    (hF : FrOK ρ V rf fn b cs) : CodeOK c ρ V s s' (lone (b.atR A' (.code x :: .inBlock id :: k)) cs w) b k cs out := by
  obtain ⟨o, s1, h1, h2⟩ := bind_some h
  have hs : s' = s1 := by
    unfold onBlock at h2
    split at h2
    · exact (pure_some h2).2
    · exact (pure_some h2).2
    · exact (fail_some (s := s1) h2).elim
  subst hs
  obtain ⟨e, a1, ρ1, w1, A1, rfl, m1, m2, m3⟩ := ih.code (k := .inBlock id :: k) h1 hx hl hR hf hA hF
  cases e with
  | exit i =>
    obtain ⟨rfl, _⟩ := pure_some h2
    obtain ⟨k', q1, q2⟩ := m3
    by_cases hi : i = id
    · rw [if_pos hi]
      subst hi
      refine code_normal m1 m2 (q2.trans (.one (stepR_exit ?_)))
      rw [q1]
      simp [exitTo]
    · rw [if_neg hi]
      refine ⟨.exit i, a1, ρ1, w1, A1, rfl, m1, m2, k', ?_, q2⟩
      rw [q1]
      simp [exitTo, Ne.symm hi]
  | normal =>
    obtain ⟨rfl, _⟩ := pure_some h2
    exact code_normal m1 m2 (Steps.trans m3 (.one stepR_inBlock))
  | goto l =>
    obtain ⟨rfl, _⟩ := pure_some h2
    obtain ⟨k', q1, q2⟩ := m3
    exact ⟨.goto l, a1, ρ1, w1, A1, rfl, m1, m2, k', by rw [q1]; simp [gotoIn], q2⟩
  | ret =>
    obtain ⟨rfl, _⟩ := pure_some h2
    exact ⟨.ret, a1, ρ1, w1, A1, rfl, m1, m2, m3⟩

theorem find_ok {ng l : Nat} : ∀ {x rest : Code}, okC ng x = true → findLabel x l = some rest → okC ng rest = true := by
  intro x
  induction x with
  | seq x y ihx ihy =>
    intro rest hk h
    simp only [okC, Bool.and_eq_true] at hk
    simp only [findLabel] at h
    split at h
    · rename_i r hr
      cases h
      simp only [okC, Bool.and_eq_true]
      exact ⟨ihx hk.1 hr, hk.2⟩
    · exact ihy hk.2 h
  | label l' =>
    intro rest hk h
    simp only [findLabel] at h
    split at h
    · cases h; rfl
    · cases h
  | _ => intro rest hk h; simp [findLabel] at h

theorem scope_sound (ih : Snd c n) {cur body : Code} (h : stScope (run c.P c.ext n) cur body a rf fn s = some (out, s')) (hx : okC c.ng cur = true) (hy : okC c.ng body = true) (hl : s.lim ≤ s.nx) (hR : Rel c ρ V s.hp w) (hf : Free V s.nx s'.nx) (hA : AR ρ V a A')
    (hF : FrOK ρ V rf fn b cs) : CodeOK c ρ V s s' (lone (b.atR A' (.code cur :: .inScope body :: k)) cs w) b k cs out := by
  obtain ⟨o, s1, h1, h2⟩ := bind_some h
  obtain ⟨g1, g2⟩ := (Fr.run c.P c.ext n _).grows h1 hl
  have g3 : s1.nx ≤ s'.nx := ((Fr.onScope (fun t => Fr.run c.P c.ext n t) body rf fn o).grows h2 g2).1
  obtain ⟨e, a1, ρ1, w1, A1, rfl, m1, m2, m3⟩ := ih.code (k := .inScope body :: k) h1 hx hl hR (hf.left g3) hA hF
  cases e with
  | goto l =>
    simp only [onScope] at h2
    obtain ⟨k', q1, q2⟩ := m3
    cases hfl : findLabel body l with
    | some rest =>
      rw [hfl] at h2
      have := ih.scope (k := k) h2 (find_ok hy hfl) hy g2 m1.rel (hf.right g1) m2 (hF.mono m1.same VU.sub)
      refine CodeOK.of_steps (q2.trans (.one (stepR_goto ?_))) (CodeOK.after g1 g3 m1 this)
      rw [q1]
      simp [gotoIn, hfl]
    | none =>
      rw [hfl] at h2
      obtain ⟨rfl, rfl⟩ := pure_some h2
      exact ⟨.goto l, a1, ρ1, w1, A1, rfl, m1, m2, k', by rw [q1]; simp [gotoIn, hfl], q2⟩
  | normal =>
    obtain ⟨rfl, rfl⟩ := pure_some h2
    exact code_normal m1 m2 (Steps.trans m3 (.one stepR_inScope))
  | exit i =>
    obtain ⟨rfl, rfl⟩ := pure_some h2
    obtain ⟨k', q1, q2⟩ := m3
    exact ⟨.exit i, a1, ρ1, w1, A1, rfl, m1, m2, k', by rw [q1]; simp [exitTo], q2⟩
  | ret =>
    obtain ⟨rfl, rfl⟩ := pure_some h2
    exact ⟨.ret, a1, ρ1, w1, A1, rfl, m1, m2, m3⟩

/-! ### Calls -/
theorem Rel.grown {hp : Hp Blk} {w w' : World} (h : Rel c ρ V hp w) (hb : Below w.heap.size w w') : Rel c ρ V hp w' := by
  refine ⟨h.glob, fun b k hv hg hl => ?_, h.inj, h.below.trans (hb.mono h.below.size)⟩
  obtain ⟨o, ho, hbr⟩ := h.blk b k hv hg hl
  exact ⟨o, by rw [hb.block _ (Array.getElem?_eq_some_iff.1 ho).1]; exact ho, hbr⟩
theorem startT_get : ∀ (l : List Value) (i : Nat) (t : Tr Value) (j : Nat), (startT l i t).get j = if i ≤ j ∧ j < i + l.length then l[j - i]? else t.get j
  | [], i, t, j => by
    have : ¬ (i ≤ j ∧ j < i + ([] : List Value).length) := by simp
    rw [if_neg this]; rfl
  | v :: l, i, t, j => by
    rw [startT, startT_get l (i + 1) _ j, Tr.get_set]
    by_cases h1 : i + 1 ≤ j ∧ j < i + 1 + l.length
    · rw [if_pos h1, if_pos (by simp; omega)]
      rw [show j - i = (j - (i + 1)) + 1 by omega]
      simp
    · rw [if_neg h1]
      by_cases h2 : j = i
      · subst h2
        rw [if_pos rfl, if_pos (by simp)]
        simp
      · rw [if_neg h2, if_neg (by simp; omega)]
theorem start_ar {m : Nat} {args args' : List Value} (h : LR ρ V args args') (hm : args.length ≤ m) : AR ρ V (startA m args) { tmps := (⟨args'⟩ : Array Value) ++ Array.replicate (m - (⟨args'⟩ : Array Value).size) undef, defers := [] } := by
  have hl := h.1
  refine ⟨by simp [startA]; omega, fun t => ?_, trivial⟩
  simp only [A.get, startA, startT_get]
  rw [Array.getD_eq_getD_getElem?, Array.getElem?_append]
  by_cases ht : t < args.length
  · rw [if_pos (by omega), if_pos (by simpa using (by omega : t < args'.length))]
    have h1 : args[t - 0]? = some args[t] := by simp [ht]
    rw [h1]
    obtain ⟨v', e1, e2⟩ := h.get (List.getElem?_eq_getElem ht)
    have e3 : (⟨args'⟩ : Array Value)[t]? = some v' := by simpa using e1
    rw [e3]
    exact e2
  · rw [if_neg (by omega), if_neg (by simpa using (by omega : args'.length ≤ t)), Array.getElem?_replicate]
    have : (Tr.e : Tr Value).get t = none := Tr.get_e t
    rw [this]
    split <;> exact VR.undef

theorem call_some {f : FuncId} {args : List Value} (h : run c.P c.ext n (.call f args) s = some (out, s')) : ∃ fn body, c.P.funcs[f]? = some fn ∧ fn.body = some body := by
  cases n with
  | zero => exact (fail_some (s := s) h).elim
  | succ n =>
    simp only [run, AM.step, stCall] at h
    obtain ⟨fn, s1, h1, h2⟩ := bind_some h
    obtain ⟨q1, rfl⟩ := lift_some h1
    obtain ⟨body, s2, h3, h4⟩ := bind_some h2
    obtain ⟨q3, rfl⟩ := lift_some h3
    exact ⟨fn, body, q1, q3⟩

theorem call_sound (hG : Good c) (ih : Snd c n) {f : FuncId} {args args' : List Value} {kind : CallKind} (h : stCall c.P c.ext (run c.P c.ext n) f args s = some (out, s')) (hl : s.lim ≤ s.nx) (hR : Rel c ρ V s.hp w) (hf : Free V s.nx s'.nx) (ha : LR ρ V args args') (hkind : KindOK kind cs) :
    ∃ v ρ' w' v' fr, out = .ret v ∧ Made c ρ V s s' w' ρ' ∧ VR ρ' (VU V s.nx s'.nx) v v' ∧ Steps c.P (lone (Frame.enter c.P f ⟨args'⟩ kind) cs w) (lone fr cs w') ∧ Left c.P f kind fr v' w' := by
  unfold stCall at h
  obtain ⟨fn, s1, h1, h2⟩ := bind_some h
  obtain ⟨q1, rfl⟩ := lift_some h1
  obtain ⟨body, s2, h3, h4⟩ := bind_some h2
  obtain ⟨q3, rfl⟩ := lift_some h3
  cases hx : c.ext f args with
  | some v =>
    rw [hx] at h4
    obtain ⟨rfl, rfl⟩ := pure_some h4
    obtain ⟨e1, e2, e3⟩ := hG.ext _ _ _ hx
    rw [flats_eq e1 ha]
    obtain ⟨w', fr, b1, b2, b3⟩ := (e3 fn q1).2 (by rw [q3]; rfl) w kind cs hR.below hkind
    exact ⟨v, ρ, w', v, fr, rfl, Made.of_same (hR.grown b1) (SameSt.refl _), by rw [VU.self]; exact flat_vr 2 v e2, b2, b3⟩
  | none =>
  rw [hx] at h4
  simp only [stKnown, stBody] at h4
  obtain ⟨_, s3, h5, h6⟩ := bind_some h4
  obtain ⟨q5, rfl⟩ := guard_some h5
  obtain ⟨o, s4, h7, h8⟩ := bind_some h6
  have hm := of_decide_eq_true q5
  let b : Frame := { (default : Frame) with fn := f, kind := kind, roundOf := none }
  have henter : Frame.enter c.P f ⟨args'⟩ kind = b.atR { tmps := (⟨args'⟩ : Array Value) ++ Array.replicate (fn.ntmps - (⟨args'⟩ : Array Value).size) undef, defers := [] } [.code body] := by
    simp [Frame.enter, Frame.atR, q1, q3, b]
  obtain ⟨g1, g2⟩ := (Fr.run c.P c.ext n _).grows h7 hl
  have g3 : s4.nx ≤ s'.nx := ((Fr.callEnd (fun t => Fr.run c.P c.ext n t) fn o).grows h8 g2).1
  obtain ⟨e, a1, ρ1, w1, A1, rfl, m1, m2, m3⟩ := ih.code (b := b) (k := []) (cs := cs) h7 (hG.codes _ _ _ q1 q3) hl hR (hf.left g3) (start_ar ha hm) ⟨rfl, trivial, hkind⟩
  rw [← henter] at m3
  have leave : ∀ (todo : List Item), Steps c.P (lone (Frame.enter c.P f ⟨args'⟩ kind) cs w) (lone { b.atR A1 todo with mode := .returning } cs w1) → run c.P c.ext n (.leaves fn a1) s4 = some (out, s') →
      ∃ v ρ' w' v' fr, out = .ret v ∧ Made c ρ V s3 s' w' ρ' ∧ VR ρ' (VU V s3.nx s'.nx) v v' ∧ Steps c.P (lone (Frame.enter c.P f ⟨args'⟩ kind) cs w) (lone fr cs w') ∧ Left c.P f kind fr v' w' := by
    intro todo hst hr
    obtain ⟨v, ρ2, w2, v', fr', q1', q2, q3', q4, q5'⟩ := ih.leaves (fr := { b.atR A1 todo with mode := .returning }) (cs := cs) hr g2 m1.rel (hf.right g1) m2 rfl rfl rfl q1
    exact ⟨v, ρ2, w2, v', fr', q1', m1.trans g1 g3 q2, by rw [← VU.trans V g1 g3]; exact q3', hst.trans q4, q5'⟩
  cases e with
  | normal => exact leave [] (Steps.trans m3 (.one (stepR_end rfl))) h8
  | ret =>
    obtain ⟨k', q⟩ := m3
    exact leave _ (q.trans (.one (stepR_ret rfl))) h8
  | exit i => exact (fail_some (s := s4) h8).elim
  | goto l => exact (fail_some (s := s4) h8).elim
end
end Go.AM
