import Derived.Test.YtoaaalokldaddaaGreatDoorAmP
import Derived.Defers
import Derived.RangeFuncIn
set_option linter.unusedSimpArgs false
set_option linter.unusedVariables false
namespace Go.AM
open Go Go.RowKit

/-! ### States that grow -/
theorem Fr.grows {α : Type} {m : M α} (h : Fr m) {s s' : St} {a : α} (e : m s = some (a, s')) (hl : s.lim ≤ s.nx) : s.nx ≤ s'.nx ∧ s'.lim ≤ s'.nx := by
  have hm := (h s a s' e hl).1
  exact ⟨hm.nx, by rw [hm.lim]; exact Nat.le_trans hl hm.nx⟩
theorem Free.left {V : Nat → Prop} {a b d : Nat} (h : Free V a d) (hb : b ≤ d) : Free V a b := fun x h1 h2 => h x h1 (by omega)
theorem Free.right {V : Nat → Prop} {a b d : Nat} (h : Free V a d) (hb : a ≤ b) : Free (VU V a b) b d := fun x h1 h2 h3 => by
  rcases h3 with h3 | h3
  · exact h x (by omega) h2 h3
  · omega
theorem Made.trans {c : Cx} {ρ ρ1 ρ' : Map} {V : Nat → Prop} {s s1 s' : St} {w1 w' : World} (h1 : s.nx ≤ s1.nx) (h2 : s1.nx ≤ s'.nx) (a : Made c ρ V s s1 w1 ρ1) (b : Made c ρ1 (VU V s.nx s1.nx) s1 s' w' ρ') : Made c ρ V s s' w' ρ' :=
  ⟨a.same.trans VU.sub b.same, by have := b.rel; rw [VU.trans V h1 h2] at this; exact this⟩

/-! ### Frames -/
def RoundR (ρ : Map) (V : Nat → Prop) : Option Nat → Option Nat → Prop
  | none, none => True
  | some l, some l' => V l ∧ l' = (ρ l).r
  | _, _ => False
structure FrOK (ρ : Map) (V : Nat → Prop) (rf : Option Nat) (fn : FuncId) (b : Frame) (cs : List Frame) : Prop where
  fn : b.fn = fn
  round : RoundR ρ V rf b.roundOf
  kind : KindOK b.kind cs
theorem RoundR.mono {ρ ρ' : Map} {V V' : Nat → Prop} (hs : SameOn V ρ ρ') (hB : ∀ b, V b → V' b) {rf rf' : Option Nat} (h : RoundR ρ V rf rf') : RoundR ρ' V' rf rf' := by
  cases rf <;> cases rf' <;> first | exact h | skip
  exact ⟨hB _ h.1, by rw [hs _ h.1]; exact h.2⟩
theorem FrOK.mono {ρ ρ' : Map} {V V' : Nat → Prop} (hs : SameOn V ρ ρ') (hB : ∀ b, V b → V' b) {rf : Option Nat} {fn : FuncId} {b : Frame} {cs : List Frame} (h : FrOK ρ V rf fn b cs) : FrOK ρ' V' rf fn b cs :=
  ⟨h.fn, h.round.mono hs hB, h.kind⟩
theorem KindOK.recover {b : Frame} {cs : List Frame} (h : KindOK b.kind cs) : tryRecover b cs = none := by
  unfold tryRecover
  rcases h with h | ⟨h, f, l, rfl, hm⟩
  · rw [h]
  · rw [h]; simp [hm]

/-- where code leads -/
def Lands (P : Program) (m : Machine) (b : Frame) (k : List Item) (cs : List Frame) : Ex → Act → World → Prop
  | .normal, A', w' => Steps P m (lone (b.atR A' k) cs w')
  | .exit id, A', w' => ∃ k', exitTo id k' = exitTo id k ∧ Steps P m (lone (b.atR A' (.code (.exit id) :: k')) cs w')
  | .goto l, A', w' => ∃ k', gotoIn l k' = gotoIn l k ∧ Steps P m (lone (b.atR A' (.code (.goto l) :: k')) cs w')
  | .ret, A', w' => ∃ k', Steps P m (lone (b.atR A' (.code .ret :: k')) cs w')
theorem Lands.of_steps {P : Program} {m m1 : Machine} {b : Frame} {k : List Item} {cs : List Frame} {e : Ex} {A' : Act} {w' : World} (h : Steps P m m1) (h' : Lands P m1 b k cs e A' w') : Lands P m b k cs e A' w' := by
  cases e with
  | normal => exact h.trans h'
  | exit id => obtain ⟨k', e1, e2⟩ := h'; exact ⟨k', e1, h.trans e2⟩
  | goto l => obtain ⟨k', e1, e2⟩ := h'; exact ⟨k', e1, h.trans e2⟩
  | ret => obtain ⟨k', e2⟩ := h'; exact ⟨k', h.trans e2⟩

/-- what code comes to -/
def CodeOK (c : Cx) (ρ : Map) (V : Nat → Prop) (s s' : St) (m : Machine) (b : Frame) (k : List Item) (cs : List Frame) (out : Out) : Prop :=
  ∃ e a' ρ' w' A', out = .code e a' ∧ Made c ρ V s s' w' ρ' ∧ AR ρ' (VU V s.nx s'.nx) a' A' ∧ Lands c.P m b k cs e A' w'

structure Snd (c : Cx) (n : Nat) : Prop where
  code : ∀ {cd : Code} {a : A} {rf : Option Nat} {fn : FuncId} {s s' : St} {out : Out} {ρ : Map} {V : Nat → Prop} {w : World} {A' : Act} {b : Frame} {k : List Item} {cs : List Frame},
    run c.P c.ext n (.code cd a rf fn) s = some (out, s') → okC c.ng cd = true → s.lim ≤ s.nx → Rel c ρ V s.hp w → Free V s.nx s'.nx → AR ρ V a A' → FrOK ρ V rf fn b cs →
    CodeOK c ρ V s s' (lone (b.atR A' (.code cd :: k)) cs w) b k cs out
  scope : ∀ {cur body : Code} {a : A} {rf : Option Nat} {fn : FuncId} {s s' : St} {out : Out} {ρ : Map} {V : Nat → Prop} {w : World} {A' : Act} {b : Frame} {k : List Item} {cs : List Frame},
    run c.P c.ext n (.scope cur body a rf fn) s = some (out, s') → okC c.ng cur = true → okC c.ng body = true → s.lim ≤ s.nx → Rel c ρ V s.hp w → Free V s.nx s'.nx → AR ρ V a A' → FrOK ρ V rf fn b cs →
    CodeOK c ρ V s s' (lone (b.atR A' (.code cur :: .inScope body :: k)) cs w) b k cs out
  call : ∀ {f : FuncId} {args args' : List Value} {s s' : St} {out : Out} {ρ : Map} {V : Nat → Prop} {w : World} {kind : CallKind} {cs : List Frame},
    run c.P c.ext n (.call f args) s = some (out, s') → s.lim ≤ s.nx → Rel c ρ V s.hp w → Free V s.nx s'.nx → LR ρ V args args' → KindOK kind cs →
    ∃ v ρ' w' v' fr, out = .ret v ∧ Made c ρ V s s' w' ρ' ∧ VR ρ' (VU V s.nx s'.nx) v v' ∧ Steps c.P (lone (Frame.enter c.P f ⟨args'⟩ kind) cs w) (lone fr cs w') ∧ Left c.P f kind fr v' w'
  round : ∀ {l : Nat} {args args' : List Value} {s s' : St} {out : Out} {ρ : Map} {V : Nat → Prop} {w : World} {cf : Frame} {cs : List Frame},
    run c.P c.ext n (.round l args) s = some (out, s') → s.lim ≤ s.nx → Rel c ρ V s.hp w → Free V s.nx s'.nx → V l → LR ρ V args args' →
    ∃ v ρ' w' v' f tmps assign body, out = .ret v ∧ Made c ρ V s s' w' ρ' ∧ VR ρ' (VU V s.nx s'.nx) v v' ∧ (Instr.yield (ρ l).r ⟨args'⟩).run c.P w = .ok (.round (ρ l).r f tmps assign body) w ∧
      Steps c.P (lone (Frame.round (ρ l).r f tmps assign body .normal) (cf :: cs) w) (lone (cf.finish v') cs w')
  leaves : ∀ {fn : Func} {a : A} {s s' : St} {out : Out} {ρ : Map} {V : Nat → Prop} {w : World} {A' : Act} {fr : Frame} {cs : List Frame},
    run c.P c.ext n (.leaves fn a) s = some (out, s') → s.lim ≤ s.nx → Rel c ρ V s.hp w → Free V s.nx s'.nx → AR ρ V a A' → fr.mode = .returning → fr.tmps = A'.tmps → fr.defers = A'.defers → c.P.funcs[fr.fn]? = some fn →
    ∃ v ρ' w' v' fr', out = .ret v ∧ Made c ρ V s s' w' ρ' ∧ VR ρ' (VU V s.nx s'.nx) v v' ∧ Steps c.P (lone fr cs w) (lone fr' cs w') ∧ Left c.P fr.fn fr.kind fr' v' w'

section
variable {c : Cx} {n : Nat} {ρ : Map} {V : Nat → Prop} {s s' : St} {w : World}

theorem left_returned {P : Program} {f : FuncId} {fr cf : Frame} {cs : List Frame} {v : Value} (h : Left P f .normal fr v w) : Go.step P (lone fr (cf :: cs) w) = .next (lone (cf.finish v) cs w) := by
  obtain ⟨fn, h1, h2⟩ := h.res
  exact step_leave_returned ⟨h.mode, h.defers, h.kind, fn, by rw [h.fn]; exact h1, h2⟩
theorem left_going {P : Program} {f : FuncId} {fr cf : Frame} {cs : List Frame} {v : Value} (h : Left P f .deferred fr v w) : Go.step P (lone fr (cf :: cs) w) = .next (lone { cf with mode := settle cf.mode } cs w) := by
  obtain ⟨fn, h1, h2⟩ := h.res
  exact step_going_returned h.kind ⟨h.mode, h.defers, fn, by rw [h.fn]; exact h1, h2⟩

theorem yielded_sound {a : A} {A' : Act} (hA : AR ρ V a A') (ops : Array Oper) (j : Nat) : yieldedA ops.toList a j = yielded ops A'.tmps j := by
  unfold yieldedA yielded
  have e : ops.toList[j]? = ops[j]? := by simp
  rw [e]
  cases ops[j]? with
  | none => rfl
  | some o =>
    simp only [Option.bind_some]
    cases o.dst with
    | none => rfl
    | some d =>
      simp only [Option.bind_some]
      have hv := hA.tm d
      rw [Array.getD_eq_getD_getElem?] at hv
      by_cases hd : d < a.n
      · rw [if_pos hd]
        have hd' : d < A'.tmps.size := by rw [hA.size]; exact hd
        rw [Array.getElem?_eq_getElem hd'] at hv ⊢
        simp only [Option.getD_some] at hv
        generalize a.get d = x at hv
        generalize A'.tmps[d] = x' at hv
        cases hv with
        | atom _ h => cases x <;> rfl
        | _ => rfl
      · rw [if_neg hd]
        have hn : A'.tmps[d]? = none := Array.getElem?_eq_none (by rw [hA.size]; exact Nat.le_of_not_lt hd)
        rw [hn]
theorem wanted_sound {a : A} {A' : Act} (hA : AR ρ V a A') (ops : Array Oper) (o : Oper) : wantedA ops.toList o a = Region.wanted o (yielded ops A'.tmps) := by
  unfold wantedA Region.wanted
  cases o.guard with
  | none => rfl
  | some g => obtain ⟨j, want⟩ := g; simp only; rw [yielded_sound hA]

theorem opM_defer {P : Program} {ext : Ext} {o : Oper} {ev : Operand → Value} {cl : Call} (ho : o.op = .defer cl) {r : R} (h : opM P ext o ev s = some (r, s')) : ∃ d, r = .defer d := by
  unfold opM at h
  simp only [ho, deferC] at h
  cases hc : cl.callee with
  | value f =>
    simp only [hc, deferM] at h
    generalize ev f = x at h
    split at h
    · exact ⟨_, (pure_some h).1⟩
    · exact (fail_some h).elim
  | invoke a b => simp only [hc] at h; exact (fail_some h).elim
  | builtin b => simp only [hc] at h; exact (fail_some h).elim
theorem retV_some {o : Out} {v : Value} (h : retV o s = some (v, s')) : o = .ret v ∧ s' = s := by
  cases o with
  | code e a => exact (fail_some (s := s) h).elim
  | ret u => obtain ⟨rfl, rfl⟩ := pure_some h; exact ⟨rfl, rfl⟩
theorem semAt_of {rf : Option Nat} {o : Oper} {ev : Operand → Value} (h : rf = none ∨ ∀ cl, o.op ≠ .defer cl) : Oper.semAt rf ev o = execOp ev o := by
  rcases h with rfl | h
  · rfl
  · exact Oper.semAt_eq rf ev o h

section region
variable {ops : Array Oper} {i : Nat} {rest : List Nat} {o : Oper} {b : Frame} {k : List Item} {cs : List Frame} {A' : Act} {rf : Option Nat} {fn : FuncId} {a : A}

theorem opV_sound (ih : Snd c n) (hG : Good c) {v : Value} (h : opV c.P c.ext (run c.P c.ext n) rf o a.eval s = some (v, s')) (hl : s.lim ≤ s.nx) (hR : Rel c ρ V s.hp w) (hf : Free V s.nx s'.nx) (hA : AR ρ V a A') (hk : okO c.ng o = true)
    (hF : FrOK ρ V rf fn b cs) (ho : ops[i]? = some o) (hw : Region.wanted o (yielded ops A'.tmps) = true) :
    ∃ ρ' w' v', Made c ρ V s s' w' ρ' ∧ VR ρ' (VU V s.nx s'.nx) v v' ∧
      Steps c.P (lone (b.atR A' (.inRegion ops (i :: rest) :: k)) cs w) (lone (b.atR (A'.put o.dst v') (.inRegion ops rest :: k)) cs w') := by
  obtain ⟨r, s1, h1, h2⟩ := bind_some h
  have hnd : ∀ cl, o.op ≠ .defer cl := by
    intro cl e
    obtain ⟨d, rfl⟩ := opM_defer e h1
    exact (fail_some (s := s1) h2).elim
  obtain ⟨g1, g2⟩ := (Fr.opM _ _ _ _).grows h1 hl
  obtain ⟨g3, g4⟩ := (Fr.valR (fun t => Fr.run c.P c.ext n t) rf r).grows h2 g2
  obtain ⟨ρ1, w1, m1, hr⟩ := op_sound hG h1 hR (hf.left g3) hA hk
  have hfin : ∀ v, (b.atR A' (.inRegion ops (i :: rest) :: k)).finish v = b.atR (A'.put o.dst v) (.inRegion ops rest :: k) := by
    intro v; rw [Frame.finish_atR, ho]; rfl
  have hg := stepGR_op (P := c.P) (b := b) (k := k) (cs := cs) (w := w) (rest := rest) ho hw
  rw [semAt_of (.inr hnd)] at hg
  cases r with
  | val u =>
    obtain ⟨rfl, rfl⟩ := pure_some h2
    obtain ⟨v', e1, e2⟩ := hr
    refine ⟨ρ1, w1, v', m1, e2, .one (step_lone_go ?_)⟩
    rw [hg, ← hfin]; simp [stepG.apply, e1]
  | skip =>
    obtain ⟨rfl, rfl⟩ := pure_some h2
    refine ⟨ρ1, w1, undef, m1, VR.undef, .one (step_lone_go ?_)⟩
    have e1 : (execOp A'.eval o).run c.P w = .ok .skip w1 := hr
    rw [hg, ← hfin]; simp [stepG.apply, e1]
  | enter f args =>
    obtain ⟨args', e1, e2⟩ := hr
    obtain ⟨out, s2, h3, h4⟩ := bind_some h2
    obtain ⟨rfl, rfl⟩ := retV_some h4
    obtain ⟨v1, ρ2, w2, v', fr, hv1, m2, k1, k2, k3⟩ := ih.call (kind := .normal) (cs := b.atR A' (.inRegion ops (i :: rest) :: k) :: cs) h3 g2 m1.rel (hf.right g1) e2 (.inl rfl)
    cases hv1
    refine ⟨ρ2, w2, v', m1.trans g1 g3 m2, by rw [← VU.trans V g1 g3]; exact k1, .head (m₁ := lone (Frame.enter c.P f ⟨args'⟩ .normal) (b.atR A' (.inRegion ops (i :: rest) :: k) :: cs) w1) ?_ (k2.trans (.one ?_))⟩
    · exact step_lone_go (by rw [hg]; simp [stepG.apply, e1, Frame.atR])
    · rw [← hfin]; exact left_returned k3
  | yield l args =>
    obtain ⟨args', e1, hl1, e2⟩ := hr
    obtain ⟨out, s2, h3, h4⟩ := bind_some h2
    obtain ⟨rfl, rfl⟩ := retV_some h4
    obtain ⟨v1, ρ2, w2, v', f, tmps, assign, body, hv1, m2, k1, k2, k3⟩ := ih.round (cf := b.atR A' (.inRegion ops (i :: rest) :: k)) (cs := cs) h3 g2 m1.rel (hf.right g1) hl1 e2
    cases hv1
    rw [k2] at e1
    refine ⟨ρ2, w2, v', m1.trans g1 g3 m2, by rw [← VU.trans V g1 g3]; exact k1, .head ?_ (hfin v' ▸ k3)⟩
    exact step_lone_go (by rw [hg]; simp [stepG.apply, e1, Frame.atR])
  | «defer» d => exact (fail_some (s := s1) h2).elim
  | recover =>
    obtain ⟨_, s2, h3, h4⟩ := bind_some h2
    obtain ⟨q3, rfl⟩ := guard_some h3
    obtain ⟨rfl, rfl⟩ := pure_some h4
    have e1 : (execOp A'.eval o).run c.P w = .ok .recover w1 := hr
    have hrf : b.roundOf = none := by
      have := hF.round
      cases rf with
      | some l => cases q3
      | none =>
        cases hb : b.roundOf with
        | none => rfl
        | some l => rw [hb] at this; exact this.elim
    have hrec : tryRecover (b.atR A' (.inRegion ops (i :: rest) :: k)) cs = none := KindOK.recover (b := b.atR A' (.inRegion ops (i :: rest) :: k)) hF.kind
    refine ⟨ρ1, w1, .nilIface, m1, .atom _ rfl, .one (step_lone_go ?_)⟩
    rw [hg, ← hfin]
    have hro : (b.atR A' (.inRegion ops (i :: rest) :: k)).roundOf = none := hrf
    simp [stepG.apply, e1, hro, hrec]
end region
end
end Go.AM
