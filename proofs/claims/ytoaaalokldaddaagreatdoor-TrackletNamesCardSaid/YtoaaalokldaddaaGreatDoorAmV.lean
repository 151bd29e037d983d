import Derived.Test.YtoaaalokldaddaaGreatDoorAmU
set_option linter.unusedSimpArgs false
set_option linter.unusedVariables false
namespace Go.AM
open Go Go.RowKit

section
variable {c : Cx} {n : Nat} {ρ : Map} {V : Nat → Prop} {s s' : St} {w : World} {A' : Act} {b : Frame} {k : List Item} {cs : List Frame} {rf : Option Nat} {fn : FuncId} {a : A}

theorem CodeOK.of_steps {m m1 : Machine} {out : Out} (h : Steps c.P m m1) (h' : CodeOK c ρ V s s' m1 b k cs out) : CodeOK c ρ V s s' m b k cs out := by
  obtain ⟨e, a', ρ', w', A2, h1, h2, h3, h4⟩ := h'
  exact ⟨e, a', ρ', w', A2, h1, h2, h3, Lands.of_steps h h4⟩
/-- first one, then the rest -/
theorem CodeOK.after {m : Machine} {s1 : St} {ρ1 : Map} {w1 : World} {out : Out} (hn : s.nx ≤ s1.nx) (hn2 : s1.nx ≤ s'.nx) (hm : Made c ρ V s s1 w1 ρ1) (h : CodeOK c ρ1 (VU V s.nx s1.nx) s1 s' m b k cs out) : CodeOK c ρ V s s' m b k cs out := by
  obtain ⟨e, a', ρ', w', A2, h1, h2, h3, h4⟩ := h
  rw [VU.trans V hn hn2] at h3
  exact ⟨e, a', ρ', w', A2, h1, hm.trans hn hn2 h2, h3, h4⟩
theorem code_normal {a' : A} {ρ1 : Map} {w1 : World} {A1 : Act} {m : Machine} (hm : Made c ρ V s s' w1 ρ1) (hA : AR ρ1 (VU V s.nx s'.nx) a' A1) (h : Steps c.P m (lone (b.atR A1 k) cs w1)) : CodeOK c ρ V s s' m b k cs (.code .normal a') :=
  ⟨.normal, a', ρ1, w1, A1, rfl, hm, hA, h⟩
theorem code_here {a : A} {e : Ex} {m : Machine} (hR : Rel c ρ V s.hp w) (hA : AR ρ V a A') (h : Lands c.P m b k cs e A' w) : CodeOK c ρ V s s m b k cs (.code e a) :=
  ⟨e, a, ρ, w, A', rfl, Made.of_same hR (SameSt.refl _), by rw [VU.self]; exact hA, h⟩

/-! ### Regions in the text's order -/
theorem stepOp_sound (ih : Snd c n) (hG : Good c) {ops : Array Oper} {i : Nat} {rest : List Nat} {o : Oper} {a' : A} (h : stepOp c.P c.ext (run c.P c.ext n) rf o a s = some (a', s')) (hl : s.lim ≤ s.nx) (hR : Rel c ρ V s.hp w) (hf : Free V s.nx s'.nx) (hA : AR ρ V a A') (hk : okO c.ng o = true)
    (hF : FrOK ρ V rf fn b cs) (ho : ops[i]? = some o) (hw : Region.wanted o (yielded ops A'.tmps) = true) :
    ∃ ρ' w' A2, Made c ρ V s s' w' ρ' ∧ AR ρ' (VU V s.nx s'.nx) a' A2 ∧ Steps c.P (lone (b.atR A' (.inRegion ops (i :: rest) :: k)) cs w) (lone (b.atR A2 (.inRegion ops rest :: k)) cs w') := by
  unfold stepOp at h
  cases hd : isDefer o.op with
  | false =>
    rw [hd] at h
    simp only [bif_] at h
    obtain ⟨v, s1, h1, h2⟩ := bind_some h
    obtain ⟨rfl, rfl⟩ := pure_some h2
    obtain ⟨ρ', w', v', m1, m2, m3⟩ := opV_sound (rest := rest) (k := k) ih hG h1 hl hR hf hA hk hF ho hw
    exact ⟨ρ', w', A'.put o.dst v', m1, (hA.mono m1.same VU.sub).put o.dst m2, m3⟩
  | true =>
    rw [hd] at h
    simp only [bif_] at h
    obtain ⟨r, s1, h1, h2⟩ := bind_some h
    obtain ⟨d, s2, h3, h4⟩ := bind_some h2
    obtain ⟨q3, rfl⟩ := lift_some h3
    have hr : r = .defer d := by
      unfold asDefer at q3
      split at q3
      · cases q3; rfl
      · cases q3
    subst hr
    unfold doDefer at h4
    cases rf with
    | some l => exact (fail_some (s := s2) h4).elim
    | none =>
      obtain ⟨rfl, rfl⟩ := pure_some h4
      obtain ⟨ρ1, w1, m1, d', e1, e2⟩ := op_sound hG h1 hR hf hA hk
      have hrf : b.roundOf = none := by
        have := hF.round
        cases hb : b.roundOf with
        | none => rfl
        | some l => rw [hb] at this; exact this.elim
      have hg := stepGR_op (P := c.P) (b := b) (k := k) (cs := cs) (w := w) (rest := rest) ho hw
      rw [semAt_of (.inl hrf)] at hg
      have hA2 : AR ρ1 (VU V s.nx s'.nx) { a with df := d :: a.df } { A' with defers := d' :: A'.defers } := by
        have h5 := hA.mono m1.same (VU.sub (n := s.nx) (m := s'.nx))
        exact ⟨h5.size, h5.tm, e2, h5.df⟩
      refine ⟨ρ1, w1, ({ A' with defers := d' :: A'.defers } : Act).put o.dst undef, m1, hA2.put o.dst VR.undef, .one (step_lone_go ?_)⟩
      have hfin : ({ b.atR A' (.inRegion ops (i :: rest) :: k) with defers := d' :: A'.defers } : Frame).finish undef = b.atR (({ A' with defers := d' :: A'.defers } : Act).put o.dst undef) (.inRegion ops rest :: k) := by
        have := Frame.finish_atR b { A' with defers := d' :: A'.defers } ops i rest k undef
        rw [ho] at this
        exact this
      rw [hg]
      simp only [stepG.apply, Sem.runT_eq, e1, GStep.bare_after]
      exact congrArg (fun fr => GStep.go { frame := fr, callers := cs, status := .running, dying := none } w1) hfin

theorem runOps_sound (ih : Snd c n) (hG : Good c) (ops : Array Oper) (hk : ops.toList.all (okO c.ng) = true) : ∀ (l : List Oper) (j : Nat) {a a' : A} {s s' : St} {ρ : Map} {V : Nat → Prop} {w : World} {A' : Act}, l = ops.toList.drop j → j ≤ ops.size →
    runOps c.P c.ext (run c.P c.ext n) rf ops.toList l a s = some (a', s') → s.lim ≤ s.nx → Rel c ρ V s.hp w → Free V s.nx s'.nx → AR ρ V a A' → FrOK ρ V rf fn b cs →
    ∃ ρ' w' A2, Made c ρ V s s' w' ρ' ∧ AR ρ' (VU V s.nx s'.nx) a' A2 ∧ Steps c.P (lone (b.atR A' (.inRegion ops (List.range' j (ops.size - j)) :: k)) cs w) (lone (b.atR A2 (.inRegion ops [] :: k)) cs w') := by
  intro l
  induction l with
  | nil =>
    intro j a a' s s' ρ V w A' hj hjs h hl hR hf hA hF
    obtain ⟨rfl, rfl⟩ := pure_some h
    have hj0 : ops.size - j = 0 := by
      have := congrArg List.length hj
      simp at this
      omega
    rw [hj0]
    exact ⟨ρ, w, A', Made.of_same hR (SameSt.refl _), by rw [VU.self]; exact hA, .refl _ _⟩
  | cons o l ihl =>
    intro j a a' s s' ρ V w A' hj hjs h hl hR hf hA hF
    have hjl : j < ops.size := by
      have := congrArg List.length hj
      simp at this
      omega
    have ho : ops[j]? = some o := by
      have := congrArg (fun l => l[0]?) hj
      simp at this
      exact this.symm
    have hl' : l = ops.toList.drop (j + 1) := by
      have := congrArg List.tail hj
      simpa [List.tail_drop] using this
    have hrange : List.range' j (ops.size - j) = j :: List.range' (j + 1) (ops.size - (j + 1)) := by
      rw [show ops.size - j = (ops.size - (j + 1)) + 1 by omega, List.range'_succ]
    rw [hrange]
    unfold runOps at h
    have hwm := wanted_sound hA ops o
    split at h
    · rename_i hw
      obtain ⟨a1, s1, h1, h2⟩ := bind_some h
      obtain ⟨g1, g2⟩ := (Fr.stepOp c.P c.ext (fun t => Fr.run c.P c.ext n t) rf o a).grows h1 hl
      obtain ⟨g3, g4⟩ := (Fr.runOps c.P c.ext (fun t => Fr.run c.P c.ext n t) rf ops.toList l a1).grows h2 g2
      have hko : okO c.ng o = true := by
        simp only [List.all_eq_true] at hk
        exact hk o (List.mem_of_getElem? (by simpa using ho : ops.toList[j]? = some o))
      obtain ⟨ρ1, w1, A1, m1, m2, m3⟩ := stepOp_sound (rest := List.range' (j + 1) (ops.size - (j + 1))) (k := k) ih hG h1 hl hR (hf.left g3) hA hko hF ho (by rw [← hwm]; exact hw)
      obtain ⟨ρ2, w2, A2, k1, k2, k3⟩ := ihl (j + 1) hl' (by omega) h2 g2 m1.rel (hf.right g1) m2 (hF.mono m1.same VU.sub)
      rw [VU.trans V g1 g3] at k2
      exact ⟨ρ2, w2, A2, m1.trans g1 g3 k1, k2, m3.trans k3⟩
    · rename_i hw
      obtain ⟨ρ2, w2, A2, k1, k2, k3⟩ := ihl (j + 1) hl' (by omega) h hl hR hf (hA.put o.dst VR.undef) hF
      refine ⟨ρ2, w2, A2, k1, k2, .head ?_ k3⟩
      have := stepR_op_skip (P := c.P) (b := b) (a := A') (k := k) (cs := cs) (w := w) (ops := ops) (i := j) (rest := List.range' (j + 1) (ops.size - (j + 1))) (by rw [ho]; simp only [Option.map_some, Option.getD_some]; rw [← hwm]; simpa using hw)
      rw [ho] at this
      exact this

theorem region_sound (ih : Snd c n) (hG : Good c) {id : Nat} {ops : Array Oper} {draw : Bool} {out : Out} (h : stRegion c.P c.ext (run c.P c.ext n) ops.toList draw a rf s = some (out, s')) (hk : okC c.ng (.region id ops draw) = true) (hl : s.lim ≤ s.nx) (hR : Rel c ρ V s.hp w) (hf : Free V s.nx s'.nx) (hA : AR ρ V a A')
    (hF : FrOK ρ V rf fn b cs) : CodeOK c ρ V s s' (lone (b.atR A' (.code (.region id ops draw) :: k)) cs w) b k cs out := by
  simp only [okC, Bool.and_eq_true] at hk
  unfold stRegion at h
  cases draw with
  | false =>
    simp only [if_false, Bool.false_eq_true] at h
    obtain ⟨a1, s1, h1, h2⟩ := bind_some h
    obtain ⟨rfl, rfl⟩ := pure_some h2
    obtain ⟨ρ1, w1, A1, m1, m2, m3⟩ := runOps_sound (k := k) ih hG ops hk.1 ops.toList 0 (by simp) (Nat.zero_le _) h1 hl hR hf hA hF
    refine code_normal m1 m2 (.head stepR_region (Steps.trans ?_ (.one (stepR_region_end (ops := ops)))))
    rw [List.range_eq_range']
    exact m3
  | true =>
    simp only [if_true] at h
    obtain ⟨z, s1, h1, h2⟩ := bind_some h
    obtain ⟨fs, a1⟩ := z
    unfold stDrawn at h2
    split at h2
    case isFalse => exact (fail_some (s := s1) h2).elim
    rename_i hap
    obtain ⟨rfl, rfl⟩ := pure_some h2
    obtain ⟨as, ss, vs, T⟩ := trail c n rf ops.toList ops.toList a s fs a1 s' h1
    have hd : okDraw (ordTab ops.toList []) ops.toList = true ∧ okEdges ops.toList = true := by simpa using hk.2
    have hno : ∀ i : Nat, ¬ (Array.replicate ops.size false)[i]? = some true := by
      intro i h
      rw [Array.getElem?_replicate] at h
      split at h <;> cases h
    have hV : VD V ss ops.size (fun i : Nat => (Array.replicate ops.size false)[i]? = some true) = V := by
      funext x
      refine propext ⟨?_, .inl⟩
      rintro (h | ⟨i, _, h, _⟩)
      · exact h
      · exact absurd h (hno i)
    have I : DInv c ops a fs as ss ρ V (fun i : Nat => (Array.replicate ops.size false)[i]? = some true) ρ w.drew A' s.hp := by
      refine ⟨fun i h => absurd h (hno i), fun i h => absurd h (hno i), SameOn.refl _ _, by rw [hV]; exact hR.drew, fun x => .inr ⟨by show s.hp.get x = (ss 0).hp.get x; rw [T.s0], fun i _ _ => hno i⟩, a, rfl, rfl, by rw [hV]; exact hA, fun t => .inr ⟨by show a.get t = (as 0).get t; rw [T.a0], fun i _ _ => hno i⟩⟩
    have hgc : okGc ops.toList = true := by
      have := hd.1
      simp only [okDraw, Bool.and_eq_true] at this
      exact this.1
    have hback : ∀ (md : Region.Mode), (∀ e, Region.binds md e = true → Region.binds .text e = true) → ∀ L : Array Bool, L.size = ops.size → Region.ready md ops L = [] → ∀ i, i < ops.size → L[i]? = some true := by
      intro md hmd L hL hnil
      exact full_of_least (fun k o ho e he hb => edge_lt hd.2 ho e he (hmd e hb)) L hL hnil
    have key : ∀ (md : Region.Mode) (t : Nat), (∀ e, Region.binds .any e = true → Region.binds md e = true) → (∀ L : Array Bool, L.size = ops.size → Region.ready md ops L = [] → ∀ i, i < ops.size → L[i]? = some true) →
        Region.schedule (c.P.follows .mixedOrders) ops (w.tape w.drawn (.order b.fn id)) = Region.linearise md ops t →
        CodeOK c ρ V s s' (lone (b.atR A' (.code (.region id ops true) :: k)) cs w) b k cs (.code .normal (fs, a1).2) := by
      intro md t hmd hfull hs
      obtain ⟨ρ1, w1, A1, m1, m2, m3⟩ := drawn_go T ih hG hap hd.1 hd.2 md hmd hfull hk.1 hf hF k ops.size t (Array.replicate ops.size false) ρ w.drew A' s.hp (by simp) (by
        have : (Array.replicate ops.size false).toList.count true = 0 := by
          rw [List.count_eq_zero]
          simp
        omega) I
      refine code_normal m1 m2 (.head (stepR_region_draw (id := id)) (Steps.trans ?_ (.one (stepR_region_end (ops := ops)))))
      rw [hs]
      exact m3
    have hany : ∀ L : Array Bool, L.size = ops.size → Region.ready .any ops L = [] → ∀ i, i < ops.size → L[i]? = some true := hback .any fun e h => binds_text h
    by_cases hm : (c.P.follows .mixedOrders || !Region.departs ops) = true
    · exact key .any _ (fun e h => h) hany (by unfold Region.schedule; rw [if_pos hm])
    · have hdep : Region.departs ops = true := by
        simp only [Bool.or_eq_true, Bool.not_eq_true', not_or] at hm
        simpa using hm.2
      by_cases ht : (w.tape w.drawn (.order b.fn id) % 2 == 0) = true
      · exact key .text (w.tape w.drawn (.order b.fn id) / 2) (fun e h => binds_text h) (hback .text fun e h => h) (by unfold Region.schedule; rw [if_neg hm, if_pos ht])
      · refine key .gc (w.tape w.drawn (.order b.fn id) / 2) (fun e h => binds_gc h) (full_of_order (σ := Region.linearise .gc ops 0) ?_) (by unfold Region.schedule; rw [if_neg hm, if_neg ht])
        simp only [okGc, Bool.or_eq_true, Bool.not_eq_true'] at hgc
        rcases hgc with h | h
        · have e : (⟨ops.toList⟩ : Array Oper) = ops := rfl
          rw [e, hdep] at h
          cases h
        · exact h
end
end Go.AM
