import Derived.Test.YtoaaalokldaddaaGreatDoorAmO
set_option linter.unusedSimpArgs false
set_option linter.unusedVariables false
namespace Go.AM
open Go Go.RowKit

section
variable {c : Cx} {ρ : Map} {V : Nat → Prop} {s s' : St} {w : World}

theorem valO_some {o : Option Value} {r : R} (h : valO o s = some (r, s')) : s' = s ∧ ∃ v, o = some v ∧ r = .val v := by
  obtain ⟨v, s1, h1, h2⟩ := bind_some h
  obtain ⟨q1, rfl⟩ := lift_some h1
  obtain ⟨rfl, rfl⟩ := pure_some h2
  exact ⟨rfl, v, q1, rfl⟩
theorem valM_some {m : M Value} {r : R} (h : valM m s = some (r, s')) : ∃ v, m s = some (v, s') ∧ r = .val v := by
  obtain ⟨v, s1, h1, h2⟩ := bind_some h
  obtain ⟨rfl, rfl⟩ := pure_some h2
  exact ⟨v, h1, rfl⟩

/-- what is to be shown of an operation -/
abbrev OpS (c : Cx) (ρ : Map) (V : Nat → Prop) (s s' : St) (w : World) (m : Sem Next) (r : R) : Prop := ∃ ρ' w', Made c ρ V s s' w' ρ' ∧ OpR c w w' ρ' (VU V s.nx s'.nx) m r

theorem ops_gives {m : Sem Value} {v : Value} (hR : Rel c ρ V s.hp w) (h : Gives c.P ρ V v m) : OpS c ρ V s s w (do pure (.value (← m))) (.val v) := by
  obtain ⟨v', h1, h2⟩ := h
  exact ⟨ρ, w, Made.of_same hR (SameSt.refl _), v', by simp [h1], by rw [VU.self]; exact h2⟩
theorem ops_value {v v' : Value} (hR : Rel c ρ V s.hp w) (h : VR ρ V v v') : OpS c ρ V s s w (pure (.value v')) (.val v) :=
  ⟨ρ, w, Made.of_same hR (SameSt.refl _), v', by simp, by rw [VU.self]; exact h⟩
theorem ops_same {m : Sem Value} {v : Value} (hR : Rel c ρ V s.hp w) (hs : SameSt s s') (h : ∃ v', m.run c.P w = .ok v' w ∧ VR ρ V v v') : OpS c ρ V s s' w (do pure (.value (← m))) (.val v) := by
  obtain ⟨v', h1, h2⟩ := h
  exact ⟨ρ, w, Made.of_same hR hs, v', by simp [h1], by rw [hs.nx, VU.self]; exact h2⟩
theorem ops_made {m : Sem Value} {v : Value} (h : ∃ ρ' w' v', Made c ρ V s s' w' ρ' ∧ m.run c.P w = .ok v' w' ∧ VR ρ' (VU V s.nx s'.nx) v v') : OpS c ρ V s s' w (do pure (.value (← m))) (.val v) := by
  obtain ⟨ρ', w', v', h0, h1, h2⟩ := h
  exact ⟨ρ', w', h0, v', by simp [h1], h2⟩
theorem ops_turn {m : Sem Value} {v : Value} (h : s'.nx = s.nx ∧ ∃ w' v', m.run c.P w = .ok v' w' ∧ Rel c ρ V s'.hp w' ∧ VR ρ V v v') : OpS c ρ V s s' w (do pure (.value (← m))) (.val v) := by
  obtain ⟨hn, w', v', h1, h2, h3⟩ := h
  exact ⟨ρ, w', Made.of_nx h2 hn, v', by simp [h1], by rw [hn, VU.self]; exact h3⟩

theorem parts_pr {a : A} {A' : Act} (ps : List (Nat × Operand)) (h : ∀ x, x ∈ ps.map (·.2) → VR ρ V (a.eval x) (A'.eval x)) : PR ρ V (ps.map fun x => (x.1, a.eval x.2)) (ps.map fun x => (x.1, A'.eval x.2)) := by
  induction ps with
  | nil => trivial
  | cons p ps ih => exact ⟨rfl, h p.2 (by simp), ih fun x hx => h x (by simp at hx ⊢; exact .inr hx)⟩

theorem builtin_sound {b : Builtin} {ts : Array TypeId} {ty : TypeId} {cs : Array Bool} {l l' : List Value} {r : R} (h : builtinM c.P b ts ty l s = some (r, s')) (hR : Rel c ρ V s.hp w) (hf : Free V s.nx s'.nx) (hl : LR ρ V l l') :
    OpS c ρ V s s' w (builtin b ts ty cs ⟨l'⟩) r := by
  have one_ : ∀ {x : Value}, arg0 l = some x → ∃ x', l' = [x'] ∧ VR ρ V x x' := by
    intro x hx
    unfold arg0 at hx
    split at hx
    · cases hx
      obtain ⟨v', l2, rfl, h1, h2⟩ := hl.cons_inv
      rw [h2.nil_inv]
      exact ⟨_, rfl, h1⟩
    · cases hx
  have two_ : ∀ {x : Value × Value}, arg2 l = some x → ∃ x' y', l' = [x', y'] ∧ VR ρ V x.1 x' ∧ VR ρ V x.2 y' := by
    intro x hx
    unfold arg2 at hx
    split at hx
    · cases hx
      obtain ⟨v', l2, rfl, h1, h2⟩ := hl.cons_inv
      obtain ⟨v2, l3, rfl, h3, h4⟩ := h2.cons_inv
      rw [h4.nil_inv]
      exact ⟨_, _, rfl, h1, h3⟩
    · cases hx
  cases b <;> simp only [builtinM] at h <;> try (exact (fail_some h).elim)
  case append =>
    obtain ⟨x, s1, h1, h2⟩ := bind_some h
    obtain ⟨q1, rfl⟩ := lift_some h1
    obtain ⟨t, s2, h3, h4⟩ := bind_some h2
    obtain ⟨q3, rfl⟩ := lift_some h3
    obtain ⟨v, h5, rfl⟩ := valM_some h4
    obtain ⟨x', y', rfl, hx, hy⟩ := two_ q1
    exact ops_made (append_sound (by simpa using q3) h5 hR hf hx hy)
  case cap =>
    obtain ⟨x, s1, h1, h2⟩ := bind_some h
    obtain ⟨q1, rfl⟩ := lift_some h1
    obtain ⟨t, s2, h3, h4⟩ := bind_some h2
    obtain ⟨q3, rfl⟩ := lift_some h3
    obtain ⟨rfl, v, h5, rfl⟩ := valO_some h4
    obtain ⟨x', rfl, hx⟩ := one_ q1
    exact ops_gives hR (cap_sound (by simpa using q3) h5 hx)
  case copy =>
    obtain ⟨x, s1, h1, h2⟩ := bind_some h
    obtain ⟨q1, rfl⟩ := lift_some h1
    obtain ⟨t, s2, h3, h4⟩ := bind_some h2
    obtain ⟨q3, rfl⟩ := lift_some h3
    obtain ⟨v, h5, rfl⟩ := valM_some h4
    obtain ⟨x', y', rfl, hx, hy⟩ := two_ q1
    exact ops_turn (copy_sound (by simpa using q3) h5 hR hx hy)
  case len =>
    obtain ⟨x, s1, h1, h2⟩ := bind_some h
    obtain ⟨q1, rfl⟩ := lift_some h1
    obtain ⟨t, s2, h3, h4⟩ := bind_some h2
    obtain ⟨q3, rfl⟩ := lift_some h3
    obtain ⟨rfl, v, h5, rfl⟩ := valO_some h4
    obtain ⟨x', rfl, hx⟩ := one_ q1
    exact ops_gives hR (len_sound (by simpa using q3) h5 hx)
  case max =>
    obtain ⟨rfl, v, h5, rfl⟩ := valO_some h
    exact ops_gives hR (max_sound h5 hl)
  case min =>
    obtain ⟨rfl, v, h5, rfl⟩ := valO_some h
    exact ops_gives hR (min_sound h5 hl)
  case recover =>
    obtain ⟨rfl, rfl⟩ := pure_some h
    exact ⟨ρ, w, Made.of_same hR (SameSt.refl _), rfl⟩

theorem exec_call (ev : Operand → Value) (o : Oper) (cl : Call) (ho : o.op = .call cl) (f : Operand) (hc : cl.callee = .value f) : execOp ev o = callSem (ev f) (cl.args.map ev) := by
  simp [execOp, ho, resolve, hc, callSem]

/-- EVERY OPERATION. -/
theorem op_sound (hG : Good c) {o : Oper} {a : A} {A' : Act} {r : R} (h : opM c.P c.ext o a.eval s = some (r, s')) (hR : Rel c ρ V s.hp w) (hf : Free V s.nx s'.nx) (hA : AR ρ V a A') (hk : okO c.ng o = true) :
    OpS c ρ V s s' w (execOp A'.eval o) r := by
  have hev : ∀ x, x ∈ o.op.operands.toList → VR ρ V (a.eval x) (A'.eval x) := by
    intro x hx
    refine eval_sound hR hA ?_
    simp only [okO, okXs, List.all_eq_true] at hk
    exact hk x hx
  clear hk
  unfold opM at h
  unfold execOp
  cases ho : o.op <;> rw [ho] at hev <;> simp only [ho] at h ⊢ <;> try (exact (fail_some h).elim)
  case move x =>
    obtain ⟨rfl, rfl⟩ := pure_some h
    exact ops_value hR (hev x (by simp [Op.operands]))
  case assign x =>
    obtain ⟨rfl, rfl⟩ := pure_some h
    exact ops_value hR (hev x (by simp [Op.operands]))
  case pick x y z =>
    have h1 := hev x (by simp [Op.operands])
    have h2 := hev y (by simp [Op.operands])
    have h3 := hev z (by simp [Op.operands])
    unfold pickM at h
    generalize a.eval x = cv at h h1
    split at h
    · rename_i b
      rw [bool_inv h1]
      cases b with
      | true =>
        obtain ⟨rfl, rfl⟩ := pure_some h
        simpa [asBool] using ops_value hR h2
      | false =>
        obtain ⟨rfl, rfl⟩ := pure_some h
        simpa [asBool] using ops_value hR h3
    · exact (fail_some h).elim
  case alloc t =>
    obtain ⟨v, h1, rfl⟩ := valM_some h
    obtain ⟨z, s1, h2, h3⟩ := bind_some h1
    obtain ⟨q2, rfl⟩ := lift_some h2
    obtain ⟨i, _, hz'⟩ := zeroT_some q2
    obtain ⟨_, z2, _⟩ := zeroI_some hz'
    obtain ⟨ρ', w', m1, m2, m3⟩ := newVar_sound h3 hR hf (flat_vr 3 z z2)
    exact ops_made ⟨ρ', w', _, m1, by simp [Instr.alloc, run_zero q2, m2], m3⟩
  case box t x =>
    obtain ⟨v, h1, rfl⟩ := valM_some h
    obtain ⟨ρ', w', m1, m2, m3⟩ := newVar_sound h1 hR hf (hev x (by simp [Op.operands]))
    exact ops_made ⟨ρ', w', _, m1, by simp [Instr.box, m2], m3⟩
  case build t ps =>
    obtain ⟨rfl, v, h5, rfl⟩ := valO_some h
    refine ops_gives hR (build_sound h5 ?_)
    have := parts_pr ps.toList (fun x hx => hev x (by simpa [Op.operands] using hx))
    simpa [parts, Array.toList_map] using this
  case buildSlice t n ps =>
    obtain ⟨v, h5, rfl⟩ := valM_some h
    refine ops_made (buildSlice_sound h5 hR hf ?_)
    have := parts_pr ps.toList (fun x hx => hev x (by simpa [Op.operands] using hx))
    simpa [parts, Array.toList_map] using this
  case load t x =>
    obtain ⟨v, h5, rfl⟩ := valM_some h
    obtain ⟨hs, h6⟩ := loadM_sound h5 hR (hev x (by simp [Op.operands]))
    exact ops_same hR hs h6
  case store t x y =>
    obtain ⟨_, s1, h1, h2⟩ := bind_some h
    obtain ⟨rfl, rfl⟩ := pure_some h2
    obtain ⟨hn, w', h3, h4⟩ := storeM_sound h1 hR (hev x (by simp [Op.operands])) (hev y (by simp [Op.operands]))
    exact ⟨ρ, w', Made.of_nx h4 hn, by simp [OpR, h3]⟩
  case nilCheck x =>
    obtain ⟨rfl, v, h5, rfl⟩ := valO_some h
    have h1 := hev x (by simp [Op.operands])
    generalize a.eval x = y at h1 h5
    generalize A'.eval x = y' at h1 ⊢
    have h1' := h1
    unfold nilCheckV at h5
    split at h5
    · cases h5
      cases h1 with
      | atom v hat => simp [atomV] at hat
      | ptr b off hb => exact ops_value hR h1'
    · cases h5
      cases h1 with
      | atom v hat => simp [atomV] at hat
      | iface t v v' hv => exact ops_value hR h1'
    · cases h5
      obtain ⟨f', c', rfl, hf1, hc1⟩ := func_inv h1
      exact ops_value hR h1
    · cases h5
      obtain ⟨hl, rfl⟩ := yield_inv h1
      exact ops_value hR h1
    · cases h5
  case binOp op t x y yt =>
    obtain ⟨rfl, v, h5, rfl⟩ := valO_some h
    exact ops_gives hR (bin_sound h5 (hev x (by simp [Op.operands])) (hev y (by simp [Op.operands])))
  case unOp op t x =>
    obtain ⟨rfl, v, h5, rfl⟩ := valO_some h
    exact ops_gives hR (unary_sound h5 (hev x (by simp [Op.operands])))
  case convert src dst x =>
    obtain ⟨v, h5, rfl⟩ := valM_some h
    exact ops_made (convert_sound h5 hR hf (hev x (by simp [Op.operands])))
  case makeInterface t x =>
    obtain ⟨rfl, v, h5, rfl⟩ := valO_some h
    exact ops_gives hR (iface_sound h5 (hev x (by simp [Op.operands])))
  case makeFunc fn first captured =>
    obtain ⟨rfl, v, h5, rfl⟩ := valO_some h
    unfold funcV at h5
    split at h5
    · cases h5
      have l1 : LR ρ V (first.toList.map a.eval) (first.toList.map A'.eval) := LR.map_of _ fun x hx => hev x (by simp [Op.operands]; exact .inl (by simpa using hx))
      have l2 : LR ρ V (captured.toList.map a.eval) (captured.toList.map A'.eval) := LR.map_of _ fun x hx => hev x (by simp [Op.operands]; exact .inr (by simpa using hx))
      refine ops_gives hR ⟨_, fun w => ?_, VR.func_of _ l1 l2⟩
      simp [Instr.makeFunc, ← Array.toList_map]
    · cases h5
  case makeSlice t n k =>
    obtain ⟨v, h5, rfl⟩ := valM_some h
    exact ops_made (makeSlice_sound h5 hR hf (hev n (by simp [Op.operands])) (hev k (by simp [Op.operands])))
  case slice t x lo hi mx =>
    obtain ⟨rfl, v, h5, rfl⟩ := valO_some h
    have or_ : ∀ (q : Option Operand), (∀ y, q = some y → VR ρ V (a.eval y) (A'.eval y)) → OR ρ V (q.map a.eval) (q.map A'.eval) := by
      intro q hq
      cases q with
      | none => trivial
      | some y => exact hq y rfl
    exact ops_gives hR (slice_sound h5 (hev x (by simp [Op.operands])) (or_ lo fun y hy => hev y (by simp [Op.operands, hy])) (or_ hi fun y hy => hev y (by simp [Op.operands, hy])) (or_ mx fun y hy => hev y (by simp [Op.operands, hy])))
  case fieldAddr t x f =>
    obtain ⟨rfl, v, h5, rfl⟩ := valO_some h
    exact ops_gives hR (fieldAddr_sound h5 (hev x (by simp [Op.operands])))
  case field t x f =>
    obtain ⟨rfl, v, h5, rfl⟩ := valO_some h
    exact ops_gives hR (field_sound h5 (hev x (by simp [Op.operands])))
  case indexAddr t x i =>
    obtain ⟨rfl, v, h5, rfl⟩ := valO_some h
    exact ops_gives hR (indexAddr_sound h5 (hev x (by simp [Op.operands])) (hev i (by simp [Op.operands])))
  case index t x i =>
    obtain ⟨rfl, v, h5, rfl⟩ := valO_some h
    exact ops_gives hR (index_sound h5 (hev x (by simp [Op.operands])) (hev i (by simp [Op.operands])))
  case typeAssert x xt t ok =>
    obtain ⟨rfl, v, h5, rfl⟩ := valO_some h
    exact ops_gives hR (assert_sound h5 (hev x (by simp [Op.operands])))
  case extract x i =>
    obtain ⟨rfl, v, h5, rfl⟩ := valO_some h
    exact ops_gives hR (extract_sound h5 (hev x (by simp [Op.operands])))
  case range t x =>
    obtain ⟨v, h5, rfl⟩ := valM_some h
    exact ops_made (range_sound h5 hR hf (hev x (by simp [Op.operands])))
  case next it b =>
    cases b with
    | false => exact (fail_some h).elim
    | true =>
      obtain ⟨v, h5, rfl⟩ := valM_some h
      exact ops_turn (next_sound h5 hR (hev it (by simp [Op.operands])))
  case call cl =>
    unfold callM at h
    cases hc : cl.callee with
    | value f =>
      simp only [hc] at h
      have hl : LR ρ V (cl.args.toList.map a.eval) (cl.args.toList.map A'.eval) := LR.map_of _ fun x hx => hev x (by simp [Op.operands, Call.operands, hc]; exact .inr (by simpa using hx))
      obtain ⟨rfl, h1, _⟩ := callV_sound hG h hR (hev f (by simp [Op.operands, Call.operands, hc])) hl
      refine ⟨ρ, w, Made.of_same hR (SameSt.refl _), ?_⟩
      rw [VU.self]
      have e : (do let d ← resolve A'.eval cl o.type; invoke d.target d.args) = callSem (A'.eval f) ⟨cl.args.toList.map A'.eval⟩ := by
        simp [resolve, hc, callSem, ← Array.toList_map]
      rw [e]
      exact h1
    | invoke a b => simp only [hc] at h; exact (fail_some h).elim
    | builtin b =>
      simp only [hc] at h
      have hl : LR ρ V (cl.args.toList.map a.eval) (cl.args.toList.map A'.eval) := LR.map_of _ fun x hx => hev x (by simp [Op.operands, Call.operands, hc]; simpa using hx)
      have := builtin_sound (cs := cl.args.map fun | .const _ => true | _ => false) h hR hf hl
      have e : (do let d ← resolve A'.eval cl o.type; invoke d.target d.args) = builtin b cl.argTypes o.type (cl.args.map fun | .const _ => true | _ => false) ⟨cl.args.toList.map A'.eval⟩ := by
        simp [resolve, hc, invoke, ← Array.toList_map]
        rfl
      rw [e]
      exact this
  case «defer» cl =>
    unfold deferC at h
    cases hc : cl.callee with
    | value f =>
      simp only [hc] at h
      have hl : LR ρ V (cl.args.toList.map a.eval) (cl.args.toList.map A'.eval) := LR.map_of _ fun x hx => hev x (by simp [Op.operands, Call.operands, hc]; exact .inr (by simpa using hx))
      have hfv := hev f (by simp [Op.operands, Call.operands, hc])
      unfold deferM at h
      generalize a.eval f = fv at h hfv
      split at h
      · rename_i g first captured
        obtain ⟨rfl, rfl⟩ := pure_some h
        obtain ⟨f', c', hfe', hf1, hc1⟩ := func_inv hfv
        refine ⟨ρ, w, Made.of_same hR (SameSt.refl _), ?_⟩
        rw [VU.self]
        refine ⟨⟨.fn (.func g) ⟨c'⟩, ⟨f' ++ cl.args.toList.map A'.eval⟩⟩, ?_, ?_⟩
        · simp [resolve, hc, hfe', Deferred.ofValue]
        · have e : first ++ (⟨cl.args.toList.map a.eval⟩ : Array Value) = ⟨first.toList ++ cl.args.toList.map a.eval⟩ := by
            apply Array.ext'; simp
          rw [e]
          have e2 : captured = ⟨captured.toList⟩ := rfl
          exact .fn g captured.toList c' _ _ hc1 (hf1.append hl)
      · exact (fail_some h).elim
    | invoke a b => simp only [hc] at h; exact (fail_some h).elim
    | builtin b => simp only [hc] at h; exact (fail_some h).elim
end
end Go.AM
