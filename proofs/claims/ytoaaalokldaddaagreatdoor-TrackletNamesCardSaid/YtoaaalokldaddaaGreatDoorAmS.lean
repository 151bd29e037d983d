import Derived.Test.YtoaaalokldaddaaGreatDoorAmR
set_option linter.unusedSimpArgs false
set_option linter.unusedVariables false
namespace Go.AM
open Go Go.RowKit

/-! ### What is asked of operands only -/
theorem parts_congr {ev ev' : Operand → Value} {ps : Array (Nat × Operand)} (h : ∀ x, x ∈ ps.toList.map (·.2) → ev x = ev' x) : parts ev ps = parts ev' ps := by
  unfold parts
  refine List.map_congr_left fun x hx => ?_
  rw [h x.2 (List.mem_map.2 ⟨x, hx, rfl⟩)]
theorem opM_congr {P : Program} {ext : Ext} {o : Oper} {ev ev' : Operand → Value} (h : ∀ x, x ∈ o.op.operands.toList → ev x = ev' x) : opM P ext o ev = opM P ext o ev' := by
  have callArgs : ∀ (cl : Call), (∀ x, x ∈ cl.operands.toList → ev x = ev' x) → cl.args.toList.map ev = cl.args.toList.map ev' := by
    intro cl hc
    refine List.map_congr_left fun x hx => hc x ?_
    simp [Call.operands]
    exact .inr (by simpa using hx)
  unfold opM
  cases ho : o.op <;> rw [ho] at h <;> try simp only
  case build t ps => rw [parts_congr fun x hx => h x (by simpa [Op.operands] using hx)]
  case buildSlice t n ps => rw [parts_congr fun x hx => h x (by simpa [Op.operands] using hx)]
  case makeFunc fn first captured =>
    unfold funcV
    have h1 : first.toList.map ev = first.toList.map ev' := List.map_congr_left fun x hx => h x (by simp [Op.operands]; exact .inl (by simpa using hx))
    have h2 : captured.toList.map ev = captured.toList.map ev' := List.map_congr_left fun x hx => h x (by simp [Op.operands]; exact .inr (by simpa using hx))
    rw [h1, h2]
  case slice t x lo hi mx =>
    have om : ∀ q : Option Operand, (∀ y, q = some y → ev y = ev' y) → q.map ev = q.map ev' := by
      intro q hq
      cases q with
      | none => rfl
      | some y => simp [hq y rfl]
    rw [h x (by simp [Op.operands]), om lo fun y hy => h y (by simp [Op.operands, hy]), om hi fun y hy => h y (by simp [Op.operands, hy]), om mx fun y hy => h y (by simp [Op.operands, hy])]
  case call cl =>
    have ha := callArgs cl h
    unfold callM
    cases hc : cl.callee with
    | value f => simp only; rw [h f (by simp [Op.operands, Call.operands, hc]), ha]
    | invoke a b => rfl
    | builtin b => simp only; rw [ha]
  case «defer» cl =>
    have ha := callArgs cl h
    unfold deferC
    cases hc : cl.callee with
    | value f => simp only; rw [h f (by simp [Op.operands, Call.operands, hc]), ha]
    | invoke a b => rfl
    | builtin b => rfl
  case next it b => cases b <;> simp only; rw [h it (by simp [Op.operands])]
  case pick a b d => rw [h a (by simp [Op.operands]), h b (by simp [Op.operands]), h d (by simp [Op.operands])]
  case store t a b => rw [h a (by simp [Op.operands]), h b (by simp [Op.operands])]
  case binOp op t a b u => rw [h a (by simp [Op.operands]), h b (by simp [Op.operands])]
  case makeSlice t a b => rw [h a (by simp [Op.operands]), h b (by simp [Op.operands])]
  case indexAddr t a b => rw [h a (by simp [Op.operands]), h b (by simp [Op.operands])]
  case index t a b => rw [h a (by simp [Op.operands]), h b (by simp [Op.operands])]
  case move a => rw [h a (by simp [Op.operands])]
  case assign a => rw [h a (by simp [Op.operands])]
  case box t a => rw [h a (by simp [Op.operands])]
  case load t a => rw [h a (by simp [Op.operands])]
  case nilCheck a => rw [h a (by simp [Op.operands])]
  case unOp op t a => rw [h a (by simp [Op.operands])]
  case convert t u a => rw [h a (by simp [Op.operands])]
  case makeInterface t a => rw [h a (by simp [Op.operands])]
  case fieldAddr t a f => rw [h a (by simp [Op.operands])]
  case field t a f => rw [h a (by simp [Op.operands])]
  case typeAssert a t u b => rw [h a (by simp [Op.operands])]
  case extract a i => rw [h a (by simp [Op.operands])]
  case range t a => rw [h a (by simp [Op.operands])]

theorem eval_congr {a a' : A} {x : Operand} (h : ∀ t, x = .tmp t → a.get t = a'.get t) : a.eval x = a'.eval x := by
  cases x with
  | tmp t => exact h t rfl
  | _ => rfl
theorem mem_tmpsOf {l : List Operand} {t : Nat} : t ∈ tmpsOf l ↔ Operand.tmp t ∈ l := by
  induction l with
  | nil => simp [tmpsOf]
  | cons x l ih =>
    cases x with
    | tmp u => simp [tmpsOf, ih]
    | _ => simp [tmpsOf, ih]

/-! ### A drawn region's run, taken apart -/
structure Trail (c : Cx) (n : Nat) (rf : Option Nat) (ops l : List Oper) (a : A) (s : St) (fs : List Foot) (a' : A) (s' : St) (as : Nat → A) (ss : Nat → St) (vs : Nat → Value) : Prop where
  a0 : as 0 = a
  s0 : ss 0 = s
  a1 : as l.length = a'
  s1 : ss l.length = s'
  len : fs.length = l.length
  put : ∀ i o, l[i]? = some o → as (i + 1) = (as i).put o.dst (vs i)
  won : ∀ i o f, l[i]? = some o → fs[i]? = some f →
    (wantedA ops o (as i) = true ∧ ∃ t, opV c.P c.ext (run c.P c.ext n) rf o (as i).eval (fresh (ss i)) = some (vs i, t) ∧ f = ⟨t.rd, t.wr, (ss i).nx, t.nx⟩ ∧ (ss (i + 1)).hp = t.hp ∧ (ss (i + 1)).nx = t.nx) ∨
    (wantedA ops o (as i) = false ∧ vs i = undef ∧ f = ⟨[], [], 0, 0⟩ ∧ (ss (i + 1)).hp = (ss i).hp ∧ (ss (i + 1)).nx = (ss i).nx)

theorem trail (c : Cx) (n : Nat) (rf : Option Nat) (ops : List Oper) : ∀ (l : List Oper) (a : A) (s : St) (fs : List Foot) (a' : A) (s' : St),
    runDrawn c.P c.ext (run c.P c.ext n) rf ops l a s = some ((fs, a'), s') → ∃ as ss vs, Trail c n rf ops l a s fs a' s' as ss vs := by
  intro l
  induction l with
  | nil =>
    intro a s fs a' s' h
    obtain ⟨h1, rfl⟩ := pure_some h
    cases h1
    exact ⟨fun _ => a, fun _ => s', fun _ => undef, rfl, rfl, rfl, rfl, rfl, fun i o h => by simp at h, fun i o f h => by simp at h⟩
  | cons o l ih =>
    intro a s fs a' s' h
    unfold runDrawn at h
    split at h
    · rename_i hw
      obtain ⟨p, s1, h1, h2⟩ := bind_some h
      obtain ⟨z, s2, h3, h4⟩ := bind_some h2
      obtain ⟨h5, rfl⟩ := pure_some h4
      cases h5
      obtain ⟨as, ss, vs, T⟩ := ih _ _ _ _ _ h3
      simp only [listen] at h1
      cases e : opV c.P c.ext (run c.P c.ext n) rf o a.eval { s with lim := s.nx, rd := [], wr := [] } with
      | none => simp [e] at h1
      | some q =>
        obtain ⟨v, t⟩ := q
        simp only [e, Option.some.injEq, Prod.mk.injEq] at h1
        obtain ⟨rfl, rfl⟩ := h1
        refine ⟨fun i => match i with | 0 => a | i + 1 => as i, fun i => match i with | 0 => s | i + 1 => ss i, fun i => match i with | 0 => v | i + 1 => vs i, rfl, rfl, T.a1, T.s1, by simp [T.len], fun i o' ho => ?_, fun i o' f ho hf => ?_⟩
        · cases i with
          | zero => simp at ho; subst ho; exact T.a0
          | succ i => exact T.put i o' (by simpa using ho)
        · cases i with
          | zero =>
            simp at ho hf
            subst ho
            subst hf
            have w1 := addWs_hp t.wr (addRs t.rd { t with lim := s.lim, rd := s.rd, wr := s.wr })
            have w2 := addRs_hp t.rd { t with lim := s.lim, rd := s.rd, wr := s.wr }
            refine .inl ⟨hw, t, e, rfl, ?_, ?_⟩
            · show (ss 0).hp = t.hp
              rw [T.s0, w1.1, w2.1]
            · show (ss 0).nx = t.nx
              rw [T.s0, w1.2.1, w2.2.1]
          | succ i => exact T.won i o' f (by simpa using ho) (by simpa using hf)
    · rename_i hw
      obtain ⟨z, s2, h3, h4⟩ := bind_some h
      obtain ⟨h5, rfl⟩ := pure_some h4
      cases h5
      obtain ⟨as, ss, vs, T⟩ := ih _ _ _ _ _ h3
      refine ⟨fun i => match i with | 0 => a | i + 1 => as i, fun i => match i with | 0 => s | i + 1 => ss i, fun i => match i with | 0 => undef | i + 1 => vs i, rfl, rfl, T.a1, T.s1, by simp [T.len], fun i o' ho => ?_, fun i o' f ho hf => ?_⟩
      · cases i with
        | zero => simp at ho; subst ho; exact T.a0
        | succ i => exact T.put i o' (by simpa using ho)
      · cases i with
        | zero =>
          simp at ho hf
          subst ho
          subst hf
          exact .inr ⟨by simpa using hw, rfl, rfl, by show (ss 0).hp = s.hp; rw [T.s0], by show (ss 0).nx = s.nx; rw [T.s0]⟩
        | succ i => exact T.won i o' f (by simpa using ho) (by simpa using hf)
end Go.AM
