import Derived.Test.YtoaaalokldaddaaGreatDoorCe7
set_option linter.unusedSimpArgs false
set_option linter.unusedVariables false
namespace Go.AM
open Go

section
variable {P : Program} {ext : Ext} {dom : FuncId → Bool} {nt : Nat}

theorem pr_program_bind {α : Type} (f : Program → Sem α) : pr P ((program : Sem Program) >>= f) = pr P (f P) := rfl
theorem pr_underlying {α : Type} {t : TypeId} {d : TypeDesc} (h : P.underlying t = some d) (f : TypeDesc → Sem α) : pr P ((underlying t) >>= f) = pr P (f d) := by
  show pr P (Sem.bind (Sem.bind (program : Sem Program) fun p => match p.underlying t with | some d => pure d | none => stuck "no such type") f) = _
  show pr P (Sem.bind (match P.underlying t with | some d => pure d | none => stuck "no such type") f) = _
  rw [h]
  rfl
theorem pr_convert {src dst : TypeId} {k k' k1 : IntKind} {n : Int} (hs : P.underlying src = some (.int k)) (hd : P.underlying dst = some (.int k')) : pr P (convert src dst (.int k1 n)) = some (.int k' (k'.wrap n)) := by
  unfold convert
  rw [pr_underlying hs, pr_underlying hd]
  rfl
theorem convertM_int {src dst : TypeId} {k k' k1 : IntKind} {n : Int} (hs : P.underlying src = some (.int k)) (hd : P.underlying dst = some (.int k')) (s : St) : convertM P src dst (.int k1 n) s = some (.int k' (k'.wrap n), s) := by
  have h1 : convertM P src dst (.int k1 n) = convFlat P src dst (.int k1 n) := rfl
  rw [h1]
  unfold convFlat
  rw [pr_convert hs hd]
  rfl
theorem cvW_ok (Q : OC → Prop) {τ σ M Qq : Nat} {sg : Bool} {b : (Nat → Nat) → OC} (h : ∀ cf : Nat → Nat, (∀ c, cf c = bif sg then cvS τ σ Qq c else cvU τ σ M c) → Q (b cf)) : Q (cvW τ σ M Qq sg b) := by
  cases sg <;> exact h _ fun _ => rfl
theorem cvOC_ok {o : Oper} {src dst : TypeId} {y : Operand} (ho : o.op = .convert src dst y) : VOK P ext nt (cvOC P (effD nt o.dst) src dst y) o := by
  have hm : ∀ ev s, opM P ext o ev s = valM (convertM P src dst (ev y)) s := fun ev s => by unfold opM; rw [ho]
  have hslow := valOC_ok (nt := nt) hm
  unfold cvOC
  rw [undF_eq, undF_eq]
  split
  · rename_i k k' hk hk'
    refine cvW_ok (fun oc => VOK P ext nt oc o) fun cf hcf => ?_
    refine opd_ok1 (fun oc => VOK P ext nt oc o) (b := fun fy => fastOC (effD nt o.dst) (fun e => cf (fy e)) (valOC (effD nt o.dst) fun ev => convertM P src dst (ev y))) fun fy hfy => ?_
    refine fastOC_plain hslow fun {e x a} hE hc => ?_
    rw [hcf, hfy] at hc ⊢
    have ht := tagK_lt k
    have ht' := tagK_lt k'
    have hrun : ∀ {n : Nat}, codeS y e % 16 = tagK k → codeS y e / 16 = n → ∀ s, opM P ext o (evV x e) s = some (.val (.int k' (k'.wrap n)), s) := by
      intro n h1 h2 s
      rw [hm, (codeS_int hE h1).1, h2]
      exact valM_ok (convertM_int hk hk' s)
    cases hs : k'.signed with
    | true =>
      rw [hs] at hc
      obtain ⟨h1, h2, h3⟩ := ifN13 (show cvS (tagK k) (tagK k') (16 * 2 ^ (k'.bits - 1)) (codeS y e) ≠ 13 from hc)
      obtain ⟨h4, h5⟩ := low_ok h3
      have hx := tag_eq h1
      have h5' : cvS (tagK k) (tagK k') (16 * 2 ^ (k'.bits - 1)) (codeS y e) = codeS y e - tagK k + tagK k' := h2.trans h5
      have e6 : codeS y e - tagK k + tagK k' = 16 * (codeS y e / 16) + tagK k' := by omega
      have h4' : codeS y e - tagK k + tagK k' < 16 * 2 ^ (k'.bits - 1) := h4
      have h6 : codeS y e / 16 < 2 ^ (k'.bits - 1) := low_pow (e6 ▸ h4')
      have := pow_bits1_lt k'
      refine ⟨_, hrun hx rfl, ?_⟩
      rw [wrap_s hs h6]
      exact plain_code (h5'.trans e6) (by omega)
    | false =>
      rw [hs] at hc
      obtain ⟨h1, h2, h3⟩ := ifN13 (show cvU (tagK k) (tagK k') (16 * 2 ^ k'.bits) (codeS y e) ≠ 13 from hc)
      have hx := tag_eq h1
      have h5 : cvU (tagK k) (tagK k') (16 * 2 ^ k'.bits) (codeS y e) = 16 * ((codeS y e / 16) % 2 ^ k'.bits) + tagK k' := by
        rw [← mod16 (Nat.two_pow_pos _) (by omega)]
        refine h2.trans ?_
        show (codeS y e - tagK k + tagK k') % (16 * 2 ^ k'.bits) = _
        congr 1
        omega
      have := pow_bits_lt k'
      have := Nat.mod_lt (codeS y e / 16) (Nat.two_pow_pos k'.bits)
      refine ⟨_, hrun hx rfl, ?_⟩
      rw [wrap_u hs]
      exact plain_code h5 (by omega)
  · exact hslow
theorem notOC_ok {o : Oper} {op : UnOp} {t : TypeId} {y : Operand} (ho : o.op = .unOp op t y) : VOK P ext nt (notOC P (effD nt o.dst) op y) o := by
  have hm : ∀ ev s, opM P ext o ev s = valO (unaryV P op (ev y)) s := fun ev s => by unfold opM; rw [ho]
  have hslow := optOC_ok (nt := nt) hm
  unfold notOC
  split
  · refine opd_ok1 (fun oc => VOK P ext nt oc o) (b := fun fy => fastOC (effD nt o.dst) (fun e => (fun c => (Bool.rec (motive := fun _ => Nat) (Bool.rec (motive := fun _ => Nat) 13 25 (Nat.beq c 9)) 9 (Nat.beq c 25))) (fy e)) (optOC (effD nt o.dst) fun ev => unaryV P .not (ev y))) fun fy hfy => ?_
    refine fastOC_plain hslow fun {e x a} hE hc => ?_
    simp only [hfy] at hc ⊢
    have fin : ∀ q : Bool, Nat.beq (codeS y e) (boolC q) = true → evV x e y = .bool q := by
      intro q hq
      rcases codeS_ok hE y with g1 | ⟨g1, g2, g3⟩
      · have := Nat.eq_of_beq_eq_true hq
        rw [g1] at this
        cases q <;> cases this
      · rw [g3]; exact bool_code hq
    cases h25 : Nat.beq (codeS y e) 25 with
    | true =>
      refine ⟨_, fun s => ?_, plain_false⟩
      rw [hm, fin true h25]
      exact valO_ok rfl s
    | false =>
      rw [h25] at hc
      cases h9 : Nat.beq (codeS y e) 9 with
      | true =>
        refine ⟨_, fun s => ?_, plain_true⟩
        rw [hm, fin false h9]
        exact valO_ok rfl s
      | false => rw [h9] at hc; exact (hc rfl).elim
  · exact hslow

/-! loads -/
theorem ldOC_ok {o : Oper} {y : Operand} {rd : Nat → St → (Value → St → Ans) → Ans} {m : Value → M Value} (hm : ∀ ev s, opM P ext o ev s = valM (m (ev y)) s)
    (hrd : ∀ {x : X} {c : Nat} {s : St} {k : Value → St → Ans} {r : Value}, rd c s k = some r → ∃ v s', m (decX x c) s = some (v, s') ∧ k v s' = some r) (h13 : ∀ {s : St} {k : Value → St → Ans}, rd 13 s k = none) : VOK P ext nt (ldOC (effD nt o.dst) y rd) o := by
  unfold ldOC
  refine opd_ok1 (fun oc => VOK P ext nt oc o) (b := fun fy => OC.mk fun h _ rf e x s k => rd (fy e) s fun v s => putV (effD nt o.dst) v e x fun e x => k e x s) fun fy hfy => ?_
  refine ⟨fun {h n rf e x s k r a} hE hr => ?_⟩
  have hr' : rd (fy e) s (fun v s => putV (effD nt o.dst) v e x fun e x => k e x s) = some r := hr
  rw [hfy] at hr'
  rcases codeS_ok hE y with g1 | ⟨g1, g2, g3⟩
  · rw [g1, h13] at hr'; cases hr'
  · obtain ⟨v, s', h1, h2⟩ := hrd (x := x) hr'
    obtain ⟨e', x', h3, h4⟩ := putV_sound hE h2
    exact ⟨v, e', x', s', by rw [hm, g3]; exact valM_ok h1, h3, h4⟩
theorem loadOC_ok {o : Oper} {t : TypeId} {y : Operand} (ho : o.op = .load t y) : VOK P ext nt (loadOC P (effD nt o.dst) t y) o := by
  have hm : ∀ ev s, opM P ext o ev s = valM (loadM P t (ev y)) s := fun ev s => by unfold opM; rw [ho]
  have hslow := valOC_ok (nt := nt) (m := fun ev => loadM P t (ev y)) hm
  have hagg : ∀ n, aggT P t = some true → sizeT P t = some n → VOK P ext nt (ldOC (effD nt o.dst) y (lgA n)) o := fun n h1 h2 =>
    ldOC_ok (m := fun v => loadM P t v) hm (fun h => lgA_some h1 h2 h) rfl
  unfold loadOC
  rw [undF_eq]
  split
  · rename_i fs hfs
    rw [sizF_eq]
    split
    · rename_i n hn
      exact hagg n (by simp [aggT, hfs]) hn
    · exact hslow
  · rename_i n el hfs
    rw [sizF_eq]
    split
    · rename_i n hn
      exact hagg n (by simp [aggT, hfs]) hn
    · exact hslow
  · rename_i d h1 h2 hd
    exact ldOC_ok (m := fun v => loadM P t v) hm (fun h => ldA_some (by
      unfold aggT
      rw [hd]
      cases d with
      | struct fs => exact (h1 fs rfl).elim
      | array n el => exact (h2 n el rfl).elim
      | _ => rfl) h) rfl
  · exact hslow

/-! stores: no value -/
/-- an operation that yields nothing -/
structure SOK (P : Program) (ext : Ext) (nt : Nat) (oc : OC) (o : Oper) : Prop where
  run : ∀ {h : H} {n : Nat} {rf : Option Nat} {e : Nat} {x : X} {s : St} {k : KN} {r : Value} {a : A}, EA nt a e x → oc.run h n rf e x s k = some r →
    ∃ e' x' s', opM P ext o (evV x e) s = some (.skip, s') ∧ EA nt (a.put o.dst undef) e' x' ∧ k e' x' s' = some r
theorem decX13 {a : A} {e : Nat} {x : X} (hE : EA nt a e x) : decX x 13 = undef := by
  rw [decX_obj rfl, objV_eq]
  have h1 : x.cnt - (13 / 16 + 1) = x.o.length := by have := hE.len; omega
  rw [h1]
  simp
theorem one_nilV (p : Nat) : one (nilV p) = true := by
  unfold nilV
  split <;> rfl
theorem one_decP {c : Nat} (h : c % 16 ≠ 0) : one (decP c) = true := by
  rw [decP_eq c _ rfl]
  simp only [decT_eq]
  repeat' split
  all_goals first | rfl | exact one_nilV _ | omega
theorem cells_one {v : Value} (h : one v = true) : cellsOf v = [v] ∧ allOne [v] = true := by
  refine ⟨?_, by simp [allOne, h]⟩
  cases v <;> first | rfl | cases h
theorem oneC_plain {x : X} {c : Nat} (h : oneC c = true) : decX x c = decP c ∧ cellsOf (decP c) = [decP c] ∧ allOne [decP c] = true := by
  unfold oneC at h
  cases h13 : Nat.beq (Nat.land c 15) 13 with
  | true => rw [h13] at h; cases h
  | false =>
    rw [h13] at h
    have h1 : 1 ≤ Nat.land c 15 := Nat.le_of_ble_eq_true h
    rw [land15] at h1
    have h2 : c % 16 ≠ 13 := by have := beq_false h13; rwa [land15] at this
    have h3 := one_decP (c := c) (by omega)
    exact ⟨decX_not h2, (cells_one h3).1, (cells_one h3).2⟩
theorem oneC13 : oneC 13 = false := rfl
theorem storeOC_ok {o : Oper} {t : TypeId} {y z : Operand} (ho : o.op = .store t y z) : SOK P ext nt (storeOC P (effD nt o.dst) t y z) o := by
  have hm : ∀ ev s, opM P ext o ev s = storeR P t (ev y) (ev z) s := fun ev s => by unfold opM; rw [ho]
  have hrun : ∀ {e : Nat} {x : X} {s s' : St}, storeM P t (evV x e y) (evV x e z) s = some ((), s') → opM P ext o (evV x e) s = some (.skip, s') := by
    intro e x s s' h
    rw [hm]
    simp only [storeR, M.bind, h]
    rfl
  have hno : ∀ {c : Nat} {l : List Value} {s : St} {k : St → Ans} {r : Value}, c = 13 → stA c l s k = some r → False := by
    intro c l s k r hc h
    subst hc
    cases h
  unfold storeOC
  rw [sizF_eq]
  split
  · rename_i n hn
    cases hn1 : Nat.beq n 1 with
    | false =>
      simp only []
      refine opd_ok2 (fun oc => SOK P ext nt oc o) (b := fun fy fz => OC.mk fun h _ rf e x s k => aggK (decX x (fz e)) fun l => ifA (lenF l n) (stA (fy e) l s fun s => k (putN (effD nt o.dst) 0 e) x s) none) fun fy fz hfy hfz => ?_
      refine ⟨fun {h n' rf e x s k r a} hE hr => ?_⟩
      have hr' : aggK (decX x (fz e)) (fun l => ifA (lenF l n) (stA (fy e) l s fun s => k (putN (effD nt o.dst) 0 e) x s) none) = some r := hr
      rw [hfy, hfz] at hr'
      obtain ⟨h1, h2⟩ := aggK_some hr'
      obtain ⟨h3, h4⟩ := ifA_some h2
      rw [lenF_eq] at h3
      have h3' : (cellsOf (decX x (codeS z e))).length = n := by simpa using h3
      rcases codeS_ok hE z with g1 | ⟨g1, g2, g3⟩
      · rw [g1, decX13 hE] at h1; cases h1
      · rcases codeS_ok hE y with f1 | ⟨f1, f2, f3⟩
        · exact (hno f1 h4).elim
        · obtain ⟨s', h5, h6⟩ := stA_some (x := x) hn h3' h1 h4
          rw [← g3, ← f3] at h5
          exact ⟨_, _, s', hrun h5, putN_undef hE _, h6⟩
    | true =>
      have hn1' : n = 1 := Nat.eq_of_beq_eq_true hn1
      subst hn1'
      simp only []
      refine opd_ok2 (fun oc => SOK P ext nt oc o) (b := fun fy fz => OC.mk fun h _ rf e x s k => Bool.rec (motive := fun _ => Ans) (bnd (storeM P t (evV x e y) (evV x e z) s) fun _ s => k (putN (effD nt o.dst) 0 e) x s) (stA (fy e) [decP (fz e)] s fun s => k (putN (effD nt o.dst) 0 e) x s) (oneC (fz e))) fun fy fz hfy hfz => ?_
      refine ⟨fun {h n' rf e x s k r a} hE hr => ?_⟩
      have hr' : (Bool.rec (motive := fun _ => Ans) (bnd (storeM P t (evV x e y) (evV x e z) s) fun _ s => k (putN (effD nt o.dst) 0 e) x s) (stA (fy e) [decP (fz e)] s fun s => k (putN (effD nt o.dst) 0 e) x s) (oneC (fz e))) = some r := hr
      rw [hfy, hfz] at hr'
      rcases brec_cases hr' with ⟨hb, h1⟩ | ⟨hb, h1⟩
      · obtain ⟨u, s', h2, h3⟩ := bnd_some h1
        exact ⟨_, _, s', hrun h2, putN_undef hE _, h3⟩
      · obtain ⟨p1, p2, p3⟩ := oneC_plain (x := x) hb
        rcases codeS_ok hE z with g1 | ⟨g1, g2, g3⟩
        · rw [g1, oneC13] at hb; cases hb
        · rcases codeS_ok hE y with f1 | ⟨f1, f2, f3⟩
          · exact (hno f1 h1).elim
          · rw [← p2] at h1
            obtain ⟨s', h5, h6⟩ := stA_some (x := x) (v := decP (codeS z e)) hn (by rw [p2]; rfl) (by rw [p2]; exact p3) h1
            rw [← p1, ← g3, ← f3] at h5
            exact ⟨_, _, s', hrun h5, putN_undef hE _, h6⟩
  · exact ⟨fun {h n' rf e x s k r a} hE hr => by cases hr⟩
theorem allocM_new {t : TypeId} {v : Value} {s s' : St} {b : Nat} (ho : allOne (cellsOf v) = true) (h : newB (.cells t (esT P t) true (cellsOf v)) s = some (b, s')) : allocM P t v s = some (ptr b, s') := by
  simp only [allocM, M.bind, guardM, ho, h]
  rfl
theorem boxOC_ok {o : Oper} {t : TypeId} {y : Operand} (ho : o.op = .box t y) : VOK P ext nt (boxOC P (effD nt o.dst) t y) o := by
  have hm : ∀ ev s, opM P ext o ev s = valM (allocM P t (ev y)) s := fun ev s => by unfold opM; rw [ho]
  unfold boxOC
  refine opd_ok1 (fun oc => VOK P ext nt oc o) (b := fun fy => OC.mk fun h _ rf e x s k => Bool.rec (motive := fun _ => Ans) (aggK (decX x (fy e)) fun l => newC (effD nt o.dst) t (esT P t) l e x s k) (newC (effD nt o.dst) t (esT P t) [decP (fy e)] e x s k) (oneC (fy e))) fun fy hfy => ?_
  refine ⟨fun {h n' rf e x s k r a} hE hr => ?_⟩
  have hr' : (Bool.rec (motive := fun _ => Ans) (aggK (decX x (fy e)) fun l => newC (effD nt o.dst) t (esT P t) l e x s k) (newC (effD nt o.dst) t (esT P t) [decP (fy e)] e x s k) (oneC (fy e))) = some r := hr
  rw [hfy] at hr'
  rcases codeS_ok hE y with g1 | ⟨g1, g2, g3⟩
  · rw [g1, oneC13] at hr'
    have hr2 : aggK (decX x 13) (fun l => newC (effD nt o.dst) t (esT P t) l e x s k) = some r := hr'
    have := (aggK_some hr2).1
    rw [decX13 hE] at this
    cases this
  · rcases brec_cases hr' with ⟨hb, h1⟩ | ⟨hb, h1⟩
    · obtain ⟨h2, h3⟩ := aggK_some h1
      obtain ⟨b, s', e', x', h4, h5, h6⟩ := newC_some hE h3
      refine ⟨ptr b, e', x', s', ?_, h5, h6⟩
      rw [hm, g3]
      exact valM_ok (allocM_new h2 h4)
    · obtain ⟨p1, p2, p3⟩ := oneC_plain (x := x) hb
      rw [← p2] at h1
      obtain ⟨b, s', e', x', h4, h5, h6⟩ := newC_some hE h1
      refine ⟨ptr b, e', x', s', ?_, h5, h6⟩
      rw [hm, g3, p1]
      exact valM_ok (allocM_new (by rw [p2]; exact p3) h4)
theorem allocOC_ok {o : Oper} {t : TypeId} (ho : o.op = .alloc t) : VOK P ext nt (allocOC P (effD nt o.dst) t) o := by
  have hm : ∀ ev s, opM P ext o ev s = valM (allocZ P t) s := fun ev s => by unfold opM; rw [ho]
  unfold allocOC
  split
  · rename_i z hz
    cases hb : allOne (cellsOf z) with
    | false => exact ⟨fun {h n' rf e x s k r a} hE hr => by cases hr⟩
    | true =>
      refine ⟨fun {h n' rf e x s k r a} hE hr => ?_⟩
      obtain ⟨b, s', e', x', h4, h5, h6⟩ := newC_some hE (show newC (effD nt o.dst) t (esT P t) (cellsOf z) e x s k = some r from hr)
      refine ⟨ptr b, e', x', s', ?_, h5, h6⟩
      rw [hm]
      refine valM_ok ?_
      simp only [allocZ, M.bind, hz, lift_ok]
      exact allocM_new hb h4
  · exact ⟨fun {h n' rf e x s k r a} hE hr => by cases hr⟩
theorem exK_some {v : Value} {i : Nat} {k : Value → Ans} {r : Value} (h : exK v i k = some r) : ∃ u, extractV v i = some u ∧ k u = some r := by
  unfold exK at h
  split at h
  · rename_i vs
    rw [nthR_eq] at h
    obtain ⟨u, h1, h2⟩ := obnd_some h
    exact ⟨u, h1, h2⟩
  · cases h
theorem exOC_ok {o : Oper} {y : Operand} {i : Nat} (ho : o.op = .extract y i) : VOK P ext nt (exOC (effD nt o.dst) y i) o := by
  have hm : ∀ ev s, opM P ext o ev s = valO (extractV (ev y) i) s := fun ev s => by unfold opM; rw [ho]
  unfold exOC
  refine opd_ok1 (fun oc => VOK P ext nt oc o) (b := fun fy => OC.mk fun h _ rf e x s k => exK (decX x (fy e)) i fun v => putV (effD nt o.dst) v e x fun e x => k e x s) fun fy hfy => ?_
  refine ⟨fun {h n' rf e x s k r a} hE hr => ?_⟩
  have hr' : exK (decX x (fy e)) i (fun v => putV (effD nt o.dst) v e x fun e x => k e x s) = some r := hr
  rw [hfy] at hr'
  obtain ⟨u, h1, h2⟩ := exK_some hr'
  obtain ⟨e', x', h3, h4⟩ := putV_sound hE h2
  rcases codeS_ok hE y with g1 | ⟨g1, g2, g3⟩
  · rw [g1, decX13 hE] at h1
    simp [undef, extractV] at h1
  · exact ⟨u, e', x', s, by rw [hm, g3]; exact valO_ok h1 s, h3, h4⟩
end
end Go.AM
