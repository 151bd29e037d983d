import Derived.Test.YtoaaalokldaddaaGreatDoorCe10
set_option linter.unusedSimpArgs false
set_option linter.unusedVariables false
namespace Go.AM
open Go

section
variable {P : Program} {ext : Ext} {dom : FuncId → Bool} {nt : Nat}

/-! ### Plain regions -/
theorem seq_run (a b : OC) (h : H) (n : Nat) (rf : Option Nat) (e : Nat) (x : X) (s : St) (k : KN) : OC.run (OC.seq a b) h n rf e x s k = OC.run a h n rf e x s fun e x s => OC.run b h n rf e x s k := by
  cases a; cases b; rfl
theorem guard_run (g w w' : Nat) (d : Option Nat) (a : OC) (h : H) (n : Nat) (rf : Option Nat) (e : Nat) (x : X) (s : St) (k : KN) :
    OC.run (OC.guard g w w' d a) h n rf e x s k = Bool.rec (motive := fun _ => Ans) (Bool.rec (motive := fun _ => Ans) (Bool.rec (motive := fun _ => Ans) none (k (putN d 0 e) x s) (Nat.beq (slot e g) 0)) (k (putN d 0 e) x s) (Nat.beq (slot e g) w')) (OC.run a h n rf e x s k) (Nat.beq (slot e g) w) := by
  cases a; rfl
theorem guardOf_eq {a : A} {e : Nat} {x : X} (hE : EA nt a e x) (ops : List Oper) (j : Nat) : yieldedA ops a j = (guardOf nt ops j).bind fun g => boolOf (a.get g) := by
  unfold yieldedA guardOf
  cases ops[j]? with
  | none => rfl
  | some o =>
    simp only [Option.bind_some]
    cases o.dst with
    | none => rfl
    | some d =>
      simp only [Option.bind_some]
      rw [hE.n]
      split <;> rfl
/-- a guard's three answers -/
theorem guard3 {a : A} {e : Nat} {x : X} (hE : EA nt a e x) {ops : List Oper} {o : Oper} {j g : Nat} {want : Bool} (ho : o.guard = some (j, want)) (hg : guardOf nt ops j = some g) {u v w : Ans} {r : Value}
    (h : (Bool.rec (motive := fun _ => Ans) (Bool.rec (motive := fun _ => Ans) (Bool.rec (motive := fun _ => Ans) none u (Nat.beq (slot e g) 0)) v (Nat.beq (slot e g) (boolC (!want)))) w (Nat.beq (slot e g) (boolC want))) = some r) :
    (wantedA ops o a = true ∧ w = some r) ∨ (wantedA ops o a = false ∧ (u = some r ∨ v = some r)) := by
  have hw : wantedA ops o a = (boolOf (a.get g) == some want) := by
    unfold wantedA
    rw [ho]
    simp only
    rw [guardOf_eq hE, hg]
    rfl
  rw [hw, hE.get]
  rcases brec_cases h with ⟨h1, h2⟩ | ⟨h1, h2⟩
  · rcases brec_cases h2 with ⟨h3, h4⟩ | ⟨h3, h4⟩
    · obtain ⟨h5, h6⟩ := brec_some h4
      have : slot e g = 0 := Nat.eq_of_beq_eq_true h5
      rw [this, decX_plain plain_undef]
      exact .inr ⟨rfl, .inl h6⟩
    · rw [bool_code h3]
      refine .inr ⟨?_, .inr h4⟩
      cases want <;> rfl
  · rw [bool_code h1]
    refine .inl ⟨?_, h2⟩
    cases want <;> rfl
theorem never_wanted {a : A} {e : Nat} {x : X} (hE : EA nt a e x) {ops : List Oper} {o : Oper} {j : Nat} {want : Bool} (ho : o.guard = some (j, want)) (hg : guardOf nt ops j = none) : wantedA ops o a = false := by
  unfold wantedA
  rw [ho]
  simp only
  rw [guardOf_eq hE, hg]
  rfl
theorem compG_some {h : H} (hH : HS P ext h) {n : Nat} {rf : Option Nat} {ops : List Oper} {o : Oper} {a : A} {e : Nat} {x : X} (hE : EA nt a e x) {s : St} {k : KN} {r : Value} (hr : (compG P ext nt ops o).run h n rf e x s k = some r) :
    (wantedA ops o a = true ∧ ∃ a' e' x' s', stepOp P ext (run P ext n) rf o a s = some (a', s') ∧ EA nt a' e' x' ∧ k e' x' s' = some r) ∨
    (wantedA ops o a = false ∧ ∃ e' x', EA nt (a.put o.dst undef) e' x' ∧ k e' x' s = some r) := by
  unfold compG at hr
  split at hr
  · rename_i hg
    refine .inl ⟨?_, (compO_os o).run hH hE hr⟩
    unfold wantedA
    rw [hg]
  · rename_i j want hg
    split at hr
    · rename_i g hgo
      rw [guard_run] at hr
      rcases guard3 hE hg hgo hr with ⟨h1, h2⟩ | ⟨h1, h2⟩
      · exact .inl ⟨h1, (compO_os o).run hH hE h2⟩
      · refine .inr ⟨h1, _, _, putN_undef hE o.dst, ?_⟩
        rcases h2 with h2 | h2 <;> exact h2
    · rename_i hgo
      exact .inr ⟨never_wanted hE hg hgo, _, _, putN_undef hE o.dst, hr⟩
theorem compOps_some {h : H} (hH : HS P ext h) {n : Nat} {rf : Option Nat} {ops : List Oper} : ∀ {l : List Oper} {a : A} {e : Nat} {x : X} {s : St} {k : KN} {r : Value}, EA nt a e x → (compOps P ext nt ops l).run h n rf e x s k = some r →
    ∃ a' e' x' s', runOps P ext (run P ext n) rf ops l a s = some (a', s') ∧ EA nt a' e' x' ∧ k e' x' s' = some r
  | [], a, e, x, s, k, r, hE, hr => ⟨a, e, x, s, rfl, hE, hr⟩
  | o :: l, a, e, x, s, k, r, hE, hr => by
    have hr' : OC.run (OC.seq (compG P ext nt ops o) (compOps P ext nt ops l)) h n rf e x s k = some r := hr
    rw [seq_run] at hr'
    rcases compG_some hH hE hr' with ⟨h1, a1, e1, x1, s1, h2, h3, h4⟩ | ⟨h1, e1, x1, h3, h4⟩
    · obtain ⟨a', e', x', s', h5, h6, h7⟩ := compOps_some hH h3 h4
      refine ⟨a', e', x', s', ?_, h6, h7⟩
      simp only [runOps, h1, if_true, M.bind, h2, h5]
    · obtain ⟨a', e', x', s', h5, h6, h7⟩ := compOps_some hH h3 h4
      refine ⟨a', e', x', s', ?_, h6, h7⟩
      simp only [runOps, h1, Bool.false_eq_true, if_false, h5]

/-! ### Drawn regions -/
theorem addFs_eq (bs : List Nat) (lim : Nat) : ∀ (l : List Nat) (k : List Nat → Ans), addFs bs lim l k = k (bs.foldr (fun b l => addL b lim l) l) := by
  induction bs with
  | nil => intro l k; rfl
  | cons b bs ih =>
    intro l k
    have h : addFs (b :: bs) lim l k = addFs bs lim l fun l => forceN b fun b => addF b lim l k := rfl
    rw [h, ih, forceN_eq, addF_eq]
    rfl
theorem addRs_eq (l : List Nat) (s : St) : addRs l s = { s with rd := l.foldr (fun b l => addL b s.lim l) s.rd } := by
  induction l with
  | nil => rfl
  | cons b l ih =>
    show addR b (addRs l s) = _
    rw [ih, addR_eq]
    rfl
theorem addWs_eq (l : List Nat) (s : St) : addWs l s = { s with wr := l.foldr (fun b l => addL b s.lim l) s.wr } := by
  induction l with
  | nil => rfl
  | cons b l ih =>
    show addW b (addWs l s) = _
    rw [ih, addW_eq]
    rfl
theorem closeK_eq (s s' : St) (k : St → Foot → Ans) : closeK s s' k = k (addWs s'.wr (addRs s'.rd { s' with lim := s.lim, rd := s.rd, wr := s.wr })) ⟨s'.rd, s'.wr, s.nx, s'.nx⟩ := by
  obtain ⟨hp0, nx0, lim0, rd0, wr0⟩ := s
  obtain ⟨hp, nx, lim, rd, wr⟩ := s'
  simp only [closeK, addFs_eq, addRs_eq, addWs_eq]
theorem openS_eq (s : St) : openS s = { s with lim := s.nx, rd := [], wr := [] } := by cases s; rfl
/-- what a foot shows of an operation's kind -/
structure FtOK (o : Oper) (f : Foot) : Prop where
  p : clsO o = 0 → f.rd = []
  w : clsO o ≤ 1 → f.wr = [] ∧ f.hi ≤ f.lo
theorem valO_same {o : Option Value} {s s' : St} {q : R} (h : valO o s = some (q, s')) : s' = s := by
  cases o with
  | none => cases h
  | some v => cases h; rfl
theorem rdCells_addR {b off n : Nat} {s s' : St} {l : List Value} (h : rdCells b off n s = some (l, s')) : s' = addR b s := by
  obtain ⟨k, s1, h1, h2⟩ := bind_some h
  obtain ⟨_, rfl⟩ := lift_some h2
  unfold rdB at h1
  split at h1
  · cases h1
  · split at h1
    · cases h1
    · cases h1; rfl
theorem loadM_addR {t : TypeId} {v : Value} {s s' : St} {u : Value} (h : loadM P t v s = some (u, s')) : ∃ b, s' = addR b s := by
  obtain ⟨p, s1, h1, h2⟩ := bind_some h
  obtain ⟨_, rfl⟩ := lift_some h1
  obtain ⟨g, s2, h3, h4⟩ := bind_some h2
  obtain ⟨_, rfl⟩ := lift_some h3
  cases g with
  | true =>
    obtain ⟨n, s3, h5, h6⟩ := bind_some (show loadAgg P t p.1 p.2 _ = _ from h4)
    obtain ⟨_, rfl⟩ := lift_some h5
    obtain ⟨l, s4, h7, h8⟩ := bind_some h6
    obtain ⟨_, rfl⟩ := pure_some h8
    exact ⟨_, rdCells_addR h7⟩
  | false =>
    obtain ⟨l, s4, h7, h8⟩ := bind_some (show loadOne p.1 p.2 _ = _ from h4)
    obtain ⟨_, rfl⟩ := lift_some h8
    exact ⟨_, rdCells_addR h7⟩
theorem opM_cls0 {o : Oper} {ev : Operand → Value} {s s' : St} {q : R} (hc : clsO o = 0) (h : opM P ext o ev s = some (q, s')) : s' = s ∧ ∃ v, q = .val v := by
  unfold clsO at hc
  unfold opM at h
  split at hc
  all_goals first
    | (cases hc; done)
    | skip
  all_goals first
    | (rename_i ho; simp only [ho] at h; first | exact ⟨valO_same h, valO_val h⟩ | (obtain ⟨rfl, rfl⟩ := pure_some h; exact ⟨rfl, _, rfl⟩) | (rw [pickM_eq] at h; exact ⟨valO_same h, valO_val h⟩))
    | skip
  · rename_i c ho
    obtain ⟨callee, args, ts⟩ := c
    cases callee with
    | value f => cases hc
    | invoke f m => cases hc
    | builtin b =>
      cases b with
      | len =>
        simp only [ho] at h
        have h' : ((lift (arg0 (args.toList.map ev))).bind fun x => (lift (ts.toList[0]?)).bind fun t0 => valO (lenM P t0 x)) s = some (q, s') := h
        obtain ⟨_, _, h1, h2⟩ := bind_some h'
        obtain ⟨_, rfl⟩ := lift_some h1
        obtain ⟨_, _, h3, h4⟩ := bind_some h2
        obtain ⟨_, rfl⟩ := lift_some h3
        exact ⟨valO_same h4, valO_val h4⟩
      | _ => cases hc
theorem clsO_load {o : Oper} (hc : clsO o = 1) : ∃ t y, o.op = .load t y := by
  unfold clsO at hc
  split at hc
  all_goals first
    | (cases hc; done)
    | skip
  · rename_i t y ho
    exact ⟨t, y, ho⟩
  · rename_i c ho
    obtain ⟨callee, args, ts⟩ := c
    cases callee with
    | value f => cases hc
    | invoke f m => cases hc
    | builtin b => cases b <;> cases hc
theorem ftOK_of {n : Nat} {rf : Option Nat} {o : Oper} {ev : Operand → Value} {s s' : St} {v : Value} (h : opV P ext (run P ext n) rf o ev { s with lim := s.nx, rd := [], wr := [] } = some (v, s')) : FtOK o ⟨s'.rd, s'.wr, s.nx, s'.nx⟩ := by
  obtain ⟨q, s1, h1, h2⟩ := bind_some h
  have case0 : clsO o = 0 → s' = { s with lim := s.nx, rd := [], wr := [] } := by
    intro hc
    obtain ⟨e1, v', rfl⟩ := opM_cls0 hc h1
    obtain ⟨_, rfl⟩ := pure_some h2
    exact e1
  refine ⟨fun hc => by rw [case0 hc], fun hc => ?_⟩
  rcases Nat.lt_or_ge (clsO o) 1 with hlt | hge
  · rw [case0 (by omega)]
    exact ⟨rfl, Nat.le_refl _⟩
  · obtain ⟨t, y, ho⟩ := clsO_load (o := o) (by omega)
    have h1' : valM (loadM P t (ev y)) { s with lim := s.nx, rd := [], wr := [] } = some (q, s1) := by
      unfold opM at h1
      simp only [ho] at h1
      exact h1
    obtain ⟨u, s2, h3, h4⟩ := bind_some h1'
    obtain ⟨rfl, rfl⟩ := pure_some h4
    obtain ⟨_, rfl⟩ := pure_some h2
    obtain ⟨b, rfl⟩ := loadM_addR h3
    exact ⟨by rw [addR_wr], by rw [addR_nx]; exact Nat.le_refl _⟩
/-- the feet of a run fit its operations -/
def Feet : List Oper → List Foot → Prop
  | [], [] => True
  | o :: l, f :: fs => FtOK o f ∧ Feet l fs
  | _, _ => False
theorem ftOK_skip (o : Oper) : FtOK o ⟨[], [], 0, 0⟩ := ⟨fun _ => rfl, fun _ => ⟨rfl, Nat.le_refl _⟩⟩
theorem dcons_run (a : OC) (b : DC) (h : H) (n : Nat) (rf : Option Nat) (e : Nat) (x : X) (s : St) (k : List Foot → Nat → X → St → Ans) :
    DC.run (DC.cons a b) h n rf e x s k = OC.run a h n rf e x (openS s) fun e x s' => closeK s s' fun s1 ft => DC.run b h n rf e x s1 fun fs e x s2 => k (ft :: fs) e x s2 := rfl
theorem compD_some {h : H} (hH : HS P ext h) {n : Nat} {rf : Option Nat} {ops : List Oper} : ∀ {l : List Oper} {a : A} {e : Nat} {x : X} {s : St} {k : List Foot → Nat → X → St → Ans} {r : Value}, EA nt a e x → (∀ o, o ∈ l → isDefer o.op = false) →
    (compD P ext nt ops l).run h n rf e x s k = some r →
    ∃ fs a' e' x' s', runDrawn P ext (run P ext n) rf ops l a s = some ((fs, a'), s') ∧ Feet l fs ∧ EA nt a' e' x' ∧ k fs e' x' s' = some r
  | [], a, e, x, s, k, r, hE, hd, hr => ⟨[], a, e, x, s, rfl, trivial, hE, hr⟩
  | o :: l, a, e, x, s, k, r, hE, hd, hr => by
    have hr' : DC.run (compD1 P ext nt ops o (compD P ext nt ops l)) h n rf e x s k = some r := hr
    have hd1 := hd o (by simp)
    have hd2 : ∀ o, o ∈ l → isDefer o.op = false := fun o ho => hd o (by simp [ho])
    have hrun : wantedA ops o a = true → DC.run (DC.cons (compO P ext nt o) (compD P ext nt ops l)) h n rf e x s k = some r →
        ∃ fs a' e' x' s', runDrawn P ext (run P ext n) rf ops (o :: l) a s = some ((fs, a'), s') ∧ Feet (o :: l) fs ∧ EA nt a' e' x' ∧ k fs e' x' s' = some r := by
      intro hw hr
      rw [dcons_run, openS_eq] at hr
      obtain ⟨a1, e1, x1, s1, h1, h2, h3⟩ := (compO_os o).run hH hE hr
      simp only [stepOp, hd1, bif_] at h1
      obtain ⟨v, s2, h4, h5⟩ := bind_some h1
      obtain ⟨rfl, rfl⟩ := pure_some h5
      rw [closeK_eq] at h3
      obtain ⟨fs, a', e', x', s', g1, g2, g3, g4⟩ := compD_some hH h2 hd2 h3
      refine ⟨_ :: fs, a', e', x', s', ?_, ⟨ftOK_of h4, g2⟩, g3, g4⟩
      simp only [runDrawn, hw, if_true, M.bind, listen, h4, g1, M.pure]
    have hskip : wantedA ops o a = false → DC.run (compD P ext nt ops l) h n rf (putN (effD nt o.dst) 0 e) x s (fun fs e x s => k (⟨[], [], 0, 0⟩ :: fs) e x s) = some r →
        ∃ fs a' e' x' s', runDrawn P ext (run P ext n) rf ops (o :: l) a s = some ((fs, a'), s') ∧ Feet (o :: l) fs ∧ EA nt a' e' x' ∧ k fs e' x' s' = some r := by
      intro hw hr
      obtain ⟨fs, a', e', x', s', g1, g2, g3, g4⟩ := compD_some hH (putN_undef hE o.dst) hd2 hr
      refine ⟨_ :: fs, a', e', x', s', ?_, ⟨ftOK_skip o, g2⟩, g3, g4⟩
      simp only [runDrawn, hw, Bool.false_eq_true, if_false, M.bind, g1, M.pure]
    unfold compD1 at hr'
    split at hr'
    · rename_i hg
      refine hrun ?_ hr'
      unfold wantedA
      rw [hg]
    · rename_i j want hg
      split at hr'
      · rename_i g hgo
        have hr2 : (Bool.rec (motive := fun _ => Ans) (Bool.rec (motive := fun _ => Ans) (Bool.rec (motive := fun _ => Ans) none
            (DC.run (compD P ext nt ops l) h n rf (putN (effD nt o.dst) 0 e) x s fun fs e x s => k (⟨[], [], 0, 0⟩ :: fs) e x s) (Nat.beq (slot e g) 0))
            (DC.run (compD P ext nt ops l) h n rf (putN (effD nt o.dst) 0 e) x s fun fs e x s => k (⟨[], [], 0, 0⟩ :: fs) e x s) (Nat.beq (slot e g) (boolC (!want)))) (DC.run (DC.cons (compO P ext nt o) (compD P ext nt ops l)) h n rf e x s k) (Nat.beq (slot e g) (boolC want))) = some r := hr'
        rcases guard3 hE hg hgo hr2 with ⟨h1, h2⟩ | ⟨h1, h2⟩
        · exact hrun h1 h2
        · rcases h2 with h2 | h2 <;> exact hskip h1 h2
      · rename_i hgo
        exact hskip (never_wanted hE hg hgo) hr'

theorem Feet.length : ∀ {l : List Oper} {fs : List Foot}, Feet l fs → fs.length = l.length
  | [], [], _ => rfl
  | [], _ :: _, h => h.elim
  | _ :: _, [], h => h.elim
  | o :: l, f :: fs, h => by simp [Feet.length h.2]
theorem Feet.get : ∀ {l : List Oper} {fs : List Foot} {i : Nat} {o : Oper} {f : Foot}, Feet l fs → l[i]? = some o → fs[i]? = some f → FtOK o f
  | [], [], i, o, f, h, ho, hf => by simp at ho
  | [], _ :: _, i, o, f, h, ho, hf => h.elim
  | _ :: _, [], i, o, f, h, ho, hf => h.elim
  | _ :: _, _ :: _, 0, o, f, h, ho, hf => by
    simp at ho hf
    subst ho hf
    exact h.1
  | _ :: l, _ :: fs, i + 1, o, f, h, ho, hf => Feet.get h.2 (by simpa using ho) (by simpa using hf)
theorem no_meet1 {x y : Foot} (h : x.wr = [] ∧ x.hi ≤ x.lo) : x.meets y = false := by
  unfold Foot.meets
  rw [List.any_eq_false]
  intro b hb
  rw [h.1]
  have : (Nat.ble x.lo b && Nat.blt b x.hi) = false := by
    cases h1 : Nat.ble x.lo b with
    | false => rfl
    | true =>
      have h1' : x.lo ≤ b := Nat.le_of_ble_eq_true h1
      cases h2 : Nat.blt b x.hi with
      | false => rfl
      | true =>
        have h2' : b + 1 ≤ x.hi := Nat.le_of_ble_eq_true h2
        have := h.2
        omega
  simp [this]
theorem no_meet2 {x y : Foot} (h : y.rd = []) : x.meets y = false := by
  unfold Foot.meets
  rw [h]
  rfl
theorem safe_apart {a b : Oper} {x y : Foot} (h : safeO a b = true) (hx : FtOK a x) (hy : FtOK b y) : (!(x.meets y || y.meets x)) = true := by
  have key : x.meets y = false ∧ y.meets x = false := by
    unfold safeO at h
    simp only [Bool.or_eq_true, Bool.and_eq_true, beq_eq, decide_eq_true_eq] at h
    rcases h with (h | h) | ⟨h1, h2⟩
    · exact ⟨no_meet1 (hx.w (by omega)), no_meet2 (hx.p h)⟩
    · exact ⟨no_meet2 (hy.p h), no_meet1 (hy.w (by omega))⟩
    · exact ⟨no_meet1 (hx.w (by omega)), no_meet1 (hy.w (by omega))⟩
  rw [key.1, key.2]
  rfl
theorem pairsC_all : ∀ {l : List (Nat × Nat)} {fs : List Foot}, (pairsC l).run fs = true → ∀ p, p ∈ l → pairOk fs p.1 p.2 = true
  | [], fs, h, p, hp => by cases hp
  | q :: l, fs, h, p, hp => by
    have h' : (Bool.rec (motive := fun _ => Bool) false ((pairsC l).run fs) (pairOk fs q.1 q.2)) = true := by
      revert h
      show (PC.run (PC.rec (motive := fun _ => PC) (fun f => Prod.rec (motive := fun _ => PC) (fun i j => PC.mk fun fs => Bool.rec (motive := fun _ => Bool) false (f fs) (pairOk fs i j)) q) (pairsC l)) fs = true) → _
      obtain ⟨i, j⟩ := q
      cases pairsC l
      exact id
    cases hq : pairOk fs q.1 q.2 with
    | false => rw [hq] at h'; cases h'
    | true =>
      rw [hq] at h'
      rcases List.mem_cons.1 hp with rfl | hp
      · exact hq
      · exact pairsC_all h' p hp
theorem risky_mem {ops : List Oper} {i j : Nat} {a b : Oper} (hj : j < ops.length) (hi : i < j) (ho : ordered (ordTab ops []) i j = false) (ha : ops[i]? = some a) (hb : ops[j]? = some b) (hs : safeO a b = false) : (i, j) ∈ risky ops := by
  unfold risky
  rw [List.mem_flatMap]
  refine ⟨j, by simpa using hj, ?_⟩
  rw [List.mem_filterMap]
  refine ⟨i, by simpa using hi, ?_⟩
  rw [ho, ha, hb]
  simp [hs]
theorem apart_of {ops : List Oper} {fs : List Foot} (hF : Feet ops fs) (h : (pairsC (risky ops)).run fs = true) : apartOk (ordTab ops []) fs = true := by
  unfold apartOk
  rw [List.all_eq_true]
  intro j hj
  rw [List.all_eq_true]
  intro i hi
  have hj' : j < ops.length := by rw [← hF.length]; simpa using hj
  have hi' : i < j := by simpa using hi
  cases ho : ordered (ordTab ops []) i j with
  | true => rfl
  | false =>
    rw [Bool.false_or]
    have hfi : i < fs.length := by rw [hF.length]; omega
    have hfj : j < fs.length := by rw [hF.length]; omega
    rw [List.getElem?_eq_getElem hfi, List.getElem?_eq_getElem hfj]
    simp only
    have ga : ops[i]? = some (ops[i]'(by omega)) := List.getElem?_eq_getElem _
    have gb : ops[j]? = some (ops[j]'(by omega)) := List.getElem?_eq_getElem _
    cases hs : safeO (ops[i]'(by omega)) (ops[j]'(by omega)) with
    | true => exact safe_apart hs (hF.get ga (List.getElem?_eq_getElem hfi)) (hF.get gb (List.getElem?_eq_getElem hfj))
    | false =>
      have := pairsC_all h _ (risky_mem hj' hi' ho ga gb hs)
      unfold pairOk at this
      rw [nthR_eq, nthR_eq, List.getElem?_eq_getElem hfi, List.getElem?_eq_getElem hfj] at this
      exact this
end
end Go.AM
