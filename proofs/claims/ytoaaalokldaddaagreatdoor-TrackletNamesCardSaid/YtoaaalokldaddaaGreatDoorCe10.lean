import Derived.Test.YtoaaalokldaddaaGreatDoorCe9
import Derived.Test.YtoaaalokldaddaaGreatDoorAmW
set_option linter.unusedSimpArgs false
set_option linter.unusedVariables false
namespace Go.AM
open Go

section
variable {P : Program} {ext : Ext} {dom : FuncId → Bool} {nt : Nat}

/-- a call's arguments, and their number and store -/
structure EArgs (args : List Value) (e : Nat) (x : X) : Prop where
  df : x.df = []
  len : x.o.length + 1 = x.cnt
  get : ∀ t, (args[t]?).getD undef = decX x (slot e t)
  ok : ∀ t, okc x (slot e t)
/-- where code leads -/
def CS (m : Option (Out × St)) (nt : Nat) (kn : KN) (ke : KE) (r : Value) : Prop :=
  (∃ a e x s', m = some (.code .normal a, s') ∧ EA nt a e x ∧ kn e x s' = some r) ∨
  (∃ ex a e x s', ex ≠ .normal ∧ m = some (.code ex a, s') ∧ EA nt a e x ∧ ke ex e x s' = some r)
def T2S (P : Program) (ext : Ext) (n : Nat) (s : St) (k : KV) (r : Value) : T2 → Prop
  | .call f len e x => ∀ args : List Value, args.length = len → EArgs args e x → ∃ v c s', run P ext n (.call f args) s = some (.ret v, s') ∧ (c = 13 ∨ Plain c v) ∧ k c v s' = some r
  | .round l args => ∃ v c s', run P ext n (.round l args) s = some (.ret v, s') ∧ (c = 13 ∨ Plain c v) ∧ k c v s' = some r
  | .scope cur body fn nt rf e x kn ke => ∀ a, EA nt a e x → CS (run P ext n (.scope cur body a rf fn) s) nt kn ke r
/-- what runs calls, rounds and scopes is sound -/
def HS (P : Program) (ext : Ext) (h : H) : Prop := ∀ (n : Nat) (t : T2) (s : St) (k : KV) (r : Value), h n t s k = some r → T2S P ext n s k r t

/-- an operation, calls too -/
structure OS (P : Program) (ext : Ext) (nt : Nat) (oc : OC) (o : Oper) : Prop where
  run : ∀ {h : H} {n : Nat} {rf : Option Nat} {e : Nat} {x : X} {s : St} {k : KN} {r : Value} {a : A}, HS P ext h → EA nt a e x → oc.run h n rf e x s k = some r →
    ∃ a' e' x' s', stepOp P ext (run P ext n) rf o a s = some (a', s') ∧ EA nt a' e' x' ∧ k e' x' s' = some r
theorem step_val {n : Nat} {rf : Option Nat} {o : Oper} {a : A} {s s' s2 : St} {q : R} {v : Value} (hd : isDefer o.op = false) (h : opM P ext o a.eval s = some (q, s')) (h2 : valR (run P ext n) rf q s' = some (v, s2)) :
    stepOp P ext (run P ext n) rf o a s = some (a.put o.dst v, s2) := by
  simp only [stepOp, hd, bif_, opV, M.bind, h, h2, M.pure]
theorem VOK.os {oc : OC} {o : Oper} (hv : VOK P ext nt oc o) (hd : isDefer o.op = false) : OS P ext nt oc o := by
  refine ⟨fun {h n rf e x s k r a} hH hE hr => ?_⟩
  obtain ⟨v, e', x', s', h1, h2, h3⟩ := hv.run hE hr
  refine ⟨_, e', x', s', step_val hd (by rw [hE.eval]; exact h1) rfl, h2, h3⟩
theorem SOK.os {oc : OC} {o : Oper} (hv : SOK P ext nt oc o) (hd : isDefer o.op = false) : OS P ext nt oc o := by
  refine ⟨fun {h n rf e x s k r a} hH hE hr => ?_⟩
  obtain ⟨e', x', s', h1, h2, h3⟩ := hv.run hE hr
  refine ⟨_, e', x', s', step_val hd (by rw [hE.eval]; exact h1) rfl, h2, h3⟩
theorem slowOC_os {o : Oper} : OS P ext nt (slowOC P ext (effD nt o.dst) o) o := by
  refine ⟨fun {h n rf e x s k r a} hH hE hr => ?_⟩
  have hr' : bnd (opM P ext o (evV x e) s) (rvC (effD nt o.dst) h n rf e x k) = some r := hr
  obtain ⟨q, s', h1, h2⟩ := bnd_some hr'
  cases hd : isDefer o.op with
  | true =>
    have : ∃ cl, o.op = .defer cl := by
      cases ho : o.op with
      | «defer» cl => exact ⟨cl, rfl⟩
      | _ => rw [ho] at hd; cases hd
    obtain ⟨cl, ho⟩ := this
    obtain ⟨d, rfl⟩ := opM_defer ho h1
    cases h2
  | false =>
    cases q with
    | val v =>
      have h2' : putV (effD nt o.dst) v e x (fun e x => k e x s') = some r := h2
      obtain ⟨e', x', h3, h4⟩ := putV_sound hE h2'
      exact ⟨_, e', x', s', step_val hd (by rw [hE.eval]; exact h1) rfl, h3, h4⟩
    | skip => exact ⟨_, _, _, s', step_val hd (by rw [hE.eval]; exact h1) rfl, putN_undef hE _, h2⟩
    | recover =>
      cases rf with
      | some l => cases h2
      | none =>
        have hp : Plain 46 .nilIface := ⟨by decide, by decide, rfl⟩
        exact ⟨_, _, _, s', step_val (v := .nilIface) hd (by rw [hE.eval]; exact h1) rfl, putN_sound hE hp.lt (decX_plain hp).symm (okc_plain hp), h2⟩
    | enter f args => cases h2
    | yield l args => cases h2
    | «defer» d => cases h2

/-! ### Arguments -/
theorem slot_zero (t : Nat) : slot 0 t = 0 := by rw [slot_eq]; simp
theorem EArgs.nil : EArgs [] 0 x0 := by
  refine ⟨rfl, rfl, fun t => ?_, fun t => ?_⟩
  · rw [slot_zero]; exact (decX_plain plain_undef).symm
  · rw [slot_zero]; exact okc_plain plain_undef
theorem EArgs.snoc {vals : List Value} {e : Nat} {x : X} (h : EArgs vals e x) {i c : Nat} {v : Value} (hi : vals.length = i) (hc : c < 2 ^ 160) (hv : v = decX x c) (ho : okc x c) : EArgs (vals ++ [v]) (putc e i c) x := by
  refine ⟨h.df, h.len, fun t => ?_, fun t => ?_⟩
  · rw [slot_putc hc]
    by_cases ht : t = i
    · rw [if_pos ht, ← hv, ht, ← hi]
      simp
    · rw [if_neg ht, ← h.get t]
      by_cases hl : t < vals.length
      · rw [List.getElem?_append_left hl]
      · rw [List.getElem?_eq_none (by simp; omega), List.getElem?_eq_none (by omega)]
  · rw [slot_putc hc]
    by_cases ht : t = i
    · rw [if_pos ht]; exact ho
    · rw [if_neg ht]; exact h.ok t
theorem EArgs.push {vals : List Value} {e : Nat} {x : X} (h : EArgs vals e x) (v : Value) : EArgs vals e (x.push v) :=
  ⟨h.df, by have := h.len; simp only [X.push, List.length_cons]; omega, fun t => by rw [decX_push h.len (h.ok t)]; exact h.get t, fun t => okc_push (h.ok t)⟩
theorem EArgs.putObj {vals : List Value} {e : Nat} {x : X} (h : EArgs vals e x) {i : Nat} (v : Value) (hi : vals.length = i) (hc : x.cnt ≤ 4294967295) : EArgs (vals ++ [v]) (putc e i (16 * x.cnt + 13)) (x.push v) :=
  (h.push v).snoc hi (by omega) (decX_new h.len).symm (okc_new h.len)
theorem EArgs.putD {vals : List Value} {e : Nat} {x : X} (h : EArgs vals e x) {i : Nat} {v : Value} (hi : vals.length = i) {k : Nat → X → Ans} {r : Value} (hk : putD i v e x k = some r) :
    ∃ e' x', EArgs (vals ++ [v]) e' x' ∧ k e' x' = some r := by
  unfold AM.putD at hk
  rcases brec_cases hk with ⟨hb, hk⟩ | ⟨hb, hk⟩
  · have hp := encN_plain (beq_false hb)
    exact ⟨_, _, h.snoc hi hp.lt (decX_plain hp).symm (okc_plain hp), hk⟩
  · obtain ⟨h1, h2⟩ := putO_some hk
    exact ⟨_, _, h.putObj v hi h1, h2⟩
theorem initE_some : ∀ {l vals : List Value} {i e : Nat} {x : X} {k : Nat → X → Ans} {r : Value}, EArgs vals e x → vals.length = i → initE l i e x k = some r → ∃ e' x', EArgs (vals ++ l) e' x' ∧ k e' x' = some r
  | [], vals, i, e, x, k, r, h, hi, hk => ⟨e, x, by simpa using h, hk⟩
  | v :: l, vals, i, e, x, k, r, h, hi, hk => by
    have hk' : AM.putD i v e x (fun e x => initE l (Nat.succ i) e x k) = some r := hk
    obtain ⟨e1, x1, h1, h2⟩ := h.putD hi hk'
    obtain ⟨e', x', h3, h4⟩ := initE_some h1 (by simp [hi]) h2
    exact ⟨e', x', by simpa using h3, h4⟩
theorem EArgs.start {args : List Value} {e : Nat} {x : X} (h : EArgs args e x) : EA nt (startA nt args) e x := by
  refine ⟨rfl, by rw [h.df]; rfl, h.len, fun t => ?_, h.ok⟩
  rw [← h.get t]
  simp only [A.get, startA, startT_get, Tr.get_e]
  by_cases ht : t < args.length
  · rw [if_pos ⟨Nat.zero_le _, by omega⟩]; simp
  · rw [if_neg (by omega), List.getElem?_eq_none (by omega)]
theorem argC_some {a : A} {e : Nat} {x : X} (hE : EA nt a e x) {i : Nat} {y : Operand} {b : AC} {vals : List Value} {e' : Nat} {x' : X} {k : Nat → X → Ans} {r : Value} (hA : EArgs vals e' x') (hi : vals.length = i) (h : (argC i y b).run e x e' x' k = some r) :
    ∃ e2 x2, EArgs (vals ++ [evV x e y]) e2 x2 ∧ b.run e x e2 x2 k = some r := by
  cases b with
  | mk bf =>
  cases y with
  | tmp t =>
    have h' : argK i (slot e t) x e' x' (fun e' x' => bf e x e' x' k) = some r := h
    unfold argK at h'
    rcases brec_cases h' with ⟨hb, h1⟩ | ⟨hb, h1⟩
    · have hb' := beq_false hb
      rw [land15] at hb'
      refine ⟨_, _, hA.snoc hi (slot_lt e t) ?_ (fun hh => absurd hh hb'), h1⟩
      show decX x (slot e t) = decX x' (slot e t)
      rw [decX_not hb', decX_not hb']
    · have hb' := tag_eq hb
      obtain ⟨h2, h3⟩ := putO_some h1
      refine ⟨_, _, ?_, h3⟩
      have : evV x e (.tmp t) = objV x (slot e t) := decX_obj hb'
      rw [this]
      exact hA.putObj _ hi h2
  | const v => exact hA.putD hi (show AM.putD i v e' x' (fun e' x' => bf e x e' x' k) = some r from h)
  | global g => exact hA.putD hi (show AM.putD i (ptr g) e' x' (fun e' x' => bf e x e' x' k) = some r from h)
  | func f => exact hA.putD hi (show AM.putD i (.func (.func f) #[] #[]) e' x' (fun e' x' => bf e x e' x' k) = some r from h)
theorem argsC_some {a : A} {e : Nat} {x : X} (hE : EA nt a e x) : ∀ {l : List Operand} {i : Nat} {vals : List Value} {e' : Nat} {x' : X} {k : Nat → X → Ans} {r : Value}, EArgs vals e' x' → vals.length = i → (argsC l i).run e x e' x' k = some r →
    ∃ e2 x2, EArgs (vals ++ l.map (evV x e)) e2 x2 ∧ k e2 x2 = some r
  | [], i, vals, e', x', k, r, hA, hi, h => ⟨e', x', by simpa using hA, h⟩
  | y :: l, i, vals, e', x', k, r, hA, hi, h => by
    obtain ⟨e1, x1, h1, h2⟩ := argC_some hE hA hi (show (argC i y (argsC l (Nat.succ i))).run e x e' x' k = some r from h)
    obtain ⟨e2, x2, h3, h4⟩ := argsC_some hE h1 (by simp [hi]) h2
    exact ⟨e2, x2, by simpa using h3, h4⟩

/-! ### Calls -/
theorem bodyOf_some {g : FuncId} {b : Bool} (h : bodyOf P g = some b) : ∃ fn, P.funcs[g]? = some fn ∧ fn.body.isSome = b := by
  unfold bodyOf at h
  rw [funF_eq] at h
  cases hf : P.funcs[g]? with
  | none => rw [hf] at h; cases h
  | some fn => rw [hf] at h; exact ⟨fn, rfl, Option.some.inj h⟩
/-- a call of a function, whatever it is known by -/
def CallOK (P : Program) (ext : Ext) (n : Nat) (rf : Option Nat) (f : Value) (args : List Value) (s : St) (k : KV) (r : Value) : Prop :=
  ∃ q s1 v c s', callV P ext f args s = some (q, s1) ∧ valR (run P ext n) rf q s1 = some (v, s') ∧ (c = 13 ∨ Plain c v) ∧ k c v s' = some r
theorem retV_ok (v : Value) (s : St) : retV (.ret v) s = some (v, s) := rfl
theorem enter_ok {h : H} (hH : HS P ext h) {n : Nat} {rf : Option Nat} {g : FuncId} {first cap : Array Value} {args : List Value} {e : Nat} {x : X} {s : St} {k : KV} {r : Value} (hb : bodyOf P g = some true)
    (hA : EArgs ((first.toList ++ args) ++ cap.toList) e x) {len : Nat} (hl : ((first.toList ++ args) ++ cap.toList).length = len) (hr : h n (.call g len e x) s k = some r) : CallOK P ext n rf (.func (.func g) first cap) args s k r := by
  obtain ⟨fn, hf, hbody⟩ := bodyOf_some hb
  obtain ⟨body, hbo⟩ := Option.isSome_iff_exists.1 hbody
  obtain ⟨v, c, s', h1, h2, h3⟩ := hH _ _ _ _ _ hr _ hl hA
  refine ⟨.enter g ((first.toList ++ args) ++ cap.toList), s, v, c, s', ?_, ?_, h2, h3⟩
  · simp only [callV, M.bind, hf, lift_ok, enterF, hbo, M.pure]
  · simp only [valR, M.bind, h1, retV_ok]
theorem ext_ok {n : Nat} {rf : Option Nat} {g : FuncId} {first cap : Array Value} {args : List Value} {s : St} {k : KV} {r v : Value} {c : Nat} (hb : bodyOf P g = some false) (hv : ext g ((first.toList ++ args) ++ cap.toList) = some v) (hc : c = 13 ∨ Plain c v) (hr : k c v s = some r) :
    CallOK P ext n rf (.func (.func g) first cap) args s k r := by
  obtain ⟨fn, hf, hbody⟩ := bodyOf_some hb
  have hbo : fn.body = none := by cases h : fn.body with | none => rfl | some b => rw [h] at hbody; cases hbody
  refine ⟨.val v, s, v, c, s, ?_, rfl, hc, hr⟩
  simp only [callV, M.bind, hf, lift_ok, enterF, hbo, hv, M.pure]
theorem applyC_ok {h : H} (hH : HS P ext h) {n : Nat} {rf : Option Nat} {f : Value} {args : List Value} {s : St} {k : KV} {r : Value} (hr : applyC P ext f args h n s k = some r) : CallOK P ext n rf f args s k r := by
  unfold applyC at hr
  split at hr
  · rename_i g first cap
    unfold enterC at hr
    rw [forceN_eq] at hr
    obtain ⟨b, h1, h2⟩ := obnd_some hr
    cases b with
    | false =>
      obtain ⟨v, h3, h4⟩ := obnd_some h2
      exact ext_ok h1 h3 (.inl rfl) h4
    | true =>
      obtain ⟨e, x, h3, h4⟩ := initE_some EArgs.nil rfl h2
      exact enter_ok hH h1 (by simpa using h3) rfl h4
  · rename_i l
    obtain ⟨v, c, s', h1, h2, h3⟩ := hH _ _ _ _ _ hr
    refine ⟨.yield l args, s, v, c, s', rfl, ?_, h2, h3⟩
    simp only [valR, M.bind, h1, retV_ok]
  · cases hr
theorem callG_ok {h : H} (hH : HS P ext h) {n : Nat} {rf : Option Nat} {d : Option Nat} {g : FuncId} {args : List Operand} {a : A} {e : Nat} {x : X} (hE : EA nt a e x) {s : St} {k : KN} {r : Value} (hr : (callG P ext (effD nt d) g args).run h n rf e x s k = some r) :
    CallOK P ext n rf (.func (.func g) #[] #[]) (args.map (evV x e)) s (fun c v s => putR (effD nt d) c v e x fun e x => k e x s) r := by
  unfold callG at hr
  split at hr
  · rename_i hb
    have hr' : (argsC args 0).run e x 0 x0 (fun e' x' => h n (.call g args.length e' x') s fun c v s => putR (effD nt d) c v e x fun e x => k e x s) = some r := by
      revert hr
      cases argsC args 0
      exact id
    obtain ⟨e2, x2, h1, h2⟩ := argsC_some hE EArgs.nil rfl hr'
    exact enter_ok hH hb (by simpa using h1) (by simp) h2
  · rename_i hb
    obtain ⟨v, h1, h2⟩ := obnd_some (show obnd (ext g (args.map (evV x e))) (fun v => putV (effD nt d) v e x fun e x => k e x s) = some r from hr)
    refine ext_ok (c := encN v) hb (v := v) (by simpa using h1) ?_ ?_
    · by_cases hn : encN v = 13
      · exact .inl hn
      · exact .inr (encN_plain hn)
    · show putR (effD nt d) (encN v) v e x (fun e x => k e x s) = some r
      revert h2
      cases effD nt d <;> exact id
  · cases hr
/-- a call of a value, as an operation -/
theorem call_os {n : Nat} {rf : Option Nat} {o : Oper} {f : Operand} {args : Array Operand} {ts : Array TypeId} (ho : o.op = .call ⟨.value f, args, ts⟩) {a : A} {e : Nat} {x : X} (hE : EA nt a e x) {s : St} {k : KN} {r : Value}
    (hc : CallOK P ext n rf (evV x e f) (args.toList.map (evV x e)) s (fun c v s => putR (effD nt o.dst) c v e x fun e x => k e x s) r) :
    ∃ a' e' x' s', stepOp P ext (run P ext n) rf o a s = some (a', s') ∧ EA nt a' e' x' ∧ k e' x' s' = some r := by
  obtain ⟨q, s1, v, c, s', h1, h2, h3, h4⟩ := hc
  obtain ⟨e', x', h5, h6⟩ := putR_sound hE h3 h4
  refine ⟨_, e', x', s', step_val (q := q) (s' := s1) (by rw [ho]; rfl) ?_ h2, h5, h6⟩
  rw [hE.eval]
  unfold opM
  rw [ho]
  exact h1
theorem callOC_os {o : Oper} {f : Operand} {args : Array Operand} {ts : Array TypeId} (ho : o.op = .call ⟨.value f, args, ts⟩) : OS P ext nt (callOC P ext (effD nt o.dst) f args.toList) o := by
  refine ⟨fun {h n rf e x s k r a} hH hE hr => ?_⟩
  have hdyn : (dynOC P ext (effD nt o.dst) f args.toList).run h n rf e x s k = some r → ∃ a' e' x' s', stepOp P ext (run P ext n) rf o a s = some (a', s') ∧ EA nt a' e' x' ∧ k e' x' s' = some r :=
    fun hr => call_os ho hE (applyC_ok hH hr)
  unfold callOC at hr
  split at hr
  · exact call_os ho hE (callG_ok hH hE hr)
  · exact call_os ho hE (callG_ok hH hE hr)
  · exact hdyn hr
theorem EA.setdf {a : A} {e : Nat} {x : X} (h : EA nt a e x) (l : List Deferred) : EA nt { a with df := l } e { x with df := l } := by
  have hd : ∀ c, decX { x with df := l } c = decX x c := by
    intro c
    by_cases hc : c % 16 = 13
    · rw [decX_obj hc, decX_obj hc, objV_eq, objV_eq]
    · rw [decX_not hc, decX_not hc]
  exact ⟨h.n, rfl, h.len, fun t => by rw [hd]; exact h.get t, fun t => h.ok t⟩
theorem deferOC_os {o : Oper} {cl : Call} (ho : o.op = .defer cl) : OS P ext nt (deferOC P ext (effD nt o.dst) o) o := by
  refine ⟨fun {h n rf e x s k r a} hH hE hr => ?_⟩
  unfold deferOC at hr
  cases rf with
  | some l =>
    have hr' : bnd (opM P ext o (evV x e) s) (fun q s => match q with
      | .defer dd => none
      | _ => none) = some r := hr
    obtain ⟨q, s', h1, h2⟩ := bnd_some hr'
    obtain ⟨d, rfl⟩ := opM_defer ho h1
    cases h2
  | none =>
    have hr' : bnd (opM P ext o (evV x e) s) (fun q s => match q with
      | .defer dd => k (putN (effD nt o.dst) 0 e) { x with df := dd :: x.df } s
      | _ => none) = some r := hr
    obtain ⟨q, s', h1, h2⟩ := bnd_some hr'
    obtain ⟨d, rfl⟩ := opM_defer ho h1
    refine ⟨A.put { a with df := d :: a.df } o.dst undef, _, _, s', ?_, ?_, h2⟩
    · have hd : isDefer o.op = true := by rw [ho]; rfl
      simp only [stepOp, hd, bif_, M.bind, hE.eval, h1, asDefer, lift_ok, doDefer, M.pure]
    · rw [hE.df]
      exact putN_undef (hE.setdf (d :: x.df)) o.dst
/-- EVERY OPERATION -/
theorem compO_os (o : Oper) : OS P ext nt (compO P ext nt o) o := by
  unfold compO
  split
  · rename_i y ho
    exact (moveOC_ok fun ev s => by unfold opM; rw [ho]).os (by rw [ho]; rfl)
  · rename_i y ho
    exact (moveOC_ok fun ev s => by unfold opM; rw [ho]).os (by rw [ho]; rfl)
  · rename_i c a b ho
    exact (pickOC_ok ho).os (by rw [ho]; rfl)
  · rename_i op t y z ty ho
    exact (binOC_ok ho).os (by rw [ho]; rfl)
  · rename_i op t y ho
    exact (notOC_ok ho).os (by rw [ho]; rfl)
  · rename_i t y ho
    exact (loadOC_ok ho).os (by rw [ho]; rfl)
  · rename_i t y z ho
    exact (storeOC_ok ho).os (by rw [ho]; rfl)
  · rename_i t y f ho
    exact (fieldOC_ok ho).os (by rw [ho]; rfl)
  · rename_i t y i ho
    exact (idxOC_ok ho).os (by rw [ho]; rfl)
  · rename_i t ho
    exact (allocOC_ok ho).os (by rw [ho]; rfl)
  · rename_i t y ho
    exact (boxOC_ok ho).os (by rw [ho]; rfl)
  · rename_i src dst y ho
    exact (cvOC_ok ho).os (by rw [ho]; rfl)
  · rename_i y i ho
    exact (exOC_ok ho).os (by rw [ho]; rfl)
  · rename_i t ps ho
    exact (buildOC_ok ho).os (by rw [ho]; rfl)
  · rename_i t n ps ho
    exact (buildSliceOC_ok ho).os (by rw [ho]; rfl)
  · rename_i t n c ho
    exact (valOC_ok fun ev s => by unfold opM; rw [ho]).os (by rw [ho]; rfl)
  · rename_i t y lo hi mx ho
    exact (sliceOC_ok ho).os (by rw [ho]; rfl)
  · rename_i fn first captured ho
    exact (optOC_ok fun ev s => by unfold opM; rw [ho]).os (by rw [ho]; rfl)
  · rename_i t y i ho
    exact (optOC_ok fun ev s => by unfold opM; rw [ho]).os (by rw [ho]; rfl)
  · rename_i t y f ho
    exact (optOC_ok fun ev s => by unfold opM; rw [ho]).os (by rw [ho]; rfl)
  · rename_i cl ho
    exact deferOC_os ho
  · rename_i c ho
    obtain ⟨callee, args, ts⟩ := c
    cases callee with
    | value f => exact callOC_os ho
    | builtin b =>
      cases b with
      | len => exact (lenOC_ok ho).os (by rw [ho]; rfl)
      | _ => exact slowOC_os
    | invoke f m => exact slowOC_os
  · exact slowOC_os
end
end Go.AM
