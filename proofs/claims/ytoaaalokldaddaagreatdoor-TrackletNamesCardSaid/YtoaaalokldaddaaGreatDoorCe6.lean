import Derived.Test.YtoaaalokldaddaaGreatDoorCe5
set_option linter.unusedSimpArgs false
set_option linter.unusedVariables false
namespace Go.AM
open Go

section
variable {P : Program} {ext : Ext} {dom : FuncId → Bool} {nt : Nat}

/-- an operation that yields a value and needs no call -/
structure VOK (P : Program) (ext : Ext) (nt : Nat) (oc : OC) (o : Oper) : Prop where
  run : ∀ {h : H} {n : Nat} {rf : Option Nat} {e : Nat} {x : X} {s : St} {k : KN} {r : Value} {a : A}, EA nt a e x → oc.run h n rf e x s k = some r →
    ∃ v e' x' s', opM P ext o (evV x e) s = some (.val v, s') ∧ EA nt (a.put o.dst v) e' x' ∧ k e' x' s' = some r

theorem valO_ok {v : Value} {o : Option Value} (h : o = some v) (s : St) : valO o s = some (.val v, s) := by rw [h]; rfl
theorem valM_ok {v : Value} {m : M Value} {s s' : St} (h : m s = some (v, s')) : valM m s = some (.val v, s') := by
  simp only [valM, M.bind, h]; rfl
theorem optOC_ok {o : Oper} {m : (Operand → Value) → Option Value} (hm : ∀ ev s, opM P ext o ev s = valO (m ev) s) : VOK P ext nt (optOC (effD nt o.dst) m) o := by
  refine ⟨fun {h n rf e x s k r a} hE hr => ?_⟩
  obtain ⟨v, h1, h2⟩ := obnd_some hr
  obtain ⟨e', x', h3, h4⟩ := putV_sound hE h2
  exact ⟨v, e', x', s, by rw [hm, valO_ok h1], h3, h4⟩
theorem valOC_ok {o : Oper} {m : (Operand → Value) → M Value} (hm : ∀ ev s, opM P ext o ev s = valM (m ev) s) : VOK P ext nt (valOC (effD nt o.dst) m) o := by
  refine ⟨fun {h n rf e x s k r a} hE hr => ?_⟩
  have hr' : bnd (m (evV x e) s) (fun v s => putV (effD nt o.dst) v e x fun e x => k e x s) = some r := hr
  obtain ⟨v, s', h1, h2⟩ := bnd_some hr'
  obtain ⟨e', x', h3, h4⟩ := putV_sound hE h2
  exact ⟨v, e', x', s', by rw [hm, valM_ok h1], h3, h4⟩
theorem fastOC_run (d : Option Nat) (cf : Nat → Nat) (slow : OC) (h : H) (n : Nat) (rf : Option Nat) (e : Nat) (x : X) (s : St) (k : KN) :
    OC.run (fastOC d cf slow) h n rf e x s k = Bool.rec (motive := fun _ => Ans) (k (putN d (cf e) e) x s) (OC.run slow h n rf e x s k) (Nat.beq (cf e) 13) := by
  cases slow; cases d <;> rfl
theorem fastOC_ok {o : Oper} {cf : Nat → Nat} {slow : OC} (hs : VOK P ext nt slow o)
    (hf : ∀ {e : Nat} {x : X} {a : A}, EA nt a e x → cf e ≠ 13 → ∃ v, (∀ s, opM P ext o (evV x e) s = some (.val v, s)) ∧ v = decX x (cf e) ∧ okc x (cf e) ∧ cf e < 2 ^ 160) : VOK P ext nt (fastOC (effD nt o.dst) cf slow) o := by
  refine ⟨fun {h n rf e x s k r a} hE hr => ?_⟩
  rw [fastOC_run] at hr
  rcases brec_cases hr with ⟨hb, hr⟩ | ⟨hb, hr⟩
  · obtain ⟨v, h1, h2, h3, h4⟩ := hf hE (beq_false hb)
    exact ⟨v, _, _, s, h1 s, putN_sound hE h4 h2 h3, hr⟩
  · exact hs.run hE hr
theorem fastOC_plain {o : Oper} {cf : Nat → Nat} {slow : OC} (hs : VOK P ext nt slow o)
    (hf : ∀ {e : Nat} {x : X} {a : A}, EA nt a e x → cf e ≠ 13 → ∃ v, (∀ s, opM P ext o (evV x e) s = some (.val v, s)) ∧ Plain (cf e) v) : VOK P ext nt (fastOC (effD nt o.dst) cf slow) o :=
  fastOC_ok hs fun hE hc => let ⟨v, h1, h2⟩ := hf hE hc; ⟨v, h1, (decX_plain h2).symm, okc_plain h2, h2.lt⟩
theorem constOC_run (d : Option Nat) (v : Value) (h : H) (n : Nat) (rf : Option Nat) (e : Nat) (x : X) (s : St) (k : KN) :
    OC.run (constOC d v) h n rf e x s k = putV d v e x fun e x => k e x s := by
  cases d with
  | none => rfl
  | some d =>
    simp only [constOC, putV, putD]
    cases Nat.beq (encN v) 13 <;> rfl
theorem moveOC_ok {o : Oper} {y : Operand} (ho : ∀ ev s, opM P ext o ev s = M.pure (.val (ev y)) s) : VOK P ext nt (moveOC (effD nt o.dst) y) o := by
  refine ⟨fun {h n rf e x s k r a} hE hr => ?_⟩
  have hc : ∀ v, evV x e y = v → OC.run (constOC (effD nt o.dst) v) h n rf e x s k = some r → ∃ v e' x' s', opM P ext o (evV x e) s = some (.val v, s') ∧ EA nt (a.put o.dst v) e' x' ∧ k e' x' s' = some r := by
    intro v hv hr
    rw [constOC_run] at hr
    obtain ⟨e', x', h3, h4⟩ := putV_sound hE hr
    exact ⟨v, e', x', s, by rw [ho, hv]; rfl, h3, h4⟩
  cases y with
  | tmp t =>
    have h1 : OC.run (moveOC (effD nt o.dst) (.tmp t)) h n rf e x s k = k (putN (effD nt o.dst) (slot e t) e) x s := by
      cases effD nt o.dst <;> rfl
    rw [h1] at hr
    exact ⟨_, _, _, s, by rw [ho]; rfl, putN_sound hE (slot_lt e t) rfl (hE.ok t), hr⟩
  | const v => exact hc v rfl hr
  | global g => exact hc (ptr g) rfl hr
  | func f => exact hc (.func (.func f) #[] #[]) rfl hr
/-- an operand of either form -/
theorem opd_ok (Q : OC → Prop) {y : Operand} {a b : Nat → OC} (ha : ∀ t, y = .tmp t → Q (a t)) (hb : ∀ c, (∀ e, codeS y e = c) → Q (b c)) : Q (opd y a b) := by
  cases y with
  | tmp t => exact ha t rfl
  | const v => exact hb _ fun _ => rfl
  | global g => exact hb _ fun _ => rfl
  | func f => exact hb _ fun _ => rfl
theorem opd_ok2 (Q : OC → Prop) {y z : Operand} {b : (Nat → Nat) → (Nat → Nat) → OC}
    (h : ∀ fy fz : Nat → Nat, (∀ e, fy e = codeS y e) → (∀ e, fz e = codeS z e) → Q (b fy fz)) :
    Q (opd y (fun i1 => opd z (fun i2 => b (fun e => slot e i1) (fun e => slot e i2)) (fun c2 => b (fun e => slot e i1) (fun _ => c2))) (fun c1 => opd z (fun i2 => b (fun _ => c1) (fun e => slot e i2)) (fun c2 => b (fun _ => c1) (fun _ => c2)))) := by
  refine opd_ok Q (fun t ht => opd_ok Q (fun u hu => h _ _ ?_ ?_) (fun c hc => h _ _ ?_ ?_)) (fun c hc => opd_ok Q (fun u hu => h _ _ ?_ ?_) (fun c2 hc2 => h _ _ ?_ ?_))
  all_goals intro e
  all_goals first | (subst ht; rfl) | (subst hu; rfl) | exact (hc e).symm | exact (hc2 e).symm
theorem opd_ok1 (Q : OC → Prop) {y : Operand} {b : (Nat → Nat) → OC} (h : ∀ fy : Nat → Nat, (∀ e, fy e = codeS y e) → Q (b fy)) : Q (opd y (fun i1 => b (fun e => slot e i1)) (fun c1 => b (fun _ => c1))) := by
  refine opd_ok Q (fun t ht => h _ fun e => by subst ht; rfl) (fun c hc => h _ fun e => (hc e).symm)
theorem binW_ok (Q : OC → Prop) {op : BinOp} {sg : Bool} {τ w M Qq : Nat} {b : (Nat → Nat → Nat) → OC} (h : ∀ bf : Nat → Nat → Nat, (∀ cx cy, bf cx cy = binC op sg τ w M Qq cx cy) → Q (b bf)) : Q (binW op sg τ w M Qq b) := by
  cases op <;> first | exact h _ fun _ _ => rfl | (cases sg <;> exact h _ fun _ _ => rfl)
theorem binC_ok {op : BinOp} {k : IntKind} {cx cy : Nat} (hx : cx < 2 ^ 160) : BinOk op k cx cy (binC op k.signed (tagK k) k.bits (16 * 2 ^ k.bits) (16 * 2 ^ (k.bits - (if k.signed then 1 else 0))) cx cy) := by
  have h13 : BinOk op k cx cy 13 := fun h => (h rfl).elim
  cases hs : k.signed with
  | true =>
    have e : 16 * 2 ^ (k.bits - (if true = true then 1 else 0)) = 16 * 2 ^ (k.bits - 1) := rfl
    cases op with
    | add => exact addS_ok hs
    | sub => exact subS_ok hs
    | mul => exact mulS_ok hs
    | quo => have := quoC_ok (k := k) (cx := cx) (cy := cy); rw [hs] at this; exact this
    | rem => exact remC_ok hx
    | shl => exact shlS_ok hs
    | shr => exact shrC_ok hx
    | eql => exact eqlC_ok
    | neq => exact neqC_ok
    | lss => exact lssC_ok
    | leq => exact leqC_ok
    | gtr => exact gtrC_ok
    | geq => exact geqC_ok
    | _ => exact h13
  | false =>
    cases op with
    | add => exact addU_ok hs
    | sub => exact subU_ok hs
    | mul => exact mulU_ok hs
    | quo => have := quoC_ok (k := k) (cx := cx) (cy := cy); rw [hs] at this; exact this
    | rem => exact remC_ok hx
    | shl => exact shlU_ok hs
    | shr => exact shrC_ok hx
    | eql => exact eqlC_ok
    | neq => exact neqC_ok
    | lss => exact lssC_ok
    | leq => exact leqC_ok
    | gtr => exact gtrC_ok
    | geq => exact geqC_ok
    | _ => exact h13
/-- an operand's value, off its number's tag -/
theorem codeS_int {a : A} {e : Nat} {x : X} (hE : EA nt a e x) {y : Operand} {k : IntKind} (h : codeS y e % 16 = tagK k) : evV x e y = .int k (.ofNat (codeS y e / 16)) ∧ codeS y e < 2 ^ 160 := by
  have ht := tagK_lt k
  rcases codeS_ok hE y with h1 | ⟨h1, h2, h3⟩
  · rw [h1] at h; omega
  · exact ⟨by rw [h3, int_code h], h1⟩
theorem codeS_lt {a : A} {e : Nat} {x : X} (hE : EA nt a e x) (y : Operand) : codeS y e < 2 ^ 160 := by
  rcases codeS_ok hE y with h1 | ⟨h1, h2, h3⟩
  · rw [h1]; decide
  · exact h1
theorem binOC_ok {o : Oper} {op : BinOp} {t ty : TypeId} {y z : Operand} (ho : o.op = .binOp op t y z ty) : VOK P ext nt (binOC P (effD nt o.dst) op t y z) o := by
  have hm : ∀ ev s, opM P ext o ev s = valO (binM P op t y z (ev y) (ev z)) s := fun ev s => by unfold opM; rw [ho]
  have hslow := optOC_ok (nt := nt) hm
  unfold binOC
  split
  · rename_i k hk
    refine binW_ok (fun oc => VOK P ext nt oc o) fun bf hbf => ?_
    refine opd_ok2 (fun oc => VOK P ext nt oc o) (b := fun fy fz => fastOC (effD nt o.dst) (fun e => bf (fy e) (fz e)) (optOC (effD nt o.dst) fun ev => binM P op t y z (ev y) (ev z))) fun fy fz hy hz => ?_
    refine fastOC_plain hslow fun {e x a} hE hc => ?_
    rw [hbf, hy, hz] at hc ⊢
    obtain ⟨k', v, h1, h2, h3, h4⟩ := binC_ok (codeS_lt hE y) hc
    refine ⟨v, fun s => ?_, h4⟩
    rw [hm, (codeS_int hE h1).1, (codeS_int hE h2).1]
    exact valO_ok h3 s
  · exact hslow
theorem pickM_eq (c a b : Value) : pickM c a b = valO (pickV c a b) := by
  cases c with
  | bool q => cases q <;> rfl
  | _ => rfl
theorem bool_code {c : Nat} {x : X} {q : Bool} (h : Nat.beq c (boolC q) = true) : decX x c = .bool q := by
  have : c = boolC q := Nat.eq_of_beq_eq_true h
  rw [this]
  exact decX_plain (plain_bool q)
theorem pickOC_ok {o : Oper} {c u v : Operand} (ho : o.op = .pick c u v) : VOK P ext nt (pickOC (effD nt o.dst) c u v) o := by
  have hm : ∀ ev s, opM P ext o ev s = valO (pickV (ev c) (ev u) (ev v)) s := fun ev s => by unfold opM; rw [ho]; simp only []; rw [pickM_eq]
  have hslow := optOC_ok (nt := nt) hm
  unfold pickOC
  split
  · rename_i c
    refine opd_ok2 (fun oc => VOK P ext nt oc o) (b := fun fy fz => fastOC (effD nt o.dst) (fun e => Bool.rec (motive := fun _ => Nat) (Bool.rec (motive := fun _ => Nat) 13 (fz e) (Nat.beq (slot e c) 9)) (fy e) (Nat.beq (slot e c) 25)) (optOC (effD nt o.dst) fun ev => pickV (ev (.tmp c)) (ev u) (ev v))) fun fy fz hy hz => ?_
    refine fastOC_ok hslow fun {e x a} hE hc => ?_
    simp only [hy, hz] at hc ⊢
    have fin : ∀ w : Operand, codeS w e ≠ 13 → evV x e w = decX x (codeS w e) ∧ okc x (codeS w e) ∧ codeS w e < 2 ^ 160 := fun w hw => by
      rcases codeS_ok hE w with h1 | ⟨h1, h2, h3⟩
      · exact (hw h1).elim
      · exact ⟨h3, h2, h1⟩
    cases h25 : Nat.beq (slot e c) 25 with
    | true =>
      rw [h25] at hc
      obtain ⟨f1, f2, f3⟩ := fin u hc
      refine ⟨_, fun s => ?_, f1, f2, f3⟩
      have hq : evV x e (.tmp c) = .bool true := bool_code (q := true) h25
      rw [hm, hq]
      exact valO_ok rfl s
    | false =>
      rw [h25] at hc
      cases h9 : Nat.beq (slot e c) 9 with
      | true =>
        rw [h9] at hc
        obtain ⟨f1, f2, f3⟩ := fin v hc
        refine ⟨_, fun s => ?_, f1, f2, f3⟩
        have hq : evV x e (.tmp c) = .bool false := bool_code (q := false) h9
        rw [hm, hq]
        exact valO_ok rfl s
      | false => rw [h9] at hc; exact (hc rfl).elim
  · exact hslow
end
end Go.AM
