import Derived.Test.YtoaaalokldaddaaGreatDoorCe11
set_option linter.unusedSimpArgs false
set_option linter.unusedVariables false
namespace Go.AM
open Go

section
variable {P : Program} {ext : Ext} {dom : FuncId → Bool} {nt : Nat}

theorem CS.seq {m : M Out} {f : A → M Out} {s : St} {kn1 kn : KN} {ke : KE} {r : Value} (h : CS (m s) nt kn1 ke r) (hk : ∀ {a e x s'}, EA nt a e x → kn1 e x s' = some r → CS (f a s') nt kn ke r) : CS ((m.bind (onNormal f)) s) nt kn ke r := by
  rcases h with ⟨a, e, x, s', h1, h2, h3⟩ | ⟨ex, a, e, x, s', h0, h1, h2, h3⟩
  · have := hk h2 h3
    simp only [M.bind, h1, onNormal]
    exact this
  · refine .inr ⟨ex, a, e, x, s', h0, ?_, h2, h3⟩
    simp only [M.bind, h1]
    cases ex with
    | normal => exact (h0 rfl).elim
    | _ => rfl
theorem CS.block {m : M Out} {s : St} {kn : KN} {ke : KE} {r : Value} {id : Nat} (h : CS (m s) nt kn (blockE id kn ke) r) : CS ((m.bind (onBlock id)) s) nt kn ke r := by
  rcases h with ⟨a, e, x, s', h1, h2, h3⟩ | ⟨ex, a, e, x, s', h0, h1, h2, h3⟩
  · refine .inl ⟨a, e, x, s', ?_, h2, h3⟩
    simp only [M.bind, h1]
    rfl
  · cases ex with
    | normal => exact (h0 rfl).elim
    | exit i =>
      have h3' : (Bool.rec (motive := fun _ => Ans) (ke (.exit i) e x s') (kn e x s') (Nat.beq i id)) = some r := h3
      rcases brec_cases h3' with ⟨hb, h4⟩ | ⟨hb, h4⟩
      · refine .inr ⟨.exit i, a, e, x, s', by simp, ?_, h2, h4⟩
        simp only [M.bind, h1, onBlock]
        rw [if_neg (beq_false hb)]
        rfl
      · refine .inl ⟨a, e, x, s', ?_, h2, h4⟩
        simp only [M.bind, h1, onBlock]
        rw [if_pos (Nat.eq_of_beq_eq_true hb)]
        rfl
    | goto l =>
      refine .inr ⟨.goto l, a, e, x, s', by simp, ?_, h2, h3⟩
      simp only [M.bind, h1]
      rfl
    | ret =>
      refine .inr ⟨.ret, a, e, x, s', by simp, ?_, h2, h3⟩
      simp only [M.bind, h1]
      rfl

/-- what is shown of a compiled text -/
def CodeS (P : Program) (ext : Ext) (h : H) (fn nt : Nat) (cc : CC) (c : Code) : Prop :=
  ∀ {n : Nat} {rf : Option Nat} {e : Nat} {x : X} {s : St} {kn : KN} {ke : KE} {r : Value} {a : A}, EA nt a e x → cc.run h n rf e x s kn ke = some r → CS (run P ext n (.code c a rf fn) s) nt kn ke r
theorem run_succ (n : Nat) (t : Task) : run P ext (n + 1) t = step P ext (run P ext n) t := rfl
theorem normal_cs {m : Option (Out × St)} {a : A} {e : Nat} {x : X} {s : St} {kn : KN} {ke : KE} {r : Value} (hm : m = some (.code .normal a, s)) (hE : EA nt a e x) (hk : kn e x s = some r) : CS m nt kn ke r := .inl ⟨a, e, x, s, hm, hE, hk⟩
theorem exit_cs {m : Option (Out × St)} {ex : Ex} {a : A} {e : Nat} {x : X} {s : St} {kn : KN} {ke : KE} {r : Value} (h0 : ex ≠ .normal) (hm : m = some (.code ex a, s)) (hE : EA nt a e x) (hk : ke ex e x s = some r) : CS m nt kn ke r := .inr ⟨ex, a, e, x, s, h0, hm, hE, hk⟩
theorem nrec_some {n : Nat} {f : Nat → Ans} {r : Value} (h : (Nat.rec (motive := fun _ => Ans) none (fun n _ => f n) n) = some r) : ∃ m, n = m + 1 ∧ f m = some r := by
  cases n with
  | zero => cases h
  | succ m => exact ⟨m, rfl, h⟩
theorem fuelC_run (f : CF) (h : H) (n : Nat) (rf : Option Nat) (e : Nat) (x : X) (s : St) (kn : KN) (ke : KE) {r : Value} (hr : CC.run (fuelC f) h n rf e x s kn ke = some r) : ∃ m, n = m + 1 ∧ f h m rf e x s kn ke = some r := nrec_some hr
theorem opsC_run {a : OC} {h : H} {n : Nat} {rf : Option Nat} {e : Nat} {x : X} {s : St} {kn : KN} {ke : KE} {r : Value} (hr : CC.run (opsC a) h n rf e x s kn ke = some r) : ∃ m, n = m + 1 ∧ OC.run a h m rf e x s kn = some r := by
  cases a
  exact nrec_some hr
theorem seqC_run {a b : CC} {h : H} {n : Nat} {rf : Option Nat} {e : Nat} {x : X} {s : St} {kn : KN} {ke : KE} {r : Value} (hr : CC.run (seqC a b) h n rf e x s kn ke = some r) : ∃ m, n = m + 1 ∧ CC.run a h m rf e x s (fun e x s => CC.run b h m rf e x s kn ke) ke = some r := by
  cases a; cases b
  exact nrec_some hr
theorem loopR_cs {h : H} {fn : Nat} {cc : CC} {c : Code} (hc : CodeS P ext h fn nt cc c) : ∀ {n : Nat} {rf : Option Nat} {e : Nat} {x : X} {s : St} {kn : KN} {ke : KE} {r : Value} {a : A}, EA nt a e x → loopR cc h n rf e x s kn ke = some r → CS (run P ext n (.code (.loop c) a rf fn) s) nt kn ke r
  | 0, rf, e, x, s, kn, ke, r, a, hE, hr => by cases hr
  | n + 1, rf, e, x, s, kn, ke, r, a, hE, hr => by
    have hr' : cc.run h n rf e x s (fun e x s => loopR cc h n rf e x s kn ke) ke = some r := hr
    exact (hc hE hr').seq fun hE2 hk => loopR_cs hc hE2 hk
theorem condC_run {c : Operand} {A' B' : CC} {h : H} {n : Nat} {rf : Option Nat} {e : Nat} {x : X} {s : St} {kn : KN} {ke : KE} {r : Value} (hr : CC.run (condC c A' B') h n rf e x s kn ke = some r) :
    ∃ m, n = m + 1 ∧ ((Nat.beq (codeS c e) 25 = true ∧ CC.run A' h m rf e x s kn ke = some r) ∨ (Nat.beq (codeS c e) 9 = true ∧ CC.run B' h m rf e x s kn ke = some r)) := by
  have key : ∀ {c : Nat} {u v : Ans}, (Bool.rec (motive := fun _ => Ans) (Bool.rec (motive := fun _ => Ans) none v (Nat.beq c 9)) u (Nat.beq c 25)) = some r → (Nat.beq c 25 = true ∧ u = some r) ∨ (Nat.beq c 9 = true ∧ v = some r) := by
    intro c u v h
    rcases brec_cases h with ⟨h1, h2⟩ | ⟨h1, h2⟩
    · exact .inr (brec_some h2)
    · exact .inl ⟨h1, h2⟩
  cases A' with
  | mk fa =>
  cases B' with
  | mk fb =>
  cases c with
  | tmp t =>
    obtain ⟨m, rfl, h1⟩ := nrec_some hr
    exact ⟨m, rfl, key h1⟩
  | const v =>
    obtain ⟨m, rfl, h1⟩ := nrec_some hr
    exact ⟨m, rfl, key h1⟩
  | global g => cases hr
  | func f => cases hr
theorem loopK_some {b : Blk} {k : LoopState → Option Code → FuncId → Array Value → Array Tmp → Code → Code → Nat → Ans} {r : Value} (h : loopK b k = some r) : ∃ z : Loop, b = .loop z ∧ k z.state z.pending z.fn z.tmps z.params z.assign z.body z.defers = some r := by
  cases b with
  | loop z => exact ⟨z, rfl, h⟩
  | _ => cases h
theorem rdLoop_ok {l : Nat} {s s' : St} {z : Loop} (h : rdB l s = some (.loop z, s')) : rdLoop l s = some (z, s') := by
  simp only [rdLoop, M.bind, h, loopIn, lift_ok]
theorem ifA_none {b : Bool} {x : Ans} {r : Value} (h : ifA b none x = some r) : b = false ∧ x = some r := by
  cases b with
  | true => cases h
  | false => exact ⟨rfl, h⟩
theorem jumpC_cs {n : Nat} {c : Code} {a : A} {e : Nat} {x : X} (hE : EA nt a e x) {rf : Option Nat} {fn : FuncId} {s : St} {kn : KN} {ke : KE} {r : Value} (h : jumpC n c e x s ke = some r) : CS (run P ext n (.code c a rf fn) s) nt kn ke r := by
  obtain ⟨m, rfl, h1⟩ := nrec_some h
  cases c with
  | ret => exact exit_cs (by simp) rfl hE h1
  | exit i => exact exit_cs (by simp) rfl hE h1
  | goto l => exact exit_cs (by simp) rfl hE h1
  | _ => cases h1
theorem rangeEnd_cs {l n : Nat} {a : A} {e : Nat} {x : X} (hE : EA nt a e x) {rf : Option Nat} {fn : FuncId} {s : St} {kn : KN} {ke : KE} {r v : Value} (h : rangeEndC l n e x s kn ke = some r) : CS (rangeEnd (run P ext n) l a rf fn (.ret v) s) nt kn ke r := by
  unfold rangeEndC at h
  obtain ⟨b, h1, h2, h3⟩ := rdK_some h
  obtain ⟨z, rfl, h4⟩ := loopK_some h3
  obtain ⟨h5, h6⟩ := ifA_none h4
  obtain ⟨s', h7, h8⟩ := wrK_some h6 h2
  have hrun : ∀ {m : M Out}, rangeJump (run P ext n) a rf fn z.pending = m → rangeEnd (run P ext n) l a rf fn (.ret v) s = m s' := by
    intro m hm
    simp only [rangeEnd, M.bind, rdLoop_ok h1, h5, guardM, Bool.not_false, h7, hm]
  rw [hrun rfl]
  cases hp : z.pending with
  | none =>
    rw [hp] at h8
    exact normal_cs rfl hE h8
  | some c =>
    rw [hp] at h8
    exact jumpC_cs hE h8
theorem tmpsGo_eq (x : X) (e : Nat) : ∀ (n : Nat) (l : List Value), tmpsGo x e n l = (List.range n).map (fun t => decX x (slot e t)) ++ l
  | 0, l => rfl
  | n + 1, l => by
    have h : tmpsGo x e (n + 1) l = tmpsGo x e n (decX x (slot e n) :: l) := rfl
    rw [h, tmpsGo_eq x e n, List.range_succ]
    simp
theorem tmpsOfE_eq {a : A} {e : Nat} {x : X} (hE : EA nt a e x) : (List.range a.n).map a.get = tmpsOfE nt x e := by
  unfold tmpsOfE
  rw [tmpsGo_eq, List.append_nil, hE.n]
  congr 1
  funext t
  exact hE.get t
theorem rangeGo_cs {h : H} (hH : HS P ext h) {f : Operand} {params : Array Tmp} {assign body : Code} {fn n : Nat} {a a2 : A} {e : Nat} {x x2 : X} (hE : EA nt a e x) (hE2 : EA nt a2 e x2) {rf : Option Nat} {r' : Nat} {s : St} {kn : KN} {ke : KE} {r : Value}
    (hr : rangeGo P f params assign body fn nt h n e x x2 r' s kn ke = some r) :
    CS (((newB (.loop { state := .ready, pending := none, fn, tmps := ⟨(List.range a.n).map a.get⟩, params, assign, body, defers := r' })).bind fun l =>
      (callV P ext (a.eval f) [.func (.yield l) #[] #[]]).bind (rangeCall (run P ext n) l a2 rf fn)) s) nt kn ke r := by
  unfold rangeGo at hr
  obtain ⟨s1, h1, h2⟩ := newK_some hr
  rw [tmpsOfE_eq hE, hE.eval]
  have hfin : ∀ {g : FuncId} {first cap : Array Value}, evV x e f = .func (.func g) first cap → (forceN g fun g => obnd (bodyOf P g) fun b => Bool.rec (motive := fun _ => Ans) none
      (initE (rangeArgs first cap s.nx) 0 0 x0 fun e' x' => h n (.call g (rangeArgs first cap s.nx).length e' x') s1 fun _ _ s => rangeEndC s.nx n e x2 s kn ke) b) = some r → True := fun _ _ => trivial
  simp only [M.bind, h1]
  split at h2
  · rename_i g first cap hf
    rw [forceN_eq] at h2
    obtain ⟨b, h3, h4⟩ := obnd_some h2
    obtain ⟨rfl, h5⟩ := brec_some h4
    obtain ⟨e', x', h6, h7⟩ := initE_some EArgs.nil rfl h5
    obtain ⟨fn', hfn, hbody⟩ := bodyOf_some h3
    obtain ⟨bd, hbo⟩ := Option.isSome_iff_exists.1 hbody
    obtain ⟨v, c, s', h8, h9, h10⟩ := hH _ _ _ _ _ h7 (rangeArgs first cap s.nx) rfl (by simpa using h6)
    have hcall : callV P ext (evV x e f) [.func (.yield s.nx) #[] #[]] s1 = some (.enter g (rangeArgs first cap s.nx), s1) := by
      rw [hf]
      simp only [callV, M.bind, hfn, lift_ok, enterF, hbo, M.pure]
      rfl
    rw [hcall]
    simp only [rangeCall, M.bind, h8]
    exact rangeEnd_cs hE2 h10
  · cases h2
theorem rangeC_cs {h : H} (hH : HS P ext h) {f : Operand} {params : Array Tmp} {assign body : Code} {fn : Nat} : CodeS P ext h fn nt (rangeC P f params assign body fn nt) (.rangeFunc f params assign body) := by
  intro n rf e x s kn ke r a hE hr
  cases n with
  | zero => cases hr
  | succ m =>
  rw [run_succ]
  cases rf with
  | none =>
    have h1 : newK .defs s (fun r s => rangeGo P f params assign body fn nt h m e x ⟨x.o, x.cnt, { target := .collected r, args := #[] } :: x.df⟩ r s kn ke) = some r := hr
    obtain ⟨s1, h2, h3⟩ := newK_some h1
    have := rangeGo_cs (a2 := { a with df := { target := .collected s.nx, args := #[] } :: a.df }) (rf := none) hH hE (by rw [hE.df]; exact hE.setdf _) h3
    simp only [step, stCode, stRange, rangeDefs, M.bind, h2, M.pure]
    simpa only [M.bind] using this
  | some l =>
    have h1 : rdK l s (fun b s => loopK b fun st pe fn' tm pa as bo de => rangeGo P f params assign body fn nt h m e x x de s kn ke) = some r := hr
    obtain ⟨b, h2, h4, h5⟩ := rdK_some h1
    obtain ⟨z, rfl, h6⟩ := loopK_some h5
    have := rangeGo_cs (a2 := a) (rf := some l) hH hE hE h6
    simp only [step, stCode, stRange, rangeDefs, M.bind, rdLoop_ok h2, M.pure]
    simpa only [M.bind] using this
theorem drawn_cs {h : H} (hH : HS P ext h) {fn id : Nat} {ops : Array Oper} : CodeS P ext h fn nt (compDrawn P ext nt ops.toList) (.region id ops true) := by
  intro n rf e x s kn ke r a hE hr
  unfold compDrawn at hr
  cases hd : noDefer ops.toList with
  | false => rw [hd] at hr; cases hr
  | true =>
    rw [hd] at hr
    cases n with
    | zero => cases hr
    | succ m =>
    have h1 : DC.run (compD P ext nt ops.toList ops.toList) h m rf e x s (fun fs e x s => Bool.rec (motive := fun _ => Ans) none (kn e x s) (PC.run (pairsC (risky ops.toList)) fs)) = some r := hr
    have hnd : ∀ o, o ∈ ops.toList → isDefer o.op = false := by
      intro o ho
      have := List.all_eq_true.1 hd o ho
      simpa using this
    obtain ⟨fs, a', e', x', s', h2, h3, h4, h5⟩ := compD_some hH hE hnd h1
    obtain ⟨h6, h7⟩ := brec_some h5
    refine normal_cs (a := a') (s := s') ?_ h4 h7
    rw [run_succ]
    simp only [step, stCode, stRegion, if_true, M.bind, h2, stDrawn, apart_of h3 h6, M.pure]
/-- EVERY CODE -/
theorem comp_cs {h : H} (hH : HS P ext h) {fn : Nat} (c : Code) : CodeS P ext h fn nt (comp P ext fn nt c) c := by
  induction c with
  | skip =>
    intro n rf e x s kn ke r a hE hr
    obtain ⟨m, rfl, h1⟩ := fuelC_run _ _ _ _ _ _ _ _ _ hr
    exact normal_cs rfl hE h1
  | region id ops draw =>
    cases draw with
    | true => exact drawn_cs hH
    | false =>
      intro n rf e x s kn ke r a hE hr
      obtain ⟨m, rfl, h1⟩ := opsC_run hr
      obtain ⟨a', e', x', s', h2, h3, h4⟩ := compOps_some hH hE h1
      refine normal_cs (a := a') (s := s') ?_ h3 h4
      rw [run_succ]
      simp only [step, stCode, stRegion, Bool.false_eq_true, if_false, M.bind, h2, M.pure]
  | seq p q ihp ihq =>
    intro n rf e x s kn ke r a hE hr
    obtain ⟨m, rfl, h1⟩ := seqC_run hr
    exact (ihp hE h1).seq fun hE2 hk => ihq hE2 hk
  | cond c p q ihp ihq =>
    intro n rf e x s kn ke r a hE hr
    obtain ⟨m, rfl, h1⟩ := condC_run hr
    have hv : ∀ b : Bool, Nat.beq (codeS c e) (boolC b) = true → a.eval c = .bool b := by
      intro b hb
      rw [hE.eval]
      rcases codeS_ok hE c with g1 | ⟨g1, g2, g3⟩
      · have := Nat.eq_of_beq_eq_true hb
        rw [g1] at this
        cases b <;> cases this
      · rw [g3]; exact bool_code hb
    rcases h1 with ⟨h2, h3⟩ | ⟨h2, h3⟩
    · have e1 : run P ext (m + 1) (.code (.cond c p q) a rf fn) = run P ext m (.code p a rf fn) := by
        rw [run_succ]
        simp only [step, stCode, hv true h2, stCond, if_true]
      rw [e1]
      exact ihp hE h3
    · have e1 : run P ext (m + 1) (.code (.cond c p q) a rf fn) = run P ext m (.code q a rf fn) := by
        rw [run_succ]
        simp only [step, stCode, hv false h2, stCond, Bool.false_eq_true, if_false]
      rw [e1]
      exact ihq hE h3
  | block id p ih =>
    intro n rf e x s kn ke r a hE hr
    obtain ⟨m, rfl, h1⟩ := fuelC_run _ _ _ _ _ _ _ _ _ hr
    exact (ih hE h1).block
  | loop p ih =>
    intro n rf e x s kn ke r a hE hr
    exact loopR_cs (fun hE hr => ih hE hr) hE hr
  | rangeFunc f params p q ihp ihq => exact rangeC_cs hH
  | exit id =>
    intro n rf e x s kn ke r a hE hr
    obtain ⟨m, rfl, h1⟩ := fuelC_run _ _ _ _ _ _ _ _ _ hr
    exact exit_cs (by simp) rfl hE h1
  | scope p ih =>
    intro n rf e x s kn ke r a hE hr
    obtain ⟨m, rfl, h1⟩ := fuelC_run _ _ _ _ _ _ _ _ _ hr
    exact hH _ _ _ _ _ h1 a hE
  | label l =>
    intro n rf e x s kn ke r a hE hr
    obtain ⟨m, rfl, h1⟩ := fuelC_run _ _ _ _ _ _ _ _ _ hr
    exact normal_cs rfl hE h1
  | goto l =>
    intro n rf e x s kn ke r a hE hr
    obtain ⟨m, rfl, h1⟩ := fuelC_run _ _ _ _ _ _ _ _ _ hr
    exact exit_cs (by simp) rfl hE h1
  | ret =>
    intro n rf e x s kn ke r a hE hr
    obtain ⟨m, rfl, h1⟩ := fuelC_run _ _ _ _ _ _ _ _ _ hr
    exact exit_cs (by simp) rfl hE h1
  | refuse why =>
    intro n rf e x s kn ke r a hE hr
    obtain ⟨m, rfl, h1⟩ := fuelC_run _ _ _ _ _ _ _ _ _ hr
    cases h1
end
end Go.AM
