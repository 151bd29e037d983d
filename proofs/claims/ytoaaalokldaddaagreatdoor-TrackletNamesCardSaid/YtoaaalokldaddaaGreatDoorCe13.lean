import Derived.Test.YtoaaalokldaddaaGreatDoorCe12
import Derived.Test.YtoaaalokldaddaaGreatDoorAmZ2
set_option linter.unusedSimpArgs false
set_option linter.unusedVariables false
namespace Go.AM
open Go

section
variable {P : Program} {ext : Ext} {dom : FuncId → Bool} {nt : Nat}

/-- where code leads to an answer -/
theorem CS.ans {m : Option (Out × St)} {kn : KN} {ke : KE} {r : Value} (h : CS m nt kn ke r) : ∃ ex a e x s', m = some (.code ex a, s') ∧ EA nt a e x ∧ ((ex = .normal ∧ kn e x s' = some r) ∨ (ex ≠ .normal ∧ ke ex e x s' = some r)) := by
  rcases h with ⟨a, e, x, s', h1, h2, h3⟩ | ⟨ex, a, e, x, s', h0, h1, h2, h3⟩
  · exact ⟨_, a, e, x, s', h1, h2, .inl ⟨rfl, h3⟩⟩
  · exact ⟨ex, a, e, x, s', h1, h2, .inr ⟨h0, h3⟩⟩
/-- an answer of a call -/
def AnsS (m : Option (Out × St)) (k : KV) (r : Value) : Prop := ∃ v c s', m = some (.ret v, s') ∧ (c = 13 ∨ Plain c v) ∧ k c v s' = some r

/-! ### Results -/
theorem resQ1_some {t : TypeId} {y : Nat} {q : QC} {a : A} {e : Nat} {x : X} (hE : EA nt a e x) {s : St} {k : List Value → St → Ans} {r : Value} (h : (resQ1 P t y q).run e x s k = some r) :
    ∃ v s', loadM P t (a.get y) s = some (v, s') ∧ q.run e x s' (fun vs s => k (v :: vs) s) = some r := by
  rw [hE.get y]
  cases q with
  | mk g =>
  have h' : QC.run (match undF P t with
    | some (.struct _) | some (.array _ _) => match sizF P t with
      | some n => QC.mk fun e x s k => lgA n (slot e y) s fun v s => g e x s fun vs s => k (v :: vs) s
      | none => QC.mk fun _ _ _ _ => none
    | some _ => QC.mk fun e x s k => ldA (slot e y) s fun v s => g e x s fun vs s => k (v :: vs) s
    | none => QC.mk fun _ _ _ _ => none) e x s k = some r := h
  rw [undF_eq] at h'
  have hagg : aggT P t = some true → QC.run (match sizF P t with
      | some n => QC.mk fun e x s k => lgA n (slot e y) s fun v s => g e x s fun vs s => k (v :: vs) s
      | none => QC.mk fun _ _ _ _ => none) e x s k = some r → ∃ v s', loadM P t (decX x (slot e y)) s = some (v, s') ∧ (QC.mk g).run e x s' (fun vs s => k (v :: vs) s) = some r := by
    intro ha h
    rw [sizF_eq] at h
    split at h
    · rename_i n hn
      exact lgA_some ha hn h
    · cases h
  split at h'
  · rename_i fs hfs
    exact hagg (by simp [aggT, hfs]) h'
  · rename_i n el hfs
    exact hagg (by simp [aggT, hfs]) h'
  · rename_i d h1 h2 hd
    exact ldA_some (by
      unfold aggT
      rw [hd]
      cases d with
      | struct fs => exact (h1 fs rfl).elim
      | array n el => exact (h2 n el rfl).elim
      | _ => rfl) h'
  · cases h'
theorem resQ_some {a : A} {e : Nat} {x : X} (hE : EA nt a e x) : ∀ {l : List ResultVar} {s : St} {k : List Value → St → Ans} {r : Value}, (resQ P l).run e x s k = some r → ∃ vs s', resultsM P a l s = some (vs, s') ∧ k vs s' = some r
  | [], s, k, r, h => ⟨[], s, rfl, h⟩
  | .tmp t :: l, s, k, r, h => by
    have h' : (resQ P l).run e x s (fun vs s => k (decX x (slot e t) :: vs) s) = some r := by
      revert h
      show QC.run (QC.rec (motive := fun _ => QC) (fun g => QC.mk fun e x s k => g e x s fun vs s => k (decX x (slot e t) :: vs) s) (resQ P l)) e x s k = some r → _
      cases resQ P l
      exact id
    obtain ⟨vs, s', h1, h2⟩ := resQ_some hE h'
    refine ⟨a.get t :: vs, s', ?_, by rw [hE.get t]; exact h2⟩
    simp only [resultsM, resultM, M.bind, M.pure, h1]
  | .cell y t :: l, s, k, r, h => by
    obtain ⟨v, s1, h1, h2⟩ := resQ1_some hE (show (resQ1 P t y (resQ P l)).run e x s k = some r from h)
    obtain ⟨vs, s', h3, h4⟩ := resQ_some hE h2
    refine ⟨v :: vs, s', ?_, h4⟩
    simp only [resultsM, resultM, M.bind, h1, h3, M.pure]
theorem allTmp_some {a : A} {s : St} : ∀ {l : List ResultVar} {ts : List Nat}, allTmp l = some ts → resultsM P a l s = some (ts.map a.get, s)
  | [], ts, h => by cases h; rfl
  | .tmp t :: l, ts, h => by
    simp only [allTmp] at h
    cases hl : allTmp l with
    | none => rw [hl] at h; cases h
    | some ts' =>
      rw [hl] at h
      cases h
      simp only [resultsM, resultM, M.bind, M.pure, allTmp_some hl, List.map_cons]
  | .cell x t :: l, ts, h => by cases h
theorem ansC_ok {x : X} {e t : Nat} : ansC (slot e t) = 13 ∨ Plain (ansC (slot e t)) (decX x (slot e t)) := by
  unfold ansC
  rw [land15, ifN_eq, beq_eq]
  by_cases h : slot e t % 16 = 13
  · rw [if_pos (by simpa using h)]; exact .inl rfl
  · rw [if_neg (by simpa using h)]
    exact .inr ⟨slot_lt e t, h, (decX_not h).symm⟩
theorem resC_some {a : A} {e : Nat} {x : X} (hE : EA nt a e x) {l : List ResultVar} {s : St} {k : KV} {r : Value} (h : (resC P l).run e x s k = some r) : ∃ vs c s', resultsM P a l s = some (vs, s') ∧ (c = 13 ∨ Plain c (packR vs)) ∧ k c (packR vs) s' = some r := by
  have hg : (fun t => decX x (slot e t)) = a.get := by funext t; exact (hE.get t).symm
  unfold resC at h
  split at h
  · rename_i t ht
    refine ⟨[a.get t], ansC (slot e t), s, allTmp_some ht, ?_, ?_⟩
    · show ansC (slot e t) = 13 ∨ Plain (ansC (slot e t)) (a.get t)
      rw [hE.get t]
      exact ansC_ok
    · show k (ansC (slot e t)) (a.get t) s = some r
      rw [hE.get t]
      exact h
  · rename_i ts hn ht
    refine ⟨ts.map a.get, 13, s, allTmp_some ht, .inl rfl, ?_⟩
    rw [← hg]
    exact h
  · have h' : (resQ P l).run e x s (fun vs s => k 13 (packR vs) s) = some r := by
      revert h
      cases resQ P l
      exact id
    obtain ⟨vs, s', h1, h2⟩ := resQ_some hE h'
    exact ⟨vs, 13, s', h1, .inl rfl, h2⟩
theorem leavesR_some {h : H} (hH : HS P ext h) {fn : Func} : ∀ {n : Nat} {a : A} {e : Nat} {x : X} {s : St} {k : KV} {r : Value}, EA nt a e x → leavesR P fn h n e x s k = some r → AnsS (run P ext n (.leaves fn a) s) k r
  | 0, a, e, x, s, k, r, hE, hr => by cases hr
  | n + 1, a, e, x, s, k, r, hE, hr => by
    obtain ⟨o, cnt, df⟩ := x
    rw [run_succ]
    have hdf := hE.df
    cases df with
    | nil =>
      obtain ⟨vs, c, s', h1, h2, h3⟩ := resC_some hE (show (resC P fn.results.toList).run e ⟨o, cnt, []⟩ s k = some r from hr)
      refine ⟨packR vs, c, s', ?_, h2, h3⟩
      have hdf' : a.df = [] := hdf
      simp only [step, stLeaves, hdf', M.bind, h1, M.pure]
    | cons d ds =>
      have hdf' : a.df = d :: ds := hdf
      have hE2 : EA nt { a with df := ds } e ⟨o, cnt, ds⟩ := hE.setdf ds
      have hstep : step P ext (run P ext n) (.leaves fn a) s = stDefer (run P ext n) fn { a with df := ds } d s := by
        simp only [step, stLeaves, hdf']
      rw [hstep]
      obtain ⟨target, dargs⟩ := d
      cases target with
      | collected r' =>
        have hr' : bnd (rdB r' s) (fun b s => ifA (isDefs b) (bnd (wrB r' .dead s) fun _ s => leavesR P fn h n e ⟨o, cnt, ds⟩ s k) none) = some r := hr
        obtain ⟨b, s1, h1, h2⟩ := bnd_some hr'
        obtain ⟨h3, h4⟩ := ifA_some h2
        obtain ⟨u, s2, h5, h6⟩ := bnd_some h4
        have := leavesR_some hH hE2 h6
        simp only [stDefer, M.bind, h1, guardM, h3, h5]
        exact this
      | fn f cap =>
        cases f with
        | func g =>
          have hr' : (forceN g fun g => obnd (bodyOf P g) fun b => Bool.rec (motive := fun _ => Ans) none (initE (dargs.toList ++ cap.toList) 0 0 x0 fun e' x' => h n (.call g (dargs.toList ++ cap.toList).length e' x') s fun _ _ s => leavesR P fn h n e ⟨o, cnt, ds⟩ s k) b) = some r := hr
          rw [forceN_eq] at hr'
          obtain ⟨b, h3, h4⟩ := obnd_some hr'
          obtain ⟨rfl, h5⟩ := brec_some h4
          obtain ⟨e', x', h6, h7⟩ := initE_some EArgs.nil rfl h5
          obtain ⟨v, c, s', h8, h9, h10⟩ := hH _ _ _ _ _ h7 (dargs.toList ++ cap.toList) rfl (by simpa using h6)
          have := leavesR_some hH hE2 h10
          simp only [stDefer, M.bind, h8, afterDefer]
          exact this
        | _ => cases hr
      | _ => cases hr

/-! ### Functions -/
/-- what is known of calls is known of those alone that the table names -/
def DomOK (P : Program) (ext : Ext) (dom : FuncId → Bool) : Prop := ∀ (f : FuncId) (fn : Func) (body : Code) (args : List Value), P.funcs[f]? = some fn → fn.body = some body → dom f = false → ext f args = none
theorem EArgs.list {args : List Value} {e : Nat} {x : X} (h : EArgs args e x) : (List.range args.length).map (fun t => decX x (slot e t)) = args := by
  apply List.ext_getElem
  · simp
  · intro i h1 h2
    rw [List.getElem_map, List.getElem_range, ← h.get i, List.getElem?_eq_getElem h2]
    rfl
theorem bodyC_some {h : H} (hH : HS P ext h) {f : FuncId} {fn : Func} {body : Code} {n : Nat} {args : List Value} {e : Nat} {x : X} (hA : EArgs args e x) {s : St} {k : KV} {r : Value} (hr : bodyC P ext f fn body h n args.length e x s k = some r) : AnsS (stBody (run P ext n) f fn body args s) k r := by
  obtain ⟨h1, h2⟩ := ifA_some hr
  have h1' : args.length ≤ fn.ntmps := Nat.le_of_ble_eq_true h1
  obtain ⟨ex, a, e', x', s', h3, h4, h5⟩ := (comp_cs hH body (hA.start (nt := fn.ntmps)) h2).ans
  have hfin : ∀ {m : Option (Out × St)}, (stBody (run P ext n) f fn body args s = m) → AnsS m k r → AnsS (stBody (run P ext n) f fn body args s) k r := fun hm h => hm ▸ h
  have hl : leavesR P fn h n e' x' s' k = some r → (ex = .normal ∨ ex = .ret) → AnsS (stBody (run P ext n) f fn body args s) k r := by
    intro hk hex
    have := leavesR_some hH h4 hk
    refine hfin ?_ this
    simp only [stBody, M.bind, guardM, decide_eq_true h1', h3]
    rcases hex with rfl | rfl <;> rfl
  rcases h5 with ⟨rfl, h6⟩ | ⟨h0, h6⟩
  · exact hl h6 (.inl rfl)
  · cases ex with
    | ret => exact hl h6 (.inr rfl)
    | normal => exact (h0 rfl).elim
    | exit i => cases h6
    | goto l => cases h6
theorem fnC_some (hD : DomOK P ext dom) {h : H} (hH : HS P ext h) {f : FuncId} {n : Nat} {args : List Value} {e : Nat} {x : X} (hA : EArgs args e x) {s : St} {k : KV} {r : Value} (hr : (fnC P ext dom f).run h n args.length e x s k = some r) : AnsS (run P ext n (.call f args) s) k r := by
  unfold fnC at hr
  rw [funF_eq] at hr
  split at hr
  · cases hr
  · rename_i fn hf
    split at hr
    · cases hr
    · rename_i body hb
      cases n with
      | zero => cases hd : dom f <;> rw [hd] at hr <;> cases hr
      | succ m =>
      rw [run_succ]
      have hstep : step P ext (run P ext m) (.call f args) s = stKnown (run P ext m) f fn body args (ext f args) s := by
        simp only [step, stCall, M.bind, hf, hb, lift_ok]
      rw [hstep]
      cases hd : dom f with
      | false =>
        rw [hd] at hr
        rw [hD f fn body args hf hb hd]
        exact bodyC_some hH hA hr
      | true =>
        rw [hd] at hr
        have hr' : (Option.rec (motive := fun _ => Ans) (bodyC P ext f fn body h m args.length e x s k) (fun v => k 13 v s) (ext f ((List.range args.length).map fun t => decX x (slot e t)))) = some r := hr
        rw [hA.list] at hr'
        cases he : ext f args with
        | none => rw [he] at hr'; exact bodyC_some hH hA hr'
        | some v => rw [he] at hr'; exact ⟨v, 13, s, rfl, .inl rfl, hr'⟩

/-! ### Rounds -/
theorem roundJ_some {l : Nat} {j : Option Code} {k : KV} {s : St} {r : Value} (h : roundJ l j k s = some r) : AnsS (roundJump l j s) k r := by
  unfold roundJ at h
  obtain ⟨b, h1, h2, h3⟩ := rdK_some h
  obtain ⟨z, rfl, h4⟩ := loopK_some h3
  obtain ⟨s', h5, h6⟩ := wrK_some h4 h2
  refine ⟨.bool j.isNone, boolC j.isNone, s', ?_, .inr (plain_bool _), h6⟩
  have hj : jumpLoop z j = ⟨Option.rec (motive := fun _ => LoopState) .ready (fun _ => .done) j, j, z.fn, z.tmps, z.params, z.assign, z.body, z.defers⟩ := by
    cases j <;> rfl
  simp only [roundJump, M.bind, rdLoop_ok h1, hj, h5, M.pure]
theorem paramE_some : ∀ {l : List (Nat × Value)} {a : A} {e : Nat} {x : X} {k : Nat → X → Ans} {r : Value}, EA nt a e x → paramE nt l e x k = some r → ∃ e' x', EA nt (withParams a l) e' x' ∧ k e' x' = some r
  | [], a, e, x, k, r, hE, hr => ⟨e, x, hE, hr⟩
  | p :: l, a, e, x, k, r, hE, hr => by
    obtain ⟨e1, x1, h1, h2⟩ := putV_sound hE (show putV (effD nt (some p.1)) p.2 e x (fun e x => paramE nt l e x k) = some r from hr)
    exact paramE_some (a := a.put (some p.1) p.2) (l := l) h1 h2
theorem lenR_eq : ∀ l : List Value, lenR l = l.length
  | [] => rfl
  | v :: l => by
    have h : lenR (v :: l) = lenR l + 1 := rfl
    rw [h, lenR_eq l]; rfl
theorem roundC_some {h : H} (hH : HS P ext h) {l : Nat} {args : List Value} {n : Nat} {s : St} {k : KV} {r : Value} (hr : roundC P ext l args h n s k = some r) : AnsS (run P ext n (.round l args) s) k r := by
  cases n with
  | zero => cases hr
  | succ m =>
  rw [run_succ]
  have hr' : rdK l s (fun b s => loopK b fun st pe fn tm pa as bo de => ifA (args.length == pa.size)
    (forceN fn fun fn => forceN (lenR tm.toList) fun nt => initE tm.toList 0 0 x0 fun e x => paramE nt (pa.toList.zip args) e x fun e x =>
      CC.run (comp P ext fn nt as) h m (some l) e x s (fun e x s => rdK l s fun b s => loopK b fun st2 pe2 fn2 tm2 pa2 as2 bo2 de2 => ifA (isReady st2) (wrK l (.loop ⟨.busy, pe2, fn2, tm2, pa2, as2, bo2, de2⟩) s fun s =>
        CC.run (comp P ext fn nt bo) h m (some l) e x s (fun _ _ s => roundJ l none k s) (roundE l k)) none) (fun _ _ _ _ => none)) none) = some r := hr
  obtain ⟨b, h1, h2, h3⟩ := rdK_some hr'
  obtain ⟨z, rfl, h4⟩ := loopK_some h3
  obtain ⟨h5, h6⟩ := ifA_some h4
  rw [forceN_eq, forceN_eq, lenR_eq] at h6
  obtain ⟨e1, x1, h7, h8⟩ := initE_some EArgs.nil rfl h6
  have h7' : EArgs z.tmps.toList e1 x1 := by simpa using h7
  obtain ⟨e2, x2, h9, h10⟩ := paramE_some (h7'.start (nt := z.tmps.toList.length)) h8
  obtain ⟨ex, a, e3, x3, s3, g1, g2, g3⟩ := (comp_cs hH z.assign h9 h10).ans
  rcases g3 with ⟨rfl, g3⟩ | ⟨_, g3⟩
  · obtain ⟨b, g4, g5, g6⟩ := rdK_some g3
    obtain ⟨z2, rfl, g7⟩ := loopK_some g6
    obtain ⟨g8, g9⟩ := ifA_some g7
    obtain ⟨s4, f1, f2⟩ := wrK_some g9 g5
    obtain ⟨ex, a2, e4, x4, s5, f3, f4, f5⟩ := (comp_cs hH z.body g2 f2).ans
    have hrun : step P ext (run P ext m) (.round l args) s = roundEnd l (.code ex a2) s5 := by
      simp only [step, stRound, M.bind, rdLoop_ok h1, h5, guardM, g1, roundBody, rdLoop_ok g4, g8, f1, f3]
    rw [hrun]
    rcases f5 with ⟨rfl, f6⟩ | ⟨f0, f6⟩
    · exact roundJ_some f6
    · cases ex with
      | normal => exact (f0 rfl).elim
      | ret => exact roundJ_some f6
      | exit i => exact roundJ_some f6
      | goto t => exact roundJ_some f6
  · cases g3

/-! ### Scopes -/
theorem scopeC_cs {h : H} (hH : HS P ext h) {cur body : Code} {fn : Nat} {rf : Option Nat} {e : Nat} {x : X} {kn : KN} {ke : KE} {n : Nat} {s : St} {r : Value} (hr : scopeC P ext cur body fn nt rf e x kn ke h n s = some r) {a : A} (hE : EA nt a e x) :
    CS (run P ext n (.scope cur body a rf fn) s) nt kn ke r := by
  cases n with
  | zero => cases hr
  | succ m =>
  rw [run_succ]
  obtain ⟨ex, a2, e2, x2, s2, h1, h2, h3⟩ := (comp_cs hH cur hE (show CC.run (comp P ext fn nt cur) h m rf e x s kn (scopeE body fn nt rf h m kn ke) = some r from hr)).ans
  have hrun : step P ext (run P ext m) (.scope cur body a rf fn) s = onScope (run P ext m) body rf fn (.code ex a2) s2 := by
    simp only [step, stScope, M.bind, h1]
  rw [hrun]
  rcases h3 with ⟨rfl, h4⟩ | ⟨h0, h4⟩
  · exact normal_cs rfl h2 h4
  · cases ex with
    | normal => exact (h0 rfl).elim
    | ret => exact exit_cs (by simp) rfl h2 h4
    | exit i => exact exit_cs (by simp) rfl h2 h4
    | goto l =>
      have h4' : (Option.rec (motive := fun _ => Ans) (ke (.goto l) e2 x2 s2) (fun rest => h m (.scope rest body fn nt rf e2 x2 kn ke) s2 fun _ _ _ => none) (findLabel body l)) = some r := h4
      cases hf : findLabel body l with
      | none =>
        rw [hf] at h4'
        refine exit_cs (ex := .goto l) (by simp) ?_ h2 h4'
        simp only [onScope, hf, M.pure]
      | some rest =>
        rw [hf] at h4'
        have := hH _ _ _ _ _ h4' a2 h2
        simp only [onScope, hf]
        exact this

/-! ### All -/
theorem go2_hs (hD : DomOK P ext dom) {h : H} (hH : HS P ext h) : HS P ext (go2 P ext dom h) := by
  intro n t s k r hr
  cases t with
  | call f len e x =>
    intro args hl hA
    subst hl
    exact fnC_some hD hH hA hr
  | round l args => exact roundC_some hH hr
  | scope cur body fn nt rf e x kn ke =>
    intro a hE
    exact scopeC_cs hH hr hE
theorem fam_hs (hD : DomOK P ext dom) : ∀ N, HS P ext (fam P ext dom N)
  | 0 => fun n t s k r hr => by cases hr
  | N + 1 => go2_hs hD (fam_hs hD N)
/-- the staged evaluator, at a call -/
noncomputable def ce (P : Program) (ext : Ext) (dom : FuncId → Bool) (N n : Nat) (f : FuncId) (args : List Value) (s : St) : Ans :=
  initE args (nat_lit 0) (nat_lit 0) x0 fun e x => fam P ext dom N n (.call f args.length e x) s fun _ v _ => some v
/-- **THE STAGED EVALUATOR IS SOUND** -/
theorem ce_run (hD : DomOK P ext dom) {N n : Nat} {f : FuncId} {args : List Value} {s : St} {v : Value} (h : ce P ext dom N n f args s = some v) : ∃ s', run P ext n (.call f args) s = some (.ret v, s') := by
  obtain ⟨e, x, h1, h2⟩ := initE_some EArgs.nil rfl h
  obtain ⟨u, c, s', h3, h4, h5⟩ := fam_hs hD N _ _ _ _ _ h2 args rfl (by simpa using h1)
  cases h5
  exact ⟨s', h3⟩
end
end Go.AM
