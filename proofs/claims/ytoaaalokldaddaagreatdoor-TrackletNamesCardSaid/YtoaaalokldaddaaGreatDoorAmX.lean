import Derived.Test.YtoaaalokldaddaaGreatDoorAmW
set_option linter.unusedSimpArgs false
set_option linter.unusedVariables false
namespace Go.AM
open Go Go.RowKit

section
variable {c : Cx} {n : Nat} {ρ : Map} {V : Nat → Prop} {s s' : St} {w : World} {A' : Act} {b : Frame} {k : List Item} {cs : List Frame} {rf : Option Nat} {fn : FuncId} {a : A} {out : Out}

theorem result_sound {r : ResultVar} {v : Value} (h : resultM c.P a r s = some (v, s')) (hR : Rel c ρ V s.hp w) (hA : AR ρ V a A') :
    SameSt s s' ∧ ∃ v', (match r with | .tmp t => pure (A'.tmps.getD t undef) | .cell x t => do loadVar t (← asAddr (A'.tmps.getD x undef)) : Sem Value).run c.P w = .ok v' w ∧ VR ρ V v v' := by
  cases r with
  | tmp t =>
    obtain ⟨rfl, rfl⟩ := pure_some h
    exact ⟨SameSt.refl _, _, rfl, hA.tm t⟩
  | cell x t =>
    have h' : loadM c.P t (a.get x) s = some (v, s') := h
    obtain ⟨hs, v', h1, h2⟩ := loadM_sound h' hR (hA.tm x)
    refine ⟨hs, v', ?_, h2⟩
    obtain ⟨p, s1, h3, h4⟩ := bind_some h'
    obtain ⟨q3, _⟩ := lift_some h3
    obtain ⟨e1, _⟩ := plain_vr q3 (hA.tm x)
    rw [e1] at h1
    simp only
    rw [e1]
    simpa [Instr.loadAt, Instr.sureAddr, asAddr] using h1
theorem results_sound : ∀ {l : List ResultVar} {vs : List Value} {s s' : St}, resultsM c.P a l s = some (vs, s') → Rel c ρ V s.hp w → AR ρ V a A' →
    SameSt s s' ∧ ∃ vs', (l.mapM fun r => (match r with | .tmp t => pure (A'.tmps.getD t undef) | .cell x t => do loadVar t (← asAddr (A'.tmps.getD x undef)) : Sem Value)).run c.P w = .ok vs' w ∧ LR ρ V vs vs' := by
  intro l
  induction l with
  | nil =>
    intro vs s s' h hR hA
    obtain ⟨rfl, rfl⟩ := pure_some h
    exact ⟨SameSt.refl _, [], by simp, LR.nil⟩
  | cons r l ih =>
    intro vs s s' h hR hA
    obtain ⟨v, s1, h1, h2⟩ := bind_some h
    obtain ⟨vs1, s2, h3, h4⟩ := bind_some h2
    obtain ⟨rfl, rfl⟩ := pure_some h4
    obtain ⟨hs1, v', e1, e2⟩ := result_sound h1 hR hA
    obtain ⟨hs2, vs', e3, e4⟩ := ih h3 (by rw [hs1.hp]; exact hR) hA
    refine ⟨hs1.trans hs2, v' :: vs', ?_, LR.cons e2 e4⟩
    rw [List.mapM_cons, Sem.run_bind]
    rw [e1]
    simp only [Result.andThen_ok, Sem.run_bind]
    rw [e3]
    simp
theorem pack_sound {fn : Func} {vs : List Value} {s s' : St} (h : resultsM c.P a fn.results.toList s = some (vs, s')) (hR : Rel c ρ V s.hp w) (hA : AR ρ V a A') :
    SameSt s s' ∧ ∃ v', (results fn A'.tmps).run c.P w = .ok v' w ∧ VR ρ V (packR vs) v' := by
  obtain ⟨hs, vs', e1, e2⟩ := results_sound h hR hA
  refine ⟨hs, if h : (⟨vs'⟩ : Array Value).size = 1 then (⟨vs'⟩ : Array Value)[0] else .tuple ⟨vs'⟩, ?_, ?_⟩
  · unfold results
    rw [Array.mapM_eq_mapM_toList]
    simp only [Sem.run_bind, Sem.run_map]
    erw [e1]
    simp
  · cases vs with
    | nil =>
      rw [e2.nil_inv]
      exact VR.tuple_of LR.nil
    | cons v l =>
      obtain ⟨v', l', rfl, h1, h2⟩ := e2.cons_inv
      cases l with
      | nil =>
        rw [h2.nil_inv]
        exact h1
      | cons u l =>
        obtain ⟨u', l2, rfl, h3, h4⟩ := h2.cons_inv
        exact VR.tuple_of (LR.cons h1 (LR.cons h3 h4))

theorem leaves_sound (hG : Good c) (ih : Snd c n) {fn : Func} {fr : Frame} (h : stLeaves c.P (run c.P c.ext n) fn a s = some (out, s')) (hl : s.lim ≤ s.nx) (hR : Rel c ρ V s.hp w) (hf : Free V s.nx s'.nx) (hA : AR ρ V a A')
    (hm : fr.mode = .returning) (ht : fr.tmps = A'.tmps) (hd : fr.defers = A'.defers) (hfn : c.P.funcs[fr.fn]? = some fn) :
    ∃ v ρ' w' v' fr', out = .ret v ∧ Made c ρ V s s' w' ρ' ∧ VR ρ' (VU V s.nx s'.nx) v v' ∧ Steps c.P (lone fr cs w) (lone fr' cs w') ∧ Left c.P fr.fn fr.kind fr' v' w' := by
  unfold stLeaves at h
  have hdf := hA.df
  cases hdd : a.df with
  | nil =>
    rw [hdd] at h hdf
    simp only at h
    have hd0 : A'.defers = [] := by
      cases hq : A'.defers with
      | nil => rfl
      | cons d l => rw [hq] at hdf; exact hdf.elim
    obtain ⟨vs, s1, h1, h2⟩ := bind_some h
    obtain ⟨rfl, rfl⟩ := pure_some h2
    obtain ⟨hs, v', e1, e2⟩ := pack_sound h1 hR hA
    exact ⟨_, ρ, w, v', fr, rfl, Made.of_same hR hs, by rw [hs.nx, VU.self]; exact e2, .refl _ _, rfl, rfl, hm, by rw [hd, hd0], fn, hfn, by rw [ht]; exact e1⟩
  | cons d ds =>
    rw [hdd] at h hdf
    simp only at h
    cases hq : A'.defers with
    | nil => rw [hq] at hdf; exact hdf.elim
    | cons d' ds' =>
      rw [hq] at hdf hd
      obtain ⟨hd1, hd2⟩ := hdf
      have hA2 : ∀ {ρ' : Map} {V' : Nat → Prop}, SameOn V ρ ρ' → (∀ x, V x → V' x) → AR ρ' V' { a with df := ds } { A' with defers := ds' } := by
        intro ρ' V' h1 h2
        have h3 := hA.mono h1 h2
        exact ⟨h3.size, h3.tm, hd2.mono h1 h2⟩
      unfold stDefer at h
      cases hd1 with
      | coll r hr =>
        simp only at h
        obtain ⟨kb, s1, h1, h2⟩ := bind_some h
        obtain ⟨e1, e2, hs⟩ := rd_some h1
        obtain ⟨_, s2, h3, h4⟩ := bind_some h2
        obtain ⟨q3, rfl⟩ := guard_some h3
        obtain ⟨_, s3, h5, h6⟩ := bind_some h4
        obtain ⟨w1, w2, w3⟩ := wr_some h5
        have hkb : kb = .defs := by
          unfold isDefs at q3
          split at q3
          · rfl
          · cases q3
        subst hkb
        obtain ⟨o, ho, hbr⟩ := hR.blk r _ hr e1 rfl
        cases hbr with
        | defs hN =>
          have hlt : (ρ r).r < w.heap.size := (Array.getElem?_eq_some_iff.1 ho).1
          let w' : World := { w with heap := w.heap.setIfInBounds (ρ r).r (.deferred none) }
          have htake : (Instr.takeDeferred (ρ r).r).run c.P w = .ok [] w' := by
            simp [Instr.takeDeferred, getObj, setObj, Sem.run, ho, Sem.run_bind, w']
          have hR' : Rel c ρ V s3.hp w' := by
            rw [w2, hs.hp]
            exact Rel.turn hR r hr _ .dead e1 rfl hN (.deferred none) (by simp [w']) rfl rfl rfl (fun q hq' _ => by simp [w', Array.getElem?_setIfInBounds, Ne.symm hq']) (fun h => by cases h)
          have hnx : s3.nx = s.nx := by rw [w3, hs.nx]
          have hlim : s3.lim ≤ s3.nx := by
            have g1 := (Fr.rd r).grows h1 hl
            exact ((Fr.wr r .dead).grows h5 g1.2).2
          have hstep : Go.step c.P (lone fr cs w) = .next (lone { fr with defers := ds' } cs w') := by
            refine step_lone_go ?_
            simp [stepG, unwind, hm, hd, Sem.runT_eq, htake]
          obtain ⟨v, ρ2, w2', v', fr', q1, q2, q4, q5, q6⟩ := ih.leaves (fr := { fr with defers := ds' }) (cs := cs) h6 hlim hR' (by rw [hnx]; exact hf) (hA2 (SameOn.refl V ρ) fun _ h => h) hm ht rfl hfn
          refine ⟨v, ρ2, w2', v', fr', q1, ⟨q2.same, by have := q2.rel; rw [hnx] at this; exact this⟩, by rw [hnx] at q4; exact q4, .head hstep q5, q6⟩
      | fn g cap cap' args args' hc ha =>
        simp only at h
        obtain ⟨o, s1, h1, h2⟩ := bind_some h
        obtain ⟨g1, g2⟩ := (Fr.run c.P c.ext n _).grows h1 hl
        have g3 : s1.nx ≤ s'.nx := ((Fr.afterDefer (fun t => Fr.run c.P c.ext n t) fn _ o).grows h2 g2).1
        obtain ⟨gf, gb, hgf, hgb⟩ := call_some h1
        have hall : LR ρ V (args ++ cap) (args' ++ cap') := ha.append hc
        obtain ⟨v, ρ1, w1, v1, fr1, rfl, m1, m2, m3, m4⟩ := ih.call (kind := .deferred) (cs := { fr with defers := ds' } :: cs) h1 hl hR (hf.left g3) hall (.inr ⟨rfl, _, _, rfl, hm⟩)
        have harr : (⟨args'⟩ : Array Value) ++ (⟨cap'⟩ : Array Value) = ⟨args' ++ cap'⟩ := by simp
        have hstep := step_defer (P := c.P) (fr := fr) (cs := cs) (w := w) (d := ⟨.fn (.func g) ⟨cap'⟩, ⟨args'⟩⟩) (ds := ds') (f := g) (args := ⟨args' ++ cap'⟩) (by rw [hm]; simp) hd rfl (by
          simp only [invoke]
          rw [harr]
          exact callFunc_enter hgf hgb (hG.names _ _ hgf) w)
        have hback := left_going (cf := { fr with defers := ds' }) (cs := cs) m4
        have hset : ({ ({ fr with defers := ds' } : Frame) with mode := settle ({ fr with defers := ds' } : Frame).mode } : Frame) = { fr with defers := ds' } := by
          simp [hm, settle]
        rw [hset] at hback
        obtain ⟨v2, ρ2, w2', v', fr', q1, q2, q4, q5, q6⟩ := ih.leaves (fr := { fr with defers := ds' }) (cs := cs) h2 g2 m1.rel (hf.right g1) (hA2 m1.same VU.sub) hm ht rfl hfn
        refine ⟨v2, ρ2, w2', v', fr', q1, m1.trans g1 g3 q2, by rw [← VU.trans V g1 g3]; exact q4, .head hstep (m3.trans (.head hback q5)), q6⟩

/-! ### Rounds -/
theorem rdLoop_some {l : Nat} {z : Loop} (h : rdLoop l s = some (z, s')) : s.hp.get l = some (.loop z) ∧ SameSt s s' := by
  obtain ⟨kb, s1, h1, h2⟩ := bind_some h
  obtain ⟨e1, e2, hs⟩ := rd_some h1
  obtain ⟨q, rfl⟩ := lift_some h2
  unfold loopIn at q
  split at q
  · cases q; exact ⟨e1, hs⟩
  · cases q
theorem loop_at {l : Nat} {z : Loop} (hR : Rel c ρ V s.hp w) (hl : V l) (h : s.hp.get l = some (.loop z)) : ∃ z', w.heap[(ρ l).r]? = some (.loop z') ∧ LoopR ρ V c.ng z z' ∧ c.w0.heap.size ≤ (ρ l).r := by
  obtain ⟨o, ho, hbr⟩ := hR.blk l _ hl h rfl
  cases hbr with
  | loop _ z' hN hz => exact ⟨z', ho, hz, hN⟩
theorem getLoop_run {P : Program} {r : Nat} {z' : Loop} (h : w.heap[r]? = some (.loop z')) : (Instr.getLoop r).run P w = .ok z' w := by
  simp [Instr.getLoop, getObj, Sem.run, h, Sem.run_bind]
theorem setLoop_run {P : Program} {r : Nat} {z' z2 : Loop} (h : w.heap[r]? = some (.loop z')) : (setObj r (.loop z2)).run P w = .ok () { w with heap := w.heap.setIfInBounds r (.loop z2) } := by
  simp [setObj, Sem.run, h]
theorem turn_loop {l : Nat} {z z' z2 z2' : Loop} {hp : Hp Blk} (hR : Rel c ρ V hp w) (hl : V l) (h : hp.get l = some (.loop z)) (ho : w.heap[(ρ l).r]? = some (.loop z')) (hN : c.w0.heap.size ≤ (ρ l).r) (hz : LoopR ρ V c.ng z2 z2') :
    Rel c ρ V (hp.set (.loop z2) l) { w with heap := w.heap.setIfInBounds (ρ l).r (.loop z2') } := by
  have hlt : (ρ l).r < w.heap.size := (Array.getElem?_eq_some_iff.1 ho).1
  exact Rel.turn hR l hl _ _ h rfl hN (.loop z2') (by simp) rfl rfl rfl (fun q hq' _ => by simp [Array.getElem?_setIfInBounds, Ne.symm hq']) (fun _ => ⟨by simp [Array.getElem?_setIfInBounds, hlt], .loop _ _ hN hz⟩)

theorem with_ar : ∀ (l l' : List (Nat × Value)) {a : A} {T' : Array Value}, PR ρ V l l' → AR ρ V a { tmps := T', defers := [] } → AR ρ V (withParams a l) { tmps := l'.foldl (fun tmps x => tmps.setIfInBounds x.1 x.2) T', defers := [] }
  | [], [], a, T', _, h => h
  | x :: l, x' :: l', a, T', hp, h => by
    obtain ⟨i, v⟩ := x
    obtain ⟨i', v'⟩ := x'
    obtain ⟨rfl, hv, hp⟩ := hp
    exact with_ar l l' hp (h.put (some i') hv)
theorem zip_pr : ∀ (ps : List Nat) {l l' : List Value}, LR ρ V l l' → PR ρ V (ps.zip l) (ps.zip l')
  | [], l, l', h => by simp [PR]
  | p :: ps, [], l', h => by rw [h.nil_inv]; simp [PR]
  | p :: ps, v :: l, l', h => by
    obtain ⟨v', l2, rfl, h1, h2⟩ := h.cons_inv
    exact ⟨rfl, h1, zip_pr ps h2⟩

theorem round_sound (hG : Good c) (ih : Snd c n) {cf : Frame} {l : Nat} {args args' : List Value} (h : stRound (run c.P c.ext n) l args s = some (out, s')) (hl : s.lim ≤ s.nx) (hR : Rel c ρ V s.hp w) (hf : Free V s.nx s'.nx) (hV : V l) (ha : LR ρ V args args') :
    ∃ v ρ' w' v' f tmps assign body, out = .ret v ∧ Made c ρ V s s' w' ρ' ∧ VR ρ' (VU V s.nx s'.nx) v v' ∧ (Instr.yield (ρ l).r ⟨args'⟩).run c.P w = .ok (.round (ρ l).r f tmps assign body) w ∧
      Steps c.P (lone (Frame.round (ρ l).r f tmps assign body .normal) (cf :: cs) w) (lone (cf.finish v') cs w') := by
  unfold stRound at h
  obtain ⟨z, s1, h1, h2⟩ := bind_some h
  obtain ⟨e1, hs1⟩ := rdLoop_some h1
  have hl1 := ((Fr.rdLoop l).grows h1 hl).2
  obtain ⟨_, s2, h3, h4⟩ := bind_some h2
  obtain ⟨q3, rfl⟩ := guard_some h3
  obtain ⟨o, s3, h5, h6⟩ := bind_some h4
  obtain ⟨z', ho, hz, hN⟩ := loop_at hR hV e1
  have hR2 : Rel c ρ V s2.hp w := by rw [hs1.hp]; exact hR
  have hf2 : Free V s2.nx s'.nx := by rw [hs1.nx]; exact hf
  have hpar : (⟨args'⟩ : Array Value).size = z'.params.size := by
    rw [hz.params]
    simp only [beq_iff_eq] at q3
    simp [ha.1, q3]
  let T' : Array Value := (z'.params.zip ⟨args'⟩).foldl (fun tmps (x : Nat × Value) => tmps.setIfInBounds x.1 x.2) z'.tmps
  have hyield : (Instr.yield (ρ l).r ⟨args'⟩).run c.P w = .ok (.round (ρ l).r z'.fn T' z'.assign z'.body) w := by
    simp only [Instr.yield, Sem.run_bind, getLoop_run ho, Result.andThen_ok]
    rw [if_neg (by simp [hpar])]
    rfl
  have hTt : T' = (z.params.toList.zip args').foldl (fun tmps x => tmps.setIfInBounds x.1 x.2) z'.tmps := by
    simp only [T']
    rw [hz.params, ← Array.foldl_toList]
    simp
  have hA0 : AR ρ V (startA z.tmps.toList.length z.tmps.toList) { tmps := z'.tmps, defers := [] } := by
    have := start_ar (m := z.tmps.toList.length) hz.tmps (Nat.le_refl _)
    have e : (⟨z'.tmps.toList⟩ : Array Value) ++ Array.replicate (z.tmps.toList.length - (⟨z'.tmps.toList⟩ : Array Value).size) undef = z'.tmps := by
      have h1 := hz.tmps.1
      simp only [Array.length_toList] at h1
      simp [h1]
    rw [e] at this
    exact this
  have hA1 : AR ρ V (withParams (startA z.tmps.toList.length z.tmps.toList) (z.params.toList.zip args)) { tmps := T', defers := [] } := by
    rw [hTt]
    exact with_ar _ _ (zip_pr _ ha) hA0
  let b : Frame := { (default : Frame) with fn := z'.fn, kind := .normal, roundOf := some (ρ l).r }
  have hb0 : Frame.round (ρ l).r z'.fn T' z'.assign z'.body .normal = b.atR { tmps := T', defers := [] } [.code z'.assign, .beginRound, .code z'.body] := by
    simp [Frame.round, Frame.atR, b]
  obtain ⟨g1, g2⟩ := (Fr.run c.P c.ext n _).grows h5 hl1
  have g3 : s3.nx ≤ s'.nx := ((Fr.roundBody (fun t => Fr.run c.P c.ext n t) l z.body z.fn o).grows h6 g2).1
  obtain ⟨e, a1, ρ1, w1, A1, rfl, m1, m2, m3⟩ := ih.code (b := b) (k := [.beginRound, .code z'.body]) (cs := cf :: cs) h5 hz.oka hl1 hR2 (hf2.left g3) hA1 ⟨hz.fn, ⟨hV, rfl⟩, .inl rfl⟩
  rw [hz.assign.symm] at m3
  rw [← hb0] at m3
  cases e with
  | exit i => exact (fail_some (s := s3) h6).elim
  | goto t => exact (fail_some (s := s3) h6).elim
  | ret => exact (fail_some (s := s3) h6).elim
  | normal =>
    simp only [roundBody] at h6
    obtain ⟨y, s4, h7, h8⟩ := bind_some h6
    obtain ⟨e7, hs7⟩ := rdLoop_some h7
    have hl7 := (Fr.rdLoop l).grows h7 g2
    obtain ⟨_, s5, h9, h10⟩ := bind_some h8
    obtain ⟨q9, rfl⟩ := guard_some h9
    obtain ⟨_, s6, h11, h12⟩ := bind_some h10
    obtain ⟨x1, x2, x3⟩ := wr_some h11
    have hl11 := (Fr.wr l (.loop { y with state := .busy })).grows h11 hl7.2
    obtain ⟨o2, s7, h13, h14⟩ := bind_some h12
    obtain ⟨y1, y2⟩ := (Fr.run c.P c.ext n _).grows h13 hl11.2
    have y3 : s7.nx ≤ s'.nx := ((Fr.roundEnd l o2).grows h14 y2).1
    have hVl : VU V s2.nx s3.nx l := .inl hV
    have hρl : ρ1 l = ρ l := m1.same l hV
    obtain ⟨y', yo, yz, yN⟩ := loop_at m1.rel hVl e7
    have hready : y'.state = .ready := by
      rw [yz.state]
      unfold isReady at q9
      split at q9
      · assumption
      · cases q9
    let w2 : World := { w1 with heap := w1.heap.setIfInBounds (ρ1 l).r (.loop { y' with state := .busy }) }
    have hbegin : (Instr.beginRound (ρ1 l).r).run c.P w1 = .ok () w2 := by
      simp only [Instr.beginRound, Sem.run_bind, getLoop_run yo, Result.andThen_ok, setLoop_run yo]
      rw [hready]
      rfl
    have hnx6 : s6.nx = s3.nx := by rw [x3, hs7.nx]
    have hR6 : Rel c ρ1 (VU V s2.nx s3.nx) s6.hp w2 := by
      rw [x2, hs7.hp]
      exact turn_loop m1.rel hVl e7 yo yN { yz with state := rfl }
    have hf6 : Free (VU V s2.nx s3.nx) s6.nx s'.nx := by rw [hnx6]; exact hf2.right g1
    obtain ⟨e2, a2, ρ2, w3, A2, rfl, n1, n2, n3⟩ := ih.code (b := b) (k := []) (cs := cf :: cs) (A' := A1) h13 hz.okb hl11.2 hR6 (hf6.left y3) m2 (FrOK.mono (ρ := ρ) (V := V) m1.same VU.sub ⟨hz.fn, ⟨hV, rfl⟩, .inl rfl⟩)
    rw [hz.body.symm] at n3
    have hst : Steps c.P (lone (Frame.round (ρ l).r z'.fn T' z'.assign z'.body .normal) (cf :: cs) w) (lone (b.atR A1 [.code z'.body]) (cf :: cs) w2) := by
      refine Steps.trans m3 (.one (stepR_beginRound (l := (ρ1 l).r) (by rw [hρl]) hbegin))
    have hV7 : VU V s2.nx s7.nx = VU (VU V s2.nx s3.nx) s6.nx s7.nx := by rw [hnx6]; exact (VU.trans V g1 (by rw [← hnx6]; exact y1)).symm
    have hM7 : Made c ρ V s2 s7 w3 ρ2 := ⟨m1.same.trans VU.sub n1.same, by rw [hV7]; exact n1.rel⟩
    have hVl2 : VU V s2.nx s7.nx l := .inl hV
    have hρ2 : ρ2 l = ρ l := hM7.same l hV
    have finish : ∀ (j : Option Code), okCodes j = true → roundJump l j s7 = some (out, s') → (∀ v w4, (Instr.endRound (ρ2 l).r j).run c.P w3 = .ok v w4 → Steps c.P (lone (Frame.round (ρ l).r z'.fn T' z'.assign z'.body .normal) (cf :: cs) w) (lone (cf.finish v) cs w4)) →
        ∃ v ρ' w' v' f tmps assign body, out = .ret v ∧ Made c ρ V s s' w' ρ' ∧ VR ρ' (VU V s.nx s'.nx) v v' ∧ (Instr.yield (ρ l).r ⟨args'⟩).run c.P w = .ok (.round (ρ l).r f tmps assign body) w ∧
          Steps c.P (lone (Frame.round (ρ l).r f tmps assign body .normal) (cf :: cs) w) (lone (cf.finish v') cs w') := by
      intro j hj h15 hgo
      obtain ⟨u, s8, h16, h17⟩ := bind_some h15
      obtain ⟨e16, hs16⟩ := rdLoop_some h16
      obtain ⟨_, s9, h18, h19⟩ := bind_some h17
      obtain ⟨z1, z2, z3⟩ := wr_some h18
      obtain ⟨rfl, rfl⟩ := pure_some h19
      obtain ⟨u', uo, uz, uN⟩ := loop_at hM7.rel hVl2 e16
      let u2 : Loop := { u' with state := if j.isNone then .ready else .done, pending := j }
      let w4 : World := { w3 with heap := w3.heap.setIfInBounds (ρ2 l).r (.loop u2) }
      have hend : (Instr.endRound (ρ2 l).r j).run c.P w3 = .ok (.bool j.isNone) w4 := by
        simp only [Instr.endRound, Sem.run_bind, getLoop_run uo, Result.andThen_ok, setLoop_run uo]
        rfl
      have hR9 : Rel c ρ2 (VU V s2.nx s7.nx) s'.hp w4 := by
        rw [z2, hs16.hp]
        refine turn_loop hM7.rel hVl2 e16 uo uN ?_
        refine { uz with state := ?_, pending := rfl, okp := hj }
        cases j <;> rfl
      have hnx9 : s'.nx = s7.nx := by rw [z3, hs16.nx]
      refine ⟨_, ρ2, w4, _, z'.fn, T', z'.assign, z'.body, rfl, ⟨hM7.same, ?_⟩, VR.bool j.isNone, hyield, hgo _ _ hend⟩
      rw [hnx9, ← hs1.nx]
      exact hR9
    have hround : b.roundOf = some (ρ2 l).r := by rw [hρ2]
    cases e2 with
    | normal => exact finish none rfl h14 fun v w4 hv => hst.trans (Steps.trans n3 (.one (stepR_round_end hround rfl hv)))
    | ret =>
      obtain ⟨k', q⟩ := n3
      exact finish (some .ret) rfl h14 fun v w4 hv => hst.trans (q.trans (.one (stepR_round_ret hround rfl hv)))
    | exit i =>
      obtain ⟨k', q1, q⟩ := n3
      exact finish (some (.exit i)) rfl h14 fun v w4 hv => hst.trans (q.trans (.one (stepR_round_exit hround rfl (by rw [q1]; rfl) hv)))
    | goto t =>
      obtain ⟨k', q1, q⟩ := n3
      exact finish (some (.goto t)) rfl h14 fun v w4 hv => hst.trans (q.trans (.one (stepR_round_goto hround rfl (by rw [q1]; rfl) hv)))
end
end Go.AM
