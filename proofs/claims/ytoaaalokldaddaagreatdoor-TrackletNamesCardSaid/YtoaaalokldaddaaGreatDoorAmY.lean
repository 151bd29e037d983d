import Derived.Test.YtoaaalokldaddaaGreatDoorAmX
set_option linter.unusedSimpArgs false
set_option linter.unusedVariables false
namespace Go.AM
open Go Go.RowKit

section
variable {c : Cx} {n : Nat} {ρ : Map} {V : Nat → Prop} {s s' : St} {w : World} {A' : Act} {b : Frame} {k : List Item} {cs : List Frame} {rf : Option Nat} {fn : FuncId} {a : A} {out : Out}

theorem callV_enter {P : Program} {ext : Ext} {f : Value} {args : List Value} {g : FuncId} {l : List Value} (h : callV P ext f args s = some (.enter g l, s')) : s' = s ∧ ∃ first captured fn body, f = .func (.func g) first captured ∧ l = (first.toList ++ args) ++ captured.toList ∧ P.funcs[g]? = some fn ∧ fn.body = some body := by
  unfold callV at h
  split at h
  · rename_i g0 first captured
    obtain ⟨fn, s1, h1, h2⟩ := bind_some h
    obtain ⟨q1, rfl⟩ := lift_some h1
    unfold enterF at h2
    cases q3 : fn.body with
    | none =>
      simp only [q3] at h2
      obtain ⟨v, s2, h3, h4⟩ := bind_some h2
      obtain ⟨h5, _⟩ := pure_some h4
      cases h5
    | some body =>
      simp only [q3] at h2
      obtain ⟨h5, rfl⟩ := pure_some h2
      cases h5
      exact ⟨rfl, first, captured, fn, body, rfl, rfl, q1, q3⟩
  · obtain ⟨h5, rfl⟩ := pure_some h
    cases h5
  · exact (fail_some (s := s) h).elim

theorem range_tmps (a : A) (h : AR ρ V a A') : LR ρ V (((List.range a.n).map a.get)) A'.tmps.toList := by
  refine ⟨by simp [h.size], fun i v v' hv hv' => ?_⟩
  have hi : i < a.n := by
    have := (List.getElem?_eq_some_iff.1 hv).1
    simpa using this
  have e1 : v = a.get i := by
    simp [List.getElem?_map, hi] at hv
    exact hv.symm
  have hi' : i < A'.tmps.size := by rw [h.size]; exact hi
  have e2 : v' = A'.tmps.getD i undef := by
    have : A'.tmps[i]? = some v' := by simpa using hv'
    rw [Array.getD_eq_getD_getElem?, this]; rfl
  rw [e1, e2]
  exact h.tm i

theorem range_sound' (hG : Good c) (ih : Snd c n) {f : Operand} {params : Array Tmp} {assign body : Code} (h : stRange c.P c.ext (run c.P c.ext n) f params assign body a rf fn s = some (out, s')) (hk : okC c.ng (.rangeFunc f params assign body) = true) (hl : s.lim ≤ s.nx)
    (hR : Rel c ρ V s.hp w) (hf : Free V s.nx s'.nx) (hA : AR ρ V a A') (hF : FrOK ρ V rf fn b cs) : CodeOK c ρ V s s' (lone (b.atR A' (.code (.rangeFunc f params assign body) :: k)) cs w) b k cs out := by
  simp only [okC, Bool.and_eq_true] at hk
  obtain ⟨⟨hkf, hka⟩, hkb⟩ := hk
  unfold stRange at h
  obtain ⟨ra, s1, h1, h2⟩ := bind_some h
  obtain ⟨l, s2, h3, h4⟩ := bind_some h2
  obtain ⟨r, s3, h5, h6⟩ := bind_some h4
  obtain ⟨x1, x2⟩ := (Fr.rangeDefs rf a).grows h1 hl
  obtain ⟨x3, x4⟩ := (Fr.new _).grows h3 x2
  cases r with
  | enter g args =>
    obtain ⟨rfl, first, captured, gfn, gbody, hfe, hargs, hgf, hgb⟩ := callV_enter h5
    simp only [rangeCall] at h6
    obtain ⟨o, s4, h7, h8⟩ := bind_some h6
    obtain ⟨x5, x6⟩ := (Fr.run c.P c.ext n _).grows h7 x4
    have x7 : s4.nx ≤ s'.nx := ((Fr.rangeEnd (fun t => Fr.run c.P c.ext n t) l ra.2 rf fn o).grows h8 x6).1
    obtain ⟨e1, e2, e3⟩ := new_some h3
    subst e1
    -- the mark and the record
    have key : ∃ (mark : List Deferred) (dm : Nat) (w0 : World) (ρ0 : Map), Made c ρ V s s1 w0 ρ0 ∧ VU V s.nx s1.nx ra.1 ∧ dm = (ρ0 ra.1).r ∧ DR ρ0 (VU V s.nx s1.nx) ra.2.df (mark ++ A'.defers) ∧ ra.2.n = a.n ∧ (∀ t, ra.2.get t = a.get t) ∧
        (Instr.enterLoop b.fn A'.tmps params assign body b.roundOf).run c.P w = .ok (w0.heap.size, mark) (w0.alloc (.loop { state := .ready, pending := none, fn := b.fn, tmps := A'.tmps, params, assign, body, defers := dm })) := by
      have hro := hF.round
      cases rf with
      | none =>
        cases hb : b.roundOf with
        | some l => rw [hb] at hro; exact hro.elim
        | none =>
        simp only [rangeDefs] at h1
        obtain ⟨q, s5, h9, h10⟩ := bind_some h1
        obtain ⟨rfl, rfl⟩ := pure_some h10
        obtain ⟨rfl, y2, y3⟩ := new_some h9
        have hn : ¬ V s.nx := hf s.nx (Nat.le_refl _) (by omega)
        have hR1 := Rel.new hR s.nx hn ⟨w.heap.size, 0, 0⟩ rfl .defs (.deferred (some [])) (fun ρ' hs hp => .defs hR.below.size)
        have hsame : SameOn V ρ (fun b => if b = s.nx then (⟨w.heap.size, 0, 0⟩ : Pl) else ρ b) := fun x hx => by
          show (if x = s.nx then (⟨w.heap.size, 0, 0⟩ : Pl) else ρ x) = ρ x
          rw [if_neg]
          rintro rfl
          exact hn hx
        have hdr := hA.df.mono hsame (VU.sub (n := s.nx) (m := s.nx + 1))
        refine ⟨[{ target := .collected w.heap.size, args := #[] }], w.heap.size, w.alloc (.deferred (some [])), _, ⟨hsame, by rw [y3, y2]; exact hR1⟩, .inr ⟨Nat.le_refl _, by rw [y3]; simp⟩, by simp, ?_, rfl, fun t => rfl, ?_⟩
        · rw [y3]
          refine ⟨?_, hdr⟩
          have := DR1.coll (ρ := fun b => if b = s.nx then (⟨w.heap.size, 0, 0⟩ : Pl) else ρ b) (V := VU V s.nx (s.nx + 1)) s.nx (.inr ⟨Nat.le_refl _, by simp⟩)
          simp only [if_true] at this
          exact this
        · simp [Instr.enterLoop, Sem.run_bind]
      | some l0 =>
        cases hb : b.roundOf with
        | none => rw [hb] at hro; exact hro.elim
        | some l1 =>
        rw [hb] at hro
        obtain ⟨hV0, rfl⟩ := hro
        simp only [rangeDefs] at h1
        obtain ⟨z, s5, h9, h10⟩ := bind_some h1
        obtain ⟨rfl, rfl⟩ := pure_some h10
        obtain ⟨e9, hs9⟩ := rdLoop_some h9
        obtain ⟨z', zo, zz, zN⟩ := loop_at hR hV0 e9
        refine ⟨[], z'.defers, w, ρ, Made.of_same hR hs9, .inl zz.defers.1, zz.defers.2, ?_, rfl, fun t => rfl, ?_⟩
        · rw [hs9.nx, VU.self]; exact hA.df
        · simp [Instr.enterLoop, Sem.run_bind, getLoop_run zo]
    obtain ⟨mark, dm, w0, ρ0, M0, hVd, hdm, hDR, hn2, hget2, henter⟩ := key
    have hA0 : AR ρ0 (VU V s.nx s1.nx) ra.2 { A' with defers := mark ++ A'.defers } := by
      have h := hA.mono M0.same (VU.sub (n := s.nx) (m := s1.nx))
      exact ⟨by rw [hn2]; exact h.size, fun t => by rw [hget2]; exact h.tm t, hDR⟩
    have hfr1 : ¬ VU V s.nx s1.nx s1.nx := (hf.right x1 (V := V)) s1.nx (Nat.le_refl _) (by omega)
    have hLz : ∀ ρ', SameOn (VU V s.nx s1.nx) ρ0 ρ' → LoopR ρ' (VU (VU V s.nx s1.nx) s1.nx (s1.nx + 1)) c.ng { state := .ready, pending := none, fn := fn, tmps := ⟨(List.range a.n).map a.get⟩, params, assign, body, defers := ra.1 } { state := .ready, pending := none, fn := b.fn, tmps := A'.tmps, params, assign, body, defers := dm } := by
      intro ρ' hs
      refine ⟨rfl, rfl, hF.fn, rfl, rfl, rfl, ?_, ⟨VU.sub _ hVd, by rw [hs _ hVd]; exact hdm⟩, hka, hkb, rfl⟩
      exact (range_tmps a hA).mono (M0.same.trans VU.sub hs) fun x hx => VU.sub _ (VU.sub _ hx)
    have hR2 := Rel.new M0.rel s1.nx hfr1 ⟨w0.heap.size, 0, 0⟩ rfl _ (.loop { state := .ready, pending := none, fn := b.fn, tmps := A'.tmps, params, assign, body, defers := dm }) (fun ρ' hs hp => .loop _ _ M0.rel.below.size (hLz ρ' hs))
    have hsame2 : SameOn (VU V s.nx s1.nx) ρ0 (fun b => if b = s1.nx then (⟨w0.heap.size, 0, 0⟩ : Pl) else ρ0 b) := fun x hx => by
      show (if x = s1.nx then (⟨w0.heap.size, 0, 0⟩ : Pl) else ρ0 x) = ρ0 x
      rw [if_neg]
      rintro rfl
      exact hfr1 hx
    have M1 : Made c ρ V s s3 (w0.alloc (.loop { state := .ready, pending := none, fn := b.fn, tmps := A'.tmps, params, assign, body, defers := dm })) (fun b => if b = s1.nx then (⟨w0.heap.size, 0, 0⟩ : Pl) else ρ0 b) := by
      refine ⟨M0.same.trans VU.sub hsame2, ?_⟩
      rw [e2, e3, ← VU.trans V x1 (Nat.le_succ _)]
      exact hR2
    generalize hρ1 : (fun b => if b = s1.nx then (⟨w0.heap.size, 0, 0⟩ : Pl) else ρ0 b) = ρ1 at M1 hsame2
    have hρl : (ρ1 s1.nx).r = w0.heap.size := by rw [← hρ1]; simp
    have hVl : VU V s.nx s3.nx s1.nx := .inr ⟨x1, by rw [e3]; simp⟩
    have hVU2 : VU V s.nx s3.nx = VU (VU V s.nx s1.nx) s1.nx s3.nx := (VU.trans V x1 (by rw [e3]; simp)).symm
    have hA1 : AR ρ1 (VU V s.nx s3.nx) ra.2 { A' with defers := mark ++ A'.defers } := by
      rw [hVU2]
      exact hA0.mono hsame2 VU.sub
    have hx13 : s.nx ≤ s3.nx := Nat.le_trans x1 (by rw [e3]; simp)
    -- the call
    have hev : VR ρ1 (VU V s.nx s3.nx) (a.eval f) (A'.eval f) := (eval_sound hR hA hkf).mono M1.same VU.sub
    rw [hfe] at hev
    obtain ⟨f', c', hfe', hf1, hc1⟩ := func_inv hev
    have hyv : VR ρ1 (VU V s.nx s3.nx) (.func (.yield s1.nx) #[] #[]) (.func (.yield w0.heap.size) #[] #[]) := by
      have := VR.yield (ρ := ρ1) (V := VU V s.nx s3.nx) s1.nx hVl
      rw [hρl] at this
      exact this
    have hall : LR ρ1 (VU V s.nx s3.nx) args ((f' ++ [.func (.yield w0.heap.size) #[] #[]]) ++ c') := by
      rw [hargs]
      exact (hf1.append (LR.cons hyv LR.nil)).append hc1
    generalize hwl : w0.alloc (.loop { state := .ready, pending := none, fn := b.fn, tmps := A'.tmps, params, assign, body, defers := dm }) = wl at M1 henter
    have hres : (resolve A'.eval (Go.rangeCall f w0.heap.size) 0).run c.P wl = .ok { target := .fn (.func g) ⟨c'⟩, args := (⟨f'⟩ : Array Value) ++ #[.func (.yield w0.heap.size) #[] #[]] } wl := by
      have hcst : A'.eval (.const (.func (.yield w0.heap.size) #[] #[])) = .func (.yield w0.heap.size) #[] #[] := rfl
      simp [resolve, hfe', Deferred.ofValue, hcst]
    have hinv : (invoke (.fn (.func g) ⟨c'⟩) ((⟨f'⟩ : Array Value) ++ #[.func (.yield w0.heap.size) #[] #[]])).run c.P wl = .ok (.enter g ⟨(f' ++ [.func (.yield w0.heap.size) #[] #[]]) ++ c'⟩) wl := by
      have e : ((⟨f'⟩ : Array Value) ++ #[.func (.yield w0.heap.size) #[] #[]]) ++ (⟨c'⟩ : Array Value) = ⟨(f' ++ [.func (.yield w0.heap.size) #[] #[]]) ++ c'⟩ := by simp
      simp only [invoke]
      rw [e]
      exact callFunc_enter hgf hgb (hG.names _ _ hgf) wl
    have hstep := stepR_rangeFunc (P := c.P) (b := b) (a := A') (k := k) (cs := cs) henter hres hinv
    obtain ⟨v, ρ2, w2, v', fr, rfl, m1, m2, m3, m4⟩ := ih.call (kind := .normal) (cs := b.atR { A' with defers := mark ++ A'.defers } (.inRangeFunc w0.heap.size :: k) :: cs) h7 x4 M1.rel ((hf.right hx13).left x7) hall (.inl rfl)
    have hback := left_returned (cf := b.atR { A' with defers := mark ++ A'.defers } (.inRangeFunc w0.heap.size :: k)) (cs := cs) m4
    rw [finish_atR_inRangeFunc] at hback
    have M2 : Made c ρ V s s4 w2 ρ2 := M1.trans hx13 x5 m1
    have hVU4 : VU V s.nx s4.nx = VU (VU V s.nx s3.nx) s3.nx s4.nx := (VU.trans V hx13 x5).symm
    have hA2 : AR ρ2 (VU V s.nx s4.nx) ra.2 { A' with defers := mark ++ A'.defers } := by
      rw [hVU4]
      exact hA1.mono m1.same VU.sub
    have hVl4 : VU V s.nx s4.nx s1.nx := by rw [hVU4]; exact .inl hVl
    have hρl4 : (ρ2 s1.nx).r = w0.heap.size := by rw [m1.same _ hVl, hρl]
    have hF4 : FrOK ρ2 (VU V s.nx s4.nx) rf fn b cs := hF.mono M2.same VU.sub
    have hgo : Steps c.P (lone (b.atR A' (.code (.rangeFunc f params assign body) :: k)) cs w) (lone (b.atR { A' with defers := mark ++ A'.defers } (.endRangeFunc w0.heap.size :: k)) cs w2) := .head hstep (m3.trans (.one hback))
    -- the end
    simp only [rangeEnd] at h8
    obtain ⟨u, s5, h16, h17⟩ := bind_some h8
    obtain ⟨e16, hs16⟩ := rdLoop_some h16
    have y16 := (Fr.rdLoop s1.nx).grows h16 x6
    obtain ⟨_, s6, h18, h19⟩ := bind_some h17
    obtain ⟨q18, rfl⟩ := guard_some h18
    obtain ⟨_, s7, h20, h21⟩ := bind_some h19
    obtain ⟨z1, z2, z3⟩ := wr_some h20
    have y20 := (Fr.wr s1.nx (.loop { u with state := .exhausted })).grows h20 y16.2
    obtain ⟨u', uo, uz, uN⟩ := loop_at M2.rel hVl4 e16
    let w3 : World := { w2 with heap := w2.heap.setIfInBounds (ρ2 s1.nx).r (.loop { u' with state := .exhausted }) }
    have hnb : (u'.state == .busy) = false := by
      rw [uz.state]
      cases hst : u.state <;> first | rfl | (rw [hst] at q18; cases q18)
    have hend : (Instr.endLoop (ρ2 s1.nx).r).run c.P w2 = .ok u'.pending w3 := by
      simp only [Instr.endLoop, Sem.run_bind, getLoop_run uo, Result.andThen_ok, hnb]
      rw [if_neg (by simp)]
      simp only [Sem.run_bind, setLoop_run uo, Result.andThen_ok]
      rfl
    have hR3 : Rel c ρ2 (VU V s.nx s4.nx) s7.hp w3 := by
      rw [z2, hs16.hp]
      exact turn_loop M2.rel hVl4 e16 uo uN { uz with state := rfl }
    have hnx7 : s7.nx = s4.nx := by rw [z3, hs16.nx]
    rw [hρl4] at hend
    have hes := stepR_endRangeFunc (P := c.P) (b := b) (a := { A' with defers := mark ++ A'.defers }) (k := k) (cs := cs) hend
    rw [uz.pending] at hes
    have M3 : Made c ρ V s s7 w3 ρ2 := ⟨M2.same, by rw [hnx7]; exact hR3⟩
    cases hp : u.pending with
    | none =>
      rw [hp] at h21 hes
      obtain ⟨rfl, rfl⟩ := pure_some h21
      exact code_normal M3 (by rw [hnx7]; exact hA2) (hgo.trans (.one hes))
    | some cd =>
      rw [hp] at h21 hes
      have hok : okC c.ng cd = true := by
        have := uz.okp
        rw [hp] at this
        cases cd <;> first | rfl | cases this
      have h22 : run c.P c.ext n (.code cd ra.2 rf fn) s7 = some (out, s') := h21
      have x8 := (Fr.run c.P c.ext n _).grows h22 y20.2
      have := ih.code (k := k) h22 hok y20.2 M3.rel (hf.right (Nat.le_trans (Nat.le_trans hx13 x5) (by rw [hnx7]; exact Nat.le_refl _))) (by rw [hnx7]; exact hA2) (by rw [hnx7]; exact hF4)
      exact CodeOK.of_steps (hgo.trans (.one hes)) (CodeOK.after (Nat.le_trans (Nat.le_trans hx13 x5) (by rw [hnx7]; exact Nat.le_refl _)) x8.1 M3 this)
  | _ => exact (fail_some (s := s3) h6).elim

/-! ### All together -/
theorem code_sound (hG : Good c) (ih : Snd c n) {cd : Code} (h : stCode c.P c.ext (run c.P c.ext n) cd a rf fn s = some (out, s')) (hk : okC c.ng cd = true) (hl : s.lim ≤ s.nx) (hR : Rel c ρ V s.hp w) (hf : Free V s.nx s'.nx) (hA : AR ρ V a A')
    (hF : FrOK ρ V rf fn b cs) : CodeOK c ρ V s s' (lone (b.atR A' (.code cd :: k)) cs w) b k cs out := by
  cases cd with
  | skip =>
    obtain ⟨rfl, rfl⟩ := pure_some h
    exact code_here hR hA (.one stepR_skip)
  | label l =>
    obtain ⟨rfl, rfl⟩ := pure_some h
    exact code_here hR hA (.one stepR_label)
  | ret =>
    obtain ⟨rfl, rfl⟩ := pure_some h
    exact code_here hR hA ⟨k, .refl _ _⟩
  | exit id =>
    obtain ⟨rfl, rfl⟩ := pure_some h
    exact code_here hR hA ⟨k, rfl, .refl _ _⟩
  | goto l =>
    obtain ⟨rfl, rfl⟩ := pure_some h
    exact code_here hR hA ⟨k, rfl, .refl _ _⟩
  | seq x y =>
    simp only [okC, Bool.and_eq_true] at hk
    exact CodeOK.of_steps (.one stepR_seq) (seq_sound ih h hk.1 hk.2 hl hR hf hA hF)
  | cond x y z =>
    simp only [okC, Bool.and_eq_true] at hk
    have hx := eval_sound hR hA hk.1.1
    have h' : stCond (run c.P c.ext n) (a.eval x) y z a rf fn s = some (out, s') := h
    unfold stCond at h'
    generalize hxe : a.eval x = xv at h' hx
    split at h'
    · rename_i t
      refine CodeOK.of_steps (.one (stepR_cond (bool_inv hx))) ?_
      refine ih.code h' ?_ hl hR hf hA hF
      cases t
      · exact hk.2
      · exact hk.1.2
    · exact (fail_some (s := s) h').elim
  | block id x => exact CodeOK.of_steps (.one stepR_block) (block_sound ih h hk hl hR hf hA hF)
  | loop x => exact loop_sound ih h hk hl hR hf hA hF
  | region id ops draw => exact region_sound ih hG h hk hl hR hf hA hF
  | rangeFunc f params assign body => exact range_sound' hG ih h hk hl hR hf hA hF
  | scope x => exact CodeOK.of_steps (.one stepR_scope) (ih.scope h hk hk hl hR hf hA hF)
  | refuse y => exact (fail_some (s := s) h).elim

/-- **THE ABSTRACT MACHINE IS SOUND.** -/
theorem Snd.all (hG : Good c) : ∀ n, Snd c n
  | 0 => ⟨fun h => (fail_some h).elim, fun h => (fail_some h).elim, fun h => (fail_some h).elim, fun h => (fail_some h).elim, fun h => (fail_some h).elim⟩
  | n + 1 => ⟨fun h => code_sound hG (Snd.all hG n) h, fun h => scope_sound (Snd.all hG n) h, fun h => call_sound hG (Snd.all hG n) h, fun h => round_sound hG (Snd.all hG n) h, fun h => leaves_sound hG (Snd.all hG n) h⟩
end
end Go.AM
