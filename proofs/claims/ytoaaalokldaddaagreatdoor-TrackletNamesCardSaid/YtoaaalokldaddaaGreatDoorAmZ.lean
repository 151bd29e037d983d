import Derived.Test.YtoaaalokldaddaaGreatDoorAmY
import Derived.ChangeSame
set_option linter.unusedSimpArgs false
set_option linter.unusedVariables false
namespace Go.AM
open Go Go.RowKit

section
variable {c : Cx}

/-- the tables that lie ready: what the abstract heap holds of the program's variables is what the world holds -/
def Ready (c : Cx) (hp : Hp Blk) (n : Nat) : Prop :=
  ∀ b k, b < n → hp.get b = some k → b < c.ng ∧ ∃ el es cs C el' fz, k = .cells el es false cs ∧ c.w0.heap[b]? = some (.cells C el' fz) ∧ cs.length ≤ C.size ∧ C.toList.take cs.length = cs ∧ cs.all (flat 0) = true

theorem Known.at {f : FuncId} {args : List Value} {v : Value} (h : Known c f args v) {w : World} (hw : Below c.w0.heap.size c.w0 w) : Known { c with w0 := w } f args v :=
  fun w2 kind cs h2 hk => h w2 kind cs (hw.trans (h2.mono hw.size)) hk
theorem Good.at (h : Good c) {w : World} (hw : Below c.w0.heap.size c.w0 w) : Good { c with w0 := w } :=
  ⟨h.names, h.codes, fun g l v hx => let ⟨a, b, d⟩ := h.ext g l v hx; ⟨a, b, fun fn hf => ⟨(d fn hf).1, fun hb => ((d fn hf).2 hb).at hw⟩⟩⟩

/-- where the abstract run of a closed call begins -/
noncomputable def start (hp : Hp Blk) (n : Nat) : St := { hp := hp, nx := n, lim := 0, rd := [], wr := [] }
/-- how the ids of the start stand for the machine's -/
noncomputable def startMap (w : World) (hp : Hp Blk) : Map := fun b => ⟨b, match w.heap[b]? with | some (.cells C _ _) => C.size | _ => 0, match hp.get b with | some (.cells _ es _ _) => es | _ => 0⟩
theorem start_rel {hp : Hp Blk} {w : World} (hw : Below c.w0.heap.size c.w0 w) (h : Ready c hp c.ng) : Rel { c with w0 := w } (startMap w hp) (fun b => b < c.ng) hp w := by
  refine ⟨fun g hg => ⟨hg, rfl⟩, fun b k hb hg hl => ?_, fun b1 k1 b2 k2 v1 v2 g1 g2 l1 l2 hr hN => ?_, Below.refl _ _⟩
  · obtain ⟨_, el, es, cs, C, el', fz, rfl, h1, h2, h3, h4⟩ := h b k hb hg
    have hlt : b < c.w0.heap.size := (Array.getElem?_eq_some_iff.1 h1).1
    have hwb : w.heap[b]? = some (.cells C el' fz) := by rw [hw.block b hlt]; exact h1
    refine ⟨_, hwb, ?_⟩
    refine .cells el es false cs C el' fz (fun h => by cases h) (by simp [startMap, hwb]) (by simp [startMap, hg]) h2 ?_ (fun h => by cases h) (fun _ => Nat.lt_of_lt_of_le hlt hw.size)
    rw [h3]
    simp only [List.all_eq_true] at h4
    exact LR.refl_of fun v hv => flat_vr 0 v (h4 v hv)
  · exact hr

/-- **FROM A RUN TO A CALL**: a closed call of flat arguments whose value is flat. -/
theorem known_of_run (hG : Good c) {n : Nat} {f : FuncId} {args : List Value} {v : Value} {hp : Hp Blk} {s' : St} (hr : Ready c hp c.ng) (ha : args.all (flat 0) = true) (hv : flat 2 v = true)
    (h : run c.P c.ext n (.call f args) (start hp c.ng) = some (.ret v, s')) : Known c f args v := by
  intro w kind cs hw hk
  have hR := start_rel hw hr
  have hfree : Free (fun b => b < c.ng) (start hp c.ng).nx s'.nx := fun b h1 h2 h3 => by
    have : c.ng ≤ b := h1
    omega
  have hargs : LR (startMap w hp) (fun b => b < c.ng) args args := by
    simp only [List.all_eq_true] at ha
    exact LR.refl_of fun v hv => flat_vr 0 v (ha v hv)
  obtain ⟨v1, ρ', w', v', fr, e1, m, hvr, hst, hleft⟩ := (Snd.all (hG.at hw) n).call (kind := kind) (cs := cs) h (Nat.zero_le _) hR hfree hargs hk
  cases e1
  rw [flat_eq 2 _ _ hv hvr] at hleft
  exact ⟨w', fr, m.rel.below, hst, hleft⟩

/-- a call that is known, as a contract -/
theorem Known.calls {f : FuncId} {args : List Value} {v : Value} (h : Known c f args v) {w : World} (hw : Below c.w0.heap.size c.w0 w) : Calls c.P f ⟨args⟩ w fun e w' => e = .returned v ∧ Below w.heap.size w w' := by
  intro cs
  obtain ⟨w', fr, h1, h2, h3⟩ := h w .normal cs hw (.inl rfl)
  obtain ⟨fn, h4, h5⟩ := h3.res
  exact ⟨.returned v, w', fr, ⟨rfl, h1⟩, h2, h3.fn, h3.mode, h3.defers, h3.kind, fn, by rw [h3.fn]; exact h4, h5⟩
end
end Go.AM
namespace Go.ChangeShapes
open Go.WideShapes Go.RowKit
/-- what was there at the call reads behind it as before -/
theorem post_of_below {H : Type} {enc : TypeId × Value → H} {P : Program} {f : Func} {s : ChangeSpec} {apart fresh handsOn again : Bool} {W W' : World} {args : Array Value} {v : Value} {ds gs : List (DataW H)} {before pa pv : List MemPlace}
    (hW : DataW.Whole enc P f.params.toList s.vars apart W args.toList ds gs before)
    (hres : ∀ (b : Nat) (sp : Nat → Bool) (hd : Bool), DataW.TrodAll enc P W' b sp hd f.resultTypes.toList (v.resultList f.resultTypes.size) (s.fn H (ds ++ gs)).results [])
    (hargs : ∀ sp : Nat → Bool, (∀ p ∈ before, sp p.block = true) → DataW.TrodAll enc P W' 0 sp true f.params.toList args.toList (s.fn H (ds ++ gs)).args pa)
    (hvars : ∀ sp : Nat → Bool, (∀ p ∈ before, sp p.block = true) → DataW.TrodVars enc P W' sp s.vars (s.fn H (ds ++ gs)).vars pv)
    (hps : before = pa ++ pv) (hB : Below W.heap.size W W')
    (hok : ∀ (j : Nat) (t : TypeId) (r : Value), f.resultTypes[j]? = some t → (v.resultList f.resultTypes.size)[j]? = some r → Value.okWide P W' .any 0 t r) :
    s.post enc P f apart fresh handsOn again W args v W' := by
  have hlt : ∀ p ∈ before, p.block < W.heap.size := fun p hp => hW.lt p hp
  have hold : ∀ p ∈ before, (fun b => decide (b < W.heap.size)) p.block = true := fun p hp => by simpa using hW.lt p hp
  refine ⟨ds, gs, before, [], pa, pv, hW, hres _ _ _, hargs _ hold, hvars _ hold, World.keptBut_mono (fun p hp => ⟨hp, ?_⟩) (hB.frame (· ∈ before)), fun _ => ?_⟩
  · rw [hps, List.mem_append] at hp
    exact Or.inr hp
  · obtain ⟨_, _, _, _, _, hz, hn⟩ := hW
    refine ⟨hok, _, _, ([] ++ pa) ++ pv, ⟨[] ++ pa, pv, trodAll_append (hargs _ (fun _ _ => rfl)) (hres _ _ _), hvars _ (fun _ _ => rfl), rfl, ?_, ?_⟩, ?_⟩
    · intro b off hp
      have hp' : MemPlace.cell b off ∈ before := by rw [hps]; simpa using hp
      rw [hB.frozen (p := ⟨b, off, none⟩) (hlt _ hp')]
      exact hz b off hp'
    · intro ha
      have := hn ha
      rw [hps] at this
      simpa using this
    · intro p hp _
      rw [hps]
      simpa using hp
end Go.ChangeShapes
