import Derived.Test.YtoaaalokldaddaaGreatDoorAmT
set_option linter.unusedSimpArgs false
set_option linter.unusedVariables false
namespace Go.AM
open Go Go.RowKit

section
variable {c : Cx} {n : Nat} {rf : Option Nat} {ops : Array Oper} {a a' : A} {s s' : St} {fs : List Foot} {as : Nat → A} {ss : Nat → St} {vs : Nat → Value}
variable {ρ : Map} {V : Nat → Prop} {w : World}

/-- what is known when the operations of D are done -/
def VD (V : Nat → Prop) (ss : Nat → St) (N : Nat) (D : Nat → Prop) : Nat → Prop := fun b => V b ∨ ∃ i, i < N ∧ D i ∧ (ss i).nx ≤ b ∧ b < (ss (i + 1)).nx

structure DInv (c : Cx) (ops : Array Oper) (a : A) (fs : List Foot) (as : Nat → A) (ss : Nat → St) (ρ : Map) (V : Nat → Prop) (D : Nat → Prop) (ρ1 : Map) (w1 : World) (A1 : Act) (hp : Hp Blk) : Prop where
  low : ∀ i, D i → i < ops.size
  closed : ∀ i, D i → ∀ j, ordered (ordTab ops.toList []) j i = true → D j
  same : SameOn V ρ ρ1
  rel : Rel c ρ1 (VD V ss ops.size D) hp w1
  mem : ∀ b, Cur ops.size (fun i => (ss i).hp.get b) (fun i => wrBk fs i b) D (hp.get b)
  tmp : ∃ aD : A, aD.n = a.n ∧ aD.df = a.df ∧ AR ρ1 (VD V ss ops.size D) aD A1 ∧ ∀ t, Cur ops.size (fun i => (as i).get t) (fun i => wrT ops a.n i t) D (aD.get t)

variable (T : Trail c n rf ops.toList ops.toList a s fs a' s' as ss vs)
include T

/-- ONE MORE OPERATION, in whatever order. -/
theorem drawn_step (ih : Snd c n) (hG : Good c) (hap : apartOk (ordTab ops.toList []) fs = true) (hdr : okDraw (ordTab ops.toList []) ops.toList = true) (hk : ops.toList.all (okO c.ng) = true)
    (hf : Free V s.nx s'.nx) {fn : FuncId} {b : Frame} {cs : List Frame} (hF : FrOK ρ V rf fn b cs)
    {D : Nat → Prop} {ρ1 : Map} {w1 : World} {A1 : Act} {hp : Hp Blk} (I : DInv c ops a fs as ss ρ V D ρ1 w1 A1 hp) {i : Nat} (hi : i < ops.size) (hD : ¬ D i) (hready : ∀ j, ordered (ordTab ops.toList []) j i = true → D j)
    (rest : List Nat) (k : List Item) :
    ∃ ρ2 w2 A2 hp2, DInv c ops a fs as ss ρ V (fun j => D j ∨ j = i) ρ2 w2 A2 hp2 ∧ Steps c.P (lone (b.atR A1 (.inRegion ops (i :: rest) :: k)) cs w1) (lone (b.atR A2 (.inRegion ops rest :: k)) cs w2) := by
  obtain ⟨o, f, ho, hfi⟩ := T.both hi
  have ho' : ops[i]? = some o := by simpa using ho
  have Fi := T.foot ho hfi
  obtain ⟨aD, hn, hdf, hA, hT⟩ := I.tmp
  have later : ∀ j, ordered (ordTab ops.toList []) i j = true → ¬ D j := fun j hj hDj => hD (I.closed j hDj i hj)
  -- what it reads
  have readB : ∀ x, rdBk fs i x → hp.get x = (ss i).hp.get x := by
    intro x hx
    refine (I.mem x).read (T.keepB x) (Nat.le_of_lt hi) (fun j hj hw => ?_) (fun j hj hjN hw => ?_)
    · exact hready j (ordB1 T hap hj hi hw (.inl hx))
    · rcases Nat.lt_or_ge i j with h | h
      · exact later j (ordB2 T hap h hjN hx hw)
      · rw [Nat.le_antisymm h hj]; exact hD
  have readT : ∀ t, t ∈ usesT ops.toList o → aD.get t = (as i).get t := by
    intro t ht
    refine (hT t).read (T.keepT t) (Nat.le_of_lt hi) (fun j hj hw => ?_) (fun j hj hjN hw => ?_)
    · obtain ⟨oj, hoj, hd, _⟩ := hw
      exact hready j (ordT hdr hj (by simpa using hoj) ho (.inl ⟨hd, ht⟩))
    · rcases Nat.lt_or_ge i j with h | h
      · obtain ⟨oj, hoj, hd, _⟩ := hw
        exact later j (ordT hdr h ho (by simpa using hoj) (.inr ⟨hd, ht⟩))
      · rw [Nat.le_antisymm h hj]; exact hD
  have hwant : wantedA ops.toList o aD = wantedA ops.toList o (as i) := by
    unfold wantedA
    cases hg : o.guard with
    | none => rfl
    | some g =>
      obtain ⟨j, want⟩ := g
      simp only
      congr 1
      unfold yieldedA
      cases hj : ops.toList[j]? with
      | none => rfl
      | some oj =>
        simp only [Option.bind_some]
        cases hd : oj.dst with
        | none => rfl
        | some d =>
          simp only [Option.bind_some]
          rw [hn, (T.an (i := i) (Nat.le_of_lt hi)).1, readT d (by simp only [usesT, hg]; rw [hj]; simp [hd])]
  have hwm := wanted_sound hA ops o
  have hclosed : ∀ j, (D j ∨ j = i) → ∀ q, ordered (ordTab ops.toList []) q j = true → D q ∨ q = i := by
    rintro j (hj | rfl) q hq
    · exact .inl (I.closed j hj q hq)
    · exact .inl (hready q hq)
  have hVD : VD V ss ops.size (fun j => D j ∨ j = i) = VU (VD V ss ops.size D) (ss i).nx (ss (i + 1)).nx := by
    funext x
    refine propext ⟨?_, ?_⟩
    · rintro (h | ⟨j, hj, hDj | rfl, h⟩)
      · exact .inl (.inl h)
      · exact .inl (.inr ⟨j, hj, hDj, h⟩)
      · exact .inr h
    · rintro ((h | ⟨j, hj, hDj, h⟩) | h)
      · exact .inl h
      · exact .inr ⟨j, hj, .inl hDj, h⟩
      · exact .inr ⟨i, hi, .inr rfl, h⟩
  have hput : ∀ v, (∀ t, wrT ops a.n i t → (as (i + 1)).get t = v) → ∀ t, Cur ops.size (fun j => (as j).get t) (fun j => wrT ops a.n j t) (fun j => D j ∨ j = i) ((aD.put o.dst v).get t) := by
    intro v hv t
    rw [A.put_get]
    by_cases hw : o.dst = some t ∧ t < aD.n
    · rw [if_pos hw]
      have hwt : wrT ops a.n i t := ⟨o, ho', hw.1, by rw [← hn]; exact hw.2⟩
      rw [← hv t hwt]
      refine Cur.write (val := fun j => (as j).get t) hi hwt fun j hij hjN hwj => ?_
      obtain ⟨oj, hoj, hd, _⟩ := hwj
      exact later j (ordT hdr hij ho (by simpa using hoj) (.inl ⟨hw.1, by simp [usesT, hd]⟩))
    · rw [if_neg hw]
      refine (hT t).skip fun hwt => hw ?_
      obtain ⟨o', ho2, hd, hlt⟩ := hwt
      rw [ho'] at ho2
      obtain rfl := Option.some.inj ho2
      exact ⟨hd, by rw [hn]; exact hlt⟩
  have hval : ∀ t, wrT ops a.n i t → (as (i + 1)).get t = vs i := by
    rintro t ⟨o', ho2, hd, hlt⟩
    rw [ho'] at ho2
    obtain rfl := Option.some.inj ho2
    rw [T.put i o ho, A.put_get, if_pos ⟨hd, by rw [(T.an (i := i) (Nat.le_of_lt hi)).1]; exact hlt⟩]
  have hF1 : FrOK ρ1 (VD V ss ops.size D) rf fn b cs := hF.mono I.same fun _ h => .inl h
  rcases T.won i o f ho hfi with ⟨hwA, t, e, rfl, e1, e2⟩ | ⟨hwA, hv, rfl, e1, e2⟩
  · -- it runs
    have hag : Agree (fresh (ss i)) { hp := hp, nx := (ss i).nx, lim := (ss i).nx, rd := [], wr := [] } t.rd := by
      refine ⟨rfl, rfl, rfl, rfl, fun x hx hlt => ?_⟩
      rcases hx with hx | hx
      · exact readB x ⟨_, hfi, hx⟩
      · simp only [fresh] at hx hlt; omega
    obtain ⟨t', h1, h2⟩ := (Fr.opV c.P c.ext (fun t => Fr.run c.P c.ext n t) rf o (as i).eval (fresh (ss i)) _ t e (Nat.le_refl _)).2 _ t.rd hag (fun x hx => hx)
    have hev : opV c.P c.ext (run c.P c.ext n) rf o aD.eval = opV c.P c.ext (run c.P c.ext n) rf o (as i).eval := by
      unfold opV
      rw [opM_congr fun x hx => eval_congr fun u hu => readT u (by subst hu; simp [usesT, mem_tmpsOf]; exact .inr (.inl (by simpa using hx)))]
    rw [← hev] at h1
    have hnx : t'.nx = (ss (i + 1)).nx := by rw [h2.nx, e2]
    have hfree : Free (VD V ss ops.size D) (ss i).nx t'.nx := by
      rw [hnx]
      rintro x hx1 hx2 (hx3 | ⟨j, hj, hDj, hx3, hx4⟩)
      · have g1 := T.nx (Nat.zero_le i) (Nat.le_of_lt hi)
        have g2 := T.nx (i := i + 1) (j := ops.size) hi (Nat.le_refl _)
        rw [T.s0] at g1
        have g3 : (ss ops.size).nx = s'.nx := by have := T.s1; simp only [Array.length_toList] at this; rw [this]
        exact hf x (by omega) (by omega) hx3
      · rcases Nat.lt_trichotomy j i with h | h | h
        · have := T.nx (i := j + 1) (j := i) h (Nat.le_of_lt hi); omega
        · exact hD (h ▸ hDj)
        · have := T.nx (i := i + 1) (j := j) h (Nat.le_of_lt hj); omega
    have hko : okO c.ng o = true := by
      simp only [List.all_eq_true] at hk
      exact hk o (List.mem_of_getElem? ho)
    obtain ⟨ρ2, w2, v', m1, m2, m3⟩ := opV_sound (rest := rest) (k := k) ih hG h1 (Nat.le_refl _) I.rel hfree hA hko hF1 ho' (by rw [← hwm, hwant]; exact hwA)
    have hmv := (Fr.opV c.P c.ext (fun t => Fr.run c.P c.ext n t) rf o aD.eval _ _ t' h1 (Nat.le_refl _)).1
    have hVU : VU (VD V ss ops.size D) (ss i).nx t'.nx = VD V ss ops.size (fun j => D j ∨ j = i) := by rw [hVD, hnx]
    refine ⟨ρ2, w2, A1.put o.dst v', t'.hp, ⟨?_, hclosed, I.same.trans (fun _ h => .inl h) m1.same, ?_, ?_, aD.put o.dst (vs i), ?_, ?_, ?_, hput _ hval⟩, m3⟩
    · rintro j (hj | rfl)
      · exact I.low j hj
      · exact hi
    · have := m1.rel
      simp only at this
      rw [hVU] at this
      exact this
    · intro x
      by_cases hw : wrBk fs i x
      · have hx : t'.hp.get x = (ss (i + 1)).hp.get x := by
          rw [e1]
          obtain ⟨g, hg, hx⟩ := hw
          rw [hfi] at hg
          obtain rfl := Option.some.inj hg
          rcases hx with hx | hx
          · have hr := Fi.sub x hx
            have hlt := Fi.old x hr
            have hnn := Fi.nx
            rw [e2] at hnn
            exact h2.hp x (.inl hr) (by omega)
          · simp only at hx
            refine h2.hp x (.inr ?_) hx.2
            have hlim := (Fr.opV c.P c.ext (fun t => Fr.run c.P c.ext n t) rf o (as i).eval (fresh (ss i)) _ t e (Nat.le_refl _)).1.lim
            rw [hlim]
            exact hx.1
        rw [hx]
        exact Cur.write (val := fun j => (ss j).hp.get x) hi hw fun j hij hjN hwj => later j (ordB1 T hap hij hjN hw (.inr hwj))
      · have hx : t'.hp.get x = hp.get x := by
          have hnw : x ∉ t.wr := fun h => hw ⟨_, hfi, .inl h⟩
          rcases Nat.lt_or_ge x (ss i).nx with h4 | h4
          · exact hmv.keep x (by rw [h2.wr]; exact hnw) h4
          · refine hmv.beyond x ?_
            rcases Nat.lt_or_ge x t'.nx with h5 | h5
            · exact absurd ⟨_, hfi, .inr ⟨h4, by rw [← h2.nx]; exact h5⟩⟩ hw
            · exact h5
        rw [hx]
        exact (I.mem x).skip hw
    · rw [A.put_n]; exact hn
    · rw [A.put_df]; exact hdf
    · rw [← hVU]
      have := (hA.mono m1.same VU.sub).put o.dst m2
      exact this
  · -- it is not wanted
    have hs : SameOn (VD V ss ops.size D) ρ1 ρ1 := SameOn.refl _ _
    have hVe : VD V ss ops.size (fun j => D j ∨ j = i) = VD V ss ops.size D := by rw [hVD, e2, VU.self]
    refine ⟨ρ1, w1, A1.put o.dst undef, hp, ⟨?_, hclosed, I.same, by rw [hVe]; exact I.rel, fun x => (I.mem x).skip ?_, aD.put o.dst (vs i), ?_, ?_, ?_, hput _ hval⟩, .one ?_⟩
    · rintro j (hj | rfl)
      · exact I.low j hj
      · exact hi
    · rintro ⟨g, hg, h⟩
      rw [hfi] at hg
      obtain rfl := Option.some.inj hg
      simp at h
    · rw [A.put_n]; exact hn
    · rw [A.put_df]; exact hdf
    · rw [hVe, hv]; exact hA.put o.dst VR.undef
    · have := stepR_op_skip (P := c.P) (b := b) (a := A1) (k := k) (cs := cs) (w := w1) (ops := ops) (i := i) (rest := rest) (by rw [ho']; simp only [Option.map_some, Option.getD_some]; rw [← hwm, hwant]; exact hwA)
      rw [ho'] at this
      exact this

omit T in
theorem count_set {L : Array Bool} {i : Nat} (hi : L[i]? = some false) : (L.setIfInBounds i true).toList.count true = L.toList.count true + 1 := by
  have h1 : i < L.toList.length := by simpa using (Array.getElem?_eq_some_iff.1 hi).1
  rw [Array.toList_setIfInBounds, List.count_set h1]
  have h2 : L.toList[i] = false := by
    have := (Array.getElem?_eq_some_iff.1 hi).2
    simpa using this
  simp [h2]

omit T in
theorem full_of_least {md : Region.Mode} (hE : ∀ (k : Nat) (o : Oper), ops.toList[k]? = some o → ∀ e, e ∈ o.after.toList → Region.binds md e = true → e.on < k) (L : Array Bool) (hL : L.size = ops.size) (hnil : Region.ready md ops L = []) : ∀ i, i < ops.size → L[i]? = some true := by
  intro i
  induction i using Nat.strongRecOn with
  | _ i ihi =>
    intro hi'
    apply Classical.byContradiction
    intro hne
    have h4 : L[i]? = some false := by
      have hiL : i < L.size := by omega
      rw [Array.getElem?_eq_getElem hiL] at hne ⊢
      cases hx : L[i] with
      | true => rw [hx] at hne; exact absurd rfl hne
      | false => rfl
    have ho' : ops[i]? = some ops[i] := Array.getElem?_eq_getElem hi'
    have hmem : i ∈ Region.ready md ops L := by
      simp only [Region.ready, List.mem_filter, List.mem_range, Bool.and_eq_true, Bool.not_eq_true']
      refine ⟨hi', by rw [Array.getD_eq_getD_getElem?, h4]; rfl, ?_⟩
      rw [ho']
      simp only [Option.map_some, Option.getD_some, Array.all_eq_true_iff_forall_mem]
      intro e he
      by_cases hb : Region.binds md e = true
      · have hlt := hE i ops[i] (by simp [hi']) e (by simpa using he) hb
        have := ihi e.on hlt (by omega)
        rw [Array.getD_eq_getD_getElem?, this]
        simp
      · simp [hb]
    rw [hnil] at hmem
    simp at hmem
omit T in
theorem full_of_order {md : Region.Mode} {σ : List Nat} (hσ : okOrder md ops.toList σ [] = true) (L : Array Bool) (hL : L.size = ops.size) (hnil : Region.ready md ops L = []) : ∀ i, i < ops.size → L[i]? = some true := by
  have go : ∀ (σ done : List Nat), okOrder md ops.toList σ done = true → (∀ i, i ∈ done → L[i]? = some true) → ∀ i, i < ops.size → L[i]? = some true := by
    intro σ
    induction σ with
    | nil =>
      intro done h hd i hi
      simp only [okOrder, List.all_eq_true, List.mem_range, decide_eq_true_eq] at h
      exact hd i (h i (by simpa using hi))
    | cons j σ ih =>
      intro done h hd
      simp only [okOrder, Bool.and_eq_true] at h
      refine ih (j :: done) h.2 fun i hi => ?_
      rcases List.mem_cons.1 hi with rfl | hi
      · apply Classical.byContradiction
        intro hne
        cases ho : ops.toList[i]? with
        | none => rw [ho] at h; cases h.1
        | some o =>
          rw [ho] at h
          have hlt : i < ops.size := by have := (List.getElem?_eq_some_iff.1 ho).1; simpa using this
          have ho' : ops[i]? = some o := by simpa using ho
          have h4 : L[i]? = some false := by
            have hiL : i < L.size := by omega
            rw [Array.getElem?_eq_getElem hiL] at hne ⊢
            cases hx : L[i] with
            | true => rw [hx] at hne; exact absurd rfl hne
            | false => rfl
          have hmem : i ∈ Region.ready md ops L := by
            simp only [Region.ready, List.mem_filter, List.mem_range, Bool.and_eq_true, Bool.not_eq_true']
            refine ⟨hlt, by rw [Array.getD_eq_getD_getElem?, h4]; rfl, ?_⟩
            rw [ho']
            simp only [Option.map_some, Option.getD_some, Array.all_eq_true_iff_forall_mem]
            intro e he
            have h5 := h.1
            simp only [List.all_eq_true, Bool.or_eq_true, Bool.not_eq_true', decide_eq_true_eq] at h5
            rcases h5 e (by simpa using he) with hb | hb
            · simp [hb]
            · rw [Array.getD_eq_getD_getElem?, hd e.on hb]
              simp
          rw [hnil] at hmem
          simp at hmem
      · exact hd i hi
  exact go σ [] hσ fun i h => by simp at h
/-- ALL OF THEM, in the order that is drawn. -/
theorem drawn_go (ih : Snd c n) (hG : Good c) (hap : apartOk (ordTab ops.toList []) fs = true) (hdr : okDraw (ordTab ops.toList []) ops.toList = true) (hed : okEdges ops.toList = true) (md : Region.Mode) (hmd : ∀ e, Region.binds .any e = true → Region.binds md e = true) (hfull : ∀ L : Array Bool, L.size = ops.size → Region.ready md ops L = [] → ∀ i, i < ops.size → L[i]? = some true) (hk : ops.toList.all (okO c.ng) = true)
    (hf : Free V s.nx s'.nx) {fn : FuncId} {b : Frame} {cs : List Frame} (hF : FrOK ρ V rf fn b cs) (k : List Item) :
    ∀ (fuel t : Nat) (L : Array Bool) (ρ1 : Map) (w1 : World) (A1 : Act) (hp : Hp Blk), L.size = ops.size → L.toList.count true + fuel = ops.size → DInv c ops a fs as ss ρ V (fun i => L[i]? = some true) ρ1 w1 A1 hp →
    ∃ ρ2 w2 A2, Made c ρ V s s' w2 ρ2 ∧ AR ρ2 (VU V s.nx s'.nx) a' A2 ∧
      Steps c.P (lone (b.atR A1 (.inRegion ops (Region.linearise.go md ops fuel t L []) :: k)) cs w1) (lone (b.atR A2 (.inRegion ops [] :: k)) cs w2) := by
  have hgs : (ss ops.size) = s' := by have := T.s1; simpa using this
  have hga : (as ops.size) = a' := by have := T.a1; simpa using this
  have finish : ∀ (L : Array Bool) (ρ1 : Map) (w1 : World) (A1 : Act) (hp : Hp Blk), (∀ i, i < ops.size → L[i]? = some true) → DInv c ops a fs as ss ρ V (fun i => L[i]? = some true) ρ1 w1 A1 hp → Made c ρ V s s' w1 ρ1 ∧ AR ρ1 (VU V s.nx s'.nx) a' A1 := by
    intro L ρ1 w1 A1 hp hall I
    have hV : VU V s.nx s'.nx = VD V ss ops.size (fun i => L[i]? = some true) := by
      funext x
      refine propext ⟨?_, ?_⟩
      · rintro (h | ⟨h1, h2⟩)
        · exact .inl h
        · right
          have : ∀ m, m ≤ ops.size → x < (ss m).nx → ∃ i, i < ops.size ∧ L[i]? = some true ∧ (ss i).nx ≤ x ∧ x < (ss (i + 1)).nx := by
            intro m
            induction m with
            | zero => intro _ hx; rw [T.s0] at hx; omega
            | succ m ihm =>
              intro hm hx
              rcases Nat.lt_or_ge x (ss m).nx with h3 | h3
              · exact ihm (by omega) h3
              · exact ⟨m, by omega, hall m (by omega), h3, hx⟩
          exact this ops.size (Nat.le_refl _) (by rw [hgs]; exact h2)
      · rintro (h | ⟨i, hi, _, h1, h2⟩)
        · exact .inl h
        · right
          have g1 := T.nx (Nat.zero_le i) (Nat.le_of_lt hi)
          have g2 := T.nx (i := i + 1) (j := ops.size) hi (Nat.le_refl _)
          rw [T.s0] at g1
          rw [hgs] at g2
          omega
    have hget : ∀ x, hp.get x = s'.hp.get x := fun x => by
      have := (I.mem x).all (T.keepB x) hall
      simp only [hgs] at this
      exact this
    obtain ⟨aD, hn, hdf, hA, hT⟩ := I.tmp
    refine ⟨⟨I.same, I.rel.congr hV fun x => (hget x).symm⟩, hA.congr hV ?_ (fun t => ?_) ?_⟩
    · rw [hn, ← hga]; exact (T.an (Nat.le_refl _)).1
    · have := (hT t).all (T.keepT t) hall
      simp only [hga] at this
      exact this.symm
    · rw [hdf, ← hga]; exact (T.an (Nat.le_refl _)).2
  intro fuel
  induction fuel with
  | zero =>
    intro t L ρ1 w1 A1 hp hL hc I
    have hall : ∀ i, i < ops.size → L[i]? = some true := by
      intro i hi
      have h1 : L.toList.count true = L.toList.length := by rw [Array.length_toList]; omega
      have h2 := List.count_eq_length.1 h1
      have hi' : i < L.size := by omega
      rw [Array.getElem?_eq_getElem hi']
      congr 1
      exact (h2 L[i] (by simp)).symm
    obtain ⟨m1, m2⟩ := finish L ρ1 w1 A1 hp hall I
    exact ⟨ρ1, w1, A1, m1, m2, .refl _ _⟩
  | succ fuel ihf =>
    intro t L ρ1 w1 A1 hp hL hc I
    have hready : ∀ i, i ∈ Region.ready md ops L → i < ops.size ∧ L[i]? = some false ∧ ∀ j, ordered (ordTab ops.toList []) j i = true → L[j]? = some true := by
      intro i hi
      simp only [Region.ready, List.mem_filter, List.mem_range, Bool.and_eq_true, Bool.not_eq_true'] at hi
      obtain ⟨h1, h2, h3⟩ := hi
      have h4 : L[i]? = some false := by
        have hi' : i < L.size := by omega
        rw [Array.getD_eq_getD_getElem?, Array.getElem?_eq_getElem hi'] at h2
        rw [Array.getElem?_eq_getElem hi']
        simpa using h2
      refine ⟨h1, h4, fun j hj => ?_⟩
      obtain ⟨o, f, ho, _⟩ := T.both h1
      have ho' : ops[i]? = some o := by simpa using ho
      rw [ho'] at h3
      simp only [Option.map_some, Option.getD_some, Array.all_eq_true_iff_forall_mem] at h3
      obtain ⟨e, he, hb, hx⟩ := (ordered_edge hed ho).1 hj
      have h5 := h3 e (by simpa using he)
      simp only [hmd e hb, Bool.not_true, Bool.false_or] at h5
      have h6 : L[e.on]? = some true := by
        rw [Array.getD_eq_getD_getElem?] at h5
        cases hq : L[e.on]? with
        | none => rw [hq] at h5; cases h5
        | some q => rw [hq] at h5; simpa using h5
      rcases hx with rfl | hx
      · exact h6
      · exact I.closed e.on h6 j hx
    simp only [Region.linearise.go]
    change ∃ ρ2 w2 A2, _ ∧ _ ∧ Steps c.P (lone (b.atR A1 (.inRegion ops (match (Region.ready md ops L)[t % (Region.ready md ops L).length]? with
      | some i => Region.linearise.go md ops fuel (t / (Region.ready md ops L).length) (L.setIfInBounds i true) [i]
      | none => [].reverse) :: k)) cs w1) _
    cases hi : (Region.ready md ops L)[t % (Region.ready md ops L).length]? with
    | none =>
      have hnil : Region.ready md ops L = [] := by
        cases hr : Region.ready md ops L with
        | nil => rfl
        | cons x xs =>
          rw [hr] at hi
          have hlt : t % (x :: xs).length < (x :: xs).length := Nat.mod_lt _ (by simp)
          simp at hi
          simp at hlt
          omega
      have hall := hfull L hL hnil
      obtain ⟨m1, m2⟩ := finish L ρ1 w1 A1 hp hall I
      exact ⟨ρ1, w1, A1, m1, m2, .refl _ _⟩
    | some i =>
      simp only []
      rw [linearise_go_acc, List.reverse_singleton, List.singleton_append]
      obtain ⟨h1, h2, h3⟩ := hready i (List.mem_of_getElem? hi)
      obtain ⟨ρ2, w2, A2, hp2, I2, st⟩ := drawn_step T ih hG hap hdr hk hf hF I h1 (by simp [h2]) h3 (Region.linearise.go md ops fuel (t / (Region.ready md ops L).length) (L.setIfInBounds i true) []) k
      have hDe : (fun j => L[j]? = some true ∨ j = i) = fun j => (L.setIfInBounds i true)[j]? = some true := by
        funext j
        refine propext ?_
        rw [Array.getElem?_setIfInBounds]
        by_cases hij : i = j
        · subst hij
          simp [(Array.getElem?_eq_some_iff.1 h2).1]
        · simp [hij, Ne.symm hij]
      rw [hDe] at I2
      obtain ⟨ρ3, w3, A3, m1, m2, m3⟩ := ihf (t / (Region.ready md ops L).length) (L.setIfInBounds i true) ρ2 w2 A2 hp2 (by simpa using hL) (by rw [count_set h2]; omega) I2
      exact ⟨ρ3, w3, A3, m1, m2, st.trans m3⟩
end
end Go.AM
