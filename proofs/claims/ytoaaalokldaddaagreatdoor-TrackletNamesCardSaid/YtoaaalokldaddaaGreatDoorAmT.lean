import Derived.Test.YtoaaalokldaddaaGreatDoorAmS
import Derived.Orders
set_option linter.unusedSimpArgs false
set_option linter.unusedVariables false
namespace Go.AM
open Go Go.RowKit

def wrT (ops : Array Oper) (m : Nat) (i t : Nat) : Prop := ∃ o, ops[i]? = some o ∧ o.dst = some t ∧ t < m
def wrBk (fs : List Foot) (i b : Nat) : Prop := ∃ f, fs[i]? = some f ∧ (b ∈ f.wr ∨ (f.lo ≤ b ∧ b < f.hi))
def rdBk (fs : List Foot) (i b : Nat) : Prop := ∃ f, fs[i]? = some f ∧ b ∈ f.rd

theorem Rel.congr {c : Cx} {ρ : Map} {V V' : Nat → Prop} {hp hp' : Hp Blk} {w : World} (h : Rel c ρ V hp w) (hV : V' = V) (he : ∀ b, hp'.get b = hp.get b) : Rel c ρ V' hp' w := by
  subst hV
  exact ⟨h.glob, fun b k hb hg hl => h.blk b k hb (by rw [← he b]; exact hg) hl, fun b1 k1 b2 k2 v1 v2 g1 g2 => h.inj b1 k1 b2 k2 v1 v2 (by rw [← he b1]; exact g1) (by rw [← he b2]; exact g2), h.below⟩
theorem AR.congr {ρ : Map} {V V' : Nat → Prop} {a a' : A} {A' : Act} (h : AR ρ V a A') (hV : V' = V) (h1 : a'.n = a.n) (h2 : ∀ t, a'.get t = a.get t) (h3 : a'.df = a.df) : AR ρ V' a' A' := by
  subst hV
  exact ⟨by rw [h1]; exact h.size, fun t => by rw [h2]; exact h.tm t, by rw [h3]; exact h.df⟩
theorem A.put_n (a : A) (d : Option Nat) (v : Value) : (a.put d v).n = a.n := by cases d <;> simp [A.put]; split <;> rfl
theorem A.put_df (a : A) (d : Option Nat) (v : Value) : (a.put d v).df = a.df := by cases d <;> simp [A.put]; split <;> rfl
theorem A.put_get (a : A) (d : Option Nat) (v : Value) (t : Nat) : (a.put d v).get t = if d = some t ∧ t < a.n then v else a.get t := by
  cases d with
  | none => simp [A.put]
  | some d =>
    by_cases hd : d < a.n
    · simp only [A.put, if_pos hd, A.get, Tr.get_set]
      by_cases ht : t = d
      · subst ht; simp [hd]
      · have : ¬ (some d = some t ∧ t < a.n) := fun h => ht (Option.some.inj h.1).symm
        rw [if_neg ht, if_neg this]
    · simp only [A.put, if_neg hd]
      have : ¬ (some d = some t ∧ t < a.n) := fun h => hd (Option.some.inj h.1 ▸ h.2)
      rw [if_neg this]

section
variable {c : Cx} {n : Nat} {rf : Option Nat} {ops : Array Oper} {a a' : A} {s s' : St} {fs : List Foot} {as : Nat → A} {ss : Nat → St} {vs : Nat → Value}

structure FootOK (ss : Nat → St) (i : Nat) (f : Foot) : Prop where
  sub : ∀ b, b ∈ f.wr → b ∈ f.rd
  old : ∀ b, b ∈ f.rd → b < (ss i).nx
  nx : (ss i).nx ≤ (ss (i + 1)).nx
  new : ∀ b, (f.lo ≤ b ∧ b < f.hi) ↔ ((ss i).nx ≤ b ∧ b < (ss (i + 1)).nx)
  keep : ∀ b, ¬ (b ∈ f.wr ∨ (f.lo ≤ b ∧ b < f.hi)) → (ss (i + 1)).hp.get b = (ss i).hp.get b

theorem Trail.foot (T : Trail c n rf ops.toList ops.toList a s fs a' s' as ss vs) {i : Nat} {o : Oper} {f : Foot} (ho : ops.toList[i]? = some o) (hf : fs[i]? = some f) : FootOK ss i f := by
  rcases T.won i o f ho hf with ⟨_, t, e, rfl, h1, h2⟩ | ⟨_, _, rfl, h1, h2⟩
  · have hm := (Fr.opV c.P c.ext (fun t => Fr.run c.P c.ext n t) rf o (as i).eval (fresh (ss i)) _ t e (Nat.le_refl _)).1
    refine ⟨fun b hb => ?_, fun b hb => ?_, by rw [h2]; exact hm.nx, fun b => by rw [h2], fun b hb => ?_⟩
    · rcases hm.sub b hb with h | h
      · simp [fresh] at h
      · exact h
    · rcases hm.rlim b hb with h | h
      · simp [fresh] at h
      · exact h
    · rw [h1]
      have h3 : b ∉ t.wr := fun h => hb (.inl h)
      rcases Nat.lt_or_ge b (ss i).nx with h4 | h4
      · exact hm.keep b h3 h4
      · refine hm.beyond b ?_
        rcases Nat.lt_or_ge b t.nx with h5 | h5
        · exact absurd (.inr ⟨h4, h5⟩) hb
        · exact h5
  · exact ⟨fun b hb => hb, fun b hb => by simp at hb, by rw [h2]; exact Nat.le_refl _, fun b => by rw [h2]; simp, fun b _ => by rw [h1]⟩

theorem Trail.both (T : Trail c n rf ops.toList ops.toList a s fs a' s' as ss vs) {i : Nat} (hi : i < ops.size) : ∃ o f, ops.toList[i]? = some o ∧ fs[i]? = some f := by
  have h1 : i < ops.toList.length := by simpa using hi
  have h2 : i < fs.length := by rw [T.len]; exact h1
  exact ⟨_, _, List.getElem?_eq_getElem h1, List.getElem?_eq_getElem h2⟩
theorem Trail.nx (T : Trail c n rf ops.toList ops.toList a s fs a' s' as ss vs) {i j : Nat} (hij : i ≤ j) (hj : j ≤ ops.size) : (ss i).nx ≤ (ss j).nx := by
  induction j with
  | zero => rw [Nat.le_zero.1 hij]; exact Nat.le_refl _
  | succ j ih =>
    rcases Nat.lt_or_ge i (j + 1) with h | h
    · obtain ⟨o, f, ho, hf⟩ := T.both (i := j) (by omega)
      exact Nat.le_trans (ih (by omega) (by omega)) (T.foot ho hf).nx
    · rw [Nat.le_antisymm hij h]; exact Nat.le_refl _
theorem Trail.an (T : Trail c n rf ops.toList ops.toList a s fs a' s' as ss vs) {i : Nat} (hi : i ≤ ops.size) : (as i).n = a.n ∧ (as i).df = a.df := by
  induction i with
  | zero => rw [T.a0]; exact ⟨rfl, rfl⟩
  | succ i ih =>
    obtain ⟨o, f, ho, hf⟩ := T.both (i := i) (by omega)
    rw [T.put i o ho, A.put_n, A.put_df]
    exact ih (by omega)
theorem Trail.keepB (T : Trail c n rf ops.toList ops.toList a s fs a' s' as ss vs) (b : Nat) : ∀ i, i < ops.size → ¬ wrBk fs i b → (ss (i + 1)).hp.get b = (ss i).hp.get b := by
  intro i hi hw
  obtain ⟨o, f, ho, hf⟩ := T.both hi
  exact (T.foot ho hf).keep b fun h => hw ⟨f, hf, h⟩
theorem Trail.keepT (T : Trail c n rf ops.toList ops.toList a s fs a' s' as ss vs) (t : Nat) : ∀ i, i < ops.size → ¬ wrT ops a.n i t → (as (i + 1)).get t = (as i).get t := by
  intro i hi hw
  obtain ⟨o, f, ho, hf⟩ := T.both hi
  rw [T.put i o ho, A.put_get, if_neg]
  rintro ⟨h1, h2⟩
  exact hw ⟨o, by simpa using ho, h1, by rw [← (T.an (i := i) (by omega)).1]; exact h2⟩

variable (T : Trail c n rf ops.toList ops.toList a s fs a' s' as ss vs)

theorem apart_get {tab : List Nat} (hap : apartOk tab fs = true) {i j : Nat} (hij : i < j) {x y : Foot} (hx : fs[i]? = some x) (hy : fs[j]? = some y) (hn : ¬ ordered tab i j = true) : x.meets y = false ∧ y.meets x = false := by
  have hj : j < fs.length := (List.getElem?_eq_some_iff.1 hy).1
  simp only [apartOk, List.all_eq_true, List.mem_range] at hap
  have h := hap j hj i hij
  rw [hx, hy] at h
  simp only [Bool.or_eq_true, Bool.not_eq_true', Bool.or_eq_false_iff] at h
  exact h.resolve_left hn
theorem meets_of {x y : Foot} {b : Nat} (h1 : b ∈ y.rd) (h2 : b ∈ x.wr ∨ (x.lo ≤ b ∧ b < x.hi)) : x.meets y = true := by
  simp only [Foot.meets, List.any_eq_true]
  refine ⟨b, h1, ?_⟩
  rcases h2 with h2 | h2
  · simp [h2]
  · simp [Nat.ble_eq, Nat.blt_eq, h2.1, h2.2]
include T
/-- who writes what a later one reads or writes comes before it -/
theorem ordB1 {tab : List Nat} (hap : apartOk tab fs = true) {i j b : Nat} (hij : i < j) (hj : j < ops.size) (h1 : wrBk fs i b) (h2 : rdBk fs j b ∨ wrBk fs j b) : ordered tab i j = true := by
  obtain ⟨f, hf, hw⟩ := h1
  obtain ⟨oi, fi, hoi, hfi⟩ := T.both (i := i) (by omega)
  obtain ⟨oj, fj, hoj, hfj⟩ := T.both hj
  rw [hf] at hfi
  obtain rfl := Option.some.inj hfi
  have Fi := T.foot hoi hf
  have Fj := T.foot hoj hfj
  apply Classical.byContradiction
  intro hn
  obtain ⟨m1, m2⟩ := apart_get hap hij hf hfj hn
  have hr : b ∈ fj.rd ∨ (fj.lo ≤ b ∧ b < fj.hi) := by
    rcases h2 with ⟨g, hg, h⟩ | ⟨g, hg, h | h⟩ <;> (rw [hfj] at hg; obtain rfl := Option.some.inj hg)
    · exact .inl h
    · exact .inl (Fj.sub b h)
    · exact .inr h
  rcases hr with hr | hr
  · rw [meets_of hr hw] at m1; cases m1
  · have h3 := (Fj.new b).1 hr
    have h4 := T.nx (i := i + 1) (j := j) (by omega) (by omega)
    rcases hw with hw | hw
    · have := Fi.old b (Fi.sub b hw); have := Fi.nx; omega
    · have := (Fi.new b).1 hw; omega
/-- who reads what a later one writes comes before it -/
theorem ordB2 {tab : List Nat} (hap : apartOk tab fs = true) {i j b : Nat} (hij : i < j) (hj : j < ops.size) (h1 : rdBk fs i b) (h2 : wrBk fs j b) : ordered tab i j = true := by
  obtain ⟨f, hf, hr⟩ := h1
  obtain ⟨oi, fi, hoi, hfi⟩ := T.both (i := i) (by omega)
  obtain ⟨oj, fj, hoj, hfj⟩ := T.both hj
  rw [hf] at hfi
  obtain rfl := Option.some.inj hfi
  have Fi := T.foot hoi hf
  have Fj := T.foot hoj hfj
  apply Classical.byContradiction
  intro hn
  obtain ⟨m1, m2⟩ := apart_get hap hij hf hfj hn
  obtain ⟨g, hg, h⟩ := h2
  rw [hfj] at hg
  obtain rfl := Option.some.inj hg
  rw [meets_of hr h] at m2
  cases m2
omit T
theorem draw_get {tab : List Nat} {l : List Oper} (hdr : okDraw tab l = true) {i j : Nat} (hij : i < j) {x y : Oper} (hx : l[i]? = some x) (hy : l[j]? = some y) (hn : ¬ ordered tab i j = true) : apartT l x y = true := by
  have hj : j < l.length := (List.getElem?_eq_some_iff.1 hy).1
  simp only [okDraw, Bool.and_eq_true, List.all_eq_true, List.mem_range] at hdr
  have h := hdr.2 j hj i hij
  rw [hx, hy] at h
  simp only [Bool.or_eq_true] at h
  exact h.resolve_left hn
theorem ordT {tab : List Nat} {l : List Oper} (hdr : okDraw tab l = true) {i j t : Nat} (hij : i < j) {x y : Oper} (hx : l[i]? = some x) (hy : l[j]? = some y) (h : (x.dst = some t ∧ t ∈ usesT l y) ∨ (y.dst = some t ∧ t ∈ usesT l x)) : ordered tab i j = true := by
  apply Classical.byContradiction
  intro hn
  have := draw_get hdr hij hx hy hn
  simp only [apartT, Bool.and_eq_true] at this
  rcases h with ⟨h1, h2⟩ | ⟨h1, h2⟩
  · have h3 := this.1
    rw [h1] at h3
    simp at h3
    exact h3 h2
  · have h3 := this.2
    rw [h1] at h3
    simp at h3
    exact h3 h2
end
end Go.AM
