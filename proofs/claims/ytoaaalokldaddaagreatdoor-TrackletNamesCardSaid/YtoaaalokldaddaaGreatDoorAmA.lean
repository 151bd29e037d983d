import Derived.Test.YtoaaalokldaddaaGreatDoorAm1
set_option linter.unusedSimpArgs false
set_option linter.unusedVariables false
namespace Go.AM
open Go

/-! ### The tree -/
theorem Tr.get_e {α : Type} (k : Nat) : (Tr.e : Tr α).get k = none := by cases k <;> rfl
theorem Tr.get_sing {α : Type} (x : α) (f : Nat) : ∀ k j, k ≤ f → (Tr.sing x f k).get j = if j = k then some x else none := by
  induction f with
  | zero =>
    intro k j hk
    obtain rfl : k = 0 := by omega
    cases j with
    | zero => simp [Tr.sing, Tr.get]
    | succ j => simp [Tr.sing, Tr.get, Tr.get_e]
  | succ f ih =>
    intro k j hk
    cases k with
    | zero =>
      cases j with
      | zero => simp [Tr.sing, Tr.get]
      | succ j => simp [Tr.sing, Tr.get, Tr.get_e]
    | succ k =>
      cases j with
      | zero => by_cases h : k % 2 = 0 <;> simp [Tr.sing, Tr.get, h]
      | succ j =>
        by_cases h : k % 2 = 0
        · by_cases h' : j % 2 = 0
          · have e : (j + 1 = k + 1) ↔ (j / 2 = k / 2) := by omega
            simp [Tr.sing, Tr.get, h, h', ih (k / 2) (j / 2) (by omega), e] at e ⊢
            simp [e]
          · have e : ¬ (j = k) := by omega
            simp [Tr.sing, Tr.get, h, h', Tr.get_e, e]
        · by_cases h' : j % 2 = 0
          · have e : ¬ (j = k) := by omega
            simp [Tr.sing, Tr.get, h, h', Tr.get_e, e]
          · have e : (j = k) ↔ (j / 2 = k / 2) := by omega
            simp [Tr.sing, Tr.get, h, h', ih (k / 2) (j / 2) (by omega), e]
theorem Tr.get_set {α : Type} (x : α) (t : Tr α) : ∀ k j, (t.set x k).get j = if j = k then some x else t.get j := by
  induction t with
  | e =>
    intro k j
    have h := Tr.get_sing x k k j (Nat.le_refl _)
    cases k <;> simpa [Tr.set, Tr.get_e] using h
  | n v l r il ir =>
    intro k j
    cases k with
    | zero =>
      cases j with
      | zero => simp [Tr.set, Tr.get]
      | succ j => simp [Tr.set, Tr.get]
    | succ k =>
      cases j with
      | zero => by_cases h : k % 2 = 0 <;> simp [Tr.set, Tr.get, h]
      | succ j =>
        by_cases h : k % 2 = 0
        · by_cases h' : j % 2 = 0
          · have e : (j = k) ↔ (j / 2 = k / 2) := by omega
            simp [Tr.set, Tr.get, h, h', il (k / 2) (j / 2), e]
          · have e : ¬ (j = k) := by omega
            simp [Tr.set, Tr.get, h, h', e]
        · by_cases h' : j % 2 = 0
          · have e : ¬ (j = k) := by omega
            simp [Tr.set, Tr.get, h, h', e]
          · have e : (j = k) ↔ (j / 2 = k / 2) := by omega
            simp [Tr.set, Tr.get, h, h', ir (k / 2) (j / 2), e]

/-! ### The frame of a computation: what it has not touched does not matter to it -/
structure Agree (s t : St) (R : List Nat) : Prop where
  nx : t.nx = s.nx
  lim : t.lim = s.lim
  rd : t.rd = s.rd
  wr : t.wr = s.wr
  hp : ∀ b, (b ∈ R ∨ s.lim ≤ b) → b < s.nx → t.hp.get b = s.hp.get b

/-- what holds of a run from s to s' -/
structure Moves (s s' : St) : Prop where
  nx : s.nx ≤ s'.nx
  lim : s'.lim = s.lim
  rd : ∀ b, b ∈ s.rd → b ∈ s'.rd
  wr : ∀ b, b ∈ s.wr → b ∈ s'.wr
  rlim : ∀ b, b ∈ s'.rd → b ∈ s.rd ∨ b < s.lim
  sub : ∀ b, b ∈ s'.wr → b ∈ s.wr ∨ b ∈ s'.rd
  keep : ∀ b, b ∉ s'.wr → b < s.lim → s'.hp.get b = s.hp.get b
  beyond : ∀ b, s'.nx ≤ b → s'.hp.get b = s.hp.get b

def Fr {α : Type} (m : M α) : Prop := ∀ s a s', m s = some (a, s') → s.lim ≤ s.nx → Moves s s' ∧
  ∀ t R, Agree s t R → (∀ b, b ∈ s'.rd → b ∈ R) → ∃ t', m t = some (a, t') ∧ Agree s' t' R

theorem Hp.get_set {α : Type} (x : α) (h : Hp α) (k j : Nat) : (h.set x k).get j = if j = k then some x else h.get j := by
  have e (b : Nat) : Nat.ble b 65535 = decide (b < 65536) := by
    cases hb : Nat.ble b 65535 with
    | true => exact (decide_eq_true (Nat.lt_succ_of_le (Nat.le_of_ble_eq_true hb))).symm
    | false => exact (decide_eq_false fun hl => by rw [Nat.ble_eq_true_of_le (Nat.le_of_lt_succ hl)] at hb; cases hb).symm
  unfold Hp.get Hp.set
  rw [e k, e j]
  by_cases hk : k < 65536
  · by_cases hj : j < 65536
    · simp only [hk, hj, decide_true]
      exact h4get_set x h.f k j hk hj
    · simp only [hk, hj, decide_true, decide_false]
      rw [if_neg (by omega)]
  · by_cases hj : j < 65536
    · simp only [hk, hj, decide_true, decide_false]
      rw [if_neg (by omega)]
    · simp only [hk, hj, decide_false]
      exact Tr.get_set x h.r k j
theorem Hp.get_e {α : Type} (k : Nat) : (Hp.e : Hp α).get k = none := by
  unfold Hp.get
  cases Nat.ble k 65535
  · exact Tr.get_e k
  · exact h4get_e k
theorem Moves.refl (s : St) : Moves s s := ⟨Nat.le_refl _, rfl, fun _ h => h, fun _ h => h, fun _ h => .inl h, fun _ h => .inl h, fun _ _ _ => rfl, fun _ _ => rfl⟩
theorem Moves.trans {a b c : St} (h : Moves a b) (k : Moves b c) : Moves a c where
  nx := Nat.le_trans h.nx k.nx
  lim := k.lim.trans h.lim
  rd := fun x hx => k.rd x (h.rd x hx)
  wr := fun x hx => k.wr x (h.wr x hx)
  rlim := fun x hx => by
    rcases k.rlim x hx with h1 | h1
    · exact h.rlim x h1
    · exact .inr (by rw [h.lim] at h1; exact h1)
  sub := fun x hx => by
    rcases k.sub x hx with h1 | h1
    · rcases h.sub x h1 with h2 | h2
      · exact .inl h2
      · exact .inr (k.rd x h2)
    · exact .inr h1
  keep := fun x hx hl => by
    rw [k.keep x hx (by rw [h.lim]; exact hl)]
    exact h.keep x (fun hw => hx (k.wr x hw)) hl
  beyond := fun x hx => by rw [k.beyond x hx, h.beyond x (Nat.le_trans k.nx hx)]

theorem Fr.pure {α : Type} (a : α) : Fr (M.pure a) := by
  intro s x s' h _
  simp only [M.pure, Option.some.injEq, Prod.mk.injEq] at h
  obtain ⟨rfl, rfl⟩ := h
  exact ⟨Moves.refl _, fun t R ha _ => ⟨t, rfl, ha⟩⟩
theorem Fr.fail {α : Type} : Fr (M.fail : M α) := by
  intro s x s' h _
  simp [M.fail] at h
theorem Agree.sub {s t : St} {R R' : List Nat} (h : Agree s t R) (hr : ∀ b, b ∈ R' → b ∈ R) : Agree s t R' :=
  ⟨h.nx, h.lim, h.rd, h.wr, fun b hb hl => h.hp b (hb.imp_left (hr b)) hl⟩
theorem Fr.bind {α β : Type} {m : M α} {f : α → M β} (hm : Fr m) (hf : ∀ a, Fr (f a)) : Fr (m.bind f) := by
  intro s b s' h hl
  simp only [M.bind] at h
  cases e : m s with
  | none => simp [e] at h
  | some p =>
    obtain ⟨a, s1⟩ := p
    simp only [e] at h
    obtain ⟨v1, g1⟩ := hm s a s1 e hl
    obtain ⟨v2, g2⟩ := hf a s1 b s' h (by rw [v1.lim]; exact Nat.le_trans hl v1.nx)
    refine ⟨v1.trans v2, fun t R ha hr => ?_⟩
    obtain ⟨t1, e1, a1⟩ := g1 t R ha (fun b hb => hr b (v2.rd b hb))
    obtain ⟨t2, e2, a2⟩ := g2 t1 R a1 hr
    exact ⟨t2, by simp only [M.bind, e1, e2], a2⟩
theorem Fr.lift {α : Type} (o : Option α) : Fr (lift o) := by
  cases o with
  | none => intro s x s' h _; simp [AM.lift] at h
  | some a => exact Fr.pure a
theorem Fr.guard (b : Bool) : Fr (guardM b) := by
  cases b with
  | false => intro s x s' h _; simp [guardM] at h
  | true => exact Fr.pure ()
theorem Fr.bif {α : Type} {b : Bool} {m m' : M α} (h : Fr m) (h' : Fr m') : Fr (bif_ b m m') := by cases b <;> assumption
theorem Fr.ite {α : Type} {c : Prop} [Decidable c] {m m' : M α} (h : Fr m) (h' : Fr m') : Fr (if c then m else m') := by split <;> assumption

theorem addR_hp (b : Nat) (s : St) : (addR b s).hp = s.hp := by unfold addR; split <;> rfl
theorem addR_nx (b : Nat) (s : St) : (addR b s).nx = s.nx := by unfold addR; split <;> rfl
theorem addR_lim (b : Nat) (s : St) : (addR b s).lim = s.lim := by unfold addR; split <;> rfl
theorem addR_wr (b : Nat) (s : St) : (addR b s).wr = s.wr := by unfold addR; split <;> rfl
theorem addR_rd (b : Nat) (s : St) : ∀ x, x ∈ (addR b s).rd ↔ (x ∈ s.rd ∨ (x = b ∧ b < s.lim)) := by
  intro x
  unfold addR
  split
  · rename_i h
    constructor
    · exact .inl
    · rintro (h1 | ⟨rfl, h1⟩)
      · exact h1
      · rcases h with h | h
        · omega
        · exact h
  · rename_i h
    have hl : b < s.lim := by
      rcases Nat.lt_or_ge b s.lim with h1 | h1
      · exact h1
      · exact absurd (.inl h1) h
    simp only [List.mem_cons]
    constructor
    · rintro (rfl | h1)
      · exact .inr ⟨rfl, hl⟩
      · exact .inl h1
    · rintro (h1 | ⟨rfl, _⟩)
      · exact .inr h1
      · exact .inl rfl
theorem addW_hp (b : Nat) (s : St) : (addW b s).hp = s.hp := by unfold addW; split <;> rfl
theorem addW_nx (b : Nat) (s : St) : (addW b s).nx = s.nx := by unfold addW; split <;> rfl
theorem addW_lim (b : Nat) (s : St) : (addW b s).lim = s.lim := by unfold addW; split <;> rfl
theorem addW_rd (b : Nat) (s : St) : (addW b s).rd = s.rd := by unfold addW; split <;> rfl
theorem addW_wr (b : Nat) (s : St) : ∀ x, x ∈ (addW b s).wr ↔ (x ∈ s.wr ∨ (x = b ∧ b < s.lim)) := by
  intro x
  unfold addW
  split
  · rename_i h
    constructor
    · exact .inl
    · rintro (h1 | ⟨rfl, h1⟩)
      · exact h1
      · rcases h with h | h
        · omega
        · exact h
  · rename_i h
    have hl : b < s.lim := by
      rcases Nat.lt_or_ge b s.lim with h1 | h1
      · exact h1
      · exact absurd (.inl h1) h
    simp only [List.mem_cons]
    constructor
    · rintro (rfl | h1)
      · exact .inr ⟨rfl, hl⟩
      · exact .inl h1
    · rintro (h1 | ⟨rfl, _⟩)
      · exact .inr h1
      · exact .inl rfl
theorem addR_same {b : Nat} {s t : St} (hl : t.lim = s.lim) (hr : t.rd = s.rd) : (addR b t).rd = (addR b s).rd := by
  unfold addR
  rw [hl, hr]
  split
  · exact hr
  · simp [hr]
theorem addW_same {b : Nat} {s t : St} (hl : t.lim = s.lim) (hr : t.wr = s.wr) : (addW b t).wr = (addW b s).wr := by
  unfold addW
  rw [hl, hr]
  split
  · exact hr
  · simp [hr]

theorem Fr.rd (b : Nat) : Fr (rdB b) := by
  intro s k s' h hl
  simp only [rdB] at h
  split at h
  · cases h
  · rename_i hb
    cases e : s.hp.get b with
    | none => simp [e] at h
    | some k' =>
      simp only [e, Option.some.injEq, Prod.mk.injEq] at h
      obtain ⟨rfl, rfl⟩ := h
      refine ⟨⟨by rw [addR_nx]; exact Nat.le_refl _, addR_lim b s, fun x hx => (addR_rd b s x).2 (.inl hx), fun x hx => by rw [addR_wr]; exact hx, fun x hx => ?_, fun x hx => ?_, fun x _ _ => by rw [addR_hp], fun x _ => by rw [addR_hp]⟩, fun t R ha hr => ?_⟩
      · rcases (addR_rd b s x).1 hx with h1 | ⟨rfl, h1⟩
        · exact .inl h1
        · exact .inr h1
      · rw [addR_wr] at hx; exact .inl hx
      · have hg : t.hp.get b = s.hp.get b := by
          refine ha.hp b ?_ (by omega)
          rcases Nat.lt_or_ge b s.lim with h1 | h1
          · exact .inl (hr b ((addR_rd b s b).2 (.inr ⟨rfl, h1⟩)))
          · exact .inr h1
        refine ⟨addR b t, ?_, ⟨by rw [addR_nx, addR_nx]; exact ha.nx, by rw [addR_lim, addR_lim]; exact ha.lim, addR_same ha.lim ha.rd, by rw [addR_wr, addR_wr]; exact ha.wr, ?_⟩⟩
        · simp only [rdB]
          rw [if_neg (by rw [ha.nx]; exact hb), hg, e]
        · intro x hx hn
          rw [addR_hp, addR_hp]
          rw [addR_lim] at hx
          rw [addR_nx] at hn
          exact ha.hp x hx hn
theorem Fr.wr (b : Nat) (k : Blk) : Fr (wrB b k) := by
  intro s u s' h hl
  simp only [wrB] at h
  split at h
  · cases h
  · rename_i hb
    simp only [Option.some.injEq, Prod.mk.injEq] at h
    obtain ⟨_, rfl⟩ := h
    refine ⟨⟨?_, ?_, ?_, ?_, ?_, ?_, ?_, ?_⟩, fun t R ha hr => ?_⟩
    · simp [putHp, addW_nx, addR_nx]
    · simp [putHp, addW_lim, addR_lim]
    · intro x hx; simp only [putHp, addW_rd]; exact (addR_rd b s x).2 (.inl hx)
    · intro x hx; simp only [putHp]; exact (addW_wr b _ x).2 (.inl (by rw [addR_wr]; exact hx))
    · intro x hx
      simp only [putHp, addW_rd] at hx
      rcases (addR_rd b s x).1 hx with h1 | ⟨rfl, h1⟩
      · exact .inl h1
      · exact .inr h1
    · intro x hx
      simp only [putHp] at hx ⊢
      rcases (addW_wr b _ x).1 hx with h1 | ⟨rfl, h1⟩
      · rw [addR_wr] at h1; exact .inl h1
      · rw [addR_lim] at h1
        exact .inr (by rw [addW_rd]; exact (addR_rd x s x).2 (.inr ⟨rfl, h1⟩))
    · intro x hx hlx
      simp only [putHp, addW_hp, addR_hp, Hp.get_set]
      rw [if_neg]
      rintro rfl
      apply hx
      simp only [putHp]
      exact (addW_wr x _ x).2 (.inr ⟨rfl, by rw [addR_lim]; exact hlx⟩)
    · intro x hx
      simp only [putHp, addW_nx, addR_nx] at hx
      simp only [putHp, addW_hp, addR_hp, Hp.get_set]
      rw [if_neg (by omega)]
    · refine ⟨putHp b k (addW b (addR b t)), ?_, ⟨?_, ?_, ?_, ?_, ?_⟩⟩
      · simp only [wrB]; rw [if_neg (by rw [ha.nx]; exact hb)]
      · simp [putHp, addW_nx, addR_nx, ha.nx]
      · simp [putHp, addW_lim, addR_lim, ha.lim]
      · simp only [putHp, addW_rd]; exact addR_same ha.lim ha.rd
      · simp only [putHp]; exact addW_same (by rw [addR_lim, addR_lim]; exact ha.lim) (by rw [addR_wr, addR_wr]; exact ha.wr)
      · intro x hx hn
        simp only [putHp, addW_nx, addR_nx, addW_lim, addR_lim] at hx hn
        simp only [putHp, addW_hp, addR_hp, Hp.get_set]
        split
        · rfl
        · exact ha.hp x hx hn
theorem Fr.new (k : Blk) : Fr (newB k) := by
  intro s n s' h hl
  simp only [newB, Option.some.injEq, Prod.mk.injEq] at h
  obtain ⟨rfl, rfl⟩ := h
  refine ⟨⟨by simp, rfl, fun _ h => h, fun _ h => h, fun _ h => .inl h, fun _ h => .inl h, ?_, ?_⟩, fun t R ha hr => ?_⟩
  · intro x _ hx
    simp only [Hp.get_set]
    rw [if_neg (by omega)]
  · intro x hx
    simp only at hx
    simp only [Hp.get_set]
    rw [if_neg (by omega)]
  · refine ⟨{ t with hp := t.hp.set k s.nx, nx := s.nx + 1 }, by simp only [newB, ha.nx], ⟨rfl, ha.lim, ha.rd, ha.wr, ?_⟩⟩
    intro x hx hn
    simp only at hx hn
    simp only [Hp.get_set]
    split
    · rfl
    · exact ha.hp x hx (by omega)

theorem addRs_hp (l : List Nat) (s : St) : (addRs l s).hp = s.hp ∧ (addRs l s).nx = s.nx ∧ (addRs l s).lim = s.lim ∧ (addRs l s).wr = s.wr := by
  induction l with
  | nil => exact ⟨rfl, rfl, rfl, rfl⟩
  | cons b l ih => simp only [addRs, List.foldr_cons] at ih ⊢; rw [addR_hp, addR_nx, addR_lim, addR_wr]; exact ih
theorem addRs_rd (l : List Nat) (s : St) : ∀ x, x ∈ (addRs l s).rd ↔ (x ∈ s.rd ∨ (x ∈ l ∧ x < s.lim)) := by
  induction l with
  | nil => intro x; simp [addRs]
  | cons b l ih =>
    intro x
    have h1 := (addRs_hp l s).2.2.1
    simp only [addRs, List.foldr_cons] at ih h1 ⊢
    rw [addR_rd, ih, h1]
    simp only [List.mem_cons]
    constructor
    · rintro ((h | h) | ⟨rfl, h⟩)
      · exact .inl h
      · exact .inr ⟨.inr h.1, h.2⟩
      · exact .inr ⟨.inl rfl, h⟩
    · rintro (h | ⟨rfl | h, h'⟩)
      · exact .inl (.inl h)
      · exact .inr ⟨rfl, h'⟩
      · exact .inl (.inr ⟨h, h'⟩)
theorem addWs_hp (l : List Nat) (s : St) : (addWs l s).hp = s.hp ∧ (addWs l s).nx = s.nx ∧ (addWs l s).lim = s.lim ∧ (addWs l s).rd = s.rd := by
  induction l with
  | nil => exact ⟨rfl, rfl, rfl, rfl⟩
  | cons b l ih => simp only [addWs, List.foldr_cons] at ih ⊢; rw [addW_hp, addW_nx, addW_lim, addW_rd]; exact ih
theorem addWs_wr (l : List Nat) (s : St) : ∀ x, x ∈ (addWs l s).wr ↔ (x ∈ s.wr ∨ (x ∈ l ∧ x < s.lim)) := by
  induction l with
  | nil => intro x; simp [addWs]
  | cons b l ih =>
    intro x
    have h1 := (addWs_hp l s).2.2.1
    simp only [addWs, List.foldr_cons] at ih h1 ⊢
    rw [addW_wr, ih, h1]
    simp only [List.mem_cons]
    constructor
    · rintro ((h | h) | ⟨rfl, h⟩)
      · exact .inl h
      · exact .inr ⟨.inr h.1, h.2⟩
      · exact .inr ⟨.inl rfl, h⟩
    · rintro (h | ⟨rfl | h, h'⟩)
      · exact .inl (.inl h)
      · exact .inr ⟨rfl, h'⟩
      · exact .inl (.inr ⟨h, h'⟩)
theorem addRs_same {l : List Nat} {s t : St} (hl : t.lim = s.lim) (hr : t.rd = s.rd) : (addRs l t).rd = (addRs l s).rd := by
  induction l with
  | nil => exact hr
  | cons b l ih =>
    have h1 := (addRs_hp l s).2.2.1
    have h2 := (addRs_hp l t).2.2.1
    simp only [addRs, List.foldr_cons] at ih h1 h2 ⊢
    exact addR_same (by rw [h1, h2, hl]) ih
theorem addWs_same {l : List Nat} {s t : St} (hl : t.lim = s.lim) (hr : t.wr = s.wr) : (addWs l t).wr = (addWs l s).wr := by
  induction l with
  | nil => exact hr
  | cons b l ih =>
    have h1 := (addWs_hp l s).2.2.1
    have h2 := (addWs_hp l t).2.2.1
    simp only [addWs, List.foldr_cons] at ih h1 h2 ⊢
    exact addW_same (by rw [h1, h2, hl]) ih

/-- a run from scratch: which old blocks it reads and writes -/
def fresh (s : St) : St := { s with lim := s.nx, rd := [], wr := [] }
theorem Fr.listen {α : Type} {m : M α} (hm : Fr m) : Fr (listen m) := by
  intro s p s' h hl
  simp only [AM.listen] at h
  cases e : m { s with lim := s.nx, rd := [], wr := [] } with
  | none => simp [e] at h
  | some q =>
    obtain ⟨x, s1⟩ := q
    simp only [e, Option.some.injEq, Prod.mk.injEq] at h
    obtain ⟨rfl, rfl⟩ := h
    obtain ⟨v, g⟩ := hm _ x s1 e (Nat.le_refl _)
    have w1 := addWs_hp s1.wr (addRs s1.rd { s1 with lim := s.lim, rd := s.rd, wr := s.wr })
    have w2 := addRs_hp s1.rd { s1 with lim := s.lim, rd := s.rd, wr := s.wr }
    have wm := addWs_wr s1.wr (addRs s1.rd { s1 with lim := s.lim, rd := s.rd, wr := s.wr })
    have rm := addRs_rd s1.rd { s1 with lim := s.lim, rd := s.rd, wr := s.wr }
    refine ⟨⟨?_, ?_, ?_, ?_, ?_, ?_, ?_, ?_⟩, fun t R ha hr => ?_⟩
    · rw [w1.2.1, w2.2.1]; exact v.nx
    · rw [w1.2.2.1, w2.2.2.1]
    · intro b hb; rw [w1.2.2.2]; exact (rm b).2 (.inl hb)
    · intro b hb; exact (wm b).2 (.inl (by rw [w2.2.2.2]; exact hb))
    · intro b hb
      rw [w1.2.2.2] at hb
      rcases (rm b).1 hb with h1 | h1
      · exact .inl h1
      · exact .inr h1.2
    · intro b hb
      rcases (wm b).1 hb with h1 | h1
      · rw [w2.2.2.2] at h1; exact .inl h1
      · rw [w2.2.2.1] at h1
        rw [w1.2.2.2]
        rcases v.sub b h1.1 with h2 | h2
        · simp at h2
        · exact .inr ((rm b).2 (.inr ⟨h2, h1.2⟩))
    · intro b hb hlb
      rw [w1.1, w2.1]
      refine v.keep b (fun hw => hb ((wm b).2 (.inr ⟨hw, ?_⟩))) (Nat.lt_of_lt_of_le hlb hl)
      rw [w2.2.2.1]; exact hlb
    · intro b hb
      rw [w1.2.1, w2.2.1] at hb
      rw [w1.1, w2.1]
      exact v.beyond b hb
    · have ha' : Agree { s with lim := s.nx, rd := [], wr := [] } { t with lim := t.nx, rd := [], wr := [] } (s1.rd ++ R) := by
        refine ⟨ha.nx, ha.nx, rfl, rfl, ?_⟩
        intro b hb hn
        simp only at hb hn
        simp only
        rcases hb with hb | hb
        · rcases Nat.lt_or_ge b s.lim with h1 | h1
          · refine ha.hp b (.inl ?_) hn
            rcases List.mem_append.1 hb with h2 | h2
            · exact hr b (by rw [w1.2.2.2]; exact (rm b).2 (.inr ⟨h2, h1⟩))
            · exact h2
          · exact ha.hp b (.inr h1) hn
        · omega
      obtain ⟨t1, e1, a1⟩ := g _ _ ha' (fun b hb => List.mem_append.2 (.inl hb))
      have y1 := addWs_hp t1.wr (addRs t1.rd { t1 with lim := t.lim, rd := t.rd, wr := t.wr })
      have y2 := addRs_hp t1.rd { t1 with lim := t.lim, rd := t.rd, wr := t.wr }
      refine ⟨addWs t1.wr (addRs t1.rd { t1 with lim := t.lim, rd := t.rd, wr := t.wr }), ?_, ⟨?_, ?_, ?_, ?_, ?_⟩⟩
      · simp only [AM.listen, e1]
        simp only [a1.rd, a1.wr, a1.nx, ha.nx]
      · rw [w1.2.1, w2.2.1, y1.2.1, y2.2.1]; exact a1.nx
      · rw [w1.2.2.1, w2.2.2.1, y1.2.2.1, y2.2.2.1]; exact ha.lim
      · rw [w1.2.2.2, y1.2.2.2, a1.rd]; exact addRs_same ha.lim ha.rd
      · rw [a1.wr]; exact addWs_same (by rw [w2.2.2.1, y2.2.2.1]; exact ha.lim) (by rw [w2.2.2.2, y2.2.2.2]; exact ha.wr)
      · intro b hb hn
        rw [w1.2.2.1, w2.2.2.1] at hb
        rw [w1.2.1, w2.2.1] at hn
        rw [w1.1, w2.1, y1.1, y2.1]
        simp only at hb hn ⊢
        rcases Nat.lt_or_ge b s.nx with h1 | h1
        · by_cases hw : b ∈ s1.wr
          · rcases v.sub b hw with h2 | h2
            · simp at h2
            · exact a1.hp b (.inl (List.mem_append.2 (.inl h2))) hn
          · have k1 := v.keep b hw h1
            have k2 : t1.hp.get b = t.hp.get b := by
              obtain ⟨v', _⟩ := hm _ x t1 e1 (Nat.le_refl _)
              exact v'.keep b (by rw [a1.wr]; exact hw) (by rw [ha.nx]; exact h1)
            rw [k1, k2]
            exact ha.hp b hb h1
        · refine a1.hp b (.inr ?_) hn
          rw [v.lim]; exact h1
end Go.AM
