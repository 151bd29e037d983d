import Derived.Test.YtoaaalokldaddaaGreatDoorAmQ
set_option linter.unusedSimpArgs false
set_option linter.unusedVariables false
namespace Go.AM
open Go Go.RowKit

/-! ### The last writer among those that are done -/
section
variable {X : Type} {N : Nat} {val : Nat → X} {wr : Nat → Prop} {D : Nat → Prop} {x : X}
def Cur (N : Nat) (val : Nat → X) (wr : Nat → Prop) (D : Nat → Prop) (x : X) : Prop :=
  (∃ j, j < N ∧ D j ∧ wr j ∧ x = val (j + 1) ∧ ∀ i, j < i → i < N → wr i → ¬ D i) ∨ (x = val 0 ∧ ∀ i, i < N → wr i → ¬ D i)
theorem val_keep (hk : ∀ i, i < N → ¬ wr i → val (i + 1) = val i) {a b : Nat} (hab : a ≤ b) (hb : b ≤ N) (h : ∀ i, a ≤ i → i < b → ¬ wr i) : val b = val a := by
  induction b with
  | zero => rw [Nat.le_zero.1 hab]
  | succ b ih =>
    rcases Nat.lt_or_ge a (b + 1) with h1 | h1
    · rw [hk b (by omega) (h b (by omega) (by omega)), ih (by omega) (by omega) fun i h2 h3 => h i h2 (by omega)]
    · rw [Nat.le_antisymm hab h1]
theorem Cur.read (hk : ∀ i, i < N → ¬ wr i → val (i + 1) = val i) (h : Cur N val wr D x) {k : Nat} (hN : k ≤ N) (h1 : ∀ i, i < k → wr i → D i) (h2 : ∀ i, k ≤ i → i < N → wr i → ¬ D i) : x = val k := by
  rcases h with ⟨j, hj, hD, hw, rfl, h3⟩ | ⟨rfl, h3⟩
  · rcases Nat.lt_or_ge j k with hjk | hjk
    · exact (val_keep hk (by omega) hN fun i h4 h5 hwi => h3 i (by omega) (by omega) hwi (h1 i h5 hwi)).symm
    · exact absurd hD (h2 j hjk hj hw)
  · exact (val_keep hk (Nat.zero_le _) hN fun i _ h5 hwi => h3 i (by omega) hwi (h1 i h5 hwi)).symm
theorem Cur.write {k : Nat} (hN : k < N) (hw : wr k) (h2 : ∀ i, k < i → i < N → wr i → ¬ D i) : Cur N val wr (fun i => D i ∨ i = k) (val (k + 1)) :=
  .inl ⟨k, hN, .inr rfl, hw, rfl, fun i h3 h4 h5 h6 => h6.elim (h2 i h3 h4 h5) (fun h7 => by omega)⟩
theorem Cur.skip (h : Cur N val wr D x) {k : Nat} (hw : ¬ wr k) : Cur N val wr (fun i => D i ∨ i = k) x := by
  rcases h with ⟨j, hj, hD, hwj, rfl, h3⟩ | ⟨rfl, h3⟩
  · exact .inl ⟨j, hj, .inl hD, hwj, rfl, fun i h4 h5 h6 h7 => h7.elim (h3 i h4 h5 h6) (fun h8 => hw (h8 ▸ h6))⟩
  · exact .inr ⟨rfl, fun i h4 h6 h7 => h7.elim (h3 i h4 h6) (fun h8 => hw (h8 ▸ h6))⟩
theorem Cur.all (hk : ∀ i, i < N → ¬ wr i → val (i + 1) = val i) (h : Cur N val wr D x) (hD : ∀ i, i < N → D i) : x = val N :=
  h.read hk (Nat.le_refl _) (fun i hi _ => hD i hi) (fun i h1 h2 => by omega)
end

/-! ### The order's table -/
theorem ordRow_bit {acc : List Nat} {i : Nat} : ∀ {l : List Edge}, (ordRow acc l).testBit i = true ↔ ∃ e, e ∈ l ∧ Region.binds .any e = true ∧ (i = e.on ∨ (acc.getD e.on 0).testBit i = true)
  | [] => by simp [ordRow]
  | e :: l => by
    rw [ordRow, Nat.testBit_or, Bool.or_eq_true, ordRow_bit (l := l)]
    constructor
    · rintro (h | ⟨e', h1, h2⟩)
      · split at h
        · rename_i hb
          rw [Nat.testBit_or, Bool.or_eq_true, Nat.testBit_two_pow] at h
          refine ⟨e, by simp, hb, ?_⟩
          rcases h with h | h
          · exact .inl (by simpa using (of_decide_eq_true h).symm)
          · exact .inr h
        · simp at h
      · exact ⟨e', by simp [h1], h2⟩
    · rintro ⟨e', h1, h2, h3⟩
      rcases List.mem_cons.1 h1 with rfl | h1
      · left
        rw [if_pos h2, Nat.testBit_or, Bool.or_eq_true, Nat.testBit_two_pow]
        rcases h3 with h3 | h3
        · exact .inl (by simp [h3])
        · exact .inr h3
      · exact .inr ⟨e', h1, h2, h3⟩
theorem ordTab_old : ∀ (l : List Oper) (acc : List Nat) (j : Nat), j < acc.length → (ordTab l acc).getD j 0 = acc.getD j 0
  | [], acc, j, h => rfl
  | o :: l, acc, j, h => by
    rw [ordTab, ordTab_old l _ j (by simp; omega)]
    simp [List.getD_eq_getElem?_getD, List.getElem?_append_left h]
theorem ordTab_new : ∀ (l : List Oper) (acc : List Nat) (j : Nat) (o : Oper), l[j]? = some o → (∀ e, e ∈ o.after.toList → Region.binds .any e = true → e.on < acc.length + j) →
    (ordTab l acc).getD (acc.length + j) 0 = ordRow (ordTab l acc) o.after.toList
  | [], acc, j, o, h, _ => by simp at h
  | p :: l, acc, 0, o, h, he => by
    simp at h
    subst h
    rw [ordTab, ordTab_old l _ _ (by simp)]
    have e1 : (acc ++ [ordRow acc p.after.toList]).getD (acc.length + 0) 0 = ordRow acc p.after.toList := by simp [List.getD_eq_getElem?_getD]
    rw [e1]
    have key : ∀ (es : List Edge), (∀ e, e ∈ es → Region.binds .any e = true → e.on < acc.length) → ordRow acc es = ordRow (ordTab l (acc ++ [ordRow acc p.after.toList])) es := by
      intro es hes
      induction es with
      | nil => rfl
      | cons e es ih =>
        rw [ordRow, ordRow, ih fun e' h' => hes e' (by simp [h'])]
        by_cases hb : Region.binds .any e = true
        · have := hes e (by simp) hb
          rw [ordTab_old l _ e.on (by simp; omega)]
          simp [List.getD_eq_getElem?_getD, List.getElem?_append_left this]
        · rw [if_neg hb, if_neg hb]
    exact key _ fun e h' hb => by have := he e h' hb; omega
  | p :: l, acc, j + 1, o, h, he => by
    simp at h
    rw [ordTab]
    have := ordTab_new l (acc ++ [ordRow acc p.after.toList]) j o h (fun e h' hb => by have := he e h' hb; simp; omega)
    simp only [List.length_append, List.length_cons, List.length_nil] at this
    rw [show acc.length + (j + 1) = acc.length + (0 + 1) + j by omega]
    exact this
theorem binds_text {e : Edge} (h : Region.binds .any e = true) : Region.binds .text e = true := by
  unfold Region.binds at h ⊢
  cases hg : e.ground <;> simp [hg] at h ⊢
theorem binds_gc {e : Edge} (h : Region.binds .any e = true) : Region.binds .gc e = true := by
  unfold Region.binds at h ⊢
  cases hg : e.ground <;> simp [hg] at h ⊢
theorem edge_lt {ops : List Oper} (hE : okEdges ops = true) {k : Nat} {o : Oper} (ho : ops[k]? = some o) : ∀ e, e ∈ o.after.toList → Region.binds .text e = true → e.on < k := by
  intro e he hb
  have hk : k < ops.length := (List.getElem?_eq_some_iff.1 ho).1
  simp only [okEdges, List.all_eq_true, List.mem_range] at hE
  have := hE k hk
  rw [ho] at this
  simp only [List.all_eq_true, Bool.or_eq_true, Bool.not_eq_true', decide_eq_true_eq] at this
  rcases this e he with h | h
  · rw [hb] at h; cases h
  · exact h
theorem ordered_edge {ops : List Oper} (hE : okEdges ops = true) {i k : Nat} {o : Oper} (ho : ops[k]? = some o) :
    ordered (ordTab ops []) i k = true ↔ ∃ e, e ∈ o.after.toList ∧ Region.binds .any e = true ∧ (i = e.on ∨ ordered (ordTab ops []) i e.on = true) := by
  unfold ordered
  have hk : k < ops.length := (List.getElem?_eq_some_iff.1 ho).1
  have he : ∀ e, e ∈ o.after.toList → Region.binds .any e = true → e.on < k := fun e h hb => edge_lt hE ho e h (binds_text hb)
  have h1 := ordTab_new ops [] k o ho (fun e h hb => by have := he e h hb; simpa using this)
  simp only [List.length_nil, Nat.zero_add] at h1
  rw [h1]
  exact ordRow_bit
end Go.AM
