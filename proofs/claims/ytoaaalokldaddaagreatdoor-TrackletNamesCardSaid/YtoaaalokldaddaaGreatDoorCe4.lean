import Derived.Test.YtoaaalokldaddaaGreatDoorCe3
set_option linter.unusedSimpArgs false
set_option linter.unusedVariables false
namespace Go.AM
open Go

theorem getK_eq (b : Nat) (hp : Hp Blk) : getK b hp = hp.get b := by
  obtain ⟨f, r⟩ := hp
  have h : getK b ⟨f, r⟩ = Bool.rec (motive := fun _ => Option Blk) (r.get b) (hget b f) (Nat.ble b 65535) := rfl
  rw [h, hget_eq]
  rfl
theorem setK_eq (b : Nat) (x : Blk) (hp : Hp Blk) (k : Hp Blk → Ans) : setK b x hp k = k (hp.set x b) := by
  obtain ⟨f, r⟩ := hp
  have h : setK b x ⟨f, r⟩ k = Bool.rec (motive := fun _ => Ans) (k ⟨f, r.set x b⟩) (hput b x f fun f => k ⟨f, r⟩) (Nat.ble b 65535) := rfl
  rw [h, hput_eq]
  have h2 : Hp.set x ⟨f, r⟩ b = Bool.rec (motive := fun _ => Hp Blk) ⟨f, r.set x b⟩ ⟨h4set x f b, r⟩ (Nat.ble b 65535) := rfl
  rw [h2]
  cases Nat.ble b 65535 <;> rfl
theorem memF_eq (b : Nat) (l : List Nat) : memF b l = decide (b ∈ l) := by
  induction l with
  | nil => simp [memF]
  | cons a l ih =>
    have h : memF b (a :: l) = Bool.rec (motive := fun _ => Bool) (memF b l) true (Nat.beq a b) := rfl
    rw [h, ih, beq_eq]
    by_cases e : a = b
    · subst e; simp
    · rw [decide_eq_false e]
      simp [Ne.symm e]
/-- a list with one more of those below lim -/
def addL (b lim : Nat) (l : List Nat) : List Nat := if lim ≤ b ∨ b ∈ l then l else b :: l
theorem addF_eq (b lim : Nat) (l : List Nat) (k : List Nat → Ans) : addF b lim l k = k (addL b lim l) := by
  unfold addF addL
  rw [memF_eq]
  cases h : Nat.ble lim b with
  | true => rw [if_pos (.inl (Nat.le_of_ble_eq_true h))]
  | false =>
    have := ble_false h
    by_cases hm : b ∈ l
    · rw [if_pos (.inr hm), decide_eq_true hm]
    · rw [if_neg (by rintro (h | h); omega; exact hm h), decide_eq_false hm]
theorem addR_eq (b : Nat) (s : St) : addR b s = { s with rd := addL b s.lim s.rd } := by
  unfold addR addL
  split <;> rfl
theorem addW_eq (b : Nat) (s : St) : addW b s = { s with wr := addL b s.lim s.wr } := by
  unfold addW addL
  split <;> rfl
theorem addL_mem (b lim : Nat) (l : List Nat) : lim ≤ b ∨ b ∈ addL b lim l := by
  unfold addL
  split
  · assumption
  · exact .inr (by simp)
theorem addL_idem (b lim : Nat) (l : List Nat) : addL b lim (addL b lim l) = addL b lim l := by
  have := addL_mem b lim l
  rw [addL, if_pos this]
theorem addR_idem (b : Nat) (s : St) : addR b (addR b s) = addR b s := by
  rw [addR_eq b s, addR_eq]
  simp only [addL_idem]
theorem rdK_some {b : Nat} {s : St} {k : Blk → St → Ans} {r : Value} (h : rdK b s k = some r) : ∃ x, rdB b s = some (x, addR b s) ∧ b < s.nx ∧ k x (addR b s) = some r := by
  obtain ⟨hp, nx, lim, rd, wr⟩ := s
  simp only [rdK, getK_eq, addF_eq] at h
  obtain ⟨h1, h2⟩ := brecf_some h
  have h1' := ble_false h1
  simp only [rdB]
  rw [if_neg (by omega)]
  cases hg : hp.get b with
  | none => rw [hg] at h2; cases h2
  | some x =>
    rw [hg] at h2
    refine ⟨x, rfl, h1', ?_⟩
    rw [addR_eq]
    exact h2
theorem wrK_some {b : Nat} {x : Blk} {s : St} {k : St → Ans} {r : Value} (h : wrK b x (addR b s) k = some r) (hb : b < s.nx) : ∃ s', wrB b x (addR b s) = some ((), s') ∧ k s' = some r := by
  refine ⟨_, by rw [wrB, if_neg (by rw [addR_nx]; omega)], ?_⟩
  rw [addR_idem, putHp, addW_eq]
  rw [addR_eq] at h ⊢
  obtain ⟨hp, nx, lim, rd, wr⟩ := s
  simp only [wrK, addF_eq, setK_eq] at h
  exact h
theorem newK_some {x : Blk} {s : St} {k : Nat → St → Ans} {r : Value} (h : newK x s k = some r) : ∃ s', newB x s = some (s.nx, s') ∧ k s.nx s' = some r := by
  obtain ⟨hp, nx, lim, rd, wr⟩ := s
  simp only [newK, forceN_eq, setK_eq] at h
  exact ⟨_, rfl, h⟩

theorem lift_ok {α : Type} (a : α) (s : St) : lift (some a) s = some (a, s) := rfl
theorem bind_ok {α β : Type} {m : M α} {f : α → M β} {s s1 : St} {a : α} (h : m s = some (a, s1)) : (m.bind f) s = f a s1 := by simp only [M.bind, h]
theorem guard_ok {b : Bool} (h : b = true) (s : St) : guardM b s = some ((), s) := by rw [h]; rfl

/-- an address's number -/
theorem ptr_code {x : X} {c : Nat} (h : Nat.beq (Nat.land c 15) 10 = true) : decX x c = .pointer (some ⟨blkC c, offC c, none⟩) := by
  rw [land15, beq_eq] at h
  have h' : c % 16 = 10 := by simpa using h
  rw [decX_not (by omega), decP_eq c 10 h']
  simp only [decT_eq]
  simp [ptrC, blkC, offC]
theorem cellsK_some {b : Blk} {k : Nat → Nat → Bool → List Value → Ans} {r : Value} (h : cellsK b k = some r) : ∃ el es own cs, b = .cells el es own cs ∧ k el es own cs = some r := by
  cases b with
  | cells el es own cs => exact ⟨el, es, own, cs, rfl, h⟩
  | _ => cases h
theorem take?_one {α : Type} {l : List α} {off : Nat} {v : α} (h : l[off]? = some v) : (drop? off l).bind (take? 1) = some [v] := by
  have hlt : off < l.length := (List.getElem?_eq_some_iff.1 h).1
  simp only [drop?, if_pos (Nat.le_of_lt hlt), Option.bind_some, take?]
  rw [if_pos (by simp; omega)]
  have : l.drop off = v :: l.drop (off + 1) := by
    rw [List.drop_eq_getElem_cons hlt]
    congr 1
    exact (List.getElem?_eq_some_iff.1 h).2
  rw [this]
  rfl
theorem ldA_some {P : Program} {t : TypeId} {x : X} {c : Nat} {s : St} {k : Value → St → Ans} {r : Value} (ht : aggT P t = some false) (h : ldA c s k = some r) : ∃ v s', loadM P t (decX x c) s = some (v, s') ∧ k v s' = some r := by
  unfold ldA at h
  obtain ⟨h1, h2⟩ := brec_some h
  rw [forceN_eq] at h2
  obtain ⟨b, h3, h4, h5⟩ := rdK_some h2
  obtain ⟨el, es, own, cs, rfl, h6⟩ := cellsK_some h5
  rw [nthR_eq] at h6
  obtain ⟨v, h7, h8⟩ := obnd_some h6
  refine ⟨v, _, ?_, h8⟩
  rw [ptr_code h1]
  simp only [loadM, asPlain, ht, M.bind, lift_ok, bif_, loadOne, rdCells, h3, cellsIn, take?_one h7, head1]
theorem dropK_some {α : Type} : ∀ {n : Nat} {l : List α} {k : List α → Ans} {r : Value}, dropK n l k = some r → drop? n l = some (l.drop n) ∧ k (l.drop n) = some r
  | 0, l, k, r, h => ⟨by simp [drop?], h⟩
  | n + 1, [], k, r, h => by cases h
  | n + 1, a :: l, k, r, h => by
    obtain ⟨h1, h2⟩ := dropK_some (n := n) (l := l) (k := k) (r := r) h
    refine ⟨?_, h2⟩
    have := (drop_some h1).2
    simp only [drop?, List.length_cons, List.drop_succ_cons]
    rw [if_pos (by omega)]
theorem takeK_some {α : Type} : ∀ {n : Nat} {l : List α} {k : List α → Ans} {r : Value}, takeK n l k = some r → take? n l = some (l.take n) ∧ k (l.take n) = some r
  | 0, l, k, r, h => ⟨by simp [take?], by have h' : k [] = some r := h; simpa using h'⟩
  | n + 1, [], k, r, h => by cases h
  | n + 1, a :: l, k, r, h => by
    obtain ⟨h1, h2⟩ := takeK_some (n := n) (l := l) (k := fun t => k (a :: t)) (r := r) h
    refine ⟨?_, h2⟩
    have := (take_some h1).2
    simp only [take?, List.length_cons, List.take_succ_cons]
    rw [if_pos (by omega)]
theorem lgA_some {P : Program} {t n : Nat} {x : X} {c : Nat} {s : St} {k : Value → St → Ans} {r : Value} (ht : aggT P t = some true) (hn : sizeT P t = some n) (h : lgA n c s k = some r) : ∃ v s', loadM P t (decX x c) s = some (v, s') ∧ k v s' = some r := by
  unfold lgA at h
  obtain ⟨h1, h2⟩ := brec_some h
  rw [forceN_eq] at h2
  obtain ⟨b, h3, h4, h5⟩ := rdK_some h2
  obtain ⟨el, es, own, cs, rfl, h6⟩ := cellsK_some h5
  obtain ⟨h7, h8⟩ := dropK_some h6
  obtain ⟨h9, h10⟩ := takeK_some h8
  refine ⟨_, _, ?_, h10⟩
  rw [ptr_code h1]
  simp only [loadM, asPlain, ht, hn, M.bind, lift_ok, bif_, loadAgg, rdCells, h3, cellsIn, h7, h9, Option.bind_some, M.pure]
theorem overK_some : ∀ {xs l : List Value} {k : List Value → Ans} {r : Value}, overK xs l k = some r → xs.length ≤ l.length ∧ k (xs ++ l.drop xs.length) = some r
  | [], l, k, r, h => ⟨by simp, h⟩
  | x :: xs, [], k, r, h => by cases h
  | x :: xs, a :: l, k, r, h => by
    obtain ⟨h1, h2⟩ := overK_some (xs := xs) (l := l) (k := fun t => k (x :: t)) (r := r) h
    exact ⟨by simp; omega, by simpa using h2⟩
theorem atK_some : ∀ {off : Nat} {xs l : List Value} {k : List Value → Ans} {r : Value}, atK off xs l k = some r → ∃ l', put? off xs l = some l' ∧ k l' = some r
  | 0, xs, l, k, r, h => by
    obtain ⟨h1, h2⟩ := overK_some (xs := xs) (l := l) (k := k) (r := r) h
    refine ⟨_, by simp only [put?]; rw [if_pos (by omega)], ?_⟩
    simpa using h2
  | off + 1, xs, [], k, r, h => by cases h
  | off + 1, xs, a :: l, k, r, h => by
    obtain ⟨l', h1, h2⟩ := atK_some (off := off) (xs := xs) (l := l) (k := fun t => k (a :: t)) (r := r) h
    obtain ⟨h3, h4⟩ := put_some h1
    refine ⟨_, by simp only [put?]; rw [if_pos (by simp; omega)], ?_⟩
    rw [h3] at h2
    have : off + 1 + xs.length = (off + xs.length) + 1 := by omega
    simpa [this] using h2
theorem oneF_eq (v : Value) : oneF v = one v := by cases v <;> rfl
theorem allF_eq (l : List Value) : allF l = allOne l := by
  induction l with
  | nil => rfl
  | cons v l ih =>
    have h : allF (v :: l) = Bool.rec (motive := fun _ => Bool) false (allF l) (oneF v) := rfl
    rw [h, ih, oneF_eq]
    simp only [allOne, List.all_cons]
    cases one v <;> rfl
theorem aggK_some {v : Value} {k : List Value → Ans} {r : Value} (h : aggK v k = some r) : allOne (cellsOf v) = true ∧ k (cellsOf v) = some r := by
  unfold aggK at h
  split at h
  · obtain ⟨h1, h2⟩ := brec_some h
    rw [allF_eq] at h1
    exact ⟨h1, h2⟩
  · cases h
  · rename_i h1 h2
    have : cellsOf v = [v] := by
      cases v <;> first | rfl | exact (h1 _ rfl).elim
    refine ⟨?_, by rw [this]; exact h⟩
    rw [this]
    cases v <;> first | rfl | exact (h1 _ rfl).elim | exact (h2 _ rfl).elim
theorem lenF_eq : ∀ (l : List Value) (n : Nat), lenF l n = decide (l.length = n)
  | [], n => by
    have h : lenF [] n = Nat.beq n 0 := rfl
    rw [h, beq_eq]
    simp [eq_comm]
  | v :: l, 0 => by
    have h : lenF (v :: l) 0 = false := rfl
    rw [h]; simp
  | v :: l, n + 1 => by
    have h : lenF (v :: l) (n + 1) = lenF l n := rfl
    rw [h, lenF_eq l n]
    simp
theorem stA_some {P : Program} {t n : Nat} {x : X} {c : Nat} {v : Value} {s : St} {k : St → Ans} {r : Value} (hn : sizeT P t = some n) (hl : (cellsOf v).length = n) (ho : allOne (cellsOf v) = true)
    (h : stA c (cellsOf v) s k = some r) : ∃ s', storeM P t (decX x c) v s = some ((), s') ∧ k s' = some r := by
  unfold stA at h
  obtain ⟨h1, h2⟩ := brec_some h
  rw [forceN_eq] at h2
  obtain ⟨b, h3, h4, h5⟩ := rdK_some h2
  obtain ⟨el, es, own, cs, rfl, h6⟩ := cellsK_some h5
  obtain ⟨rfl, h7⟩ := brec_some h6
  obtain ⟨l', h8, h9⟩ := atK_some h7
  obtain ⟨s', h10, h11⟩ := wrK_some h9 h4
  refine ⟨s', ?_, h11⟩
  rw [ptr_code h1]
  simp only [storeM, asPlain, hn, M.bind, lift_ok, hl, beq_self_eq_true, guardM, wrCells, h3, putIn, ho, if_true, h8, Option.map_some, h10]
theorem newC_some {nt : Nat} {a : A} {e : Nat} {x : X} (hE : EA nt a e x) {d : Option Nat} {el es : Nat} {cs : List Value} {s : St} {k : KN} {r : Value} (h : newC (effD nt d) el es cs e x s k = some r) :
    ∃ b s' e' x', newB (.cells el es true cs) s = some (b, s') ∧ EA nt (a.put d (ptr b)) e' x' ∧ k e' x' s' = some r := by
  unfold newC at h
  obtain ⟨s', h1, h2⟩ := newK_some h
  rcases brec_cases h2 with ⟨hb, h3⟩ | ⟨hb, h3⟩
  · obtain ⟨e', x', h4, h5⟩ := putV_sound hE h3
    exact ⟨_, s', e', x', h1, h4, h5⟩
  · have hb' : s.nx ≤ 4294967295 := Nat.le_of_ble_eq_true hb
    have hp : Plain (4294967296 * s.nx + 10) (ptr s.nx) := by
      have := plain_ptr (b := s.nx) (off := 0) (by omega) (by decide)
      have e : 16 * (s.nx * 268435456 + 0) + 10 = 4294967296 * s.nx + 10 := by omega
      rw [e] at this
      exact this
    exact ⟨_, s', _, _, h1, putN_sound hE hp.lt (decX_plain hp).symm (okc_plain hp), h3⟩
end Go.AM
