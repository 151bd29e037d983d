import Derived.Test.YtoaaalokldaddaaGreatDoorAmG
import Derived.Laws.AppendOwn
set_option linter.unusedSimpArgs false
set_option linter.unusedVariables false
namespace Go.AM
open Go Go.RowKit

section
variable {c : Cx} {ρ : Map} {V : Nat → Prop} {s s' : St} {w : World}

theorem append_new {P : Program} {w : World} {ts : Array TypeId} {ty t e : TypeId} {i : TypeInfo} {z x' : Value} {base : Option Addr} {n k m : Nat} {new' old' : List Value}
    (h0 : ts[0]? = some t) (ht : P.underlying t = some (.slice e)) (hi : P.info? e = some i) (hz : i.zero = some z) (hzs : z.cells.size = i.size) (ha : AppArg P w i z ts x' m new') (hroom : ¬ (n + m ≤ k))
    (hlim : (i.bytes + i.size + 1) * (n + m) ≤ LIM)
    (hold : ∀ w1, w1.heap = w.heap → (Builtin.firstCells i.size n (.slice base n k)).run P w1 = .ok ⟨old'⟩ w1) :
    (Builtin.append_ ts ty #[.slice base n k, x']).run P w = .ok (.slice (some ⟨w.heap.size, 0, none⟩) (n + m) (grownCap w (n + m) k e))
      (w.drew.alloc (.cells (⟨old' ++ new' ++ rep z.cells.toList (grownCap w (n + m) k e - (n + m))⟩) e)) := by
  have hnl : n + m ≤ LIM := by
    refine Nat.le_trans ?_ hlim
    have : 1 * (n + m) ≤ (i.bytes + i.size + 1) * (n + m) := Nat.mul_le_mul_right _ (by omega)
    omega
  have hnb : (n + m) * i.bytes ≤ 140737488355328 := by
    rw [Nat.mul_comm]
    refine Nat.le_trans (Nat.mul_le_mul_right _ (by omega)) (Nat.le_trans hlim (by unfold LIM; omega))
  have hfit := growslice_fits (need := n + m) (old := k) (bytes := i.bytes) (by omega) hnb
  have h63 : ¬ (9223372036854775807 < (n : Int) + (m : Int)) := by unfold LIM at hnl; omega
  have hsz : w.drew.heap.size = w.heap.size := rfl
  have h48 : ¬ (281474976710656 < Builtin.nextslicecap (n + m) k * i.bytes) := by omega
  have hrest := zeroCells_eq z.cells (grownCap w (n + m) k e - (n + m))
  have hg : (Question.appendCap (n + m) k e).cut (w.tape w.drawn (Question.appendCap (n + m) k e)) = grownCap w (n + m) k e := rfl
  have ho := hold w.drew rfl
  have hcat : ∀ (a b c : List Value), (⟨a⟩ : Array Value) ++ (⟨b⟩ : Array Value) ++ c.toArray = ⟨a ++ b ++ c⟩ := by intro a b c; simp
  have hmax : IntKind.i64.max = 9223372036854775807 := rfl
  cases ha with
  | none h1 hl hf =>
    have hf1 := hf w.drew rfl
    simp [Builtin.append_, h0, h1, run_underlying ht, sizeOf, typeInfo, hi, hl, hroom, hmax, h63, h48, Question.forced, hg, zeroValue, hz, newRow, hrest, ho, hf1, hsz]
  | list t1 d h1 h2 h3 hl hf =>
    have hf1 := hf w.drew rfl
    have hd : (match d with | .int _ => true | _ => false) = false := by cases d <;> simp at h3 ⊢
    simp [Builtin.append_, h0, h1, run_underlying ht, run_underlying h2, hd, sizeOf, typeInfo, hi, hl, hroom, hmax, h63, h48, Question.forced, hg, zeroValue, hz, newRow, hrest, ho, hf1, hsz]
  | zero t1 q' q h1 h2 hx hm hn =>
    subst hx
    subst hn
    have hml : m ≤ LIM := by omega
    have hmb : i.bytes * m ≤ LIM := Nat.le_trans (Nat.mul_le_mul_right _ (by omega)) hm
    have hw := wrap_small hml
    have c1 : ¬ ((m : Int) < 0) := by omega
    have c2 : ¬ (281474976710656 < (m : Int) * (i.bytes : Int)) := by
      have : ((i.bytes * m : Nat) : Int) ≤ LIM := by exact_mod_cast hmb
      rw [Int.natCast_mul, Int.mul_comm] at this
      unfold LIM at this
      omega
    have hzc := zeroCells_eq z.cells m
    simp [Builtin.append_, h0, h1, run_underlying ht, run_underlying h2, asInt, asIntOf, hw, c1, c2, sizeOf, typeInfo, hi, hroom, hmax, h63, h48, Question.forced, hg, zeroValue, hz, newRow, hrest, hzc, ho, hsz]
    intro h
    rw [List.eq_nil_of_length_eq_zero (l := rep z.cells.toList m) (by rw [rep_length, Array.length_toList, hzs]; exact h)]
    simp

theorem Rel.dead {hp : Hp Blk} (h : Rel c ρ V hp w) (b : Nat) (hb : V b) (k : Blk) (hg : hp.get b = some k) (hl : live k = true) (hN : c.w0.heap.size ≤ (ρ b).r) : Rel c ρ V (hp.set .dead b) w :=
  Rel.turn h b hb k .dead hg hl hN (.stringIter ByteArray.empty 0) (Nat.le_refl _) rfl rfl rfl (fun _ _ _ => rfl) (fun h => by cases h)
/-- a new name for a block that is there -/
theorem Rel.also {hp : Hp Blk} (h : Rel c ρ V hp w) (n : Nat) (hn : ¬ V n) (p : Pl) (k : Blk) (o : Obj) (ho : w.heap[p.r]? = some o)
    (hno : ∀ b k, V b → hp.get b = some k → live k = true → (ρ b).r ≠ p.r)
    (hk : ∀ ρ', SameOn V ρ ρ' → ρ' n = p → BR ρ' (VU V n (n + 1)) c.ng c.w0.heap.size p k o) :
    Rel c (fun b => if b = n then p else ρ b) (VU V n (n + 1)) (hp.set k n) w := by
  have hs : SameOn V ρ (fun b => if b = n then p else ρ b) := fun b hb => by
    simp only
    rw [if_neg]
    rintro rfl
    exact hn hb
  have old : ∀ b, VU V n (n + 1) b → b ≠ n → V b := by
    rintro b (hb | hb) hne
    · exact hb
    · omega
  refine ⟨fun g hg => ⟨.inl (h.glob g hg).1, (congrArg Pl.r (hs g (h.glob g hg).1)).trans (h.glob g hg).2⟩, fun b k' hb hg hl => ?_, fun b1 k1 b2 k2 v1 v2 g1 g2 l1 l2 hr12 hN => ?_, h.below⟩
  · rw [Hp.get_set] at hg
    by_cases e : b = n
    · subst e
      rw [if_pos rfl] at hg
      obtain rfl := Option.some.inj hg
      simp only [if_true]
      exact ⟨o, ho, hk _ hs (by simp)⟩
    · rw [if_neg e] at hg
      obtain ⟨o', ho', hb'⟩ := h.blk b k' (old b hb e) hg hl
      simp only [if_neg e]
      exact ⟨o', ho', hb'.mono hs VU.sub⟩
  · rw [Hp.get_set] at g1 g2
    by_cases e1 : b1 = n
    · by_cases e2 : b2 = n
      · rw [e1, e2]
      · rw [if_neg e2] at g2
        simp only [if_pos e1, if_neg e2] at hr12
        exact absurd hr12.symm (hno b2 k2 (old b2 v2 e2) g2 l2)
    · rw [if_neg e1] at g1
      by_cases e2 : b2 = n
      · simp only [if_neg e1, if_pos e2] at hr12
        exact absurd hr12 (hno b1 k1 (old b1 v1 e1) g1 l1)
      · rw [if_neg e2] at g2
        simp only [if_neg e1, if_neg e2] at hr12 hN
        exact h.inj b1 k1 b2 k2 (old b1 v1 e1) (old b2 v2 e2) g1 g2 l1 l2 hr12 hN

theorem store_real {P : Program} {r : Nat} {C : Array Value} {el : TypeId} {fz : Nat × Nat} (h : w.heap[r]? = some (.cells C el fz)) (hfz : ∀ i, i < C.size → frozenAt fz i = false) (off : Nat) (xs : List Value)
    (hsz : off + xs.length ≤ C.size) (hone : ∀ v ∈ xs, v.oneCell' = true) :
    (storeCells ⟨r, off, none⟩ xs).run P w = .ok () (w.setCells r off xs) := by
  have hst := run_storeCells_cells (P := P) r off xs 0 w (fun j hj => by
      rw [cells_get h, Array.getElem?_eq_getElem (by omega)]; rfl)
    (fun j hj => by rw [frozen_get h]; exact hfz _ (by omega)) hone
  simpa using hst

theorem slice_inv {a : Option Addr} {n k : Nat} {v' : Value} (h : VR ρ V (.slice a n k) v') :
    (a = none ∧ n = 0 ∧ k = 0 ∧ v' = .slice none 0 0) ∨ (∃ b off k', a = some ⟨b, off, none⟩ ∧ V b ∧ n ≤ k' ∧ CapR (ρ b) off k k' ∧ v' = .slice (some ⟨(ρ b).r, off, none⟩) n k') := by
  cases h with
  | atom v h =>
    cases a with
    | some a => simp [atomV] at h
    | none =>
      cases n with
      | zero => cases k with
        | zero => exact .inl ⟨rfl, rfl, rfl, rfl⟩
        | succ k => simp [atomV] at h
      | succ n => simp [atomV] at h
  | slice b off n c c' h hn hc => exact .inr ⟨b, off, c', rfl, h, hn, hc, rfl⟩
end
end Go.AM
