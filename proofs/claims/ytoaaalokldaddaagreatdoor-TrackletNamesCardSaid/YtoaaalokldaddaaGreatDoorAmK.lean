import Derived.Test.YtoaaalokldaddaaGreatDoorAmJ
set_option linter.unusedSimpArgs false
set_option linter.unusedVariables false
namespace Go.AM
open Go Go.RowKit

section
variable {c : Cx} {ρ : Map} {V : Nat → Prop} {s s' : St} {w : World} {P : Program}

def OR (ρ : Map) (V : Nat → Prop) : Option Value → Option Value → Prop
  | none, none => True
  | some v, some v' => VR ρ V v v'
  | _, _ => False
theorem optNat_vr {d n : Nat} {o o' : Option Value} (h : optNat d o = some n) (k : OR ρ V o o') : (o = none ∧ o' = none ∧ n = d) ∨ ∃ q v, o = some v ∧ o' = some (.int q (n : Int)) := by
  cases o with
  | none =>
    cases o' with
    | none => simp [optNat] at h; exact .inl ⟨rfl, rfl, h.symm⟩
    | some v => exact k.elim
  | some v =>
    cases o' with
    | none => exact k.elim
    | some v' =>
      obtain ⟨q, rfl⟩ := natOf_vr h k
      exact .inr ⟨q, v, rfl, rfl⟩
theorem bounds_run {isSlice : Bool} {len cap cap' : Nat} {lo hi mx lo' hi' mx' : Option Value} {x : Nat × Nat × Nat} (h : bounds len cap lo hi mx = some x) (hl : OR ρ V lo lo') (hh : OR ρ V hi hi') (hm : OR ρ V mx mx')
    (hc : cap ≤ cap') : x.1 ≤ x.2.1 ∧ x.2.1 ≤ x.2.2 ∧ x.2.2 ≤ cap ∧ (mx = none → x.2.2 = cap) ∧ ∀ w, (Instr.sliceBounds isSlice len cap' lo' hi' mx').run P w = .ok (x.1, x.2.1, if mx.isSome then x.2.2 else cap') w := by
  unfold bounds at h
  split at h
  · cases h
  · rename_i hcond
    simp only [Option.bind_eq_some_iff] at h
    obtain ⟨l, h1, hn, h2, m, h3, h⟩ := h
    split at h
    · rename_i hb
      cases h
      simp only [Bool.and_eq_true, Nat.ble_eq] at hb
      obtain ⟨⟨b1, b2⟩, b3⟩ := hb
      refine ⟨b1, b2, b3, fun e => ?_, fun w => ?_⟩
      · subst e
        simp only [optNat, Option.some.injEq] at h3
        exact h3.symm
      · have c1 : (l : Int) ≤ (hn : Int) := by omega
        have c2 : (hn : Int) ≤ (m : Int) := by omega
        have c3 : (m : Int) ≤ (cap' : Int) := by omega
        have c4 : (hn : Int) ≤ (cap' : Int) := by omega
        have d1 : ¬ hn < l := by omega
        have d2 : ¬ m < hn := by omega
        have d3 : ¬ cap' < m := by omega
        have d4 : ¬ cap' < hn := by omega
        rcases optNat_vr h1 hl with ⟨rfl, rfl, rfl⟩ | ⟨q1, v1, rfl, rfl⟩ <;> rcases optNat_vr h2 hh with ⟨rfl, rfl, rfl⟩ | ⟨q2, v2, rfl, rfl⟩ <;> rcases optNat_vr h3 hm with ⟨rfl, rfl, rfl⟩ | ⟨q3, v3, rfl, rfl⟩ <;>
          simp_all [Instr.sliceBounds, Instr.sliceBound, asIntOf]
    · cases h

theorem sliceOf_vr {a a' : Option Addr} {n k k' l h m size : Nat} {ex : Bool} {v : Value} (hs : sliceOf a l h m size ex = some v) (hlh : l ≤ h) (hhm : h ≤ m) (hv : VR ρ V (.slice a n k) (.slice a' n k'))
    (m' : Nat) (hex : ex = true → m' = m ∧ m < BIG) (hin : ex = false → m' = k' ∧ BIG ≤ k ∧ m = k - BIG) :
    VR ρ V v (.slice (if m' = l then a' else a'.map (·.add (l * size))) (h - l) (m' - l)) := by
  unfold sliceOf at hs
  split at hs
  · rename_i hml
    subst hml
    have hh : h = m := by omega
    subst hh
    split at hs
    · rename_i he
      cases hs
      obtain ⟨rfl, _⟩ := hex he
      simp only [if_true, Nat.sub_self]
      rcases slice_inv hv with ⟨rfl, rfl, rfl, e⟩ | ⟨b, off, k2, rfl, hb, hnk, hc, e⟩
      · cases e; exact .atom _ rfl
      · cases e
        refine .slice b off 0 0 0 hb (Nat.le_refl _) ?_
        unfold CapR
        rw [if_pos big_pos]
    · rename_i he
      split at hs
      · rename_i hl0
        cases hs
        subst hl0
        obtain ⟨rfl, hk, hm0⟩ := hin (by simpa using he)
        rcases slice_inv hv with ⟨rfl, rfl, rfl, e⟩ | ⟨b, off, k2, rfl, hb, hnk, hc, e⟩
        · exact absurd hk (by have := big_pos; omega)
        · cases e
          have hA : (if m' = 0 then (some ⟨(ρ b).r, off, none⟩ : Option Addr) else (some ⟨(ρ b).r, off, none⟩ : Option Addr).map (·.add (0 * size))) = some ⟨(ρ b).r, off, none⟩ := by
            split <;> simp [Addr.add_lit]
          rw [hA]
          refine .slice b off 0 _ _ hb (Nat.zero_le _) ?_
          unfold CapR at hc ⊢
          rw [if_neg (by omega)] at hc
          rw [if_neg (by simp [mkCap])]
          exact ⟨fun e => by simpa using hc.1 e, by simp [mkCap]⟩
      · cases hs
  · rename_i hml
    split at hs
    · rename_i b off
      split at hs
      · rename_i hcnd
        cases hs
        rcases slice_inv hv with ⟨e0, _⟩ | ⟨b2, off2, k2, e0, hb, hnk, hc, e⟩
        · cases e0
        · cases e0
          cases e
          have hne : m' ≠ l := by
            cases ex with
            | true => obtain ⟨rfl, _⟩ := hex rfl; exact hml
            | false =>
              obtain ⟨rfl, hk, hm0⟩ := hin rfl
              unfold CapR at hc
              rw [if_neg (by omega)] at hc
              omega
          rw [if_neg hne]
          simp only [Option.map_some, Addr.add_lit, addO]
          cases ex with
          | true =>
            obtain ⟨rfl, hmB⟩ := hex rfl
            refine .slice b (off + l * size) _ _ _ hb (by omega) ?_
            have : m' - l < BIG := by omega
            simp [CapR, mkCap, this]
          | false =>
            obtain ⟨rfl, hk, hm0⟩ := hin rfl
            unfold CapR at hc
            rw [if_neg (by omega)] at hc
            refine .slice b (off + l * size) _ _ _ hb (by omega) ?_
            unfold CapR mkCap
            simp only
            rw [if_neg (by omega)]
            refine ⟨fun e => ?_, by omega⟩
            simp only [Bool.false_or, Bool.or_eq_true, beq_iff_eq, bne_iff_ne] at hcnd
            have hl0 : l = 0 := by
              rcases hcnd with h0 | h0
              · exact h0
              · have : l * size = 0 := by omega
                rcases Nat.mul_eq_zero.1 this with h1 | h1
                · exact h1
                · exact absurd h1 h0
            subst hl0
            have := hc.1 (by omega)
            simpa using this
      · cases hs
    · cases hs

theorem bounds_le {len cap : Nat} {lo hi mx : Option Value} {x : Nat × Nat × Nat} (h : bounds len cap lo hi mx = some x) : x.2.2 ≤ cap := by
  unfold bounds at h
  split at h
  · cases h
  · simp only [Option.bind_eq_some_iff] at h
    obtain ⟨l, h1, hn, h2, m, h3, h⟩ := h
    split at h
    · rename_i hb
      cases h
      simp only [Bool.and_eq_true, Nat.ble_eq] at hb
      exact hb.2
    · cases h

theorem slice_sound {t : TypeId} {x x' v : Value} {lo hi mx lo' hi' mx' : Option Value} (h : sliceM P t x lo hi mx = some v) (hx : VR ρ V x x') (hl : OR ρ V lo lo') (hh : OR ρ V hi hi') (hm : OR ρ V mx mx') :
    Gives P ρ V v (Instr.sliceAt t x' lo' hi' mx') := by
  unfold sliceM at h
  split at h
  · rename_i s hu
    split at h
    · simp only [sliceStr, Option.map_eq_some_iff] at h
      obtain ⟨y, hb, rfl⟩ := h
      have := str_inv hx
      subst this
      have hm' : mx' = none := by
        cases mx' with
        | none => rfl
        | some v => exact hm.elim
      subst hm'
      obtain ⟨b1, b2, b3, b4, b5⟩ := bounds_run (P := P) (isSlice := false) hb hl hh hm (Nat.le_refl _)
      refine ⟨_, fun w => ?_, VR.str _⟩
      have hE : s.extract y.1 y.2.1 = ⟨⟨(s.data.toList.take y.2.1).drop y.1⟩⟩ := by
        apply ByteArray.ext
        apply Array.ext'
        rw [Lib.extract_data]
        simp [List.drop_take, List.extract_eq_take_drop]
      have := b5 w
      simp at this
      simp [Instr.sliceAt, Instr.slice, run_underlying hu, this, hE]
    · cases h
  · rename_i e a n k hu
    simp only [Option.bind_eq_some_iff, sliceS] at h
    obtain ⟨size, hs, y, hb, h⟩ := h
    split at h
    case isFalse => cases h
    rename_i hyL
    simp only [Nat.ble_eq] at hyL
    have hyB : y.2.2 < BIG := by unfold LIM at hyL; unfold BIG; omega
    have hcapx : ∀ k', (∃ a', x' = .slice a' n k' ∧ VR ρ V (.slice a n k) (.slice a' n k')) → (sliceCap k).1 ≤ k' ∧ ((sliceCap k).2 = true → k' = k ∧ k < BIG ∧ (sliceCap k).1 = k) ∧ ((sliceCap k).2 = false → BIG ≤ k ∧ (sliceCap k).1 = k - BIG) := by
      rintro k' ⟨a', rfl, hv⟩
      cases hex : (sliceCap k).2 with
      | true =>
        obtain ⟨e1, e2⟩ := sliceCap_exact hex
        have : k' = k := by
          rcases slice_inv hv with ⟨_, _, rfl, e⟩ | ⟨b, off, k2, _, hb, hnk, hc, e⟩
          · cases e; rfl
          · cases e; unfold CapR at hc; rw [if_pos e1] at hc; exact hc
        exact ⟨by omega, (fun _ => ⟨this, e1, e2⟩), fun h => by cases h⟩
      | false =>
        have e1 := sliceCap_inexact hex
        have e2 : (sliceCap k).1 = k - BIG := by
          unfold sliceCap
          rw [Nat.ble_eq_true_of_le e1]
        have : k - BIG ≤ k' := by
          rcases slice_inv hv with ⟨_, _, rfl, e⟩ | ⟨b, off, k2, _, hb, hnk, hc, e⟩
          · have := big_pos; omega
          · cases e; unfold CapR at hc; rw [if_neg (by omega)] at hc; exact hc.2
        exact ⟨by omega, (fun h => by cases h), fun _ => ⟨e1, e2⟩⟩
    have hx2 : ∃ a' k', x' = .slice a' n k' := by
      rcases slice_inv hx with ⟨rfl, rfl, rfl, rfl⟩ | ⟨b, off, k2, rfl, hb, hnk, hc, rfl⟩
      · exact ⟨_, _, rfl⟩
      · exact ⟨_, _, rfl⟩
    obtain ⟨a', k', rfl⟩ := hx2
    obtain ⟨q1, q2, q3⟩ := hcapx k' ⟨a', rfl, hx⟩
    obtain ⟨b1, b2, b3, b4, b5⟩ := bounds_run (P := P) (isSlice := true) hb hl hh hm q1
    have hv := sliceOf_vr h b1 b2 hx (if mx.isSome then y.2.2 else k') (fun he => by
      cases hmx : mx with
      | some u =>
        rw [hmx] at he
        simp only [Option.isSome_some, if_true]
        exact ⟨trivial, hyB⟩
      | none =>
        rw [hmx] at he
        simp only [Option.isSome_none, Bool.or_false] at he
        obtain ⟨e0, e1, e2⟩ := q2 he
        simp only [Option.isSome_none, if_false, Bool.false_eq_true]
        have := b4 hmx
        omega) (fun he => by
      simp only [Bool.or_eq_false_iff] at he
      obtain ⟨e1, e2⟩ := q3 he.1
      have hmx : mx = none := by simpa using he.2
      simp only [hmx, Option.isSome_none, if_false, Bool.false_eq_true]
      have := b4 hmx
      exact ⟨trivial, e1, by omega⟩)
    refine ⟨_, fun w => ?_, hv⟩
    simp [Instr.sliceAt, Instr.slice, run_underlying hu, b5 w, run_size hs]
  · rename_i n e b off hu
    simp only [Option.bind_eq_some_iff] at h
    obtain ⟨size, hs, h⟩ := h
    split at h
    · rename_i hn
      simp only [Nat.ble_eq] at hn
      simp only [sliceA, Option.bind_eq_some_iff] at h
      obtain ⟨y, hb, h⟩ := h
      obtain ⟨hV, rfl⟩ := ptr_inv hx
      obtain ⟨b1, b2, b3, b4, b5⟩ := bounds_run (P := P) (isSlice := false) hb hl hh hm (Nat.le_refl _)
      have hN : n < BIG := by unfold LIM at hn; unfold BIG; omega
      have hmm : (if mx.isSome then y.2.2 else n) = y.2.2 := by
        cases hmx : mx with
        | some u => simp
        | none => simp [b4 hmx]
      have hcr : CapR (ρ b) off n n := by unfold CapR; rw [if_pos hN]
      have hv := sliceOf_vr (ρ := ρ) (n := n) (k := n) h b1 b2 (.slice b off n n n hV (Nat.le_refl _) hcr) y.2.2 (fun _ => ⟨rfl, by omega⟩) (fun he => by cases he)
      refine ⟨_, fun w => ?_, hv⟩
      have h5 := b5 w
      rw [hmm] at h5
      simp only [Instr.sliceAt, Sem.run_bind, run_underlying hu, Result.andThen_ok, Instr.sureAddr, Sem.run_pure, h5, run_size hs]
      split <;> rfl
    · cases h
  · cases h
end
end Go.AM
