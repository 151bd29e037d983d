import Derived.Test.YtoaaalokldaddaaGreatDoorAmI
set_option linter.unusedSimpArgs false
set_option linter.unusedVariables false
namespace Go.AM
open Go Go.RowKit

section
variable {c : Cx} {ρ : Map} {V : Nat → Prop} {s s' : St} {w : World} {P : Program}

/-- an answer without memory -/
def Gives (P : Program) (ρ : Map) (V : Nat → Prop) (v : Value) (m : Sem Value) : Prop := ∃ v', (∀ w, m.run P w = .ok v' w) ∧ VR ρ V v v'

theorem aggT_t {t : TypeId} (h : aggT P t = some true) : (∃ fs, P.underlying t = some (.struct fs)) ∨ ∃ n e, P.underlying t = some (.array n e) := by
  unfold aggT at h
  split at h
  · rename_i fs hu; exact .inl ⟨_, hu⟩
  · rename_i n e hu; exact .inr ⟨_, _, hu⟩
  · cases h
  · cases h

theorem part_sound {t : TypeId} {cs cs' : List Value} {off : Nat} {v : Value} (h : partM P t cs off = some v) (hc : LR ρ V cs cs') : Gives P ρ V v (part t ⟨cs'⟩ off) := by
  unfold partM at h
  cases e : aggT P t with
  | none => simp [e] at h
  | some g =>
    simp only [e, Option.bind_some] at h
    cases g with
    | true =>
      simp only [bif_, partAgg] at h
      cases en : sizeT P t with
      | none => simp [en] at h
      | some n =>
        simp only [en, Option.bind_some, Option.bind_eq_some_iff, Option.map_eq_some_iff] at h
        obtain ⟨l, hd, l2, ht, rfl⟩ := h
        obtain ⟨rfl, hd1⟩ := drop_some hd
        obtain ⟨rfl, ht1⟩ := take_some ht
        refine ⟨.agg ⟨(cs'.drop off).take n⟩, fun w => ?_, VR.agg_of ((hc.drop off).take n)⟩
        have hx : (⟨cs'⟩ : Array Value).extract off (off + n) = ⟨(cs'.drop off).take n⟩ := by
          apply Array.ext'
          simp [List.extract_eq_take_drop]
        simp [part, run_agg e, run_size en]
    | false =>
      simp only [bif_, partOne] at h
      obtain ⟨v', h1, h2⟩ := hc.get h
      refine ⟨v', fun w => ?_, h2⟩
      have h3 : (⟨cs'⟩ : Array Value)[off]? = some v' := by simpa using h1
      simp [part, run_agg e, h3]

theorem agg_inv {cs : Array Value} {v' : Value} (h : VR ρ V (.agg cs) v') : ∃ cs', v' = .agg ⟨cs'⟩ ∧ LR ρ V cs.toList cs' := by
  cases h with
  | atom v h => simp [atomV] at h
  | agg xs xs' hx kx => exact ⟨xs', rfl, hx, kx⟩
theorem tuple_inv {cs : Array Value} {v' : Value} (h : VR ρ V (.tuple cs) v') : ∃ cs', v' = .tuple ⟨cs'⟩ ∧ LR ρ V cs.toList cs' := by
  cases h with
  | atom v h => simp [atomV] at h
  | tuple xs xs' hx kx => exact ⟨xs', rfl, hx, kx⟩
theorem str_inv {s : ByteArray} {v' : Value} (h : VR ρ V (.string s) v') : v' = .string s := by
  cases h with
  | atom v h => rfl
theorem bool_inv {b : Bool} {v' : Value} (h : VR ρ V (.bool b) v') : v' = .bool b := by
  cases h with
  | atom v h => rfl
theorem int_inv {k : IntKind} {n : Int} {v' : Value} (h : VR ρ V (.int k n) v') : v' = .int k n := by
  cases h with
  | atom v h => rfl
theorem ptr_inv {b off : Nat} {v' : Value} (h : VR ρ V (.pointer (some ⟨b, off, none⟩)) v') : V b ∧ v' = .pointer (some ⟨(ρ b).r, off, none⟩) := by
  cases h with
  | atom v h => simp [atomV] at h
  | ptr b off h => exact ⟨h, rfl⟩

theorem bytes_get (s : ByteArray) (i : Nat) : s[i]? = s.data.toList[i]? := by
  simp only [getElem?_def]
  split
  · rename_i h
    have h' : i < s.data.toList.length := by simpa using h
    rw [dif_pos h']
    rfl
  · rename_i h
    have h' : ¬ i < s.data.toList.length := by simpa using h
    rw [dif_neg h']

theorem index_sound {t : TypeId} {x i x' i' v : Value} (h : indexM P t x i = some v) (hx : VR ρ V x x') (hi : VR ρ V i i') : Gives P ρ V v (Instr.index t x' i') := by
  unfold indexM at h
  split at h
  · rename_i n e cs hu
    cases q : natOf i with
    | none => simp [q] at h
    | some j =>
      simp only [q, Option.bind_some] at h
      cases en : sizeT P e with
      | none => simp [en] at h
      | some size =>
        simp only [en, Option.bind_some] at h
        split at h
        · rename_i hj
          obtain ⟨k, rfl⟩ := natOf_vr q hi
          obtain ⟨cs', rfl, hc⟩ := agg_inv hx
          obtain ⟨v', h1, h2⟩ := part_sound h hc
          refine ⟨v', fun w => ?_, h2⟩
          have h3 : ¬ (n ≤ j) := by omega
          simp [Instr.index, asIntOf, run_underlying hu, h3, run_size en, h1]
        · cases h
  · rename_i s hu
    cases q : natOf i with
    | none => simp [q] at h
    | some j =>
      simp only [q, Option.bind_some, Option.map_eq_some_iff] at h
      obtain ⟨b, hb, rfl⟩ := h
      obtain ⟨k, rfl⟩ := natOf_vr q hi
      have := str_inv hx
      subst this
      refine ⟨.int .u8 b.toNat, fun w => ?_, VR.int _ _⟩
      have hb' : s[j]? = some b := by rw [bytes_get]; exact hb
      simp [Instr.index, asIntOf, run_underlying hu, hb']
  · cases h

theorem field_sound {t : TypeId} {x x' v : Value} {f : Nat} (h : fieldM P t x f = some v) (hx : VR ρ V x x') : Gives P ρ V v (Instr.field t x' f) := by
  unfold fieldM at h
  split at h
  · rename_i fs cs hu
    simp only [Option.bind_eq_some_iff] at h
    obtain ⟨fd, hf, h⟩ := h
    obtain ⟨cs', rfl, hc⟩ := agg_inv hx
    obtain ⟨v', h1, h2⟩ := part_sound h hc
    refine ⟨v', fun w => ?_, h2⟩
    have hf' : fs[f]? = some fd := by simpa using hf
    simp [Instr.field, run_underlying hu, hf', asAgg, h1]
  · cases h

theorem fieldAddr_sound {t : TypeId} {x x' v : Value} {f : Nat} (h : fieldAddrM P t x f = some v) (hx : VR ρ V x x') : Gives P ρ V v (Instr.fieldAt t x' f) := by
  unfold fieldAddrM at h
  split at h
  · rename_i fs b off hu
    simp only [Option.bind_eq_some_iff, fieldAt_] at h
    obtain ⟨fd, hf, size, hs, h⟩ := h
    split at h
    · cases h
    · rename_i hz
      cases h
      obtain ⟨hb, rfl⟩ := ptr_inv hx
      have hf' : fs[f]? = some fd := by simpa using hf
      refine ⟨_, fun w => ?_, .ptr b (off + fd.offset) hb⟩
      simp [Instr.fieldAt, run_underlying hu, hf', Instr.sureAddr, fieldPlace, run_size hs, hz, Addr.add_lit]
  · cases h

theorem indexAddr_sound {t : TypeId} {x i x' i' v : Value} (h : indexAddrM P t x i = some v) (hx : VR ρ V x x') (hi : VR ρ V i i') : Gives P ρ V v (Instr.indexAt t x' i') := by
  unfold indexAddrM at h
  split at h
  · rename_i n e b off j hu q
    simp only [Option.bind_eq_some_iff, at_] at h
    obtain ⟨size, hs, h⟩ := h
    split at h
    · rename_i hj
      cases h
      obtain ⟨hb, rfl⟩ := ptr_inv hx
      obtain ⟨k, rfl⟩ := natOf_vr q hi
      have h3 : ¬ (n ≤ j) := by omega
      refine ⟨_, fun w => ?_, .ptr b (off + j * size) hb⟩
      simp [Instr.indexAt, asIntOf, run_underlying hu, Instr.sureAddr, h3, run_size hs, Addr.add_lit]
    · cases h
  · rename_i e b off n q0 j hu q
    simp only [Option.bind_eq_some_iff, at_] at h
    obtain ⟨size, hs, h⟩ := h
    split at h
    · rename_i hj
      cases h
      obtain ⟨k, rfl⟩ := natOf_vr q hi
      rcases slice_inv hx with ⟨h1, _⟩ | ⟨b', off', k', h1, hb, hnk, hc, rfl⟩
      · cases h1
      · cases h1
        have h3 : ¬ (n ≤ j) := by omega
        refine ⟨_, fun w => ?_, .ptr b (off + j * size) hb⟩
        simp [Instr.indexAt, asIntOf, run_underlying hu, Instr.sureAddr, h3, run_size hs, Addr.add_lit]
    · cases h
  · cases h
end
end Go.AM
