import Derived.Test.YtoaaalokldaddaaGreatDoorAmE
import Derived.Laws.BytesString
import Derived.Lib.Strings
set_option linter.unusedSimpArgs false
set_option linter.unusedVariables false
namespace Go.AM
open Go Go.RowKit

theorem run_newRow {P : Program} {w : World} (el : TypeId) (C : Array Value) : (newRow el C).run P w = .ok ⟨w.heap.size, 0, none⟩ (w.alloc (.cells C el)) := by
  simp [newRow]

theorem sliceE_some {P : Program} {t e : TypeId} (h : sliceE P t = some e) : P.underlying t = some (.slice e) := by
  unfold sliceE at h
  split at h
  · cases h; assumption
  · cases h
theorem isByteT_some {P : Program} {t : TypeId} (h : isByteT P t = true) : P.underlying t = some (.int .u8) := by
  unfold isByteT at h
  split at h
  · assumption
  · cases h
theorem isStrT_some {P : Program} {t : TypeId} (h : isStrT P t = true) : P.underlying t = some .string := by
  unfold isStrT at h
  split at h
  · assumption
  · cases h

/-! ### So many zero values -/
theorem rep_length {α : Type} (l : List α) (n : Nat) : (rep l n).length = n * l.length := by
  induction n with
  | zero => simp [rep]
  | succ n ih => simp [rep, ih, Nat.succ_mul, Nat.add_comm]
theorem rep_get {α : Type} (l : List α) (n i : Nat) (h : i < n * l.length) : (rep l n)[i]? = l[i % l.length]? := by
  induction n generalizing i with
  | zero => simp at h
  | succ n ih =>
    simp only [rep]
    rcases Nat.lt_or_ge i l.length with h1 | h1
    · rw [List.getElem?_append_left h1, Nat.mod_eq_of_lt h1]
    · rw [List.getElem?_append_right h1, ih (i - l.length) (by rw [Nat.succ_mul] at h; omega)]
      rw [← Nat.mod_eq_sub_mod h1]
theorem zeros_eq (z : Array Value) (n : Nat) : ((Array.range (n * z.size)).map (fun i => z[i % z.size]!)) = (rep z.toList n).toArray := by
  apply Array.ext_getElem?
  intro i
  rcases Nat.lt_or_ge i (n * z.size) with h | h
  · have e : (rep z.toList n).toArray[i]? = (rep z.toList n)[i]? := by simp
    rw [e, rep_get _ _ _ (by simpa using h)]
    have hz : 0 < z.size := by
      rcases Nat.eq_zero_or_pos z.size with h0 | h0
      · rw [h0] at h; omega
      · exact h0
    have hm := Nat.mod_lt i hz
    simp [h, hm, getElem!_pos]
  · rw [Array.getElem?_eq_none (by simpa using h), Array.getElem?_eq_none]
    simp [rep_length]
    exact h
theorem rep_mem {α : Type} {l : List α} {n : Nat} {x : α} (h : x ∈ rep l n) : x ∈ l := by
  induction n with
  | zero => simp [rep] at h
  | succ n ih =>
    simp only [rep, List.mem_append] at h
    exact h.elim id ih

section
variable {c : Cx} {ρ : Map} {V : Nat → Prop} {s s' : St} {w : World}
theorem flat_cells {d : Nat} {z : Value} (h : flat (d + 1) z = true) : ∀ v ∈ cellsOf z, VR ρ V v v := by
  intro v hv
  have h1 := flat_vr (ρ := ρ) (V := V) _ _ h
  have h2 := cellsOf_lr h1
  obtain ⟨i, hi⟩ := List.getElem?_of_mem hv
  exact h2.2 i v v hi hi

/-- a row of cells is made -/
theorem newCells_sound {el es n : Nat} {cs cs' : List Value} {own : Bool} (h : newB (.cells el es true cs) s = some (n, s')) (hR : Rel c ρ V s.hp w) (hf : Free V s.nx s'.nx) (hl : LR ρ V cs cs')
    (C : Array Value) (fz : Nat × Nat) (hC : C.toList.take cs.length = cs') (hlen : cs.length ≤ C.size) (hfz : ∀ i, i < C.size → frozenAt fz i = false) :
    ∃ ρ', SameOn V ρ ρ' ∧ Rel c ρ' (VU V s.nx s'.nx) s'.hp (w.alloc (.cells C el fz)) ∧ ρ' n = ⟨w.heap.size, C.size, es⟩ ∧ VU V s.nx s'.nx n := by
  obtain ⟨rfl, h2, h3⟩ := new_some h
  rw [h3] at hf ⊢
  have hn : ¬ V s.nx := hf s.nx (Nat.le_refl _) (by omega)
  refine ⟨fun b => if b = s.nx then ⟨w.heap.size, C.size, es⟩ else ρ b, fun b hb => ?_, ?_, by simp, .inr (by omega)⟩
  · simp only
    rw [if_neg]
    rintro rfl
    exact hn hb
  · rw [h2]
    refine Rel.new hR s.nx hn ⟨w.heap.size, C.size, es⟩ rfl _ (.cells C el fz) fun ρ' hs hp => ?_
    refine .cells _ _ _ _ _ _ _ (fun _ => rfl) rfl rfl hlen ?_ (fun _ => ⟨hR.below.size, hfz⟩) (fun h => by cases h)
    rw [hC]
    exact hl.mono hs VU.sub

theorem frozen00 (i : Nat) : frozenAt (0, 0) i = false := by simp [frozenAt]

/-- what an operation that makes memory comes to -/
structure Made (c : Cx) (ρ : Map) (V : Nat → Prop) (s s' : St) (w' : World) (ρ' : Map) : Prop where
  same : SameOn V ρ ρ'
  rel : Rel c ρ' (VU V s.nx s'.nx) s'.hp w'
theorem Made.of_same (hR : Rel c ρ V s.hp w) (h : SameSt s s') : Made c ρ V s s' w ρ := ⟨SameOn.refl V ρ, by rw [h.nx, VU.self, h.hp]; exact hR⟩
theorem Made.of_nx {w' : World} (hR : Rel c ρ V s'.hp w') (h : s'.nx = s.nx) : Made c ρ V s s' w' ρ := ⟨SameOn.refl V ρ, by rw [h, VU.self]; exact hR⟩

theorem newVar_sound {t : TypeId} {v v' x : Value} (h : allocM c.P t v s = some (x, s')) (hR : Rel c ρ V s.hp w) (hf : Free V s.nx s'.nx) (hv : VR ρ V v v') :
    ∃ ρ' w', Made c ρ V s s' w' ρ' ∧ (newVar t v').run c.P w = .ok ⟨w.heap.size, 0, none⟩ w' ∧ VR ρ' (VU V s.nx s'.nx) x (.pointer (some ⟨w.heap.size, 0, none⟩)) := by
  obtain ⟨_, s1, h1, h2⟩ := bind_some h
  obtain ⟨hone, rfl⟩ := guard_some h1
  obtain ⟨b, s2, h3, h4⟩ := bind_some h2
  obtain ⟨rfl, rfl⟩ := pure_some h4
  have hlr := cellsOf_lr hv
  have hlen := hlr.1
  simp only [cellsOf, Array.length_toList] at hlen
  obtain ⟨ρ', r1, r2, r3, r4⟩ := newCells_sound (own := true) h3 hR hf hlr v'.cells (0, 0) (by
    rw [List.take_of_length_le]
    · rfl
    · simp only [cellsOf, Array.length_toList]; omega) (by simp only [cellsOf, Array.length_toList]; omega) (fun i _ => frozen00 i)
  refine ⟨ρ', _, ⟨r1, r2⟩, by simp [newVar, run_newRow], ?_⟩
  have := VR.ptr (ρ := ρ') (V := VU V s1.nx s'.nx) b 0 r4
  rw [r3] at this
  exact this

theorem newSlice_sound {e size n k : Nat} {cs cs' : List Value} {x : Value} {exact_ : Bool} (h : newSlice e size n k cs s = some (x, s')) (hR : Rel c ρ V s.hp w) (hf : Free V s.nx s'.nx) (hl : LR ρ V cs cs')
    (C : Array Value) (fz : Nat × Nat) (k' : Nat) (hC : C.toList.take cs.length = cs') (hlen : cs.length ≤ C.size) (hfz : ∀ i, i < C.size → frozenAt fz i = false) (hn : n ≤ k') (hcap : CapR ⟨w.heap.size, C.size, size⟩ 0 k k') :
    ∃ ρ', Made c ρ V s s' (w.alloc (.cells C e fz)) ρ' ∧ VR ρ' (VU V s.nx s'.nx) x (.slice (some ⟨w.heap.size, 0, none⟩) n k') := by
  obtain ⟨b, s2, h3, h4⟩ := bind_some h
  obtain ⟨rfl, rfl⟩ := pure_some h4
  obtain ⟨ρ', r1, r2, r3, r4⟩ := newCells_sound (own := true) h3 hR hf hl C fz hC hlen hfz
  refine ⟨ρ', ⟨r1, r2⟩, ?_⟩
  have := VR.slice (ρ := ρ') (V := VU V s.nx s'.nx) b 0 n k k' r4 hn (by rw [r3]; exact hcap)
  rw [r3] at this
  exact this

theorem natOf_vr {v v' : Value} {n : Nat} (h : natOf v = some n) (k : VR ρ V v v') : ∃ q, v' = .int q (n : Int) := by
  unfold natOf at h
  split at h
  · cases h
    cases k with
    | atom v h => exact ⟨_, rfl⟩
  · cases h

theorem wrap_small {n : Nat} (h : n ≤ LIM) : IntKind.i64.wrap (n : Int) = (n : Int) := by
  unfold LIM at h
  simp only [IntKind.wrap, IntKind.bits, IntKind.signed]
  simp
  omega

theorem makeSlice_sound {t : TypeId} {n n' k k' x : Value} (h : makeSliceM c.P t n k s = some (x, s')) (hR : Rel c ρ V s.hp w) (hf : Free V s.nx s'.nx) (hn : VR ρ V n n') (hk : VR ρ V k k') :
    ∃ ρ' w' x', Made c ρ V s s' w' ρ' ∧ (Instr.makeSlice t n' k').run c.P w = .ok x' w' ∧ VR ρ' (VU V s.nx s'.nx) x x' := by
  obtain ⟨e, s0, h0, h'⟩ := bind_some h
  obtain ⟨q0, rfl⟩ := lift_some h0
  have hu := sliceE_some q0
  · obtain ⟨n1, s1, h1, h2⟩ := bind_some h'
    obtain ⟨q1, rfl⟩ := lift_some h1
    obtain ⟨k1, s2, h3, h4⟩ := bind_some h2
    obtain ⟨q3, rfl⟩ := lift_some h3
    obtain ⟨i, s3, h5, h6⟩ := bind_some h4
    obtain ⟨q5, rfl⟩ := lift_some h5
    obtain ⟨z, s4, h7, h8⟩ := bind_some h6
    obtain ⟨q7, rfl⟩ := lift_some h7
    obtain ⟨_, s5, h9, h10⟩ := bind_some h8
    obtain ⟨q9, rfl⟩ := guard_some h9
    simp only [Bool.and_eq_true, decide_eq_true_eq] at q9
    obtain ⟨⟨g1, g2⟩, g3⟩ := q9
    obtain ⟨q, rfl⟩ := natOf_vr q1 hn
    obtain ⟨q', rfl⟩ := natOf_vr q3 hk
    obtain ⟨z1, z2, z3⟩ := zeroI_some q7
    have hkl : k1 ≤ LIM := by
      refine Nat.le_trans ?_ g2
      have : 1 * k1 ≤ (i.bytes + i.size + 1) * k1 := Nat.mul_le_mul_right _ (by omega)
      omega
    have hkb : i.bytes * k1 ≤ LIM := Nat.le_trans (Nat.mul_le_mul_right _ (by omega)) g2
    have hlr : LR ρ V (rep (cellsOf z) k1) (rep (cellsOf z) k1) := LR.refl_of fun v hv => flat_cells (d := 2) z2 v (rep_mem hv)
    have hzl : (cellsOf z).length = i.size := by simpa [cellsOf] using z3
    have hC : ((rep (cellsOf z) k1).toArray).size = k1 * i.size := by simp [rep_length, hzl]
    obtain ⟨ρ', m1, m2⟩ := newSlice_sound (exact_ := true) h10 hR hf hlr (rep (cellsOf z) k1).toArray (0, 0) k1 (by simp) (by simp) (fun i _ => frozen00 i) g1 (by
      unfold CapR BIG
      rw [if_pos (by unfold LIM at hkl; omega)])
    refine ⟨ρ', _, _, m1, ?_, m2⟩
    have w1 := wrap_small (n := n1) (by omega)
    have w2 := wrap_small hkl
    have c1 : ¬ ((k1 : Int) < 0) := by omega
    have c2 : ¬ ((n1 : Int) < 0) := by omega
    have c3 : ¬ ((k1 : Int) < (n1 : Int)) := by omega
    have c4 : ¬ (281474976710656 < (i.bytes : Int) * (k1 : Int)) := by
      have : ((i.bytes * k1 : Nat) : Int) ≤ LIM := by exact_mod_cast hkb
      simp only [Int.natCast_mul] at this
      unfold LIM at this
      omega
    have hz : ((Array.range (k1 * i.size)).map (fun j => z.cells[j % z.cells.size]!)) = (rep (cellsOf z) k1).toArray := by
      rw [← z3]; exact zeros_eq z.cells k1
    by_cases h0 : k1 * i.size = 0
    · have he : (rep (cellsOf z) k1).toArray = #[] := Array.eq_empty_of_size_eq_zero (by rw [hC, h0])
      rw [he]
      simp [Instr.makeSlice, run_underlying hu, asInt, asIntOf, run_info q5, w1, w2, c1, c2, c3, c4, sizeOf, h0, run_newRow, Array.range_zero']
    · simp [Instr.makeSlice, run_underlying hu, asInt, asIntOf, run_info q5, w1, w2, c1, c2, c3, c4, sizeOf, h0, run_newRow, zeroValue, z1, hz]
end
end Go.AM
