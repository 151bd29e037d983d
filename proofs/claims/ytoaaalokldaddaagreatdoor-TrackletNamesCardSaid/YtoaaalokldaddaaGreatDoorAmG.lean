import Derived.Test.YtoaaalokldaddaaGreatDoorAmF
set_option linter.unusedSimpArgs false
set_option linter.unusedVariables false
namespace Go.AM
open Go Go.RowKit

section
variable {c : Cx} {ρ : Map} {V : Nat → Prop} {s s' : St} {w : World}

theorem lenV_sound {v v' : Value} {m : Nat} (h : lenV v = some m) (k : VR ρ V v v') (w1 : World) : (Builtin.lenOf v').run c.P w1 = .ok m w1 := by
  cases v with
  | slice a n q =>
    simp only [lenV, Option.some.injEq] at h
    subst h
    cases k with
    | atom v h => simp [Builtin.lenOf]
    | slice b off n c c' h hn hc => simp [Builtin.lenOf]
  | string s =>
    simp only [lenV, Option.some.injEq] at h
    subst h
    cases k with
    | atom v h => simp [Builtin.lenOf]
  | _ => cases h

theorem heap_cell {w w1 : World} (h : w1.heap = w.heap) (a : Addr) : w1.cell? a = w.cell? a := by simp [World.cell?, h]

theorem firstM_sound {size n : Nat} {v v' : Value} {l : List Value} (h : firstM size n v s = some (l, s')) (hR : Rel c ρ V s.hp w) (k : VR ρ V v v') :
    SameSt s s' ∧ ∃ l', LR ρ V l l' ∧ ∀ w1, w1.heap = w.heap → (Builtin.firstCells size n v').run c.P w1 = .ok ⟨l'⟩ w1 := by
  cases v with
  | slice a n0 q =>
    cases k with
    | atom v h1 =>
      cases a with
      | some a => simp [atomV] at h1
      | none =>
        obtain ⟨rfl, rfl⟩ := pure_some h
        exact ⟨SameSt.refl _, [], LR.nil, fun w1 _ => by simp [Builtin.firstCells]⟩
    | slice b off n0 q q' hb hn hc =>
      obtain ⟨h1, h2, l', h3, h4, h5⟩ := rdCells_sound h hR hb
      refine ⟨h1, l', h3, fun w1 hw => ?_⟩
      have hr := run_loadCells_list (P := c.P) w1 ⟨(ρ b).r, off, none⟩ l' (fun j v hv => by rw [Addr.add_lit, heap_cell hw]; exact h5 j v hv)
      rw [h4] at hr
      simpa [Builtin.firstCells] using hr
  | string x =>
    cases k with
    | atom v h1 =>
      obtain ⟨rfl, rfl⟩ := pure_some h
      refine ⟨SameSt.refl _, _, LR.refl_of (fun v hv => ?_), fun w1 _ => ?_⟩
      · simp only [List.mem_map] at hv
        obtain ⟨b, _, rfl⟩ := hv
        exact VR.int _ _
      · have e : (x.extract 0 n).data = ⟨x.data.toList.take n⟩ := by
          apply Array.ext'
          rw [Lib.extract_data]
          simp
        simp [Builtin.firstCells, e]
        apply Array.ext'
        simp
  | _ => exact absurd h (by simp [firstM, M.fail])

/-- what is appended, on the machine's side -/
inductive AppArg (P : Program) (w : World) (i : TypeInfo) (z : Value) (ts : Array TypeId) (x' : Value) (m : Nat) (new' : List Value) : Prop where
  | none (h1 : ts[1]? = none) (hl : ∀ w1, (Builtin.lenOf x').run P w1 = .ok m w1) (hf : ∀ w1, w1.heap = w.heap → (Builtin.firstCells i.size m x').run P w1 = .ok ⟨new'⟩ w1)
  | list (t1 : TypeId) (d : TypeDesc) (h1 : ts[1]? = some t1) (h2 : P.underlying t1 = some d) (h3 : ∀ k, d ≠ .int k) (hl : ∀ w1, (Builtin.lenOf x').run P w1 = .ok m w1)
      (hf : ∀ w1, w1.heap = w.heap → (Builtin.firstCells i.size m x').run P w1 = .ok ⟨new'⟩ w1)
  | zero (t1 : TypeId) (k q : IntKind) (h1 : ts[1]? = some t1) (h2 : P.underlying t1 = some (.int k)) (hx : x' = .int q (m : Int)) (hm : (i.bytes + i.size + 1) * m ≤ LIM) (hn : new' = rep z.cells.toList m)

theorem zeroCells_eq (z : Array Value) (n : Nat) : Builtin.zeroCells z n = (rep z.toList n).toArray := by
  unfold Builtin.zeroCells
  exact zeros_eq z n

/-- the zeros behind a row that grows -/
def rest0 (w : World) (z : Value) (need old e : Nat) : List Value := rep z.cells.toList (grownCap w need old e - need)

theorem append_in {P : Program} {w w' : World} {ts : Array TypeId} {ty t e : TypeId} {i : TypeInfo} {z x' : Value} {base : Option Addr} {n k m : Nat} {new' : List Value}
    (h0 : ts[0]? = some t) (ht : P.underlying t = some (.slice e)) (hi : P.info? e = some i) (hz : i.zero = some z) (hzs : z.cells.size = i.size) (ha : AppArg P w i z ts x' m new') (hroom : n + m ≤ k)
    (hst : (match base with | some a => storeCells (a.add (n * i.size)) new' | none => pure ()).run P w = .ok () w') :
    (Builtin.append_ ts ty #[.slice base n k, x']).run P w = .ok (.slice base (n + m) k) w' := by
  cases ha with
  | none h1 hl hf =>
    have hf0 := hf w rfl
    cases base with
    | none => simp at hst; subst hst; simp [Builtin.append_, h0, h1, run_underlying ht, sizeOf, typeInfo, hi, hl, hroom, hf0]
    | some a => simp at hst; simp [Builtin.append_, h0, h1, run_underlying ht, sizeOf, typeInfo, hi, hl, hroom, hf0, hst]
  | list t1 d h1 h2 h3 hl hf =>
    have hf0 := hf w rfl
    have hd : (match d with | .int _ => true | _ => false) = false := by cases d <;> simp at h3 ⊢
    cases base with
    | none => simp at hst; subst hst; simp [Builtin.append_, h0, h1, run_underlying ht, run_underlying h2, hd, sizeOf, typeInfo, hi, hl, hroom, hf0]
    | some a => simp at hst; simp [Builtin.append_, h0, h1, run_underlying ht, run_underlying h2, hd, sizeOf, typeInfo, hi, hl, hroom, hf0, hst]
  | zero t1 q' q h1 h2 hx hm hn =>
    subst hx
    subst hn
    have hml : m ≤ LIM := by
      refine Nat.le_trans ?_ hm
      have : 1 * m ≤ (i.bytes + i.size + 1) * m := Nat.mul_le_mul_right _ (by omega)
      omega
    have hmb : i.bytes * m ≤ LIM := Nat.le_trans (Nat.mul_le_mul_right _ (by omega)) hm
    have hw := wrap_small hml
    have c1 : ¬ ((m : Int) < 0) := by omega
    have c2 : ¬ (281474976710656 < (m : Int) * (i.bytes : Int)) := by
      have : ((i.bytes * m : Nat) : Int) ≤ LIM := by exact_mod_cast hmb
      rw [Int.natCast_mul, Int.mul_comm] at this
      unfold LIM at this
      omega
    have hzc := zeroCells_eq z.cells m
    by_cases hz0 : m * i.size = 0
    · have he : rep z.cells.toList m = [] := List.eq_nil_of_length_eq_zero (by rw [rep_length, Array.length_toList, hzs, hz0])
      rw [he] at hst
      have hz0' : m = 0 ∨ i.size = 0 := Nat.mul_eq_zero.1 hz0
      cases base with
      | none => simp at hst; subst hst; simp [Builtin.append_, h0, h1, run_underlying ht, run_underlying h2, asInt, asIntOf, sizeOf, typeInfo, hi, hw, c1, c2, hroom, hz0, hz0']
      | some a => simp at hst; simp [Builtin.append_, h0, h1, run_underlying ht, run_underlying h2, asInt, asIntOf, sizeOf, typeInfo, hi, hw, c1, c2, hroom, hz0, hz0', hst]
    · have hz0' : ¬ (m = 0 ∨ i.size = 0) := fun h => hz0 (Nat.mul_eq_zero.2 h)
      cases base with
      | none => simp at hst; subst hst; simp [Builtin.append_, h0, h1, run_underlying ht, run_underlying h2, asInt, asIntOf, sizeOf, typeInfo, hi, hw, c1, c2, hroom, hz0, hz0', zeroValue, hz, hzc]
      | some a => simp at hst; simp [Builtin.append_, h0, h1, run_underlying ht, run_underlying h2, asInt, asIntOf, sizeOf, typeInfo, hi, hw, c1, c2, hroom, hz0, hz0', zeroValue, hz, hzc, hst]
end
end Go.AM
