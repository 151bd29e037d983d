import Derived.Test.YtoaaalokldaddaaGreatDoorAmL
import Derived.Laws.Tables
set_option linter.unusedSimpArgs false
set_option linter.unusedVariables false
namespace Go.AM
open Go Go.RowKit

section
variable {c : Cx} {ρ : Map} {V : Nat → Prop} {s s' : St} {w : World} {P : Program}

theorem fill_step (vs : List Value) : ∀ (k : Nat) (off : Nat) (cells : Array Value), off + k + vs.length ≤ cells.size →
    ((vs.zipIdx k).foldl (fun cs x => cs.setIfInBounds (off + x.2) x.1) cells).toList = cells.toList.take (off + k) ++ vs ++ cells.toList.drop (off + k + vs.length) := by
  induction vs with
  | nil => intro k off cells h; simp
  | cons v vs ih =>
    intro k off cells h
    simp at h
    rw [List.zipIdx_cons, List.foldl_cons, ih (k + 1) off _ (by simp; omega)]
    simp only [Array.toList_setIfInBounds]
    rw [show off + (k + 1) = off + k + 1 by omega, List.take_add_one, List.getElem?_set, if_pos rfl, if_pos (by simpa using (by omega : off + k < cells.size)), List.take_set_of_le (Nat.le_refl _), List.drop_set_of_lt (by omega)]
    simp [Nat.add_assoc, Nat.add_comm 1]

def PR (ρ : Map) (V : Nat → Prop) : List (Nat × Value) → List (Nat × Value) → Prop
  | [], [] => True
  | x :: l, x' :: l' => x'.1 = x.1 ∧ VR ρ V x.2 x'.2 ∧ PR ρ V l l'
  | _, _ => False

theorem fill_sound (place : Nat → Option (Nat × Nat)) : ∀ (ps ps' : List (Nat × Value)) (cs cs' out : List Value), fillL place cs ps = some out → LR ρ V cs cs' → PR ρ V ps ps' → ∃ out', Instr.fill place ⟨cs'⟩ ps' = some ⟨out'⟩ ∧ LR ρ V out out' := by
  intro ps
  induction ps with
  | nil =>
    intro ps' cs cs' out h hc hp
    cases ps' with
    | nil => simp only [fillL, Option.some.injEq] at h; subst h; exact ⟨cs', rfl, hc⟩
    | cons x l => exact hp.elim
  | cons x ps ih =>
    intro ps' cs cs' out h hc hp
    cases ps' with
    | nil => exact hp.elim
    | cons x' ps' =>
      obtain ⟨i, v⟩ := x
      obtain ⟨i', v'⟩ := x'
      obtain ⟨rfl, hv, hp⟩ := hp
      simp only [fillL, Option.bind_eq_some_iff] at h
      obtain ⟨p, h1, h⟩ := h
      split at h
      · rename_i hl
        simp only [Option.bind_eq_some_iff] at h
        obtain ⟨cs1, h2, h3⟩ := h
        obtain ⟨rfl, hle⟩ := put_some h2
        have hlv := cellsOf_lr hv
        have hvl := hlv.1
        simp only [cellsOf, Array.length_toList] at hvl hl hle
        have hcl := hc.1
        have hst := fill_step v'.cells.toList 0 p.1 ⟨cs'⟩ (by simp; omega)
        have hAr : (v'.cells.zipIdx.foldl (fun cs (x : Value × Nat) => cs.setIfInBounds (p.1 + x.2) x.1) (⟨cs'⟩ : Array Value)) = ⟨cs'.take p.1 ++ v'.cells.toList ++ cs'.drop (p.1 + v.cells.size)⟩ := by
          apply Array.ext'
          rw [← Array.foldl_toList, Array.toList_zipIdx, hst]
          simp [hvl]
        obtain ⟨out', o1, o2⟩ := ih ps' _ _ out h3 (((hc.take p.1).append hlv).append (hc.drop (p.1 + (cellsOf v).length))) hp
        refine ⟨out', ?_, o2⟩
        simp only [Instr.fill, h1]
        rw [if_neg (by simp; omega)]
        simp only [cellsOf, Array.length_toList] at o1
        rw [← o1]
        congr 1
      · cases h

theorem zero_lr {z : Value} (h : flat 3 z = true) : LR ρ V (cellsOf z) (cellsOf z) := LR.refl_of fun v hv => flat_cells (d := 2) h v hv
theorem build_sound {t : TypeId} {ps : List (Nat × Value)} {ps' : Array (Nat × Value)} {v : Value} (h : buildM P t ps = some v) (hp : PR ρ V ps ps'.toList) : Gives P ρ V v (Instr.build t ps') := by
  unfold buildM at h
  simp only [Option.bind_eq_some_iff] at h
  obtain ⟨z, hz, h⟩ := h
  obtain ⟨i, _, hz'⟩ := zeroT_some hz
  obtain ⟨_, z2, _⟩ := zeroI_some hz'
  split at h
  · rename_i fs hu
    simp only [Option.bind_eq_some_iff, aggOf, Option.map_eq_some_iff] at h
    obtain ⟨pl, hpl, cs, hf, rfl⟩ := h
    obtain ⟨out', o1, o2⟩ := fill_sound (fun i => pl[i]?) _ _ _ _ _ hf (zero_lr z2) hp
    refine ⟨.agg ⟨out'⟩, fun w => ?_, VR.agg_of o2⟩
    have hpp := run_places (P := P) w fs.toList pl hpl
    have o1' : Instr.fill (fun i => (⟨pl⟩ : Array (Nat × Nat))[i]?) z.cells ps'.toList = some ⟨out'⟩ := by
      rw [← o1]
      congr 1
      funext i
      simp
    simp [Instr.build, run_underlying hu, run_zero hz, Array.mapM_eq_mapM_toList, hpp]
    simp at o1'
    simp [o1']
  · rename_i n e hu
    simp only [Option.bind_eq_some_iff, aggOf, Option.map_eq_some_iff] at h
    obtain ⟨size, hs, cs, hf, rfl⟩ := h
    obtain ⟨out', o1, o2⟩ := fill_sound (placeE size) _ _ _ _ _ hf (zero_lr z2) hp
    refine ⟨.agg ⟨out'⟩, fun w => ?_, VR.agg_of o2⟩
    have o1' : Instr.fill (fun i => some (i * size, size)) z.cells ps'.toList = some ⟨out'⟩ := o1
    simp [Instr.build, run_underlying hu, run_zero hz, run_size hs, o1']
  · cases h

theorem buildSlice_sound {t : TypeId} {n : Nat} {ps : List (Nat × Value)} {ps' : Array (Nat × Value)} {x : Value} (h : buildSliceM c.P t n ps s = some (x, s')) (hR : Rel c ρ V s.hp w) (hf : Free V s.nx s'.nx) (hp : PR ρ V ps ps'.toList) :
    ∃ ρ' w' x', Made c ρ V s s' w' ρ' ∧ (Instr.buildSlice t n ps').run c.P w = .ok x' w' ∧ VR ρ' (VU V s.nx s'.nx) x x' := by
  obtain ⟨e, s1, h1, h2⟩ := bind_some h
  obtain ⟨q1, rfl⟩ := lift_some h1
  have hu := sliceE_some q1
  obtain ⟨size, s2, h3, h4⟩ := bind_some h2
  obtain ⟨hs, rfl⟩ := lift_some h3
  obtain ⟨z, s3, h5, h6⟩ := bind_some h4
  obtain ⟨hz, rfl⟩ := lift_some h5
  obtain ⟨_, s4, h7, h8⟩ := bind_some h6
  obtain ⟨hlim, rfl⟩ := guard_some h7
  obtain ⟨cs, s5, h9, h10⟩ := bind_some h8
  obtain ⟨hfl, rfl⟩ := lift_some h9
  obtain ⟨_, s6, h11, h12⟩ := bind_some h10
  obtain ⟨hone, rfl⟩ := guard_some h11
  simp only [Bool.and_eq_true, decide_eq_true_eq] at hlim
  obtain ⟨hlim', hnl⟩ := hlim
  obtain ⟨i, hi, hz'⟩ := zeroT_some hz
  obtain ⟨z1, z2, z3⟩ := zeroI_some hz'
  have hsz : i.size = size := by simpa [sizeT, hi] using hs
  have hzc : z.cells.size = size := by rw [z3, hsz]
  have hrep : LR ρ V (rep (cellsOf z) n) (rep (cellsOf z) n) := LR.refl_of fun v hv => flat_cells (d := 2) z2 v (rep_mem hv)
  obtain ⟨out', o1, o2⟩ := fill_sound (placeE size) _ _ _ _ _ hfl hrep hp
  have hfsz : ∀ (ps : List (Nat × Value)) (cs out : List Value), fillL (placeE size) cs ps = some out → out.length = cs.length := by
    intro ps
    induction ps with
    | nil => intro cs out h; simp only [fillL, Option.some.injEq] at h; rw [h]
    | cons x ps ih =>
      intro cs out h
      simp only [fillL, Option.bind_eq_some_iff] at h
      obtain ⟨p, _, h⟩ := h
      split at h
      · simp only [Option.bind_eq_some_iff] at h
        obtain ⟨cs1, h2, h3⟩ := h
        obtain ⟨rfl, hle⟩ := put_some h2
        rw [ih _ _ h3]
        simp
        omega
      · cases h
  have hcl : cs.length = n * size := by
    rw [hfsz _ _ _ hfl, rep_length]
    simp [cellsOf, hzc]
  have hol : out'.length = cs.length := o2.1
  obtain ⟨ρ', m1, m2⟩ := newSlice_sound (exact_ := true) h12 hR hf o2 ⟨out'⟩ (0, 0) n (by rw [← hol]; simp) (by simp; omega) (fun j _ => frozen00 j) (Nat.le_refl _) (by
    unfold CapR BIG
    rw [if_pos (by omega)])
  have hz0 : ((Array.range (n * size)).map (fun j => z.cells[j % z.cells.size]!)) = (rep (cellsOf z) n).toArray := by
    rw [← hzc]; exact zeros_eq z.cells n
  have o1' : Instr.fill (fun i => some (i * size, size)) (rep (cellsOf z) n).toArray ps'.toList = some ⟨out'⟩ := o1
  have hbig : ¬ (16777216 < n * size) := by omega
  refine ⟨ρ', _, _, m1, ?_, m2⟩
  by_cases h0 : n * size = 0
  · have he : (rep (cellsOf z) n).toArray = #[] := Array.eq_empty_of_size_eq_zero (by simp [rep_length, cellsOf, hzc, h0])
    rw [he] at o1'
    simp [Instr.buildSlice, run_underlying hu, run_size hs, h0, o1', run_newRow, Array.range_zero']
  · simp [Instr.buildSlice, run_underlying hu, run_size hs, hbig, h0, run_zero hz, hz0, o1', run_newRow]
end
end Go.AM
