import Derived.Test.YtoaaalokldaddaaGreatDoorAmC
import Derived.Laws.Append
set_option linter.unusedSimpArgs false
set_option linter.unusedVariables false
namespace Go.AM
open Go Go.RowKit

/-! ### A computation taken apart -/
theorem bind_some {α β : Type} {m : M α} {f : α → M β} {s s' : St} {b : β} (h : (m.bind f) s = some (b, s')) : ∃ a s1, m s = some (a, s1) ∧ f a s1 = some (b, s') := by
  simp only [M.bind] at h
  cases e : m s with
  | none => simp [e] at h
  | some p =>
    obtain ⟨a, s1⟩ := p
    simp only [e] at h
    exact ⟨a, s1, rfl, h⟩
theorem pure_some {α : Type} {a b : α} {s s' : St} (h : M.pure a s = some (b, s')) : b = a ∧ s' = s := by
  simp only [M.pure, Option.some.injEq, Prod.mk.injEq] at h
  exact ⟨h.1.symm, h.2.symm⟩
theorem lift_some {α : Type} {o : Option α} {a : α} {s s' : St} (h : lift o s = some (a, s')) : o = some a ∧ s' = s := by
  unfold lift at h
  cases o with
  | none => simp at h
  | some b => simp at h; exact ⟨congrArg some h.1, h.2.symm⟩
theorem guard_some {b : Bool} {u : Unit} {s s' : St} (h : guardM b s = some (u, s')) : b = true ∧ s' = s := by
  cases b with
  | false => simp [guardM] at h
  | true => simp [guardM] at h; exact ⟨rfl, h.symm⟩
theorem fail_some {α : Type} {a : α} {s s' : St} (h : (M.fail : M α) s = some (a, s')) : False := by simp [M.fail] at h
/-- the same memory, the same count -/
structure SameSt (s s' : St) : Prop where
  hp : s'.hp = s.hp
  nx : s'.nx = s.nx
theorem SameSt.refl (s : St) : SameSt s s := ⟨rfl, rfl⟩
theorem SameSt.trans {a b c : St} (h : SameSt a b) (k : SameSt b c) : SameSt a c := ⟨k.hp.trans h.hp, k.nx.trans h.nx⟩
theorem rd_some {b : Nat} {k : Blk} {s s' : St} (h : rdB b s = some (k, s')) : s.hp.get b = some k ∧ b < s.nx ∧ SameSt s s' := by
  simp only [rdB] at h
  split at h
  · cases h
  · rename_i hb
    cases e : s.hp.get b with
    | none => simp [e] at h
    | some k' =>
      simp only [e, Option.some.injEq, Prod.mk.injEq] at h
      obtain ⟨rfl, rfl⟩ := h
      exact ⟨rfl, by omega, addR_hp _ _, addR_nx _ _⟩
theorem wr_some {b : Nat} {k : Blk} {u : Unit} {s s' : St} (h : wrB b k s = some (u, s')) : b < s.nx ∧ s'.hp = s.hp.set k b ∧ s'.nx = s.nx := by
  simp only [wrB] at h
  split at h
  · cases h
  · rename_i hb
    simp only [Option.some.injEq, Prod.mk.injEq] at h
    obtain ⟨_, rfl⟩ := h
    exact ⟨by omega, by simp [putHp, addW_hp, addR_hp], by simp [putHp, addW_nx, addR_nx]⟩
theorem new_some {k : Blk} {n : Nat} {s s' : St} (h : newB k s = some (n, s')) : n = s.nx ∧ s'.hp = s.hp.set k s.nx ∧ s'.nx = s.nx + 1 := by
  simp only [newB, Option.some.injEq, Prod.mk.injEq] at h
  obtain ⟨rfl, rfl⟩ := h
  exact ⟨rfl, rfl, rfl⟩
theorem take_some {α : Type} {n : Nat} {l m : List α} (h : take? n l = some m) : m = l.take n ∧ n ≤ l.length := by
  unfold take? at h
  split at h
  · rename_i hn; exact ⟨(Option.some.inj h).symm, hn⟩
  · cases h
theorem drop_some {α : Type} {n : Nat} {l m : List α} (h : drop? n l = some m) : m = l.drop n ∧ n ≤ l.length := by
  unfold drop? at h
  split at h
  · rename_i hn; exact ⟨(Option.some.inj h).symm, hn⟩
  · cases h
theorem put_some {α : Type} {n : Nat} {xs l m : List α} (h : put? n xs l = some m) : m = l.take n ++ xs ++ l.drop (n + xs.length) ∧ n + xs.length ≤ l.length := by
  unfold put? at h
  split at h
  · rename_i hn; exact ⟨(Option.some.inj h).symm, hn⟩
  · cases h

/-! ### Types -/
theorem run_agg {P : Program} {t : TypeId} {g : Bool} (h : aggT P t = some g) (w : World) : (isAgg t).run P w = .ok g w := by
  unfold aggT at h
  split at h
  · rename_i hu; cases h; simp [isAgg, run_underlying hu]
  · rename_i hu; cases h; simp [isAgg, run_underlying hu]
  · rename_i d h1 h2 hu
    cases h
    simp only [isAgg, Sem.run_bind, run_underlying hu, Result.andThen_ok]
    cases d <;> first | rfl | (exact absurd hu (h1 _)) | (exact absurd hu (h2 _ _))
  · cases h
theorem run_size {P : Program} {t : TypeId} {n : Nat} (h : sizeT P t = some n) (w : World) : (sizeOf t).run P w = .ok n w := by
  unfold sizeT at h
  cases e : P.info? t with
  | none => simp [e] at h
  | some i => simp [e] at h; subst h; simp [sizeOf, typeInfo, e]
theorem zeroI_some {i : TypeInfo} {z : Value} (h : zeroI i = some z) : i.zero = some z ∧ flat 3 z = true ∧ z.cells.size = i.size := by
  unfold zeroI at h
  cases e : i.zero with
  | none => simp [e] at h
  | some v =>
    simp only [e, Option.bind_some] at h
    split at h
    · rename_i hc
      cases h
      simp only [Bool.and_eq_true, beq_iff_eq] at hc
      exact ⟨rfl, hc.1, hc.2⟩
    · cases h
theorem zeroT_some {P : Program} {t : TypeId} {z : Value} (h : zeroT P t = some z) : ∃ i, P.info? t = some i ∧ zeroI i = some z := by
  unfold zeroT at h
  cases e : P.info? t with
  | none => simp [e] at h
  | some i => exact ⟨i, rfl, by simpa [e] using h⟩
theorem run_zero {P : Program} {t : TypeId} {z : Value} (h : zeroT P t = some z) (w : World) : (zeroValue t).run P w = .ok z w := by
  obtain ⟨i, e, h⟩ := zeroT_some h
  obtain ⟨hz, _⟩ := zeroI_some h
  simp [zeroValue, typeInfo, e, hz]
theorem run_info {P : Program} {t : TypeId} {i : TypeInfo} (h : P.info? t = some i) (w : World) : (typeInfo t).run P w = .ok i w := by simp [typeInfo, h]

/-! ### Cells -/
theorem setCells_heap (g : Nat) (el : TypeId) (fz : Nat × Nat) : ∀ (vs : List Value) (o : Nat) (w : World) (C : Array Value), w.heap[g]? = some (.cells C el fz) → o + vs.length ≤ C.size →
    ∃ C' : Array Value, (w.setCells g o vs).heap[g]? = some (.cells C' el fz) ∧ C'.toList = C.toList.take o ++ vs ++ C.toList.drop (o + vs.length) ∧
      (∀ r, r ≠ g → (w.setCells g o vs).heap[r]? = w.heap[r]?) ∧ (w.setCells g o vs).heap.size = w.heap.size ∧ (w.setCells g o vs).os = w.os ∧ (w.setCells g o vs).tape = w.tape ∧ (w.setCells g o vs).output = w.output := by
  intro vs
  induction vs with
  | nil => intro o w C h _; exact ⟨C, h, by simp, fun _ _ => rfl, rfl, rfl, rfl, rfl⟩
  | cons v vs ih =>
    intro o w C h hl
    simp at hl
    have h1 : (w.setCell ⟨g, o, none⟩ v).heap[g]? = some (.cells (C.setIfInBounds o v) el fz) := by
      simp [World.setCell, Array.getElem?_modify, h]
    obtain ⟨C', a, b, c, d, e, f, k⟩ := ih (o + 1) (w.setCell ⟨g, o, none⟩ v) _ h1 (by simp; omega)
    refine ⟨C', a, ?_, ?_, ?_, e, f, k⟩
    · rw [b]
      simp only [Array.toList_setIfInBounds]
      rw [List.take_add_one, List.getElem?_set, if_pos rfl, if_pos (by simpa using (by omega : o < C.size)), List.take_set_of_le (Nat.le_refl _), List.drop_set_of_lt (by omega)]
      simp [Nat.add_assoc, Nat.add_comm 1]
    · intro r hr
      show ((w.setCell ⟨g, o, none⟩ v).setCells g (o + 1) vs).heap[r]? = _
      rw [c r hr]
      simp [World.setCell, Array.getElem?_modify, Ne.symm hr]
    · show ((w.setCell ⟨g, o, none⟩ v).setCells g (o + 1) vs).heap.size = _
      rw [d]; simp [World.setCell]

section
variable {c : Cx} {ρ : Map} {V : Nat → Prop} {s s' : St} {w : World}

theorem one_vr {v v' : Value} (h : VR ρ V v v') (k : one v = true) : v'.oneCell' = true := by
  cases h with
  | atom v h => cases v <;> simp_all [one, Value.oneCell', atomV]
  | agg => simp [one] at k
  | tuple => simp [one] at k
  | _ => rfl
theorem allOne_lr {l l' : List Value} (h : LR ρ V l l') (k : allOne l = true) : ∀ v ∈ l', v.oneCell' = true := by
  intro v hv
  obtain ⟨i, hi⟩ := List.getElem?_of_mem hv
  have hil : i < l.length := by rw [← h.1]; exact (List.getElem?_eq_some_iff.1 hi).1
  have h1 := h.2 i _ _ (List.getElem?_eq_getElem hil) hi
  refine one_vr h1 ?_
  simp only [allOne, List.all_eq_true] at k
  exact k _ (List.getElem_mem hil)

theorem cells_get {g : Nat} {C : Array Value} {el : TypeId} {fz : Nat × Nat} (h : w.heap[g]? = some (.cells C el fz)) (i : Nat) : w.cell? ⟨g, i, none⟩ = C[i]? := by simp [World.cell?, h]
theorem frozen_get {g : Nat} {C : Array Value} {el : TypeId} {fz : Nat × Nat} (h : w.heap[g]? = some (.cells C el fz)) (i : Nat) : w.frozen? ⟨g, i, none⟩ = frozenAt fz i := by
  obtain ⟨lo, hi⟩ := fz
  simp [World.frozen?, h, frozenAt]

theorem rdCells_sound {b off n : Nat} {l : List Value} (h : rdCells b off n s = some (l, s')) (hR : Rel c ρ V s.hp w) (hb : V b) :
    SameSt s s' ∧ l.length = n ∧ ∃ l', LR ρ V l l' ∧ l'.length = n ∧ ∀ j v', l'[j]? = some v' → w.cell? ⟨(ρ b).r, off + j, none⟩ = some v' := by
  obtain ⟨k, s1, h1, h2⟩ := bind_some h
  obtain ⟨hg, hlt, hs⟩ := rd_some h1
  obtain ⟨h3, rfl⟩ := lift_some h2
  cases k with
  | cells el es own cs =>
    simp only [cellsIn, Option.bind_eq_some_iff] at h3
    obtain ⟨m, hd, ht⟩ := h3
    obtain ⟨rfl, hd1⟩ := drop_some hd
    obtain ⟨rfl, ht1⟩ := take_some ht
    obtain ⟨o, ho, hbr⟩ := hR.blk b _ hb hg rfl
    cases hbr with
    | cells _ _ _ _ C el' fz e0 e1 e2 e3 e4 e5 e6 =>
      simp at ht1
      refine ⟨hs, by simp; omega, ((C.toList.take cs.length).drop off).take n, (e4.drop off).take n, by simp; omega, fun j v' hv => ?_⟩
      rw [cells_get ho]
      rw [List.getElem?_take] at hv
      split at hv
      · rw [List.getElem?_drop, List.getElem?_take] at hv
        split at hv
        · simpa using hv
        · cases hv
      · cases hv
  | _ => simp [cellsIn] at h3

theorem plain_vr {x x' : Value} {p : Nat × Nat} (h : asPlain x = some p) (k : VR ρ V x x') : x' = .pointer (some ⟨(ρ p.1).r, p.2, none⟩) ∧ V p.1 := by
  unfold asPlain at h
  split at h
  · cases h
    cases k with
    | atom v h => simp [atomV] at h
    | ptr b off hb => exact ⟨rfl, hb⟩
  · cases h

theorem loadM_sound {t : TypeId} {x x' v : Value} (h : loadM c.P t x s = some (v, s')) (hR : Rel c ρ V s.hp w) (hx : VR ρ V x x') :
    SameSt s s' ∧ ∃ v', (Instr.loadAt t x').run c.P w = .ok v' w ∧ VR ρ V v v' := by
  obtain ⟨p, s1, h1, h2⟩ := bind_some h
  obtain ⟨k1, rfl⟩ := lift_some h1
  obtain ⟨rfl, hb⟩ := plain_vr k1 hx
  obtain ⟨g, s2, h3, h4⟩ := bind_some h2
  obtain ⟨hg, rfl⟩ := lift_some h3
  cases g with
  | true =>
    simp only [bif_] at h4
    obtain ⟨n, s3, h5, h6⟩ := bind_some h4
    obtain ⟨hn, rfl⟩ := lift_some h5
    obtain ⟨l, s4, h7, h8⟩ := bind_some h6
    obtain ⟨rfl, rfl⟩ := pure_some h8
    obtain ⟨hs, hl, l', hlr, hl', hc⟩ := rdCells_sound h7 hR hb
    refine ⟨hs, .agg ⟨l'⟩, ?_, VR.agg_of hlr⟩
    have hrun := run_loadCells_list (P := c.P) w ⟨(ρ p.1).r, p.2, none⟩ l' (fun j v hv => by rw [Addr.add_lit]; exact hc j v hv)
    rw [hl'] at hrun
    simp [Instr.loadAt, Instr.sureAddr, loadVar, run_agg hg, run_size hn, hrun]
  | false =>
    simp only [bif_] at h4
    obtain ⟨l, s4, h7, h8⟩ := bind_some h4
    obtain ⟨h9, rfl⟩ := lift_some h8
    obtain ⟨hs, hl, l', hlr, hl', hc⟩ := rdCells_sound h7 hR hb
    unfold head1 at h9
    split at h9
    · cases h9
      obtain ⟨v', l'', rfl, hv, _⟩ := hlr.cons_inv
      have := hc 0 v' (by simp)
      refine ⟨hs, v', ?_, hv⟩
      simp at this
      simp [Instr.loadAt, Instr.sureAddr, loadVar, run_agg hg, this]
    · cases h9

theorem wrCells_sound {b off : Nat} {xs xs' : List Value} {u : Unit} (h : wrCells b off xs s = some (u, s')) (hR : Rel c ρ V s.hp w) (hb : V b) (hx : LR ρ V xs xs') :
    s'.nx = s.nx ∧ ∃ w', (storeCells ⟨(ρ b).r, off, none⟩ xs').run c.P w = .ok () w' ∧ Rel c ρ V s'.hp w' := by
  obtain ⟨k, s1, h1, h2⟩ := bind_some h
  obtain ⟨hg, hlt, hs⟩ := rd_some h1
  obtain ⟨k', s2, h3, h4⟩ := bind_some h2
  obtain ⟨k3, rfl⟩ := lift_some h3
  obtain ⟨h5, h6, h7⟩ := wr_some h4
  unfold putIn at k3
  split at k3
  · rename_i el es cs
    split at k3
    · rename_i hone
      simp only [Option.map_eq_some_iff] at k3
      obtain ⟨cs', hp, rfl⟩ := k3
      obtain ⟨rfl, hpl⟩ := put_some hp
      obtain ⟨o, ho, hbr⟩ := hR.blk b _ hb hg rfl
      cases hbr with
      | cells _ _ _ _ C el' fz e0 e1 e2 e3 e4 e5 e6 =>
        have e0 := (e0 rfl).symm; subst e0
        have hlen := hx.1
        have hsz : off + xs'.length ≤ C.size := by omega
        have hst := run_storeCells_cells (P := c.P) (ρ b).r off xs' 0 w (fun j hj => by
            rw [cells_get ho, Array.getElem?_eq_getElem (by omega)]; rfl)
          (fun j hj => by rw [frozen_get ho]; exact (e5 rfl).2 _ (by omega)) (allOne_lr hx hone)
        obtain ⟨C', q1, q2, q3, q4, q5, q6, q7⟩ := setCells_heap (ρ b).r el fz xs' off w C ho hsz
        have hCs : C'.size = C.size := by
          rw [← Array.length_toList, q2]
          simp
          omega
        refine ⟨by rw [h7, hs.nx], w.setCells (ρ b).r off xs', by simpa using hst, ?_⟩
        rw [h6, hs.hp]
        refine Rel.turn hR b hb _ _ hg rfl (e5 rfl).1 (.cells C' el fz) (by rw [q4]; exact Nat.le_refl _) q5 q6 q7 (fun r hr _ => q3 r hr) (fun _ => ⟨q1, ?_⟩)
        refine .cells _ _ _ _ _ _ _ (fun _ => rfl) (by rw [e1, hCs]) e2 ?_ ?_ (fun _ => ⟨(e5 rfl).1, fun i hi => (e5 rfl).2 i (by omega)⟩) (fun h => by cases h)
        · simp; omega
        · have hl2 : (cs.take off ++ xs ++ cs.drop (off + xs.length)).length = cs.length := by simp; omega
          rw [hl2, q2]
          have hA : (C.toList.take off ++ xs' ++ C.toList.drop (off + xs'.length)).take cs.length = (C.toList.take cs.length).take off ++ xs' ++ (C.toList.take cs.length).drop (off + xs.length) := by
            rw [List.take_append, List.take_append, List.take_take, List.take_take, hlen]
            simp only [List.length_append, List.length_take, Array.length_toList]
            rw [List.take_of_length_le (l := xs') (by omega), List.drop_take]
            congr 1
            · congr 1
              congr 1
              omega
            · congr 1
              omega
          rw [hA]
          exact ((e4.take off).append hx).append (e4.drop _)
    · cases k3
  · cases k3

theorem cellsOf_lr {v v' : Value} (h : VR ρ V v v') : LR ρ V (cellsOf v) (cellsOf v') := by
  cases h with
  | atom v h =>
    have : cellsOf v = [v] := by cases v <;> simp_all [cellsOf, Value.cells, atomV]
    rw [this]
    exact LR.cons (.atom v h) LR.nil
  | agg xs xs' hx kx => exact ⟨hx, kx⟩
  | ptr b off hb => exact LR.cons (.ptr b off hb) LR.nil
  | slice b off n c c' hb hn hc => exact LR.cons (.slice b off n c c' hb hn hc) LR.nil
  | func f xs xs' ys ys' hx hy kx ky => exact LR.cons (.func f xs xs' ys ys' hx hy kx ky) LR.nil
  | yield l hl => exact LR.cons (.yield l hl) LR.nil
  | iface t v v' hv => exact LR.cons (.iface t v v' hv) LR.nil
  | tuple xs xs' hx kx => exact LR.cons (.tuple xs xs' hx kx) LR.nil

theorem storeM_sound {t : TypeId} {x x' v v' : Value} {u : Unit} (h : storeM c.P t x v s = some (u, s')) (hR : Rel c ρ V s.hp w) (hx : VR ρ V x x') (hv : VR ρ V v v') :
    s'.nx = s.nx ∧ ∃ w', (Instr.storeAt t x' v').run c.P w = .ok () w' ∧ Rel c ρ V s'.hp w' := by
  obtain ⟨p, s1, h1, h2⟩ := bind_some h
  obtain ⟨k1, rfl⟩ := lift_some h1
  obtain ⟨rfl, hb⟩ := plain_vr k1 hx
  obtain ⟨n, s2, h3, h4⟩ := bind_some h2
  obtain ⟨hn, rfl⟩ := lift_some h3
  obtain ⟨_, s3, h5, h6⟩ := bind_some h4
  obtain ⟨hl, rfl⟩ := guard_some h5
  have hlr := cellsOf_lr hv
  obtain ⟨h7, w', h8, h9⟩ := wrCells_sound h6 hR hb hlr
  refine ⟨h7, w', ?_, h9⟩
  have hlen : v'.cells.size = n := by
    have h1 := hlr.1
    simp only [beq_iff_eq] at hl
    simp only [cellsOf, Array.length_toList] at h1 hl
    omega
  simp only [cellsOf] at h8
  simp [Instr.storeAt, Instr.sureAddr, storeVar, run_size hn, hlen, h8]
end
end Go.AM
