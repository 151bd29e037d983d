import Derived.Test.YtoaaalokldaddaaGreatDoorAmH
set_option linter.unusedSimpArgs false
set_option linter.unusedVariables false
namespace Go.AM
open Go Go.RowKit

section
variable {c : Cx} {ρ : Map} {V : Nat → Prop} {s s' : St} {w : World}

theorem appendedL_sound {i : TypeInfo} {x x' : Value} {q : Nat × List Value} (h : appendedL i x s = some (q, s')) (hR : Rel c ρ V s.hp w) (hx : VR ρ V x x') :
    SameSt s s' ∧ ∃ new', LR ρ V q.2 new' ∧ (∀ w1, (Builtin.lenOf x').run c.P w1 = .ok q.1 w1) ∧ (∀ w1, w1.heap = w.heap → (Builtin.firstCells i.size q.1 x').run c.P w1 = .ok ⟨new'⟩ w1) := by
  obtain ⟨m, s1, h1, h2⟩ := bind_some h
  obtain ⟨q1, rfl⟩ := lift_some h1
  obtain ⟨new, s2, h3, h4⟩ := bind_some h2
  obtain ⟨rfl, rfl⟩ := pure_some h4
  obtain ⟨hs, new', g1, g2⟩ := firstM_sound h3 hR hx
  exact ⟨hs, new', g1, lenV_sound q1 hx, g2⟩
theorem appended_sound {i : TypeInfo} {z x x' : Value} {ts : Array TypeId} {q : Nat × List Value} (h : appendedM c.P i ts.toList[1]? x s = some (q, s')) (hR : Rel c ρ V s.hp w) (hx : VR ρ V x x') (hz : zeroI i = some z) :
    SameSt s s' ∧ ∃ new', LR ρ V q.2 new' ∧ AppArg c.P w i z ts x' q.1 new' := by
  cases e : ts[1]? with
  | none =>
    have e' : ts.toList[1]? = none := by simpa using e
    rw [e'] at h
    obtain ⟨hs, new', g1, g2, g3⟩ := appendedL_sound h hR hx
    exact ⟨hs, new', g1, .none e g2 g3⟩
  | some t1 =>
    have e' : ts.toList[1]? = some t1 := by simpa using e
    rw [e'] at h
    obtain ⟨b, s1, h1, h2⟩ := bind_some h
    obtain ⟨q1, rfl⟩ := lift_some h1
    unfold isIntT at q1
    split at q1
    · rename_i k hu
      cases q1
      obtain ⟨m, s2, h3, h4⟩ := bind_some h2
      obtain ⟨q3, rfl⟩ := lift_some h3
      obtain ⟨z', s3, h5, h6⟩ := bind_some h4
      obtain ⟨q5, rfl⟩ := lift_some h5
      obtain ⟨_, s4, h7, h8⟩ := bind_some h6
      obtain ⟨q7, rfl⟩ := guard_some h7
      obtain ⟨rfl, rfl⟩ := pure_some h8
      rw [hz] at q5
      obtain rfl := Option.some.inj q5
      obtain ⟨z1, z2, z3⟩ := zeroI_some hz
      obtain ⟨kk, rfl⟩ := natOf_vr q3 hx
      exact ⟨SameSt.refl _, rep (cellsOf z) m, LR.refl_of fun v hv => flat_cells (d := 2) z2 v (rep_mem hv), .zero t1 k kk e hu rfl (of_decide_eq_true q7) rfl⟩
    · rename_i d hne hu
      cases q1
      obtain ⟨hs, new', g1, g2, g3⟩ := appendedL_sound h2 hR hx
      exact ⟨hs, new', g1, .list t1 d e hu hne g2 g3⟩
    · cases q1

theorem sliceParts_some {v : Value} {p : Option Addr × Nat × Nat} (h : sliceParts v = some p) : v = .slice p.1 p.2.1 p.2.2 := by
  unfold sliceParts at h
  split at h
  · cases h; rfl
  · cases h

theorem sliceCap_exact {k : Nat} (h : (sliceCap k).2 = true) : k < BIG ∧ (sliceCap k).1 = k := by
  unfold sliceCap at h ⊢
  cases e : Nat.ble BIG k with
  | true => rw [e] at h; cases h
  | false =>
    rw [e] at h
    refine ⟨?_, rfl⟩
    have := Nat.le_of_ble_eq_true (n := BIG) (m := k)
    rcases Nat.lt_or_ge k BIG with h1 | h1
    · exact h1
    · rw [Nat.ble_eq_true_of_le h1] at e; cases e
theorem sliceCap_inexact {k : Nat} (h : (sliceCap k).2 = false) : BIG ≤ k := by
  unfold sliceCap at h
  cases e : Nat.ble BIG k with
  | true => exact Nat.le_of_ble_eq_true e
  | false => rw [e] at h; cases h

theorem big_pos : 0 < BIG := by unfold BIG; omega
theorem capR_grown {p : Pl} {k k' q : Nat} (hq : q = mkCap k false) (h : k' * p.es = p.sz) (hk : k ≤ k') : CapR p 0 q k' := by
  subst hq
  unfold CapR mkCap
  simp only
  rw [if_neg (by omega)]
  exact ⟨fun _ => h, by omega⟩

attribute [local irreducible] mkCap BIG
/-- the plain facts of an append -/
structure AppAll (P : Program) (ts : Array TypeId) (t e : TypeId) (i : TypeInfo) (z : Value) : Prop where
  h0 : ts[0]? = some t
  ht : P.underlying t = some (.slice e)
  hi : P.info? e = some i
  hz : zeroI i = some z

theorem append_grow {ts : Array TypeId} {ty t e : TypeId} {i : TypeInfo} {z x' : Value} {base : Option Addr} {n k m : Nat} {old new old' new' : List Value} {x : Value}
    (hA : AppAll c.P ts t e i z) (ha : AppArg c.P w i z ts x' m new') (hroom : ¬ (n + m ≤ k)) (hlim : (i.bytes + i.size + 1) * (n + m) ≤ LIM)
    (hold : ∀ w1, w1.heap = w.heap → (Builtin.firstCells i.size n (.slice base n k)).run c.P w1 = .ok ⟨old'⟩ w1)
    (hlo : old.length = n * i.size) (hln : new.length = m * i.size) (hro : LR ρ V old old') (hrn : LR ρ V new new')
    (h : newSlice e i.size (n + m) (mkCap (n + m) false) (old ++ new) s = some (x, s')) (hR : Rel c ρ V s.hp w) (hf : Free V s.nx s'.nx) :
    ∃ ρ' w' r', Made c ρ V s s' w' ρ' ∧ (Builtin.append_ ts ty #[.slice base n k, x']).run c.P w = .ok r' w' ∧ VR ρ' (VU V s.nx s'.nx) x r' := by
  obtain ⟨z1, z2, z3⟩ := zeroI_some hA.hz
  have hrun := append_new (ty := ty) hA.h0 hA.ht hA.hi z1 z3 ha hroom hlim hold
  have hge := grownCap_ge w (n + m) k e
  have hlr := hro.append hrn
  have hl1 := hlr.1
  have hsz : (⟨old' ++ new' ++ rep z.cells.toList (grownCap w (n + m) k e - (n + m))⟩ : Array Value).size = grownCap w (n + m) k e * i.size := by
    have h1 := hro.1
    have h2 := hrn.1
    simp only [List.size_toArray, List.length_append, rep_length, Array.length_toList, z3, h1, h2, hlo, hln]
    rw [← Nat.add_mul, ← Nat.add_mul]
    congr 1
    omega
  obtain ⟨ρ', m1, m2⟩ := newSlice_sound (exact_ := true) h hR.drew hf hlr ⟨old' ++ new' ++ rep z.cells.toList (grownCap w (n + m) k e - (n + m))⟩ (0, 0) (grownCap w (n + m) k e)
    (by rw [← hl1]; exact List.take_left' rfl) (by rw [← hl1]; simp) (fun j _ => frozen00 j) hge (capR_grown rfl hsz.symm hge)
  exact ⟨ρ', _, _, m1, hrun, m2⟩

theorem append1_sound {ts : Array TypeId} {ty t e : TypeId} {i : TypeInfo} {z x' r sv' : Value} {a : Option Addr} {n k m : Nat} {new new' : List Value}
    (h : append1 e i a n k m new s = some (r, s')) (hA : AppAll c.P ts t e i z) (ha : AppArg c.P w i z ts x' m new') (hR : Rel c ρ V s.hp w) (hf : Free V s.nx s'.nx)
    (hv : VR ρ V (.slice a n k) sv') (hn : LR ρ V new new') :
    ∃ ρ' w' r', Made c ρ V s s' w' ρ' ∧ (Builtin.append_ ts ty #[sv', x']).run c.P w = .ok r' w' ∧ VR ρ' (VU V s.nx s'.nx) r r' := by
  obtain ⟨z1, z2, z3⟩ := zeroI_some hA.hz
  obtain ⟨_, s1, h1, h2⟩ := bind_some h
  obtain ⟨q1, rfl⟩ := guard_some h1
  simp only [Bool.and_eq_true, decide_eq_true_eq, beq_iff_eq] at q1
  obtain ⟨⟨⟨g1, g2⟩, g3⟩, g4⟩ := q1
  cases hm : (m == 0) with
  | true =>
    rw [hm] at h2
    simp only [bif_] at h2
    obtain ⟨rfl, rfl⟩ := pure_some h2
    have hm0 : m = 0 := by simpa using hm
    subst hm0
    have hnn : new' = [] := List.eq_nil_of_length_eq_zero (by rw [hn.1, g3]; simp)
    subst hnn
    refine ⟨ρ, w, sv', Made.of_same hR (SameSt.refl _), ?_, by rw [VU.self]; exact hv⟩
    rcases slice_inv hv with ⟨rfl, rfl, rfl, rfl⟩ | ⟨b, off, k', rfl, hb, hnk, hc, rfl⟩
    · exact append_in hA.h0 hA.ht hA.hi z1 z3 ha (Nat.le_refl _) rfl
    · exact append_in hA.h0 hA.ht hA.hi z1 z3 ha hnk rfl
  | false =>
    have hm0 : m ≠ 0 := by simpa using hm
    rw [hm] at h2
    simp only [bif_] at h2
    unfold appendCap at h2
    cases hx : ((sliceCap k).2 && decide (n + m ≤ (sliceCap k).1)) with
    | true =>
      rw [hx] at h2
      simp only [bif_] at h2
      simp only [Bool.and_eq_true, decide_eq_true_eq] at hx
      obtain ⟨hk, hk1⟩ := sliceCap_exact hx.1
      rw [hk1] at hx h2
      obtain ⟨p, s2, h3, h4⟩ := bind_some h2
      obtain ⟨q3, rfl⟩ := lift_some h3
      obtain ⟨_, s3, h5, h6⟩ := bind_some h4
      obtain ⟨rfl, rfl⟩ := pure_some h6
      rcases slice_inv hv with ⟨rfl, rfl, rfl, rfl⟩ | ⟨b, off, k', rfl, hb, hnk, hc, rfl⟩
      · cases q3
      · simp only [asPlain, Option.some.injEq] at q3
        subst q3
        obtain ⟨y1, w', y2, y3⟩ := wrCells_sound h5 hR hb hn
        have hkk : k' = k := by unfold CapR at hc; rw [if_pos hk] at hc; exact hc
        subst hkk
        refine ⟨ρ, w', _, Made.of_nx y3 y1, append_in hA.h0 hA.ht hA.hi z1 z3 ha hx.2 (by simpa [Addr.add_lit] using y2), ?_⟩
        rw [y1, VU.self]
        exact .slice b off (n + m) k' k' hb hx.2 hc
    | false =>
      rw [hx] at h2
      simp only [bif_] at h2
      unfold appendNew at h2
      obtain ⟨old, s2, h3, h4⟩ := bind_some h2
      obtain ⟨_, s3, h5, h6⟩ := bind_some h4
      obtain ⟨q5, rfl⟩ := guard_some h5
      cases hex : (sliceCap k).2 with
      | true =>
        obtain ⟨hk, hk1⟩ := sliceCap_exact hex
        rw [hex, hk1] at hx
        simp only [Bool.true_and, decide_eq_false_iff_not] at hx
        rw [hex] at h6
        simp only [bif_] at h6
        rw [hk1] at h3
        obtain ⟨hs, old', o1, o2⟩ := firstM_sound h3 hR hv
        have hR' : Rel c ρ V s3.hp w := by rw [hs.hp]; exact hR
        have hsx : s3.nx = s1.nx := hs.nx
        have hlo : old.length = n * i.size := by
          rcases slice_inv hv with ⟨rfl, rfl, rfl, rfl⟩ | ⟨b, off, k', rfl, hb, hnk, hc, rfl⟩
          · obtain ⟨rfl, _⟩ := pure_some h3; simp
          · exact (rdCells_sound h3 hR hb).2.1
        have hroom : ∀ k', CapR (ρ 0) 0 k k' ∨ True := fun _ => .inr trivial
        rcases slice_inv hv with ⟨rfl, rfl, rfl, rfl⟩ | ⟨b, off, k', rfl, hb, hnk, hc, rfl⟩
        · obtain ⟨ρ', w', r', k1, k2, k3⟩ := append_grow (ty := ty) hA ha hx g1 o2 hlo g3 o1 hn h6 hR' (by rw [hsx]; exact hf)
          rw [hsx] at k3
          exact ⟨ρ', w', r', ⟨k1.same, by have := k1.rel; rw [hsx] at this; exact this⟩, k2, k3⟩
        · have hkk : k' = k := by unfold CapR at hc; rw [if_pos hk] at hc; exact hc
          subst hkk
          obtain ⟨ρ', w', r', k1, k2, k3⟩ := append_grow (ty := ty) hA ha hx g1 o2 hlo g3 o1 hn h6 hR' (by rw [hsx]; exact hf)
          rw [hsx] at k3
          exact ⟨ρ', w', r', ⟨k1.same, by have := k1.rel; rw [hsx] at this; exact this⟩, k2, k3⟩
      | false =>
        have hk := sliceCap_inexact hex
        rw [hex] at h6
        simp only [bif_] at h6
        obtain ⟨b0, s4, h7, h8⟩ := bind_some h6
        obtain ⟨q7, rfl⟩ := lift_some h7
        obtain ⟨_, s5, h9, h10⟩ := bind_some h8
        obtain ⟨kb, s6, h11, h12⟩ := bind_some h9
        obtain ⟨hg, hlt, hs1⟩ := rd_some h11
        obtain ⟨_, s7, h13, h14⟩ := bind_some h12
        obtain ⟨q13, rfl⟩ := guard_some h13
        obtain ⟨_, hp5, hn5⟩ := wr_some h14
        rcases slice_inv hv with ⟨rfl, rfl, rfl, rfl⟩ | ⟨b, off, k', rfl, hb, hnk, hc, rfl⟩
        · exact absurd hk (by unfold BIG; omega)
        · simp only [headOf] at q7
          split at q7
          · rename_i _ heq
            cases heq
            obtain rfl := Option.some.inj q7
            obtain ⟨hs, hlo, old', o1, o2, o3⟩ := rdCells_sound h3 hR hb
            unfold ownRow at q13
            split at q13
            · rename_i el es cs
              simp only [Bool.and_eq_true, beq_iff_eq] at q13
              obtain ⟨rfl, rfl⟩ := q13
              unfold CapR at hc
              rw [if_neg (by omega)] at hc
              have hg1 : s1.hp.get b = some (.cells el i.size true cs) := by rw [← hs.hp]; exact hg
              obtain ⟨o, ho, hbr⟩ := hR.blk b _ hb hg1 rfl
              cases hbr with
              | cells _ _ _ _ C el' fz e0 e1 e2 e3 e4 e5 e6 =>
                have e0 := (e0 rfl).symm; subst e0
                have hN := (e5 rfl).1
                have hcs : k' * i.size = C.size := by rw [← e1, ← e2]; exact hc.1 rfl
                have hRd : Rel c ρ V s5.hp w := by rw [hp5, hs1.hp, hs.hp]; exact hR.dead b hb _ hg1 rfl hN
                have hnx : s5.nx = s1.nx := by rw [hn5, hs1.nx, hs.nx]
                by_cases hroom : n + m ≤ k'
                · -- in place
                  have hsz : 0 + n * i.size + new'.length ≤ C.size := by
                    rw [hn.1, g3, ← hcs, Nat.zero_add, ← Nat.add_mul]
                    exact Nat.mul_le_mul_right _ hroom
                  have hst := store_real (P := c.P) ho (e5 rfl).2 (0 + n * i.size) new' hsz (allOne_lr hn g2)
                  obtain ⟨C', u1, u2, u3, u4, u5, u6, u7⟩ := setCells_heap (ρ b).r el fz new' (0 + n * i.size) w C ho hsz
                  have hCs : C'.size = C.size := by
                    rw [← Array.length_toList, u2]
                    simp
                    omega
                  have hRw : Rel c ρ V s5.hp (w.setCells (ρ b).r (0 + n * i.size) new') := by
                    rw [hp5, hs1.hp, hs.hp]
                    exact Rel.turn hR b hb _ .dead hg1 rfl hN (.stringIter ByteArray.empty 0) (by rw [u4]; exact Nat.le_refl _) u5 u6 u7 (fun r hr _ => u3 r hr) (fun h => by cases h)
                  obtain ⟨nb, s8, h15, h16⟩ := bind_some h10
                  obtain ⟨rfl, rfl⟩ := pure_some h16
                  obtain ⟨rfl, hp6, hn6⟩ := new_some h15
                  have hfree : ¬ V s5.nx := hf s5.nx (by rw [hnx]; exact Nat.le_refl _) (by rw [hn6]; omega)
                  have hRa := hRw.also s5.nx hfree (ρ b) (.cells el i.size true (old ++ new)) (.cells C' el fz) u1 (by
                    intro b2 k2 v2 g2' l2 hr2
                    rw [hp5, hs1.hp, hs.hp, Hp.get_set] at g2'
                    by_cases hbb : b2 = b
                    · rw [if_pos hbb] at g2'
                      obtain rfl := Option.some.inj g2'
                      cases l2
                    · rw [if_neg hbb] at g2'
                      exact hbb (hR.inj b2 k2 b _ v2 hb g2' hg1 l2 rfl hr2 (by rw [hr2]; exact hN))) (fun ρ' hs' hp' => by
                    refine .cells _ _ _ _ _ _ _ (fun _ => rfl) (by rw [e1, hCs]) e2 ?_ ?_ (fun _ => ⟨hN, fun j hj => (e5 rfl).2 j (by omega)⟩) (fun h => by cases h)
                    · rw [hCs, List.length_append, hlo, g3, ← hcs, ← Nat.add_mul]
                      exact Nat.mul_le_mul_right _ hroom
                    · have hold' : old' = C.toList.take (n * i.size) := by
                        apply List.ext_getElem?
                        intro j
                        rcases Nat.lt_or_ge j old'.length with hj | hj
                        · have h1 := o3 j _ (List.getElem?_eq_getElem hj)
                          rw [cells_get ho] at h1
                          rw [List.getElem?_eq_getElem hj, List.getElem?_take, if_pos (by omega)]
                          rw [← h1]
                          simp
                        · rw [List.getElem?_eq_none hj, List.getElem?_eq_none]
                          simp
                          omega
                      have : C'.toList.take (old ++ new).length = old' ++ new' := by
                        rw [u2, hold', List.length_append, ← hn.1]
                        have hl : (C.toList.take (0 + n * i.size) ++ new').length = old.length + new'.length := by
                          simp
                          rw [hlo]
                          rw [hlo] at *
                          omega
                        rw [List.take_append_of_le_length (by omega), List.take_of_length_le (by omega), Nat.zero_add]
                      rw [this]
                      exact (o1.append hn).mono hs' VU.sub)
                  have hsame : SameOn V ρ (fun x => if x = s5.nx then ρ b else ρ x) := fun b hb' => by
                    simp only
                    rw [if_neg]
                    rintro rfl
                    exact hfree hb'
                  have hVU : VU V s1.nx s'.nx = VU V s5.nx (s5.nx + 1) := by rw [hn6, hnx]
                  refine ⟨fun x => if x = s5.nx then ρ b else ρ x, _, .slice (some ⟨(ρ b).r, 0, none⟩) (n + m) k', ⟨hsame, by rw [hVU, hp6]; exact hRa⟩, ?_, ?_⟩
                  · refine append_in hA.h0 hA.ht hA.hi z1 z3 ha hroom ?_
                    simpa [Addr.add_lit] using hst
                  · rw [hVU]
                    have hv2 := VR.slice (ρ := fun x => if x = s5.nx then ρ b else ρ x) (V := VU V s5.nx (s5.nx + 1)) s5.nx 0 (n + m) (mkCap (n + m) false) k' (.inr (by omega)) hroom (by
                      simp only [if_true]
                      exact capR_grown rfl (by rw [e1, e2, hcs]) hroom)
                    simp only [if_true] at hv2
                    exact hv2
                · have hfst : ∀ w1, w1.heap = w.heap → (Builtin.firstCells i.size n (.slice (some ⟨(ρ b).r, 0, none⟩) n k')).run c.P w1 = .ok ⟨old'⟩ w1 := by
                    intro w1 hw
                    have hr := run_loadCells_list (P := c.P) w1 ⟨(ρ b).r, 0, none⟩ old' (fun j v hv => by rw [Addr.add_lit, heap_cell hw]; exact o3 j v hv)
                    rw [o2] at hr
                    simpa [Builtin.firstCells] using hr
                  obtain ⟨ρ', w', r', k1, k2, k3⟩ := append_grow (ty := ty) hA ha hroom g1 hfst hlo g3 o1 hn h10 hRd (by rw [hnx]; exact hf)
                  rw [hnx] at k3
                  exact ⟨ρ', w', r', ⟨k1.same, by have := k1.rel; rw [hnx] at this; exact this⟩, k2, k3⟩
            · cases q13
          · cases q7

theorem append_sound {ts : Array TypeId} {ty t : TypeId} {sv x sv' x' r : Value} (h0 : ts[0]? = some t) (h : appendM c.P t ts.toList[1]? sv x s = some (r, s')) (hR : Rel c ρ V s.hp w) (hf : Free V s.nx s'.nx)
    (hs : VR ρ V sv sv') (hx : VR ρ V x x') :
    ∃ ρ' w' r', Made c ρ V s s' w' ρ' ∧ (Builtin.append_ ts ty #[sv', x']).run c.P w = .ok r' w' ∧ VR ρ' (VU V s.nx s'.nx) r r' := by
  obtain ⟨e, s1, h1, h2⟩ := bind_some h
  obtain ⟨q1, rfl⟩ := lift_some h1
  obtain ⟨p, s2, h3, h4⟩ := bind_some h2
  obtain ⟨q3, rfl⟩ := lift_some h3
  obtain ⟨i, s3, h5, h6⟩ := bind_some h4
  obtain ⟨q5, rfl⟩ := lift_some h5
  obtain ⟨q, s4, h7, h8⟩ := bind_some h6
  rw [sliceParts_some q3] at hs
  have hz : ∃ z, zeroI i = some z := by
    obtain ⟨_, s5, h9, h10⟩ := bind_some h8
    obtain ⟨q9, rfl⟩ := guard_some h9
    simp only [Bool.and_eq_true] at q9
    exact Option.isSome_iff_exists.1 q9.2
  obtain ⟨z, hz⟩ := hz
  obtain ⟨hsm, new', n1, n2⟩ := appended_sound h7 hR hx hz
  have hR' : Rel c ρ V s4.hp w := by rw [hsm.hp]; exact hR
  obtain ⟨ρ', w', r', k1, k2, k3⟩ := append1_sound (ty := ty) h8 ⟨h0, sliceE_some q1, q5, hz⟩ n2 hR' (by rw [hsm.nx]; exact hf) hs n1
  rw [hsm.nx] at k3
  exact ⟨ρ', w', r', ⟨k1.same, by have := k1.rel; rw [hsm.nx] at this; exact this⟩, k2, k3⟩
end
end Go.AM
