import Derived.Test.YtoaaalokldaddaaGreatDoorCe8
set_option linter.unusedSimpArgs false
set_option linter.unusedVariables false
namespace Go.AM
open Go

section
variable {P : Program} {ext : Ext} {dom : FuncId → Bool} {nt : Nat}

theorem allOne_put {off : Nat} {xs l l' : List Value} (h : put? off xs l = some l') (hx : allOne xs = true) (hl : allOne l = true) : allOne l' = true := by
  obtain ⟨rfl, _⟩ := put_some h
  simp only [allOne, List.all_eq_true] at hx hl ⊢
  intro v hv
  simp only [List.mem_append] at hv
  rcases hv with (hv | hv) | hv
  · exact hl v (List.mem_of_mem_take hv)
  · exact hx v hv
  · exact hl v (List.mem_of_mem_drop hv)
theorem cellK_some {a : A} {e : Nat} {x : X} (hE : EA nt a e x) {t : Nat} {k : List Value → Ans} {r : Value} (h : cellK x (slot e t) k = some r) : allOne (cellsOf (decX x (slot e t))) = true ∧ k (cellsOf (decX x (slot e t))) = some r := by
  unfold cellK at h
  rcases brec_cases h with ⟨hb, h1⟩ | ⟨hb, h1⟩
  · exact aggK_some h1
  · obtain ⟨p1, p2, p3⟩ := oneC_plain (x := x) hb
    rw [p1, p2]
    exact ⟨p3, h1⟩
theorem part_one {n off : Nat} {v : Value} {cs : List Value} {k : List Value → Ans} {r : Value} (ho : allOne (cellsOf v) = true)
    (h : ifA (lenF (cellsOf v) n) (atK off (cellsOf v) cs k) none = some r) : ∃ cs', (cellsOf v).length = n ∧ put? off (cellsOf v) cs = some cs' ∧ (allOne cs = true → allOne cs' = true) ∧ k cs' = some r := by
  obtain ⟨h3, h4⟩ := ifA_some h
  rw [lenF_eq] at h3
  obtain ⟨cs', h5, h6⟩ := atK_some h4
  exact ⟨cs', by simpa using h3, h5, fun hc => allOne_put h5 ho hc, h6⟩
theorem part_bare {n off : Nat} {v : Value} {cs : List Value} {k : List Value → Ans} {r : Value} (ho : one v = true)
    (h : ifA (Nat.beq n 1) (atK off [v] cs k) none = some r) : ∃ cs', (cellsOf v).length = n ∧ put? off (cellsOf v) cs = some cs' ∧ (allOne cs = true → allOne cs' = true) ∧ k cs' = some r := by
  obtain ⟨h3, h4⟩ := ifA_some h
  have h3' : n = 1 := Nat.eq_of_beq_eq_true h3
  obtain ⟨p1, p2⟩ := cells_one ho
  obtain ⟨cs', h5, h6⟩ := atK_some h4
  rw [p1]
  exact ⟨cs', by rw [h3']; rfl, h5, fun hc => allOne_put h5 p2 hc, h6⟩
theorem partC_some {a : A} {e : Nat} {x : X} (hE : EA nt a e x) {off n : Nat} {y : Operand} {b : BC} {cs : List Value} {k : List Value → Ans} {r : Value} (h : (partC off n y b).run e x cs k = some r) :
    ∃ cs', (cellsOf (evV x e y)).length = n ∧ put? off (cellsOf (evV x e y)) cs = some cs' ∧ (allOne cs = true → allOne cs' = true) ∧ b.run e x cs' k = some r := by
  cases b with
  | mk bf =>
  cases y with
  | tmp t =>
    have h' : cellK x (slot e t) (fun l => ifA (lenF l n) (atK off l cs fun cs => bf e x cs k) none) = some r := h
    obtain ⟨h1, h2⟩ := cellK_some hE h'
    exact part_one h1 h2
  | const v =>
    have h' : aggK v (fun l => ifA (lenF l n) (atK off l cs fun cs => bf e x cs k) none) = some r := h
    obtain ⟨h1, h2⟩ := aggK_some h'
    exact part_one h1 h2
  | global g => exact part_bare (v := ptr g) rfl h
  | func f => exact part_bare (v := .func (.func f) #[] #[]) rfl h
theorem partsL_some {place : Nat → Option (Nat × Nat)} {a : A} {e : Nat} {x : X} (hE : EA nt a e x) : ∀ {l : List (Nat × Operand)} {b : BC} {cs : List Value} {k : List Value → Ans} {r : Value}, partsL place l = some b → b.run e x cs k = some r →
    ∃ cs', fillL place cs (l.map fun p => (p.1, evV x e p.2)) = some cs' ∧ (allOne cs = true → allOne cs' = true) ∧ k cs' = some r
  | [], b, cs, k, r, hb, h => by
    cases hb
    exact ⟨cs, rfl, id, h⟩
  | p :: l, b, cs, k, r, hb, h => by
    have hb' : (match place p.1, partsL place l with | some q, some r => some (partC q.1 q.2 p.2 r) | _, _ => none) = some b := hb
    split at hb'
    · rename_i q b2 hq hb2
      cases hb'
      obtain ⟨cs1, h1, h2, h3, h4⟩ := partC_some hE h
      obtain ⟨cs', h5, h6, h7⟩ := partsL_some hE hb2 h4
      refine ⟨cs', ?_, fun hc => h6 (h3 hc), h7⟩
      simp only [List.map_cons, fillL, hq, Option.bind_some, h1, if_true, h2, h5]
    · cases hb'
theorem placesR_eq (l : List Field) : placesR P l = l.mapM fun f => (P.info? f.type).map fun i => (f.offset, i.size) := by
  induction l with
  | nil => rfl
  | cons f l ih =>
    have h : placesR P (f :: l) = (match infoF P f.type, placesR P l with | some i, some r => some ((f.offset, i.size) :: r) | _, _ => none) := rfl
    rw [h, ih, infoF_eq, List.mapM_cons]
    cases P.info? f.type with
    | none => rfl
    | some i => cases (l.mapM fun f => (P.info? f.type).map fun i => (f.offset, i.size)) <;> rfl
theorem buildOC_ok {o : Oper} {t : TypeId} {ps : Array (Nat × Operand)} (ho : o.op = .build t ps) : VOK P ext nt (buildOC P (effD nt o.dst) t ps.toList) o := by
  have hm : ∀ ev s, opM P ext o ev s = valO (buildM P t (parts ev ps)) s := fun ev s => by unfold opM; rw [ho]
  have hslow : VOK P ext nt (optOC (effD nt o.dst) fun ev => buildM P t (parts ev ⟨ps.toList⟩)) o := optOC_ok (nt := nt) hm
  unfold buildOC
  rw [undF_eq]
  split
  · rename_i z fs hz hfs
    split
    · rename_i pl hpl
      split
      · rename_i b hb
        refine ⟨fun {h n' rf e x s k r a} hE hr => ?_⟩
        cases b with
        | mk bf =>
        have hr' : BC.run (BC.mk bf) e x (cellsOf z) (fun cs => putV (effD nt o.dst) (.agg ⟨cs⟩) e x fun e x => k e x s) = some r := hr
        obtain ⟨cs', h1, h2, h3⟩ := partsL_some hE hb hr'
        obtain ⟨e', x', h4, h5⟩ := putV_sound hE h3
        refine ⟨_, e', x', s, ?_, h4, h5⟩
        rw [hm]
        refine valO_ok ?_ s
        rw [placesR_eq] at hpl
        have hn : nthR pl = fun i => pl[i]? := by funext i; exact nthR_eq pl i
        rw [hn] at h1
        simp only [buildM, hz, Option.bind_some, hfs, placesF, hpl, parts, h1, aggOf, Option.map_some]
      · exact hslow
    · exact hslow
  · exact hslow
theorem repR_eq (l : List Value) : ∀ n, repR l n = rep l n
  | 0 => rfl
  | n + 1 => by
    have h : repR l (n + 1) = List.rec (motive := fun _ => List Value) (repR l n) (fun v _ r => v :: r) l := rfl
    rw [h, repR_eq l n, rep]
    induction l with
    | nil => rfl
    | cons v l ih =>
      show v :: List.rec (motive := fun _ => List Value) (rep (v :: l) n) (fun v _ r => v :: r) l = v :: (l ++ rep (v :: l) n)
      congr 1
      generalize rep (v :: l) n = q
      clear ih h
      induction l with
      | nil => rfl
      | cons w l ih => show w :: _ = w :: _; rw [ih]; rfl
theorem allOne_rep {l : List Value} (h : allOne l = true) : ∀ n, allOne (rep l n) = true
  | 0 => rfl
  | n + 1 => by
    have := allOne_rep h n
    simp only [allOne, rep, List.all_append, Bool.and_eq_true] at *
    exact ⟨h, this⟩
theorem newL_some {a : A} {e : Nat} {x : X} (hE : EA nt a e x) {d : Option Nat} {el es n : Nat} {cs : List Value} {s : St} {k : KN} {r : Value} (hn : n < 268435456) (h : newL (effD nt d) el es n cs e x s k = some r) :
    ∃ b s' e' x', newB (.cells el es true cs) s = some (b, s') ∧ EA nt (a.put d (.slice (some ⟨b, 0, none⟩) n n)) e' x' ∧ k e' x' s' = some r := by
  unfold newL at h
  obtain ⟨s', h1, h2⟩ := newK_some h
  rcases brec_cases h2 with ⟨hb, h3⟩ | ⟨hb, h3⟩
  · obtain ⟨e', x', h4, h5⟩ := putV_sound hE h3
    exact ⟨_, s', e', x', h1, h4, h5⟩
  · have hb' : s.nx ≤ 4294967295 := Nat.le_of_ble_eq_true hb
    have hp : Plain (4294967296 * ((n * 268435456 + n) * 4294967296 + s.nx) + 12) (.slice (some ⟨s.nx, 0, none⟩) n n) := by
      have := plain_slice (b := s.nx) (off := 0) (n := n) (c := n) (by omega) (by decide) hn (by omega)
      have e : 16 * (((n * 268435456 + n) * 4294967296 + s.nx) * 268435456 + 0) + 12 = 4294967296 * ((n * 268435456 + n) * 4294967296 + s.nx) + 12 := by omega
      rw [e] at this
      exact this
    exact ⟨_, s', _, _, h1, putN_sound hE hp.lt (decX_plain hp).symm (okc_plain hp), h3⟩
theorem buildSliceOC_ok {o : Oper} {t : TypeId} {n : Nat} {ps : Array (Nat × Operand)} (ho : o.op = .buildSlice t n ps) : VOK P ext nt (buildSliceOC P (effD nt o.dst) t n ps.toList) o := by
  have hm : ∀ ev s, opM P ext o ev s = valM (buildSliceM P t n (parts ev ps)) s := fun ev s => by unfold opM; rw [ho]
  have hslow : VOK P ext nt (valOC (effD nt o.dst) fun ev => buildSliceM P t n (parts ev ⟨ps.toList⟩)) o := valOC_ok (nt := nt) hm
  unfold buildSliceOC
  rw [undF_eq]
  split
  · rename_i el hel
    rw [sizF_eq]
    split
    · rename_i size z hsz hz
      split
      · rename_i b hb
        cases hq : (Nat.ble (Nat.mul n size) 10000 && Nat.ble n 10000 && allOne (cellsOf z)) with
        | false => exact hslow
        | true =>
          simp only [Bool.and_eq_true] at hq
          obtain ⟨⟨q1, q2⟩, q3⟩ := hq
          have q1' : n * size ≤ 10000 := Nat.le_of_ble_eq_true q1
          have q2' : n ≤ 10000 := Nat.le_of_ble_eq_true q2
          cases b with
          | mk bf =>
          refine ⟨fun {h n' rf e x s k r a} hE hr => ?_⟩
          have hr' : BC.run (BC.mk bf) e x (repR (cellsOf z) n) (fun cs => newL (effD nt o.dst) el size n cs e x s k) = some r := hr
          obtain ⟨cs', h1, h2, h3⟩ := partsL_some hE hb hr'
          rw [repR_eq] at h1 h2
          obtain ⟨b, s', e', x', h4, h5, h6⟩ := newL_some hE (by omega) h3
          refine ⟨_, e', x', s', ?_, h5, h6⟩
          rw [hm]
          refine valM_ok ?_
          have hse : sliceE P t = some el := by simp [sliceE, hel]
          have g1 : (decide (n * size ≤ 10000) && decide (n ≤ 10000)) = true := by simp [q1', q2']
          simp only [buildSliceM, M.bind, hse, lift_ok, hsz, hz, buildSlice1, guardM, g1, parts, h1, h2 (allOne_rep q3 n), newSlice, h4, M.pure]
      · exact hslow
    · exact hslow
  · exact hslow
theorem plain_slice' {b off n c : Nat} (hb : b < 2 ^ 32) (ho : off < 268435456) (hn : n < 268435456) (hc : c < 2 ^ 68) :
    Plain (16 * (((c * 268435456 + n) * 4294967296 + b) * 268435456 + off) + 12) (.slice (some ⟨b, off, none⟩) n c) := by
  have h12 : (16 * (((c * 268435456 + n) * 4294967296 + b) * 268435456 + off) + 12) % 16 = 12 := by omega
  refine ⟨by omega, by omega, ?_⟩
  have := plain_slice_code (x := ⟨[], 1, []⟩) h12
  rw [decX_not (by omega)] at this
  rw [this]
  generalize hC : 16 * (((c * 268435456 + n) * 4294967296 + b) * 268435456 + off) + 12 = C
  have h1 : C / 2 ^ 32 % 4294967296 = b := by omega
  have h2 : C / 2 ^ 4 % 268435456 = off := by omega
  have h3 : C / 2 ^ 64 % 268435456 = n := by omega
  have h4 : C / 2 ^ 92 = c := by omega
  rw [h1, h2, h3, h4]
theorem cutC_ok {size c l h : Nat} (hc : c < 2 ^ 160) (hr : cutC (size + 1) c l h ≠ 13) : c % 16 = 12 ∧ ∃ v, Plain (cutC (size + 1) c l h) v ∧
    ∀ lo hi, optNat 0 lo = some l → optNat ((c / 2 ^ 64) % 268435456) hi = some h →
    sliceS (some ⟨(c / 2 ^ 32) % 4294967296, (c / 2 ^ 4) % 268435456, none⟩) ((c / 2 ^ 64) % 268435456) (c / 2 ^ 92) (size + 1) lo hi none = some v := by
  have k1 : c / 2 ^ 92 < 2 ^ 68 := by omega
  have k2 : (c / 2 ^ 32) % 4294967296 < 2 ^ 32 := by omega
  have k3 : c % 16 = 12 → c % 18446744073709551616 = 16 * ((c / 2 ^ 32) % 4294967296 * 268435456 + (c / 2 ^ 4) % 268435456) + 12 := by omega
  have k4 : ∀ C n b o q : Nat, 16 * (((C * 268435456 + n) * 4294967296 + b) * 268435456 + (o + q)) + 12 = 16 * (b * 268435456 + o) + 12 + 16 * q + 18446744073709551616 * (268435456 * C + n) := by intros; omega
  obtain ⟨h1, h2, h3⟩ := ifN13 hr
  have ht := tag_eq h1
  refine ⟨ht, ?_⟩
  obtain ⟨a1, a2, a3⟩ := ifN13 h3
  obtain ⟨b1, b2, b3⟩ := ifN13 a3
  obtain ⟨c1, c2, c3⟩ := ifN13' b3
  obtain ⟨d1, d2, d3⟩ := ifN13 c3
  obtain ⟨f1, f2, f3⟩ := ifN13 d3
  obtain ⟨g1, g2, g3⟩ := ifN13 f3
  have hcut := (h2.trans (a2.trans (b2.trans (c2.trans (d2.trans (f2.trans g2))))))
  have hcap : Nat.shiftRight c 92 = c / 2 ^ 92 := shr_eq _ _
  have hoff : Nat.mod (Nat.shiftRight c 4) 268435456 = c / 2 ^ 4 % 268435456 := by rw [shr_eq]; rfl
  have f1' : c / 2 ^ 4 % 268435456 + l * (size + 1) ≤ 268435455 := by
    have := Nat.le_of_ble_eq_true f1
    rw [hoff] at this
    exact this
  have g1' : h - l ≤ 268435455 := Nat.le_of_ble_eq_true g1
  have b1' : l ≤ h := Nat.le_of_ble_eq_true b1
  have hcut' : cutC (size + 1) c l h = c % 18446744073709551616 + 16 * (l * (size + 1)) + 18446744073709551616 * (268435456 * (c / 2 ^ 92 - l) + (h - l)) := by
    refine hcut.trans ?_
    rw [hcap]
    rfl
  -- the true capacity, and whether it is exact
  have hfin : ∀ (r : Nat) (ex : Bool), sliceCap (c / 2 ^ 92) = (r, ex) → h ≤ r → l < r → r ≤ 1099511627776 → mkCap (r - l) ex = c / 2 ^ 92 - l → ∃ v, Plain (cutC (size + 1) c l h) v ∧
      ∀ lo hi, optNat 0 lo = some l → optNat ((c / 2 ^ 64) % 268435456) hi = some h →
      sliceS (some ⟨(c / 2 ^ 32) % 4294967296, (c / 2 ^ 4) % 268435456, none⟩) ((c / 2 ^ 64) % 268435456) (c / 2 ^ 92) (size + 1) lo hi none = some v := by
    intro r ex hsc e1 e2 e3 e4
    refine ⟨.slice (some ⟨(c / 2 ^ 32) % 4294967296, (c / 2 ^ 4) % 268435456 + l * (size + 1), none⟩) (h - l) (c / 2 ^ 92 - l), ?_, ?_⟩
    · have hp := plain_slice' (b := (c / 2 ^ 32) % 4294967296) (off := (c / 2 ^ 4) % 268435456 + l * (size + 1)) (n := h - l) (c := c / 2 ^ 92 - l) k2 (Nat.lt_succ_of_le f1') (Nat.lt_succ_of_le g1') (Nat.lt_of_le_of_lt (Nat.sub_le _ _) k1)
      rw [k4, ← k3 ht, ← hcut'] at hp
      exact hp
    · intro lo hi hlo hhi
      have q1 : (Nat.ble l h && Nat.ble h r && Nat.ble r r) = true := by
        rw [Nat.ble_eq_true_of_le b1', Nat.ble_eq_true_of_le e1, Nat.ble_eq_true_of_le (Nat.le_refl r)]
        rfl
      have q2 : Nat.ble r LIM = true := Nat.ble_eq_true_of_le e3
      have q3 : (ex || l == 0 || (size + 1) != 0) = true := by simp
      have q4 : (ex || (none : Option Value).isSome) = ex := by simp
      simp only [sliceS, hsc, bounds, Option.isSome_none, Bool.false_and, Bool.false_eq_true, if_false, hlo, hhi, Option.bind_some]
      have hm : optNat r none = some r := rfl
      simp only [hm, Option.bind_some, q1, if_true, q2]
      simp only [sliceOf]
      rw [if_neg (by omega)]
      rw [Bool.or_false, if_pos q3, e4]
      rfl
  cases hB : Nat.ble 4611686018427387904 (Nat.shiftRight c 92) with
  | true =>
    rw [hB] at a1 c1 d1
    rw [hcap] at hB a1 c1 d1
    have hB' : 4611686018427387904 ≤ c / 2 ^ 92 := Nat.le_of_ble_eq_true hB
    have c1' : l < c / 2 ^ 92 - 4611686018427387904 := ble_false c1
    have d1' : c / 2 ^ 92 - 4611686018427387904 ≤ 1099511627776 := Nat.le_of_ble_eq_true d1
    have a1' : h ≤ c / 2 ^ 92 - 4611686018427387904 := Nat.le_of_ble_eq_true a1
    refine hfin _ false ?_ a1' c1' d1' ?_
    · unfold sliceCap
      rw [show BIG = 4611686018427387904 from rfl, hB]
    · show c / 2 ^ 92 - 4611686018427387904 - l + 4611686018427387904 = _
      clear hfin hcut' hcut h2 a2 b2 c2 d2 f2 g2 h3 a3 b3 c3 d3 f3 g3 k3 k4 hr
      omega
  | false =>
    rw [hB] at a1 c1 d1
    rw [hcap] at hB a1 c1 d1
    have c1' : l < c / 2 ^ 92 := ble_false c1
    have d1' : c / 2 ^ 92 ≤ 1099511627776 := Nat.le_of_ble_eq_true d1
    have a1' : h ≤ c / 2 ^ 92 := Nat.le_of_ble_eq_true a1
    refine hfin _ true ?_ a1' c1' d1' rfl
    unfold sliceCap
    rw [show BIG = 4611686018427387904 from rfl, hB]
theorem sliceOC_ok {o : Oper} {t : TypeId} {y : Operand} {lo hi mx : Option Operand} (ho : o.op = .slice t y lo hi mx) : VOK P ext nt (sliceOC P (effD nt o.dst) t y lo hi mx) o := by
  have hm : ∀ ev s, opM P ext o ev s = valO (sliceM P t (ev y) (lo.map ev) (hi.map ev) (mx.map ev)) s := fun ev s => by unfold opM; rw [ho]
  have hslow := optOC_ok (nt := nt) hm
  unfold sliceOC
  rw [undF_eq]
  split
  · rename_i el hel
    rw [sizF_eq]
    split
    · rename_i size hsz
      have hS : ∀ {a n c : _} {lo' hi' : Option Value}, sliceM P t (.slice a n c) lo' hi' none = sliceS a n c (size + 1) lo' hi' none := by
        intro a n c lo' hi'
        simp only [sliceM, hel, hsz, Option.bind_some]
      split
      · rename_i z
        refine opd_ok2 (fun oc => VOK P ext nt oc o) (b := fun fy fz => fastOC (effD nt o.dst) (fun e => (fun c h => (Bool.rec (motive := fun _ => Nat) 13 (cutC (size + 1) c 0 (Nat.div h 16)) (Nat.ble (Nat.land (Nat.add h 15) 15) 7))) (fy e) (fz e)) (optOC (effD nt o.dst) fun ev => sliceM P t (ev y) none (some (ev z)) none)) fun fy fz hfy hfz => ?_
        refine fastOC_plain hslow fun {e x a} hE hc => ?_
        simp only [hfy, hfz] at hc ⊢
        obtain ⟨h1, h2, h3⟩ := ifN13 hc
        rw [h2]
        obtain ⟨k, hk⟩ := isI_tag h1
        obtain ⟨h4, v, h5, h6⟩ := cutC_ok (codeS_lt hE y) h3
        refine ⟨v, fun s => ?_, h5⟩
        rcases codeS_ok hE y with g1 | ⟨g1, g2, g3⟩
        · rw [g1] at h4; cases h4
        · rw [hm]
          refine valO_ok ?_ s
          simp only [Option.map_none, Option.map_some]
          rw [g3, plain_slice_code h4, hS, (codeS_int hE hk).1]
          exact h6 _ _ rfl rfl
      · rename_i z
        refine opd_ok2 (fun oc => VOK P ext nt oc o) (b := fun fy fz => fastOC (effD nt o.dst) (fun e => (fun c l => (Bool.rec (motive := fun _ => Nat) 13 (cutC (size + 1) c (Nat.div l 16) (Nat.mod (Nat.shiftRight c 64) 268435456)) (Nat.ble (Nat.land (Nat.add l 15) 15) 7))) (fy e) (fz e)) (optOC (effD nt o.dst) fun ev => sliceM P t (ev y) (some (ev z)) none none)) fun fy fz hfy hfz => ?_
        refine fastOC_plain hslow fun {e x a} hE hc => ?_
        simp only [hfy, hfz] at hc ⊢
        obtain ⟨h1, h2, h3⟩ := ifN13 hc
        rw [h2]
        obtain ⟨k, hk⟩ := isI_tag h1
        obtain ⟨h4, v, h5, h6⟩ := cutC_ok (codeS_lt hE y) h3
        refine ⟨v, fun s => ?_, h5⟩
        rcases codeS_ok hE y with g1 | ⟨g1, g2, g3⟩
        · rw [g1] at h4; cases h4
        · rw [hm]
          refine valO_ok ?_ s
          simp only [Option.map_none, Option.map_some]
          rw [g3, plain_slice_code h4, hS, (codeS_int hE hk).1]
          refine h6 _ _ rfl ?_
          rw [shr_eq]
          rfl
      · exact hslow
      · exact hslow
    · exact hslow
  · exact hslow
end
end Go.AM
