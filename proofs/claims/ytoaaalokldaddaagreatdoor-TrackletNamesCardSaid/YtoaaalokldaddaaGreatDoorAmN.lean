import Derived.Test.YtoaaalokldaddaaGreatDoorAmM
set_option linter.unusedSimpArgs false
set_option linter.unusedVariables false
namespace Go.AM
open Go Go.RowKit

attribute [local irreducible] mkCap BIG
section
variable {c : Cx} {ρ : Map} {V : Nat → Prop} {s s' : St} {w : World} {P : Program}

theorem copy_sound {ts : Array TypeId} {ty t : TypeId} {d x d' x' v : Value} (h0 : ts[0]? = some t) (h : copyM c.P t d x s = some (v, s')) (hR : Rel c ρ V s.hp w) (hd : VR ρ V d d') (hx : VR ρ V x x') :
    s'.nx = s.nx ∧ ∃ w' v', (Builtin.copy_ ts ty #[d', x']).run c.P w = .ok v' w' ∧ Rel c ρ V s'.hp w' ∧ VR ρ V v v' := by
  obtain ⟨e, s1, h1, h2⟩ := bind_some h
  obtain ⟨q1, rfl⟩ := lift_some h1
  have hu := sliceE_some q1
  obtain ⟨p, s2, h3, h4⟩ := bind_some h2
  obtain ⟨q3, rfl⟩ := lift_some h3
  obtain ⟨size, s3, h5, h6⟩ := bind_some h4
  obtain ⟨q5, rfl⟩ := lift_some h5
  obtain ⟨m, s4, h7, h8⟩ := bind_some h6
  obtain ⟨q7, rfl⟩ := lift_some h7
  obtain ⟨new, s5, h9, h10⟩ := bind_some h8
  rw [sliceParts_some q3] at hd
  have hl := lenV_sound (c := c) q7 hx
  obtain ⟨hs, new', n1, n2⟩ := firstM_sound h9 hR hx
  have hR5 : Rel c ρ V s5.hp w := by rw [hs.hp]; exact hR
  have hn2 := n2 w rfl
  unfold copyTo at h10
  rcases slice_inv hd with ⟨ha, hb, hc, rfl⟩ | ⟨b, off, k', ha, hb, hnk, hc, rfl⟩
  · rw [ha, hb] at h10
    rw [hb] at hn2
    simp only [asPlain] at h10
    obtain ⟨rfl, rfl⟩ := pure_some h10
    have e0 : m.min 0 = 0 := Nat.min_zero m
    rw [e0] at hn2
    refine ⟨hs.nx, w, _, ?_, hR5, VR.int _ _⟩
    simp [Builtin.copy_, h0, run_underlying hu, run_size q5, hl, hn2, goInt]
  · rw [ha] at h10
    simp only [asPlain] at h10
    obtain ⟨_, s6, h11, h12⟩ := bind_some h10
    obtain ⟨rfl, rfl⟩ := pure_some h12
    obtain ⟨y1, w', y2, y3⟩ := wrCells_sound h11 hR5 hb n1
    refine ⟨by rw [y1, hs.nx], w', _, ?_, y3, VR.int _ _⟩
    simp [Builtin.copy_, h0, run_underlying hu, run_size q5, hl, hn2, y2, goInt]

theorem freeze_alloc (w : World) (C : Array Value) (e : TypeId) : (w.alloc (.cells C e)).freeze ⟨w.heap.size, C.size, none⟩ 1 = w.alloc (.cells C e (C.size, C.size + 1)) := by
  have hh : (w.heap.push (.cells C e)).modify w.heap.size (fun
      | .cells c elem (lo, hi) => .cells c elem (if lo == hi then (C.size, C.size + 1) else (min lo C.size, max hi (C.size + 1)))
      | o => o) = w.heap.push (.cells C e (C.size, C.size + 1)) := by
    apply Array.ext_getElem?
    intro i
    rw [Array.getElem?_modify, Array.getElem?_push, Array.getElem?_push]
    by_cases hi : i = w.heap.size
    · subst hi; simp
    · rw [if_neg (Ne.symm hi), if_neg hi, if_neg hi]
  unfold World.freeze
  rw [if_neg (by omega)]
  exact congrArg (fun h => ({ w with heap := h } : World)) hh

theorem bytes_lr (b : ByteArray) : LR ρ V (bytesOfString b) (bytesOfString b) := LR.refl_of fun v hv => by
  simp only [bytesOfString, List.mem_map] at hv
  obtain ⟨x, _, rfl⟩ := hv
  exact VR.int _ _
theorem byteT_some {e : TypeId} (h : isByteT P e = true) : P.underlying e = some (.int .u8) := by
  unfold isByteT at h
  split at h
  · assumption
  · cases h

theorem toBytes_sound {src dst e : TypeId} {ds : TypeDesc} {b : ByteArray} {v : Value} (hsrc : c.P.underlying src = some ds) (hdst : c.P.underlying dst = some (.slice e)) (h : toBytesM c.P e b s = some (v, s')) (hR : Rel c ρ V s.hp w) (hf : Free V s.nx s'.nx) :
    ∃ ρ' w' v', Made c ρ V s s' w' ρ' ∧ (convert src dst (.string b)).run c.P w = .ok v' w' ∧ VR ρ' (VU V s.nx s'.nx) v v' := by
  obtain ⟨_, s1, h1, h2⟩ := bind_some h
  obtain ⟨q1, rfl⟩ := guard_some h1
  simp only [Bool.and_eq_true, decide_eq_true_eq] at q1
  have he := byteT_some q1.1
  have hge := grownCap_ge w b.size 0 e
  let C : Array Value := (b.data.map fun x => Value.int .u8 x.toNat) ++ Array.replicate (grownCap w b.size 0 e - b.size) (.int .u8 0)
  have hCs : C.size = grownCap w b.size 0 e := by
    have : b.data.size = b.size := rfl
    simp [C, this]
    omega
  have hbl : (bytesOfString b).length = b.size := by
    have : b.data.size = b.size := rfl
    simp [bytesOfString, this]
  obtain ⟨ρ', m1, m2⟩ := newSlice_sound (exact_ := true) h2 hR.drew hf (bytes_lr b) C (C.size, C.size + 1) (grownCap w b.size 0 e)
    (by
      have h1 : C.toList = bytesOfString b ++ List.replicate (grownCap w b.size 0 e - b.size) (.int .u8 0) := by simp [C, bytesOfString]
      rw [h1]
      exact List.take_left' rfl) (by rw [hbl, hCs]; exact hge) (fun i hi => by simp [frozenAt]; omega) hge
    (by refine capR_grown rfl ?_ hge; show _ * 1 = C.size; rw [hCs]; omega)
  refine ⟨ρ', _, _, m1, ?_, m2⟩
  rw [← freeze_alloc]
  have hg : (Question.appendCap b.size 0 e).cut (w.tape w.drawn (Question.appendCap b.size 0 e)) = grownCap w b.size 0 e := rfl
  have hsh : (w.drew.alloc (.cells C e)).shape? w.drew.heap.size = some (e, C.size) := by
    simp only [World.shape?, heap_alloc_new]
  have hdr : w.drew.heap.size = w.heap.size := rfl
  have hst : (Conv.stringToBytes e b).run c.P w = .ok (.slice (some ⟨w.drew.heap.size, 0, none⟩) b.size (grownCap w b.size 0 e)) ((w.drew.alloc (.cells C e)).freeze ⟨w.drew.heap.size, C.size, none⟩ 1) := by
    unfold Conv.stringToBytes
    simp [Question.forced, hg, run_newRow, markStringish]
    have hC : (Array.map (fun x : UInt8 => Value.int IntKind.u8 (x.toNat : Int)) b.data ++ Array.replicate (grownCap w b.size 0 e - b.size) (Value.int IntKind.u8 0)) = C := rfl
    have hsh2 : (w.drew.alloc (.cells C e)).shape? w.heap.size = some (e, C.size) := hsh
    rw [hC, hsh2]
    simp
  rw [← hst]
  cases ds <;> simp [convert, run_underlying hsrc, run_underlying hdst, run_underlying he]

theorem toBytes_some : ∀ {l : List Value} {ns : List Nat}, toBytes l = some ns → l = ns.map (fun n : Nat => Value.int .u8 (n : Int)) := by
  intro l
  induction l with
  | nil => intro ns h; simp only [toBytes, Option.some.injEq] at h; subst h; rfl
  | cons v l ih =>
    intro ns h
    unfold toBytes at h
    split at h
    · cases ‹_ :: _ = []›
    · rename_i n l' heq
      cases heq
      simp only [Option.map_eq_some_iff] at h
      obtain ⟨m, h1, rfl⟩ := h
      rw [ih h1]
      rfl
    · cases h
theorem ints_eq {ns : List Nat} {l' : List Value} (h : LR ρ V (ns.map (fun n : Nat => Value.int .u8 (n : Int))) l') : l' = ns.map (fun n : Nat => Value.int .u8 (n : Int)) := by
  refine list_eq h fun v v' hm hv => ?_
  simp only [List.mem_map] at hm
  obtain ⟨n, _, rfl⟩ := hm
  exact int_inv hv

theorem toString_sound {src dst e : TypeId} {a : Option Addr} {n k : Nat} {x' v : Value} (hsrc : c.P.underlying src = some (.slice e)) (hdst : c.P.underlying dst = some .string) (h : toStringM c.P e a n s = some (v, s')) (hR : Rel c ρ V s.hp w)
    (hx : VR ρ V (.slice a n k) x') : SameSt s s' ∧ ∃ v', (convert src dst x').run c.P w = .ok v' w ∧ VR ρ V v v' := by
  obtain ⟨_, s1, h1, h2⟩ := bind_some h
  obtain ⟨q1, rfl⟩ := guard_some h1
  have he := byteT_some q1
  obtain ⟨l, s2, h3, h4⟩ := bind_some h2
  obtain ⟨ns, s3, h5, h6⟩ := bind_some h4
  obtain ⟨q5, rfl⟩ := lift_some h5
  obtain ⟨rfl, rfl⟩ := pure_some h6
  have h3' : firstM 1 n (.slice a n k) s1 = some (l, s') := by
    rw [← h3]
    rcases slice_inv hx with ⟨rfl, _⟩ | ⟨b, off, k2, rfl, _⟩ <;> rfl
  obtain ⟨hs, l', n1, n2⟩ := firstM_sound h3' hR hx
  refine ⟨hs, strOf ns, ?_, VR.str _⟩
  have hl := toBytes_some q5
  rw [hl] at n1
  have hl' := ints_eq n1
  rcases slice_inv hx with ⟨rfl, rfl, rfl, rfl⟩ | ⟨b, off, k2, rfl, hb, hnk, hc, rfl⟩
  · obtain ⟨e1, _⟩ := pure_some h3
    have : ns = [] := by
      rw [e1] at hl
      cases ns with
      | nil => rfl
      | cons x l => cases hl
    subst this
    rw [run_convert_bytes_string w src dst e none 0 0 hsrc he hdst]
    rfl
  · rw [run_convert_bytes_string w src dst e _ n k2 hsrc he hdst]
    have hrun := n2 w rfl
    rw [hl'] at hrun
    have hm : ns.map (fun n : Nat => Value.int .u8 (n : Int)) = (ns.map (fun n : Nat => (n : Int))).map (Value.int .u8) := by simp
    rw [run_bytesToString w ⟨(ρ b).r, off, none⟩ n k2 (ns.map (fun n : Nat => (n : Int))) (by
      have : (Builtin.firstCells 1 n (.slice (some ⟨(ρ b).r, off, none⟩) n k2)) = loadCells ⟨(ρ b).r, off, none⟩ (n * 1) := rfl
      rw [this, Nat.mul_one] at hrun
      rw [hrun, hm])]
    unfold strOf
    rw [List.foldl_map]
    simp

theorem convFlat_sound {src dst : TypeId} {x x' v : Value} (h : convFlat c.P src dst x s = some (v, s')) (hx : VR ρ V x x') : s' = s ∧ Gives c.P ρ V v (convert src dst x') := by
  obtain ⟨_, s1, h1, h2⟩ := bind_some h
  obtain ⟨q1, rfl⟩ := guard_some h1
  obtain ⟨u, s2, h3, h4⟩ := bind_some h2
  obtain ⟨q3, rfl⟩ := lift_some h3
  obtain ⟨_, s3, h5, h6⟩ := bind_some h4
  obtain ⟨q5, rfl⟩ := guard_some h5
  obtain ⟨rfl, rfl⟩ := pure_some h6
  rw [flat_eq 3 _ _ q1 hx]
  exact ⟨rfl, flatPr q3 q5⟩

theorem convert_sound {src dst : TypeId} {x x' v : Value} (h : convertM c.P src dst x s = some (v, s')) (hR : Rel c ρ V s.hp w) (hf : Free V s.nx s'.nx) (hx : VR ρ V x x') :
    ∃ ρ' w' v', Made c ρ V s s' w' ρ' ∧ (convert src dst x').run c.P w = .ok v' w' ∧ VR ρ' (VU V s.nx s'.nx) v v' := by
  have flatCase : convFlat c.P src dst x s = some (v, s') → ∃ ρ' w' v', Made c ρ V s s' w' ρ' ∧ (convert src dst x').run c.P w = .ok v' w' ∧ VR ρ' (VU V s.nx s'.nx) v v' := by
    intro h
    obtain ⟨rfl, v', h1, h2⟩ := convFlat_sound h hx
    exact ⟨ρ, w, v', Made.of_same hR (SameSt.refl _), h1 w, by rw [VU.self]; exact h2⟩
  unfold convertM convKind at h
  cases x with
  | string b =>
    simp only at h
    rw [str_inv hx]
    rw [str_inv hx] at flatCase
    split at h
    · rename_i ds e hsrc hdst
      exact toBytes_sound hsrc (sliceE_some hdst) h hR hf
    · exact flatCase h
  | slice a n k =>
    simp only at h
    split at h
    · rename_i e hsrc hdst
      have hdst' : c.P.underlying dst = some .string := by
        unfold isStrT at hdst
        split at hdst
        · assumption
        · cases hdst
      obtain ⟨hs, v', h1, h2⟩ := toString_sound (sliceE_some hsrc) hdst' h hR hx
      exact ⟨ρ, w, v', Made.of_same hR hs, h1, by rw [hs.nx, VU.self]; exact h2⟩
    · exact flatCase h
  | _ => exact flatCase h

theorem range_sound {t : TypeId} {x x' v : Value} (h : rangeM c.P t x s = some (v, s')) (hR : Rel c ρ V s.hp w) (hf : Free V s.nx s'.nx) (hx : VR ρ V x x') :
    ∃ ρ' w' v', Made c ρ V s s' w' ρ' ∧ (Instr.range t x').run c.P w = .ok v' w' ∧ VR ρ' (VU V s.nx s'.nx) v v' := by
  obtain ⟨_, s1, h1, h2⟩ := bind_some h
  obtain ⟨q1, rfl⟩ := guard_some h1
  obtain ⟨b, s2, h3, h4⟩ := bind_some h2
  obtain ⟨q3, rfl⟩ := lift_some h3
  obtain ⟨n, s3, h5, h6⟩ := bind_some h4
  obtain ⟨rfl, rfl⟩ := pure_some h6
  obtain ⟨rfl, h7, h8⟩ := new_some h5
  have hu : c.P.underlying t = some .string := by
    unfold isStrT at q1
    split at q1
    · assumption
    · cases q1
  have hxs : x = .string b := by
    unfold asStr at q3
    split at q3
    · cases q3; rfl
    · cases q3
  subst hxs
  rw [str_inv hx]
  have hn : ¬ V s2.nx := hf _ (Nat.le_refl _) (by rw [h8]; omega)
  have hR' := Rel.new hR s2.nx hn ⟨w.heap.size, 0, 0⟩ rfl (.iter b 0) (.stringIter b 0) (fun ρ' hs hp => .iter b 0 hR.below.size)
  refine ⟨_, w.alloc (.stringIter b 0), _, ⟨fun x hx => ?_, by rw [h8, h7]; exact hR'⟩, ?_, by rw [h8]; exact VR.ptr s2.nx 0 (.inr (by omega))⟩
  · show (if x = s2.nx then (⟨w.heap.size, 0, 0⟩ : Pl) else ρ x) = ρ x
    rw [if_neg]
    rintro rfl
    exact hn hx
  · simp [Instr.range, run_underlying hu]

theorem next_sound {it it' v : Value} {ty : TypeId} (h : nextM it s = some (v, s')) (hR : Rel c ρ V s.hp w) (hx : VR ρ V it it') :
    s'.nx = s.nx ∧ ∃ w' v', (Instr.next it' true ty).run c.P w = .ok v' w' ∧ Rel c ρ V s'.hp w' ∧ VR ρ V v v' := by
  obtain ⟨p, s1, h1, h2⟩ := bind_some h
  obtain ⟨q1, rfl⟩ := lift_some h1
  obtain ⟨rfl, hb⟩ := plain_vr q1 hx
  obtain ⟨_, s2, h3, h4⟩ := bind_some h2
  obtain ⟨q3, rfl⟩ := guard_some h3
  have hp0 : p.2 = 0 := by simpa using q3
  obtain ⟨k, s3, h5, h6⟩ := bind_some h4
  obtain ⟨hg, hlt, hs⟩ := rd_some h5
  obtain ⟨y, s4, h7, h8⟩ := bind_some h6
  obtain ⟨q7, rfl⟩ := lift_some h7
  cases k with
  | iter b pos =>
    simp only [iterIn, Option.some.injEq] at q7
    subst q7
    obtain ⟨o, ho, hbr⟩ := hR.blk p.1 _ hb hg rfl
    cases hbr with
    | iter _ _ hN =>
    have hgo : (getObj (ρ p.1).r).run c.P w = .ok (.stringIter b pos) w := by simp [getObj, Sem.run, ho]
    unfold next1 at h8
    rw [hp0]
    split at h8
    · rename_i hpos
      obtain ⟨_, s5, h9, h10⟩ := bind_some h8
      obtain ⟨rfl, rfl⟩ := pure_some h10
      obtain ⟨e1, e2, e3⟩ := wr_some h9
      refine ⟨by rw [e3, hs.nx], { w with heap := w.heap.setIfInBounds (ρ p.1).r (.stringIter b (pos + (Utf8.decode b pos).2)) }, .tuple #[.bool true, .int .i64 pos, .int .i32 (Utf8.decode b pos).1], ?_, ?_, ?_⟩
      · have hso : (setObj (ρ p.1).r (.stringIter b (pos + (Utf8.decode b pos).2))).run c.P w = .ok () { w with heap := w.heap.setIfInBounds (ρ p.1).r (.stringIter b (pos + (Utf8.decode b pos).2)) } := by
          simp [setObj, Sem.run, ho]
        simp [Instr.next, hgo, hpos, hso, goInt]
      · rw [e2, hs.hp]
        have hlt' : (ρ p.1).r < w.heap.size := (Array.getElem?_eq_some_iff.1 ho).1
        refine Rel.turn hR p.1 hb _ _ hg rfl hN (.stringIter b (pos + (Utf8.decode b pos).2)) (by simp) rfl rfl rfl (fun r hr _ => by simp [Array.getElem?_setIfInBounds, Ne.symm hr]) (fun _ => ⟨by simp [Array.getElem?_setIfInBounds, hlt'], .iter _ _ hN⟩)
      · exact VR.tuple_of (LR.cons (VR.bool _) (LR.cons (VR.int _ _) (LR.cons (VR.int _ _) LR.nil)))
    · rename_i hpos
      obtain ⟨rfl, rfl⟩ := pure_some h8
      refine ⟨hs.nx, w, .tuple #[.bool false], ?_, by rw [hs.hp]; exact hR, VR.tuple_of (LR.cons (VR.bool _) LR.nil)⟩
      simp [Instr.next, hgo, hpos]
  | _ => cases q7
end
end Go.AM
