import Derived.Test.YtoaaalokldaddaaGreatDoorRows
import Derived.LaidLaws
import Derived.MakeChecks
import Derived.Stop.LaidErr
import Derived.Lib.LaidTab
import Derived.Lib.LaidU8
import Derived.Test.YtoaaalokldaddaaGreatDoorAmZ2
namespace Go.Proofs.YtoaaalokldaddaaGreatDoor
open Go Go.AM
set_option maxRecDepth 1000000
abbrev laidT {H : Type} : List (String × DataW H) := [("math/bits.deBruijn32tab", Rows.laid_math_bits_deBruijn32tab), ("math/bits.deBruijn64tab", Rows.laid_math_bits_deBruijn64tab), ("internal/strconv.uint64pow10", Rows.laid_internal_strconv_uint64pow10), ("strconv.ErrRange", Rows.laid_strconv_ErrRange), ("strconv.ErrSyntax", Rows.laid_strconv_ErrSyntax)]
def tab64 : List Int := [0, 1, 56, 2, 57, 49, 28, 3, 61, 58, 42, 50, 38, 29, 17, 4, 62, 47, 59, 36, 45, 43, 51, 22, 53, 39, 33, 30, 24, 18, 12, 5, 63, 55, 48, 27, 60, 41, 37, 16, 46, 35, 44, 21, 52, 32, 23, 11, 54, 26, 40, 15, 34, 20, 31, 10, 25, 14, 19, 9, 13, 8, 7, 6]
def tabV : List Value := tab64.map fun n => .int .u8 n
noncomputable def hp0 : Hp Blk := Hp.set (.cells 161 1 false tabV) Hp.e 0
theorem tab_flat : tabV.all (flat 0) = true := by decide
theorem heap_of_laid {W : World} (hL : laidMetH Tryz.prog laidT W) : ∃ el fz, W.heap[0]? = some (.cells tabV.toArray el fz) := by
  have h1 : laidMet Tryz.prog laidT W := by
    rw [MakeChecks.laidMetH_plain _ _ _ (by kernel_rfl)] at hL
    exact hL
  have h2 : Lib.TabIs Tryz.prog W "math/bits.deBruijn64tab" .u8 tab64 :=
    Lib.tabIs_of_head (g := 0) (t := 161) (e := 5) (n := 64) (by kernel_rfl) (by kernel_rfl) (by kernel_rfl) (by kernel_rfl) (by kernel_rfl) (by kernel_rfl) h1.tail
  have hg : Tryz.prog.globalNamed "math/bits.deBruijn64tab" = some 0 := by kernel_rfl
  unfold Lib.TabIs World.var? at h2
  rw [hg] at h2
  simp only [Option.bind_some] at h2
  split at h2
  · rename_i cs el fz hh
    cases h2
    exact ⟨el, fz, hh⟩
  · cases h2
theorem ready_of_laid {W : World} {ext : Ext} (hL : laidMetH Tryz.prog laidT W) : Ready { P := Tryz.prog, ext := ext, w0 := W, ng := 7 } hp0 7 := by
  obtain ⟨el, fz, hh⟩ := heap_of_laid hL
  intro b k hb hg
  rw [hp0, Hp.get_set] at hg
  have h0 : b = 0 := by
    by_cases e : b = 0
    · exact e
    · rw [if_neg e, Hp.get_e] at hg; cases hg
  subst h0
  rw [if_pos rfl] at hg
  cases hg
  exact ⟨hb, 161, 1, tabV, tabV.toArray, el, fz, rfl, hh, by simp, by simp, tab_flat⟩
end Go.Proofs.YtoaaalokldaddaaGreatDoor
