/-
  What the listed tables give.
-/
import Derived.Test.YtopflkfnfgcogaaDoorRows
import Derived.Test.YtopflkfnfgcogaaDoorFields
import Derived.Lib.LaidTab
namespace Go.Proofs.YtopflkfnfgcogaaDoor
open Go.RowKit Go

theorem gSpace : Tryd.prog.globalNamed "strings.asciiSpace" = some 0 := by kernel_rfl
theorem gSpaceT : (Tryd.prog.globals[0]?).map (·.type) = some 61 := by kernel_rfl
theorem cells61 : Tryd.prog.cellsOf 61 = 256 := by kernel_rfl
theorem cells5 : Tryd.prog.cellsOf 5 = 1 := by kernel_rfl

/-- The table of blanks. -/
def spaceTab : List Int := (List.range 256).map (fun b => if b = 9 ∨ b = 10 ∨ b = 11 ∨ b = 12 ∨ b = 13 ∨ b = 32 then 1 else 0)

theorem laid_space : (Rows.laid_strings_asciiSpace : DataW Unit) = Lib.tabData .u8 spaceTab := by kernel_rfl

theorem tab_of {W : World} {d1 d2 : String × DataW Unit} {rest : List (String × DataW Unit)} (h : laidMet Tryd.prog (d1 :: d2 :: ("strings.asciiSpace", Rows.laid_strings_asciiSpace) :: rest) W) : Tab W := by
  obtain ⟨ps, ⟨_, _, _, _, _, _, _, _, _, _, ⟨_, _, _, _, _, _, _, _, _, _, ⟨g, t, cs, fuel, p, q, hg, ht, hvar, hd, _, _⟩, _⟩, _⟩, _⟩ := h
  obtain rfl := Option.some.inj (gSpace.symm.trans hg)
  obtain rfl := Option.some.inj (gSpaceT.symm.trans ht)
  rw [laid_space] at hd
  have hcs := Lib.cells_of_tab Tryd.underlying61 Tryd.underlying5 cells5 cells61 hd
  have hT : Lib.TabIs Tryd.prog W "strings.asciiSpace" .u8 spaceTab := by
    unfold Lib.TabIs
    rw [hvar, ← hcs]
  intro b h1 h2
  have hlen : spaceTab.length = 256 := by unfold spaceTab; rw [List.length_map, List.length_range]
  rw [hT.cell gSpace b (by rw [hlen]; omega)]
  congr 2
  have : spaceTab.getD b 0 = if b = 9 ∨ b = 10 ∨ b = 11 ∨ b = 12 ∨ b = 13 ∨ b = 32 then 1 else 0 := by
    unfold spaceTab
    rw [List.getD_eq_getElem?_getD, List.getElem?_map, List.getElem?_range (by omega)]
    rfl
  rw [this]
  by_cases h : b = 32
  · subst h; rfl
  · rw [if_neg (by omega), if_neg h]

theorem zero_lt {W : World} (h : Tab W) : 0 < W.heap.size := by
  have := h 32 (Nat.le_refl _) (by decide)
  exact World.block_lt_of_cell? _ _ this
end Go.Proofs.YtopflkfnfgcogaaDoor
