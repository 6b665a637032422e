/-
  strings.SplitSeq makes its iterator: three cells.
-/
import Derived.Test.YtopflkfnfgcogaaDoorSplit
import Derived.WalkSpells
import Derived.WalkLawsBesides
namespace Go.Proofs.YtopflkfnfgcogaaDoor
open Go.RowKit

/-- The world with the iterator's three cells. -/
def seqWorld (s sep : ByteArray) (w : World) : World := ((w.alloc (.cells #[.string s] 9)).alloc (.cells #[.string sep] 9)).alloc (.cells #[.int .i64 0] 3)
/-- The iterator. -/
def seqFunc (w : World) : Value := .func (.func 27) #[] #[.pointer (some ⟨w.heap.size + 1, 0, none⟩), .pointer (some ⟨w.heap.size, 0, none⟩), .pointer (some ⟨w.heap.size + 2, 0, none⟩)]

theorem seq_made (s sep : ByteArray) (w : World) : Calls Tryd.prog 22 #[.string s, .string sep, .int .i64 0] w fun e w' => e = .returned (seqFunc w) ∧ seqWorld s sep w = w' := by
  go_enter Tryd.func22, Tryd.ntmps22
  go_wp2
  go_ret
  exact ⟨rfl, rfl⟩

theorem seq_any (s sep : ByteArray) (w : World) : Calls Tryd.prog 13 #[.string s, .string sep] w fun e w' => e = .returned (seqFunc w) ∧ seqWorld s sep w = w' := by
  go_enter Tryd.func13, Tryd.ntmps13
  go_wp2_with (go_at_call 22; refine (seq_made s sep _).mono ?_; rintro e w' ⟨rfl, rfl⟩)
  go_ret
  exact ⟨rfl, rfl⟩

end Go.Proofs.YtopflkfnfgcogaaDoor
