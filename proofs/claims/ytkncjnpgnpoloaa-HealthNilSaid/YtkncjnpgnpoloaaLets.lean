/-
  Lets, of health that nobody made.
-/
import Derived.Test.YtkncjnpgnpoloaaNoH
import Derived.BigQuiet
namespace Go.Proofs.Ytkncjnpgnpoloaa
open Go.RowKit Go.BigFrame

set_option maxHeartbeats 4000000 in
theorem lets_none {p : Option Addr} {w : World} (h : Hid (NoH p w)) (i : Int) :
    Calls Try.prog 16 #[.pointer p, .int .i64 i] w fun e w' => e = .returned (.bool false) ∧ Below w.heap.size w w' := by
  go_enter Try.func16, Try.ntmps16
  go_wp2_with (go_at_call 35; refine (at_none h _).mono ?_; rintro e w' ⟨rfl, rfl⟩)
  go_big_quiet (fail)
  go_wp2
  go_ret
  have hb := Below.refl w.heap.size w
  exact ⟨rfl, ⟨hb.os, hb.tape, hb.output, hb.size, hb.block⟩⟩

end Go.Proofs.Ytkncjnpgnpoloaa
