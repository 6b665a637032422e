/-
  Walks of the nil ways of health: health that nobody made answers ErrNil, and tells nothing.
-/
import Derived.Test.YtkncjnpgnpoloaaRows
import Derived.WalkKit
import Derived.WalkSpells
import Derived.WalkLawsBesides
import Derived.Lib.Hide
import Derived.Below
import Derived.Deep.QuietTactic
import Derived.Deep.RegionWith
import Derived.Laws.Rows
namespace Go.Proofs.Ytkncjnpgnpoloaa
open Go.RowKit

/-- Two results: a slot, a struct in a cell. -/
theorem results_slot_cell {P : Program} {fn : Func} {p u : Tmp} {ty : TypeId} (h : fn.results = #[.tmp u, .cell p ty]) (tmps : Array Value) (w : World) (g : Nat) (t : TypeId) (cs : Array Value) (fr : Nat × Nat) (d : TypeDesc)
    (hp : tmps.getD p undef = .pointer (some ⟨g, 0, none⟩)) (hg : w.heap[g]? = some (.cells cs t fr))
    (hu : P.underlying ty = some d) (hd : (match d with | .struct _ | .array _ _ => true | _ => false) = true) (hi : (P.info? ty).map (·.size) = some cs.size) :
    (results fn tmps).run P w = .ok (.tuple #[tmps.getD u undef, .agg cs]) w := by
  have hp' : tmps[p]?.getD undef = .pointer (some ⟨g, 0, none⟩) := by simpa using hp
  simp [results, h, hp', asAddr, run_loadVar_row w g t ty cs fr d hg hu hd hi]

/-- Health that nobody made: nil, or one whose next key is 0. -/
def NoH (p : Option Addr) (w : World) : Prop := p = none ∨ ∃ b, p = some ⟨b, 0, none⟩ ∧ w.cell? ⟨b, 12, none⟩ = some (.int .i64 0)

theorem NoH.below {p : Option Addr} {w w' : World} (h : NoH p w) (hb : Below w.heap.size w w') : NoH p w' := by
  rcases h with h | ⟨b, h1, h2⟩
  · exact .inl h
  · exact .inr ⟨b, h1, (hb.cell (p := ⟨b, 12, none⟩) (World.block_lt_of_cell? _ _ h2)).trans h2⟩

set_option maxHeartbeats 400000 in
theorem none_nil (w : World) : Calls Try.prog 34 #[.pointer none] w fun e w' => e = .returned (.bool true) ∧ w = w' := by
  go_enter Try.func34, Try.ntmps34
  go_wp2
  go_ret
  exact ⟨rfl, rfl⟩

set_option maxHeartbeats 400000 in
theorem none_zero (b : Nat) (w : World) (h : w.cell? ⟨b, 12, none⟩ = some (.int .i64 0)) :
    Calls Try.prog 34 #[.pointer (some ⟨b, 0, none⟩)] w fun e w' => e = .returned (.bool true) ∧ w = w' := by
  go_enter Try.func34, Try.ntmps34
  go_wp2
  go_ret
  exact ⟨rfl, rfl⟩

theorem none_any {p : Option Addr} {w : World} (h : NoH p w) :
    Calls Try.prog 34 #[.pointer p] w fun e w' => e = .returned (.bool true) ∧ w = w' := by
  rcases h with rfl | ⟨b, rfl, h⟩
  · exact none_nil w
  · exact none_zero b w h

set_option maxHeartbeats 400000 in
theorem at_none {p : Option Addr} {w : World} (h : Hid (NoH p w)) (i : Int) :
    Calls Try.prog 35 #[.pointer p, .int .i64 i] w fun e w' => e = .returned (.pointer none) ∧ w = w' := by
  go_enter Try.func35, Try.ntmps35
  go_wp2_with (go_at_call 34; refine (none_any h.out).mono ?_; rintro e w' ⟨rfl, rfl⟩)
  go_ret
  exact ⟨rfl, rfl⟩

end Go.Proofs.Ytkncjnpgnpoloaa
