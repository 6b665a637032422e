/-
  Walks of the nil ways of the rack: a rack that nobody made answers ErrNil, and holds nothing.
-/
import Derived.Test.YtpjipdmlfpgokaaRows
import Derived.WalkKit
import Derived.WalkSpells
import Derived.WalkLawsBesides
import Derived.Lib.Hide
namespace Go.Proofs.Ytpjipdmlfpgokaa
open Go.RowKit

/-- A rack that nobody made: nil, or one whose size is 0. -/
def NoRack (p : Option Addr) (w : World) : Prop := p = none ∨ ∃ b, p = some ⟨b, 0, none⟩ ∧ w.cell? ⟨b, 2, none⟩ = some (.int .i64 0)

set_option maxHeartbeats 400000 in
theorem none_nil (w : World) :
    Calls Try.prog 25 #[.pointer none] w fun e w' => e = .returned (.bool true) ∧ w = w' := by
  go_enter Try.func25, Try.ntmps25
  go_wp2
  go_ret
  exact ⟨rfl, rfl⟩

set_option maxHeartbeats 400000 in
theorem none_zero (b : Nat) (w : World) (h : w.cell? ⟨b, 2, none⟩ = some (.int .i64 0)) :
    Calls Try.prog 25 #[.pointer (some ⟨b, 0, none⟩)] w fun e w' => e = .returned (.bool true) ∧ w = w' := by
  go_enter Try.func25, Try.ntmps25
  go_wp2
  go_ret
  exact ⟨rfl, rfl⟩

theorem none_any {p : Option Addr} {w : World} (h : NoRack p w) :
    Calls Try.prog 25 #[.pointer p] w fun e w' => e = .returned (.bool true) ∧ w = w' := by
  rcases h with rfl | ⟨b, rfl, h⟩
  · exact none_nil w
  · exact none_zero b w h

set_option maxHeartbeats 400000 in
theorem give_none {p : Option Addr} {w : World} (h : Hid (NoRack p w)) (v : Int) :
    Calls Try.prog 11 #[.pointer p, .int .i64 v] w fun e w' => e = .returned (.tuple #[.int .i64 0, .int .i64 1]) ∧ w = w' := by
  go_enter Try.func11, Try.ntmps11
  go_wp2_with (go_at_call 25; refine (none_any h.out).mono ?_; rintro e w' ⟨rfl, rfl⟩)
  go_ret2
  exact ⟨rfl, rfl⟩

set_option maxHeartbeats 400000 in
theorem get_none {p : Option Addr} {w : World} (h : Hid (NoRack p w)) (v : Int) :
    Calls Try.prog 14 #[.pointer p, .int .i64 v] w fun e w' => e = .returned (.tuple #[.int .i64 0, .int .i64 1]) ∧ w = w' := by
  go_enter Try.func14, Try.ntmps14
  go_wp2_with (go_at_call 25; refine (none_any h.out).mono ?_; rintro e w' ⟨rfl, rfl⟩)
  go_ret2
  exact ⟨rfl, rfl⟩

set_option maxHeartbeats 400000 in
theorem hold_none {p : Option Addr} {w : World} (h : Hid (NoRack p w)) (i v : Int) :
    Calls Try.prog 12 #[.pointer p, .int .i64 i, .int .i64 v] w fun e w' => e = .returned (.int .i64 1) ∧ w = w' := by
  go_enter Try.func12, Try.ntmps12
  go_wp2_with (go_at_call 25; refine (none_any h.out).mono ?_; rintro e w' ⟨rfl, rfl⟩)
  go_ret
  exact ⟨rfl, rfl⟩

set_option maxHeartbeats 400000 in
theorem set_none {p : Option Addr} {w : World} (h : Hid (NoRack p w)) (i v : Int) :
    Calls Try.prog 15 #[.pointer p, .int .i64 i, .int .i64 v] w fun e w' => e = .returned (.int .i64 1) ∧ w = w' := by
  go_enter Try.func15, Try.ntmps15
  go_wp2_with (go_at_call 14; refine (get_none h _).mono ?_; rintro e w' ⟨rfl, rfl⟩)
  go_ret
  exact ⟨rfl, rfl⟩

set_option maxHeartbeats 400000 in
theorem drop_none {p : Option Addr} {w : World} (h : Hid (NoRack p w)) (i : Int) :
    Calls Try.prog 13 #[.pointer p, .int .i64 i] w fun e w' => e = .returned (.int .i64 1) ∧ w = w' := by
  go_enter Try.func13, Try.ntmps13
  go_wp2_with (go_at_call 14; refine (get_none h _).mono ?_; rintro e w' ⟨rfl, rfl⟩)
  go_ret
  exact ⟨rfl, rfl⟩

set_option maxHeartbeats 400000 in
theorem len_none {p : Option Addr} {w : World} (h : Hid (NoRack p w)) :
    Calls Try.prog 16 #[.pointer p] w fun e w' => e = .returned (.int .i64 0) ∧ w = w' := by
  go_enter Try.func16, Try.ntmps16
  go_wp2_with (go_at_call 25; refine (none_any h.out).mono ?_; rintro e w' ⟨rfl, rfl⟩)
  go_ret
  exact ⟨rfl, rfl⟩

set_option maxHeartbeats 400000 in
theorem ids_none {p : Option Addr} {w : World} (h : Hid (NoRack p w)) :
    Calls Try.prog 10 #[.pointer p] w fun e w' => e = .returned (.slice none 0 0) ∧ w = w' := by
  go_enter Try.func10, Try.ntmps10
  go_wp2_with (go_at_call 25; refine (none_any h.out).mono ?_; rintro e w' ⟨rfl, rfl⟩)
  go_ret
  exact ⟨rfl, rfl⟩

/-- The cells of the slice of the two racks. -/
def Two (w : World) (B : Nat) : Prop := w.cell? ⟨B, 0, none⟩ = some (.pointer none) ∧ ∃ b, w.cell? ⟨B, 1, none⟩ = some (.pointer (some ⟨b, 0, none⟩)) ∧ w.cell? ⟨b, 2, none⟩ = some (.int .i64 0)

theorem Two.at {w : World} {B k : Nat} (h : Two w B) (hk : k < 2) : ∃ p, w.cell? ⟨B, k, none⟩ = some (.pointer p) ∧ NoRack p w := by
  obtain ⟨h0, b, h1, h2⟩ := h
  match k, hk with
  | 0, _ => exact ⟨none, h0, .inl rfl⟩
  | 1, _ => exact ⟨_, h1, .inr ⟨b, rfl, h2⟩⟩

set_option maxHeartbeats 1000000 in
theorem rackNil.walk (id value : Int) (w : World) (_ : (Lit.int .i64 id).wf = true) (_ : (Lit.int .i64 value).wf = true) :
    Calls Try.prog 4 #[.int .i64 id, .int .i64 value] w fun e w' => e = .returned (.bool true) ∧ Below w.heap.size w w' := by
  go_enter Try.func4, Try.ntmps4
  go_wp2
  have hB : Hid (Below w.heap.size w ((w.alloc (.cells #[.slice none 0 0, .slice none 0 0, .int .i64 0, .int .i64 0, .int .i64 0] 42)).alloc (.cells #[.pointer none, .pointer (some ⟨w.heap.size, 0, none⟩)] 25))) :=
    ((Below.refl _ w).alloc (Nat.le_refl _) _).alloc (by simp) _
  have hT : Hid (Two ((w.alloc (.cells #[.slice none 0 0, .slice none 0 0, .int .i64 0, .int .i64 0, .int .i64 0] 42)).alloc (.cells #[.pointer none, .pointer (some ⟨w.heap.size, 0, none⟩)] 25)) (w.heap.size + 1)) := by
    refine ⟨by go_simp, w.heap.size, by go_simp, by go_simp⟩
  generalize (w.alloc (.cells #[.slice none 0 0, .slice none 0 0, .int .i64 0, .int .i64 0, .int .i64 0] 42)).alloc (.cells #[.pointer none, .pointer (some ⟨w.heap.size, 0, none⟩)] 25) = W at *
  go_loop [7] (fun i => ∃ k : Nat, k ≤ 2 ∧ i = .int .i64 k) (fun i => 2 - (intOf i).toNat)
  case atStart => exact ⟨0, by omega, rfl⟩
  case round =>
    obtain ⟨k, hk, rfl⟩ := hrel
    by_cases hlt : k < 2
    · obtain ⟨p, hp, hn⟩ := hT.out.at hlt
      have hn := Lib.hid hn
      go_wp2_with (first | (go_at_call 11; refine (give_none hn _).mono ?_; rintro e w' ⟨rfl, rfl⟩) | (go_at_call 14; refine (get_none hn _).mono ?_; rintro e w' ⟨rfl, rfl⟩) | (go_at_call 12; refine (hold_none hn _ _).mono ?_; rintro e w' ⟨rfl, rfl⟩) | (go_at_call 15; refine (set_none hn _ _).mono ?_; rintro e w' ⟨rfl, rfl⟩) | (go_at_call 13; refine (drop_none hn _).mono ?_; rintro e w' ⟨rfl, rfl⟩) | (go_at_call 16; refine (len_none hn).mono ?_; rintro e w' ⟨rfl, rfl⟩) | (go_at_call 10; refine (ids_none hn).mono ?_; rintro e w' ⟨rfl, rfl⟩))
      go_round
      case rel => exact ⟨k + 1, by omega, by go_num⟩
      case measure => simp [intOf]; omega
    · go_wp2
      go_ret
      exact ⟨rfl, hB.out⟩

end Go.Proofs.Ytpjipdmlfpgokaa
