/-
  The walk of LinesSplit.
-/
import Derived.Test.YtopflkfnfgcogaaDoorSame
import Derived.Test.YtopflkfnfgcogaaDoorLaid
namespace Go.Proofs.YtopflkfnfgcogaaDoor
open Go.RowKit Go

def TruePost (w : World) (e : Ending) (w' : World) : Prop := e = .returned (.bool true) ∧ Below w.heap.size w w'

theorem below_drewN {B : Nat} {a w : World} (h : Below B a w) (q : Nat) : Below B a (w.drewN q) := ⟨h.os, h.tape, h.output, h.size, h.block⟩

theorem sum_le_mem : ∀ {l : List Nat} {x : Nat}, x ∈ l → x ≤ l.sum
  | [], _, h => by simp at h
  | y :: r, x, h => by
    rw [List.mem_cons] at h
    rw [List.sum_cons]
    rcases h with rfl | h
    · omega
    · have := sum_le_mem h; omega

/-- A split text has no more lines, nor words of a line, than bytes, and one. -/
theorem split_small (t : List UInt8) : ((split t).1.map (·.map toB)).length ≤ t.length + 1 ∧ ∀ xs ∈ (split t).1.map (·.map toB), xs.length ≤ t.length + 1 := by
  unfold split
  split
  · simp
  · split
    · simp only [List.length_map]
      constructor
      · unfold splitL
        have h1 := List.length_filter_le some0 ((parts 10 t).map counts)
        have h2 := len_parts_le 10 t
        rw [List.length_map] at h1
        omega
      · intro xs hxs
        obtain ⟨l, hl, rfl⟩ := List.mem_map.1 hxs
        unfold splitL at hl
        rw [List.mem_filter, List.mem_map] at hl
        obtain ⟨⟨p, hp, rfl⟩, _⟩ := hl
        rw [List.length_map]
        have h1 : (counts p).length ≤ (fld [] p).length := (List.takeWhile_sublist _).length_le
        have h2 := len_fld p []
        have h3 := len_parts 10 t
        have h4 : p.length + 1 ≤ ((parts 10 t).map (fun p => p.length + 1)).sum := sum_le_mem (List.mem_map.2 ⟨p, hp, rfl⟩)
        simp at h2
        omega
    · simp

set_option maxHeartbeats 1000000 in
theorem linesSplit_core (s : ByteArray) (hs : s.size ≤ 9223372036854775807) (w : World) (hT : Tab w) : Calls Tryd.prog 3 #[.string s] w (TruePost w) := by
  have hz := zero_lt hT
  replace hT := Lib.hid hT
  by_cases hbig : 6000 < s.size
  · go_enter Tryd.func3, Tryd.ntmps3
    go_wp2
    go_ret
    exact ⟨rfl, Below.refl _ _⟩
  · obtain ⟨hl, hx⟩ := split_small s.data.toList
    rw [data_len] at hl hx
    go_enter Tryd.func3, Tryd.ntmps3
    go_wp2_with fail
    refine (split_any s w hT.out hz).mono ?_
    rintro e w1 ⟨v1, rfl, h1, hB1⟩
    replace h1 := Lib.hid h1
    replace hB1 := Lib.hid hB1
    replace hx := Lib.hid hx
    go_wp2_with fail
    refine (rsplit_any s w1).mono ?_
    rintro e w2 ⟨v2, rfl, h2, hB2⟩
    obtain ⟨a1, c1, rfl, r1⟩ := (h1.out.below hB2).read
    obtain ⟨a2, c2, rfl, r2⟩ := h2.read
    replace hB2 := Lib.hid (hB1.out.trans (hB2.mono hB1.out.size))
    replace r1 := Lib.hid r1
    replace r2 := Lib.hid r2
    clear h1 h2 hB1
    generalize (split s.data.toList).2 = pe at *
    generalize (split s.data.toList).1.map (·.map toB) = xss at *
    go_wp2_with fail
    refine (same_any r1.out r2.out (by omega) (fun xs hxs => by have := hx.out xs hxs; omega)).mono ?_
    rintro e w3 ⟨rfl, q, rfl⟩
    replace hB2 := Lib.hid (below_drewN hB2.out q)
    go_wp2_with fail
    go_ret
    exact ⟨by simp, hB2.out⟩

theorem linesSplit.walk (a0 : ByteArray) (w : World) (h0 : a0.size ≤ maxLen) (hL : laidMetH Tryd.prog Rows.linesSplitRow.laid w) : Calls Tryd.prog 3 #[.string a0] w (TruePost w) :=
  linesSplit_core a0 (by unfold maxLen at h0; omega) w (tab_of hL)
end Go.Proofs.YtopflkfnfgcogaaDoor
