/-
  Split: its contract.
-/
import Derived.Test.YtopflkfnfgcogaaDoorLL
import Derived.Laws.RangeString
import Derived.Laws.RangeAny
namespace Go.Proofs.YtopflkfnfgcogaaDoor
open Go.RowKit Go.Shelf Go
attribute [local go_sem] Oper.semAt_some

def SplitPost (s : ByteArray) (w : World) (e : Ending) (W : World) : Prop :=
  ∃ v, e = .returned (.tuple #[v, .int .i64 (split s.data.toList).2]) ∧ LL W w.heap.size v ((split s.data.toList).1.map (·.map toB)) ∧ Below w.heap.size w W

theorem split_nil {s : ByteArray} {w W : World} {e : Int} (h : split s.data.toList = ([], e)) (hB : Below w.heap.size w W) : SplitPost s w (.returned (.tuple #[.slice none 0 0, .int .i64 e])) W := by
  refine ⟨.slice none 0 0, ?_, ?_, hB⟩
  · rw [h]
  · rw [h]; exact LL.nil _ _

theorem below_iter (w : World) (s : ByteArray) (k : Nat) : Below w.heap.size w (w.iter s k) := (Below.refl _ w).alloc (Nat.le_refl _) _

theorem split_long {s : ByteArray} (hs : 4096 < s.size) (w : World) : Calls Tryd.prog 6 #[.string s] w (SplitPost s w) := by
  have hp : Hid (split s.data.toList = ([], 3)) := Lib.hid (by unfold split; rw [if_pos (by rw [data_len]; exact hs)])
  go_enter Tryd.func6, Tryd.ntmps6
  go_wp2
  go_ret2
  exact split_nil hp.out (Below.refl _ _)

theorem take_snoc' {α : Type} (t : List α) {k : Nat} {x : α} (h : t[k]? = some x) : t.take (k + 1) = t.take k ++ [x] := by
  rw [List.take_add_one, h]; rfl
theorem data_at (s : ByteArray) {k : Nat} (h : k < s.size) : s.data.toList[k]? = some (s[k]'h) := by
  rw [List.getElem?_eq_getElem (by rw [data_len]; exact h)]; rfl

theorem good_cases {c : UInt8} (h : good c = true) : c.toNat = 10 ∨ (32 ≤ c.toNat ∧ c.toNat ≤ 126) := by
  unfold good at h
  simp at h
  rcases h with h | h
  · subst h; exact .inl rfl
  · exact .inr h
theorem bad_cases {c : UInt8} (h : good c = false) : c.toNat ≠ 10 ∧ (c.toNat < 32 ∨ 126 < c.toNat) := by
  unfold good at h
  simp at h
  obtain ⟨h1, h2⟩ := h
  refine ⟨fun e => h1 ?_, by omega⟩
  have : c = UInt8.ofNat c.toNat := by simp
  rw [this, e]; rfl

set_option maxHeartbeats 2000000 in
theorem split_bad {s : ByteArray} (hs : ¬ 4096 < s.size) (hb : s.data.toList.all good = false) (w : World) : Calls Tryd.prog 6 #[.string s] w (SplitPost s w) := by
  have hp : Hid (split s.data.toList = ([], 180)) := Lib.hid (by unfold split; rw [if_neg (by rw [data_len]; exact hs), if_neg (by rw [hb]; simp)])
  replace hb := Lib.hid hb
  go_enter Tryd.func6, Tryd.ntmps6
  go_wp2
  go_loopw [5] (fun _ wr => ∃ k : Nat, k ≤ s.size ∧ wr = w.iter s k ∧ Hid ((s.data.toList.take k).all good = true)) (fun _ wr => s.size - wr.iterPos w.heap.size)
  case atStart => exact ⟨0, Nat.zero_le _, rfl, Lib.hid (by simp)⟩
  case round =>
    obtain ⟨k, hk, rfl, hg⟩ := hrel
    by_cases hlt : k < s.size
    · cases hc : good (s[k]'hlt) with
      | true =>
        have h1 := good_cases hc
        have ha : (s[k]'hlt).toNat < 128 := by omega
        have hnx : ∀ ty, (Instr.next (.pointer (some ⟨w.heap.size, 0, none⟩)) true ty).run Tryd.prog (w.iter s k) = _ := fun ty => run_next_ascii w s k ty hlt ha
        have hg2 : Hid ((s.data.toList.take (k + 1)).all good = true) := Lib.hid (by rw [take_snoc' _ (data_at s hlt), List.all_append, hg.out]; simp [hc])
        clear hc
        rcases h1 with h1 | ⟨h1, h2⟩
        · have hx : ((s[k]'hlt).toNat : Int) = 10 := by omega
          clear ha
          go_wp2
          go_roundw
          case rel => exact ⟨k + 1, by omega, rfl, hg2⟩
          case measure => simp; omega
        · have hx1 : (32 : Int) ≤ ((s[k]'hlt).toNat : Int) := by omega
          have hx2 : ((s[k]'hlt).toNat : Int) ≤ 126 := by omega
          have hx3 : (((s[k]'hlt).toNat : Int) != 10) = true := by simp; omega
          clear ha
          go_wp2
          go_roundw
          case rel => exact ⟨k + 1, by omega, rfl, hg2⟩
          case measure => simp; omega
      | false =>
        obtain ⟨h1, h2⟩ := bad_cases hc
        clear hc
        by_cases ha : (s[k]'hlt).toNat < 128
        · have hnx : ∀ ty, (Instr.next (.pointer (some ⟨w.heap.size, 0, none⟩)) true ty).run Tryd.prog (w.iter s k) = _ := fun ty => run_next_ascii w s k ty hlt ha
          have hx3 : (((s[k]'hlt).toNat : Int) != 10) = true := by simp; omega
          rcases h2 with h2 | h2
          · have hx1 : ((s[k]'hlt).toNat : Int) < 32 := by omega
            clear ha h1 h2
            go_wp2
            go_ret2
            exact split_nil hp.out (below_iter _ _ _)
          · have hx1 : (126 : Int) < ((s[k]'hlt).toNat : Int) := by omega
            have hx2 : (32 : Int) ≤ ((s[k]'hlt).toNat : Int) := by omega
            clear ha h1 h2
            go_wp2
            go_ret2
            exact split_nil hp.out (below_iter _ _ _)
        · obtain ⟨hd, _⟩ := decode_high s k hlt (by omega)
          have hnx : ∀ ty, (Instr.next (.pointer (some ⟨w.heap.size, 0, none⟩)) true ty).run Tryd.prog (w.iter s k) = _ := fun ty => run_next_any w s k ty hlt
          generalize (Utf8.decode s k).1 = r at *
          generalize (Utf8.decode s k).2 = m at *
          have hx1 : (126 : Int) < (r : Int) := by omega
          have hx2 : (32 : Int) ≤ (r : Int) := by omega
          have hx3 : ((r : Int) != 10) = true := by simp; omega
          clear ha h1 h2 hd
          go_wp2
          go_ret2
          exact split_nil hp.out (below_iter _ _ _)
    · obtain rfl : k = s.size := by omega
      exfalso
      have := hg.out
      rw [List.take_of_length_le (by rw [data_len]; exact Nat.le_refl _), hb.out] at this
      cases this
end Go.Proofs.YtopflkfnfgcogaaDoor
