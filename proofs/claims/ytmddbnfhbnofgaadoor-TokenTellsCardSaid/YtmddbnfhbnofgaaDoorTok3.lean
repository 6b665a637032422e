/-
  Next, Same: contracts.
-/
import Derived.Test.YtmddbnfhbnofgaaDoorTok2
import Derived.Maps.AppendAt
import Derived.RowKit3
namespace Go.Proofs.YtmddbnfhbnofgaaDoor
open Go.RowKit Go.BigFrame

theorem info9 : (Tryd.prog.info? 9).map (fun i => (i.zero, i.size, i.bytes)) = some (some (.string ⟨#[]⟩), 1, 16) := by kernel_rfl

/-- A row of texts of the call's own reads as texts. -/
theorem strs_of_row {w : World} {base n c : Nat} {a : Option Addr} {xs : List ByteArray} (h : w.ownsRow base 9 1 (.slice a n c) n (xs.map Value.string)) (hx : ∀ x ∈ xs, x.size ≤ 9223372036854775807) : Strs w a n xs := by
  obtain ⟨hl, h2⟩ := h
  have hlen : xs.length = n := by simpa using hl
  refine ⟨hlen, hx, ?_⟩
  rcases h2 with ⟨_, h0⟩ | ⟨g, cap, cur, hv, _, hg, _, _, hsz, ht⟩
  · exact .inl h0
  · simp only [Value.slice.injEq] at hv
    refine .inr ⟨g, 0, hv.1, ?_, fun i x hi => ?_⟩
    · exact (Array.getElem?_eq_some_iff.1 hg).1
    · have hlt : i < n := by rw [← hlen]; exact (List.getElem?_eq_some_iff.1 hi).1
      have e1 : (cur.toList.take (n * 1))[i]? = some (Value.string x) := by rw [ht]; simp [hi]
      rw [List.getElem?_take, if_pos (by omega)] at e1
      simp only [World.cell?, hg]
      simpa using e1

theorem row_shape {w : World} {base n : Nat} {v : Value} {xs : List Value} (h : w.ownsRow base 9 1 v n xs) : ∃ a c, v = .slice a n c := by
  rcases h.2 with ⟨h1, h2⟩ | ⟨g, cap, cur, hv, _⟩
  · exact ⟨none, 0, by rw [h1, h2]⟩
  · exact ⟨_, _, hv⟩

theorem row_cap {w : World} {base n c : Nat} {a : Option Addr} {xs : List Value} (h : w.ownsRow base 9 1 (.slice a (n + 1) c) (n + 1) xs) : n + 1 ≤ c := by
  rcases h.2 with ⟨_, h2⟩ | ⟨g, cap, cur, hv, _, _, hc, _⟩
  · omega
  · cases hv; exact hc

theorem row_base {w : World} {base n c : Nat} {a : Option Addr} {xs : List Value} (h : w.ownsRow base 9 1 (.slice a n c) n xs) : ∀ k, (Value.slice a n c).ownBlock = some k → base ≤ k := by
  intro k hk
  rcases h.2 with ⟨h1, _⟩ | ⟨g, cap, cur, hv, hb, _⟩
  · cases h1; simp [Value.ownBlock] at hk
  · cases hv; simp [Value.ownBlock] at hk; omega

theorem clone_any {w : World} {a : Option Addr} {len cap : Nat} {xs : List ByteArray} (h : Strs w a len xs) (hm : len * 16 ≤ 140737488355328) :
    Calls Tryd.prog 24 #[.slice a len cap] w fun e w' => ∃ v', e = .returned v' ∧ w'.ownsRow w.heap.size 9 1 v' len (xs.map Value.string) ∧ Below w.heap.size w w' := by
  obtain ⟨h1, h2, h3⟩ := h
  rcases Nat.eq_zero_or_pos len with h0 | h0
  · subst h0
    obtain rfl : xs = [] := List.eq_nil_of_length_eq_zero h1
    cases a with
    | none =>
      refine (Tryd.slices_Clone_string_nil 0 cap w).mono ?_
      rintro e w' ⟨rfl, rfl⟩
      exact ⟨_, rfl, ⟨rfl, .inl ⟨rfl, rfl⟩⟩, Below.refl _ _⟩
    | some a =>
      refine (Tryd.slices_Clone_string_zero a cap w).mono ?_
      rintro e w' ⟨v, rfl, h3, _, h4⟩
      exact ⟨v, rfl, h3, h4⟩
  · rcases h3 with h3 | ⟨b, off, rfl, hlt, hc⟩
    · omega
    · refine (Tryd.slices_Clone_string b off len cap xs w (by omega) hm (fun j hj => ?_)).mono ?_
      · rw [hc j xs[j] (List.getElem?_eq_getElem hj)]
        simp [List.getD, List.getElem?_eq_getElem hj]
      · rintro e w' ⟨v, rfl, h3, _, h4⟩
        rw [List.take_of_length_le (by omega)] at h3
        exact ⟨v, rfl, h3, h4⟩

set_option maxHeartbeats 1000000 in
theorem next_row {w : World} {a : Option Addr} {len cap : Nat} {xs : List ByteArray} (h : Strs w a len xs) (hm : len ≤ 1000) (own : ByteArray) (ho : own.size ≤ 9223372036854775807) :
    Calls Tryd.prog 10 #[.string own, .slice a len cap] w fun e w' => ∃ v', e = .returned v' ∧ w'.ownsRow w.heap.size 9 1 v' (len + 1) ((xs ++ [own]).map Value.string) ∧ Below w.heap.size w w' := by
  have hx := h.2.1
  replace h := Lib.hid h
  replace hx := Lib.hid hx
  obtain ⟨i0, hi, hz0, hz1, hz2⟩ := info_parts info9
  go_enter Tryd.func10, Tryd.ntmps10
  go_wp2_with fail
  refine (clone_any h.out (by omega)).mono ?_
  rintro e w1 ⟨v, rfl, hrow, hb⟩
  obtain ⟨a1, c1, rfl⟩ := row_shape hrow
  have hbase := Lib.hid (row_base hrow)
  replace hrow := Lib.hid hrow
  replace hb := Lib.hid hb
  go_wp2_with (at_builtin; refine wpList_append_own_at _ rfl _ _ 22 rfl w.heap.size 9 i0 (.string ⟨#[]⟩) 1 16 Tryd.underlying22 hi hz0 hz1 hz2 rfl (by decide) _ _ _ rfl (World.ownsRow.alloc hrow.out _) ⟨w1.heap.size, 0, none⟩ 1 1 [.string own] rfl rfl (cell_one_new _ _ _) (by simp [Value.oneCell']) (by unfold maxLen; omega) (by omega) (by have := hb.out.size; simp; omega) ?_; intro v' w2 hown hgrow hnil hfr; obtain ⟨a2, c2, rfl⟩ := row_shape hown; replace hown := Lib.hid hown; replace hgrow := Lib.hid hgrow; clear hnil hfr)
  go_ret
  refine ⟨_, rfl, by have := hown.out; simpa using this, ?_⟩
  exact (hb.out.alloc hb.out.size _).grown hgrow.out (by have := hb.out.size; simp; omega) hbase.out

theorem next_any {w : World} {a : Option Addr} {len cap : Nat} {xs : List ByteArray} (h : Strs w a len xs) (hm : len ≤ 1000) (own : ByteArray) (ho : own.size ≤ 9223372036854775807) :
    Calls Tryd.prog 10 #[.string own, .slice a len cap] w fun e w' => ∃ a' c', e = .returned (.slice a' (len + 1) c') ∧ Strs w' a' (len + 1) (xs ++ [own]) ∧ len + 1 ≤ c' ∧ Below w.heap.size w w' := by
  have hx := h.2.1
  refine (next_row h hm own ho).mono ?_
  rintro e w' ⟨v, rfl, hr, hb⟩
  obtain ⟨a2, c2, rfl⟩ := row_shape hr
  refine ⟨a2, c2, rfl, strs_of_row hr (fun y hy => ?_), row_cap hr, hb⟩
  simp at hy
  rcases hy with hy | rfl
  · exact hx y hy
  · exact ho

end Go.Proofs.YtmddbnfhbnofgaaDoor
