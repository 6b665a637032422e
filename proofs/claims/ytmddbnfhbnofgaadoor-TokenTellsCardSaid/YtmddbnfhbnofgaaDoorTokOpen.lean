/-
  A slice of texts, opened.
-/
import Derived.Test.YtmddbnfhbnofgaaDoorTokA
import Derived.SliceStrings
namespace Go.Proofs.YtmddbnfhbnofgaaDoor
open Go.RowKit Go.BigFrame Go.ChangeShapes

theorem strs_opened {H : Type} {enc : TypeId × Value → H} {w : World} {spare : Nat → Bool} {a : Option Addr} {len cap : Nat} {d : DataW H} {ps : List MemPlace}
    (h : DataW.Trod enc Tryd.prog w 0 spare true 22 (.slice a len cap) d ps) : ∃ xs, Strs w a len xs ∧ len ≤ cap ∧ len ≤ maxLen := by
  obtain ⟨fuel, h⟩ := h
  have e0 : (Value.slice a len cap).cells.toList = [.slice a len cap] := rfl
  rw [e0] at h
  have hc9 : Tryd.prog.cellsOf 9 = 1 := by kernel_rfl
  rcases open_strings Tryd.underlying22 Tryd.underlying9 hc9 h with ⟨hn, _⟩ | ⟨x, l, c, ss, hcs, _, hl, hm, hz, _, hcell, hsz⟩
  · simp at hn
    obtain ⟨rfl, rfl, rfl⟩ := hn
    exact ⟨[], strs_nil _ _, Nat.le_refl _, by unfold maxLen; omega⟩
  · simp only [List.cons.injEq, Value.slice.injEq, and_true] at hcs
    obtain ⟨rfl, rfl, rfl⟩ := hcs
    have hls : len ≤ ss.length := by rw [hz]; split <;> omega
    refine ⟨ss.take len, ⟨by simp; omega, fun s hs => ?_, ?_⟩, hl, Nat.le_trans hl hm⟩
    · have := hsz s (List.mem_of_mem_take hs)
      unfold maxLen at this; omega
    · rcases Nat.eq_zero_or_pos len with h0 | h0
      · exact .inl h0
      right
      have c0 := hcell 0 (by omega)
      have hs := World.cell?_spot c0
      obtain ⟨xb, xo, xs⟩ := x
      simp [Addr.add] at hs
      subst hs
      have key : ∀ i, ((⟨xb, xo, none⟩ : Addr).add i) = ⟨xb, xo + i, none⟩ := by
        intro i
        unfold Addr.add
        split <;> simp_all
      refine ⟨xb, xo, rfl, World.block_lt_of_cell? _ _ (by rw [key] at c0; exact c0), fun i y hy => ?_⟩
      rw [List.getElem?_take] at hy
      split at hy
      · have := hcell i (by omega)
        rw [key] at this
        rw [this]
        simp [List.getD, hy]
      · cases hy

/-- A byte that came in. -/
theorem byte_of {a : Int} (h : (Lit.int .u8 a).wf = true) : ∃ c : UInt8, a = c.toNat := by
  have h1 : 0 ≤ a ∧ a ≤ 255 := by simpa [Lit.wf, IntKind.min, IntKind.max, IntKind.signed, IntKind.bits] using h
  exact ⟨UInt8.ofNat a.toNat, by simp; omega⟩

end Go.Proofs.YtmddbnfhbnofgaaDoor
