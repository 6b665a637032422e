/-
  A slice of acts, opened: what its cells hold.
-/
import Derived.Test.YtpjipdmlfpgokaaActs
namespace Go.Proofs.Ytpjipdmlfpgokaa
open Go.RowKit Go.Deep Go.ChangeShapes Go.WideShapes

theorem acts_of_trod {H : Type} {enc : TypeId × Value → H} {w : World} {spare : Nat → Bool} {a : Option Addr} {len cap : Nat} {d : DataW H} {ps : List MemPlace}
    (h : DataW.Trod enc Try.prog w 0 spare true 22 (.slice a len cap) d ps) : ∃ l, Acts w a len l ∧ len ≤ maxLen := by
  obtain ⟨fuel, h⟩ := h
  have e0 : (Value.slice a len cap).cells.toList = [.slice a len cap] := rfl
  rw [e0] at h
  have hc31 : Try.prog.cellsOf 31 = 3 := by kernel_rfl
  have hc5 : Try.prog.cellsOf 5 = 1 := by kernel_rfl
  have hc3 : Try.prog.cellsOf 3 = 1 := by kernel_rfl
  rcases open_slice Try.underlying22 h with ⟨hn, _⟩ | ⟨x, l, c, m, n, D, Pl, hcs, _, hl, hm, hmm, _, hx⟩
  · simp at hn
    obtain ⟨rfl, rfl, rfl⟩ := hn
    exact ⟨[], ⟨rfl, by simp, .inl rfl⟩, by unfold maxLen; omega⟩
  · simp only [List.cons.injEq, Value.slice.injEq, and_true] at hcs
    obtain ⟨rfl, rfl, rfl⟩ := hcs
    have hlm : len ≤ m := by rw [hmm]; split <;> omega
    have hcap : len ≤ maxLen := Nat.le_trans hl hm
    have each : ∀ i, i < len → ∃ y : Int × Int × Int, (0 ≤ y.1 ∧ y.1 ≤ 255) ∧ w.cell? ((x.add (i * 3)).add 0) = some (.int .u8 y.1) ∧ w.cell? ((x.add (i * 3)).add 1) = some (.int .i64 y.2.1) ∧ w.cell? ((x.add (i * 3)).add 2) = some (.int .i64 y.2.2) := by
      intro i hi
      obtain ⟨cs', h1, h2⟩ := hx i (by omega)
      rw [hc31] at h1
      obtain ⟨_, hlen, hcell⟩ := World.cells?_some h1
      obtain ⟨y0, y1, y2, n', _, _, t0, t1, t2⟩ := trod_struct3 Try.underlying31 h2
      simp only [hc5, hc3] at t0 t1 t2
      match cs', hlen with
      | [v0, v1, v2], _ =>
        obtain ⟨n0, e0, _, wf0⟩ := DataW.trod_int Try.underlying5 t0
        obtain ⟨n1, e1, _, _⟩ := DataW.trod_int Try.underlying3 t1
        obtain ⟨n2, e2, _, _⟩ := DataW.trod_int Try.underlying3 t2
        simp at e0 e1 e2
        subst e0 e1 e2
        have hb : 0 ≤ n0 ∧ n0 ≤ 255 := by simpa [Lit.wf, IntKind.min, IntKind.max, IntKind.signed, IntKind.bits] using wf0
        exact ⟨(n0, n1, n2), hb, hcell 0 (by omega), hcell 1 (by omega), hcell 2 (by omega)⟩
    obtain ⟨f, hf⟩ := choose_lt each
    refine ⟨(List.range len).map f, ⟨by simp, ?_, ?_⟩, hcap⟩
    · intro y hy
      obtain ⟨i, hi, rfl⟩ := List.mem_map.1 hy
      exact (hf i (List.mem_range.1 hi)).1
    · rcases Nat.eq_zero_or_pos len with h0 | h0
      · exact .inl h0
      right
      obtain ⟨_, c0, _, _⟩ := hf 0 h0
      have hs := World.cell?_spot c0
      obtain ⟨xb, xo, xs⟩ := x
      simp [Addr.add] at hs
      subst hs
      have key : ∀ i j, ((⟨xb, xo, none⟩ : Addr).add i).add j = ⟨xb, xo + i + j, none⟩ := by
        intro i j
        unfold Addr.add
        split <;> split <;> simp_all
      refine ⟨xb, xo, rfl, World.block_lt_of_cell? _ _ (by rw [key] at c0; exact c0), fun i y hy => ?_⟩
      obtain ⟨hlt, rfl⟩ := List.getElem?_eq_some_iff.1 hy
      simp at hlt
      obtain ⟨_, c0, c1, c2⟩ := hf i hlt
      rw [key] at c0 c1 c2
      simp only [List.getElem_map, List.getElem_range]
      exact ⟨c0, c1, c2⟩

end Go.Proofs.Ytpjipdmlfpgokaa
