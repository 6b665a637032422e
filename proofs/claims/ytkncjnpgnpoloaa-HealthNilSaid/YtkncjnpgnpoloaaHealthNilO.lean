/-
  A configuration, opened: what its cells hold.
-/
import Derived.Test.YtkncjnpgnpoloaaHealthNilW
import Derived.Deep.Slices
import Derived.Deep.Strs
import Derived.ProofKit
namespace Go.Proofs.Ytkncjnpgnpoloaa
open Go.RowKit Go.Deep Go.ChangeShapes Go.WideShapes

section
variable {H : Type} {enc : TypeId × Value → H} {P : Program} {w : World} {base : Nat} {spare : Nat → Bool} {held : Bool}
/-- A field of a struct reads. -/
theorem field_of_trod {t : TypeId} {fs : Array Field} {fuel : Nat} {cs : List Value} {x : DataW H × List MemPlace} (ht : P.underlying t = some (.struct fs)) (h : DataW.trod enc P w base spare held fuel t cs = some x)
    (i ty off k : Nat) (hf : (fs[i]?).map (fun f => (f.type, f.offset)) = some (ty, off)) (hk : P.cellsOf ty = k) : cs.length = P.cellsOf t ∧ ∃ n y, DataW.trod enc P w base spare held n ty ((cs.drop off).take k) = some y := by
  subst hk
  obtain ⟨f, hf', he⟩ := Option.map_eq_some_iff.1 hf
  simp only [Prod.mk.injEq] at he
  obtain ⟨rfl, rfl⟩ := he
  obtain ⟨xs, n, _, _, hl, hlen, hx⟩ := DataW.trod_struct ht h
  refine ⟨hl, n, ?_⟩
  have hi : i < fs.size := (Array.getElem?_eq_some_iff.1 hf').1
  rw [hx i f hf']
  exact ⟨_, List.getElem?_eq_getElem (by omega)⟩
end

theorem parents_of_trod {H : Type} {enc : TypeId × Value → H} {w : World} {spare : Nat → Bool} {fuel : Nat} {c : Value} {x : DataW H × List MemPlace}
    (h : DataW.trod enc Try.prog w 0 spare true fuel 25 [c] = some x) : ∃ a len cap, c = .slice a len cap ∧ Ps w a len ∧ len ≤ maxLen := by
  have hc66 : Try.prog.cellsOf 66 = 8 := by kernel_rfl
  have hc64 : Try.prog.cellsOf 64 = 3 := by kernel_rfl
  have hc62 : Try.prog.cellsOf 62 = 2 := by kernel_rfl
  have hc9 : Try.prog.cellsOf 9 = 1 := by kernel_rfl
  rcases open_slice Try.underlying25 h with ⟨hn, _⟩ | ⟨x, l, c, m, n, D, Pl, hcs, _, hl, hm, hmm, _, hx⟩
  · simp at hn
    subst hn
    exact ⟨none, 0, 0, rfl, .inl rfl, by unfold maxLen; omega⟩
  · simp only [List.cons.injEq, and_true] at hcs
    subst hcs
    have hlm : l ≤ m := by rw [hmm]; split <;> omega
    refine ⟨_, l, c, rfl, ?_, Nat.le_trans hl hm⟩
    have each : ∀ i, i < l → ∃ s1 s2, w.cell? ((x.add (i * 8)).add 0) = some (.string s1) ∧ w.cell? ((x.add (i * 8)).add 2) = some (.string s2) := by
      intro i hi
      obtain ⟨cs', h1, h2⟩ := hx i (by omega)
      rw [hc66] at h1
      obtain ⟨_, hlen, hcell⟩ := World.cells?_some h1
      obtain ⟨_, n0, y0, t0⟩ := field_of_trod Try.underlying66 h2 0 9 0 1 rfl hc9
      obtain ⟨_, n1, y1, t1⟩ := field_of_trod Try.underlying66 h2 1 64 1 3 rfl hc64
      obtain ⟨_, n2, y2, t2⟩ := field_of_trod Try.underlying64 t1 0 62 0 2 rfl hc62
      obtain ⟨_, n3, y3, t3⟩ := field_of_trod Try.underlying62 t2 1 9 1 1 rfl hc9
      match cs', hlen with
      | [v0, v1, v2, v3, v4, v5, v6, v7], _ =>
        obtain ⟨s0, e0, _, _⟩ := DataW.trod_string Try.underlying9 t0
        obtain ⟨s3, e3, _, _⟩ := DataW.trod_string Try.underlying9 t3
        simp at e0 e3
        subst e0 e3
        exact ⟨s0, s3, hcell 0 (by omega), hcell 2 (by omega)⟩
    rcases Nat.eq_zero_or_pos l with h0 | h0
    · exact .inl h0
    right
    obtain ⟨_, _, c0, _⟩ := each 0 h0
    have hs := World.cell?_spot c0
    obtain ⟨xb, xo, xs⟩ := x
    simp [Addr.add] at hs
    subst hs
    have key : ∀ i j, ((⟨xb, xo, none⟩ : Addr).add i).add j = ⟨xb, xo + i + j, none⟩ := by
      intro i j
      unfold Addr.add
      split <;> split <;> simp_all
    refine ⟨xb, xo, rfl, World.block_lt_of_cell? _ _ (by rw [key] at c0; exact c0), fun i hi => ?_⟩
    obtain ⟨s1, s2, d1, d2⟩ := each i hi
    rw [key] at d1 d2
    exact ⟨s1, s2, d1, d2⟩

theorem config_of_trod {H : Type} {enc : TypeId × Value → H} {w : World} {spare : Nat → Bool} {cs : Array Value} {d : DataW H} {ps : List MemPlace}
    (h : DataW.Trod enc Try.prog w 0 spare true 29 (.agg cs) d ps) : ∃ c0 c1 c2 c3 c4 c5 c6 c7 c8 c9 c10 c11 c12 c14 c15 a len cap, cs = #[c0, c1, c2, c3, c4, c5, c6, c7, c8, c9, c10, c11, c12, .slice a len cap, c14, c15] ∧ Ps w a len ∧ len ≤ maxLen := by
  obtain ⟨fuel, h⟩ := h
  have e0 : (Value.agg cs).cells.toList = cs.toList := rfl
  rw [e0] at h
  have hc29 : Try.prog.cellsOf 29 = 16 := by kernel_rfl
  have hc25 : Try.prog.cellsOf 25 = 1 := by kernel_rfl
  obtain ⟨hl, n, y, t⟩ := field_of_trod Try.underlying29 h 3 25 13 1 rfl hc25
  rw [hc29] at hl
  obtain ⟨l⟩ := cs
  simp only at hl t
  match l, hl with
  | [c0, c1, c2, c3, c4, c5, c6, c7, c8, c9, c10, c11, c12, c13, c14, c15], _ =>
    obtain ⟨a, len, cap, e, h1, h2⟩ := parents_of_trod t
    subst e
    exact ⟨c0, c1, c2, c3, c4, c5, c6, c7, c8, c9, c10, c11, c12, c14, c15, a, len, cap, rfl, h1, h2⟩

theorem healthNil.walk {H : Type} {enc : TypeId × Value → H} {spare : Nat → Bool} {d : DataW H} {ps : List MemPlace} (a0 : Int) (a1 : Bool) (a2 : Array Value) (w : World) (_ : (Lit.int .i64 a0).wf = true)
    (k : DataW.Trod enc Try.prog w 0 spare true 29 (.agg a2) d ps) :
    Calls Try.prog 3 #[.int .i64 a0, .bool a1, .agg a2] w fun e w' => e = .returned (.bool true) ∧ Below w.heap.size w w' := by
  obtain ⟨c0, c1, c2, c3, c4, c5, c6, c7, c8, c9, c10, c11, c12, c14, c15, a, len, cap, rfl, h1, h2⟩ := config_of_trod k
  exact nil_core c0 c1 c2 c3 c4 c5 c6 c7 c8 c9 c10 c11 c12 c14 c15 h1 (by unfold maxLen at h2; omega)

end Go.Proofs.Ytkncjnpgnpoloaa
