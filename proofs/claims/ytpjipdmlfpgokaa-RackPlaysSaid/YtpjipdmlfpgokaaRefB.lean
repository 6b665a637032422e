/-
  The document's rack: what changes it.
-/
import Derived.Test.YtpjipdmlfpgokaaRef
import Derived.RangeFuncBox
namespace Go.Proofs.Ytpjipdmlfpgokaa
open Go.RowKit RP

theorem info68 : (Try.prog.info? 68).map (fun i => (i.zero, i.size, i.bytes)) = some (some (.agg #[.int .i64 0, .int .i64 0]), 2, 16) := by kernel_rfl

set_option maxHeartbeats 400000 in
theorem ref_set_none {w : World} {base mb : Nat} {F : List Nat} {rows : KV} {size next step : Int} (h : MAt w base mb F rows size next step) (hn : rows.length ≤ 64) {id : Int} (v : Int) (hl : lk rows id = none) :
    Calls Try.prog 20 #[.pointer (some ⟨mb, 0, none⟩), .int .i64 id, .int .i64 v] w fun e w' => e = .returned (.int .i64 30) ∧ w = w' := by
  have A := Lib.hid (ref_at_none h hn hl)
  clear h hl
  go_enter Try.func20, Try.ntmps20
  go_wp2_with (go_at_call 31; refine A.out.mono ?_; rintro e w' ⟨rfl, rfl⟩)
  go_ret
  exact ⟨rfl, rfl⟩

theorem flat_set (rows : KV) (i : Nat) (id v v' : Int) (h : rows[i]? = some (id, v)) : flat (rows.set i (id, v')) = (flat rows).set (i * 2 + 1) (.int .i64 v') := by
  induction rows generalizing i with
  | nil => simp at h
  | cons q r ih =>
    cases i with
    | zero => simp at h; subst h; rfl
    | succ i =>
      simp at h
      have := ih i h
      simp only [flat, List.flatMap_cons, List.set_cons_succ] at *
      rw [this, show (i + 1) * 2 + 1 = i * 2 + 1 + 2 from by omega]
      rfl

theorem mset_after {w : World} {base mb : Nat} {F : List Nat} {rows : KV} {size next step : Int} (h : MAt w base mb F rows size next step) {i : Nat} {id v : Int} (v' : Int) (hi : rows[i]? = some (id, v)) {g c : Nat}
    (hg : Pairs w base (.slice (some ⟨g, 0, none⟩) rows.length c) rows) (hF : F = mb :: (Value.slice (some ⟨g, 0, none⟩) rows.length c).ownBlock.toList) :
    MNow w base mb F (rows.set i (id, v')) size next step (w.setCell ⟨g, i * 2 + 1, none⟩ (.int .i64 v')) := by
  obtain ⟨rv, h1, h2, hF', h5, h7⟩ := h
  have hF2 : F = [mb, g] := hF
  have hne : mb ≠ g := by rw [hF2] at h5; simpa using h5
  have hm : Moved F w (w.setCell ⟨g, i * 2 + 1, none⟩ (.int .i64 v')) := (Moved.refl F w).setCell (p := ⟨g, _, none⟩) (.inl (by rw [hF2]; simp)) _
  rcases hg.2 with ⟨hh, _⟩ | ⟨g', cap, cur, hv, hb, hgg, hl, hc, hs, ht⟩
  · cases hh
  · have e1 : g' = g ∧ cap = c := by simp only [Value.slice.injEq, Option.some.injEq, Addr.mk.injEq] at hv; exact ⟨hv.1.1.symm, hv.2.2.symm⟩
    obtain ⟨rfl, rfl⟩ := e1
    have hown : rv.ownBlock = some g' := by
      have := hF'.symm.trans hF2
      simp at this
      cases hr : rv.ownBlock with
      | none => rw [hr] at this; simp at this
      | some y => rw [hr] at this; simp at this; rw [this]
    refine ⟨F, ⟨rv, ?_, ?_, hF', h5, h7⟩, hm, fun x hx => .inl hx⟩
    · rw [Below.heap_setCell _ _ _ _ (by simpa using hne)]; exact h1
    · rcases h2.2 with ⟨hh, _⟩ | ⟨g2, cap2, cur2, hv2, hb2, hgg2, hl2, hc2, hs2, ht2⟩
      · rw [hh] at hown; simp [Value.ownBlock] at hown
      · subst hv2
        have : g2 = g' := by simpa [Value.ownBlock] using hown
        subst this
        have hcur := hgg.symm.trans hgg2
        simp only [Option.some.injEq, Obj.cells.injEq, and_true] at hcur
        subst hcur
        refine ⟨by rw [flat_length], .inr ⟨g2, cap2, _, by simp, hb2, block_setCell (i := i * 2 + 1) (v := .int .i64 v') hgg2, by simpa using hl2, hc2, by simpa using hs2, ?_⟩⟩
        rw [Array.toList_setIfInBounds, take_set, List.length_set, ht2, flat_set rows i id v v' hi]

set_option maxHeartbeats 400000 in
theorem ref_set_some {w : World} {base mb : Nat} {F : List Nat} {rows : KV} {size next step : Int} (h : MAt w base mb F rows size next step) (hn : rows.length ≤ 64) {id v : Int} (v' : Int) (hl : lk rows id = some v) :
    Calls Try.prog 20 #[.pointer (some ⟨mb, 0, none⟩), .int .i64 id, .int .i64 v'] w fun e w' => ∃ i : Nat, rows[i]? = some (id, v) ∧ (∀ x ∈ rows.take i, x.1 ≠ id) ∧ e = .returned (.int .i64 0) ∧ MNow w base mb F (rows.set i (id, v')) size next step w' := by
  have A := Lib.hid (ref_at_some h hn hl)
  obtain ⟨a, c, c0, c1, c2, c3, hp, fz, hF⟩ := h.cells
  have hp := Lib.hid hp
  have H := Lib.hid h
  have hF := Lib.hid hF
  clear h hl
  go_enter Try.func20, Try.ntmps20
  go_wp2_with fail
  refine A.out.mono ?_
  rintro e w' ⟨i, hi, htk, rfl, rfl⟩
  obtain ⟨g, rfl, d0, d1, df⟩ := hp.out.at hi
  have hlt := (List.getElem?_eq_some_iff.1 hi).1
  have fin := Lib.hid (mset_after H.out v' hi hp.out hF.out)
  have hi := Lib.hid hi
  have htk := Lib.hid htk
  simp only at d0 d1
  go_wp2_with fail
  go_ret
  exact ⟨i, hi.out, htk.out, rfl, fin.out⟩

/-- The append of a pair to the rows, and the store. -/
theorem mpush_after {w w2 : World} {base mb : Nat} {F : List Nat} {rows : KV} {size next step : Int} (h : MAt w base mb F rows size next step) (id v : Int) {a : Option Addr} {c g' cap' : Nat} {o : Obj}
    (hp : Pairs w base (.slice a rows.length c) rows) (hF : F = mb :: (Value.slice a rows.length c).ownBlock.toList)
    (hown : w2.ownsRow base 68 2 (.slice (some ⟨g', 0, none⟩) (rows.length + 1) cap') (rows.length + 1) (flat rows ++ [.int .i64 id, .int .i64 v]))
    (hgrow : (w.alloc o).grownBy w2 (Value.slice a rows.length c).ownBlock) (hfresh : (Value.slice a rows.length c).ownBlock = some g' ∨ w.heap.size ≤ g') :
    (∃ c', w2.heap[mb]? = some c' ∧ w.heap[mb]? = some c') ∧ MNow w base mb F (rows ++ [(id, v)]) size next step (w2.setCell ⟨mb, 3, none⟩ (.slice (some ⟨g', 0, none⟩) (rows.length + 1) cap')) := by
  have hlt := h.lt
  obtain ⟨rv, h1, h2, hF', h5, h7⟩ := h
  have h5' := h5
  rw [hF, List.nodup_cons] at h5'
  have hmb := block_lt h1
  have B2 : w2.heap[mb]? = some (.cells #[.int .i64 size, .int .i64 next, .int .i64 step, rv] 55 (0, 0)) := by
    rw [hgrow.block mb (by simp; omega) (fun e => h5'.1 (by simp [← e])), Below.heap_alloc _ _ _ hmb]; exact h1
  have B3 := block_setCell (i := 3) (v := .slice (some ⟨g', 0, none⟩) (rows.length + 1) cap') B2
  have hne : mb ≠ g' := by
    rintro rfl
    rcases hfresh with hf | hf
    · exact h5'.1 (by simp [hf])
    · omega
  refine ⟨⟨_, B2, h1⟩, [mb, g'], ⟨_, B3, ?_, rfl, by simpa using hne, h7⟩, ?_, ?_⟩
  · have e1 : (rows ++ [(id, v)]).length = rows.length + 1 := by simp
    unfold Pairs
    rw [e1, flat_snoc]
    refine owns_same hown (fun k hk => Below.heap_setCell _ _ _ _ (fun e => ?_))
    simp [Value.ownBlock] at hk e
    omega
  · rw [hF]
    exact (((Moved.refl _ w).alloc o).grown hgrow (fun k hk => .inl (by simp [hk]))).setCell (p := ⟨mb, 3, none⟩) (.inl (by simp)) _
  · intro x hx
    simp at hx
    rcases hx with rfl | rfl
    · exact .inl (by rw [hF]; simp)
    · rcases hfresh with hf | hf
      · exact .inl (by rw [hF]; simp [hf])
      · exact .inr hf

end Go.Proofs.Ytpjipdmlfpgokaa
