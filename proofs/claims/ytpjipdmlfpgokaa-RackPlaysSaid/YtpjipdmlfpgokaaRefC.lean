/-
  The document's rack: Hold and Give.
-/
import Derived.Test.YtpjipdmlfpgokaaRefB
import Derived.Maps.AppendAt
import Derived.Deep.QuietTactic
import Derived.BigQuiet
import Derived.Deep.LoopGhost
namespace Go.Proofs.Ytpjipdmlfpgokaa
open Go.RowKit RP

theorem MNow.trans {w w1 w2 : World} {base b : Nat} {F F1 : List Nat} {t : KV} {size next step : Int} (h : Moved F w w1) (hF : ∀ x ∈ F1, x ∈ F ∨ w.heap.size ≤ x) (k : MNow w1 base b F1 t size next step w2) : MNow w base b F t size next step w2 := by
  obtain ⟨F2, r, m, s⟩ := k
  refine ⟨F2, r, h.trans m hF, fun x hx => ?_⟩
  rcases s x hx with hx | hx
  · exact hF x hx
  · exact .inr (Nat.le_trans h.size hx)

set_option maxHeartbeats 400000 in
theorem ref_hold_arg {w : World} {base mb : Nat} {F : List Nat} {rows : KV} {size next step : Int} (h : MAt w base mb F rows size next step) (hn : rows.length ≤ 64) {k : Int} (v : Int) (hl : (lk rows k).isSome = true ∨ k < 1 ∨ 1099511627775 < k) :
    Calls Try.prog 19 #[.pointer (some ⟨mb, 0, none⟩), .int .i64 k, .int .i64 v] w fun e w' => e = .returned (.int .i64 2) ∧ w = w' := by
  by_cases h1 : k < 1
  · clear hl h
    go_enter Try.func19, Try.ntmps19
    go_wp2_with fail
    go_ret
    exact ⟨rfl, rfl⟩
  by_cases h2 : 1099511627775 < k
  · clear hl h
    go_enter Try.func19, Try.ntmps19
    go_wp2_with fail
    go_ret
    exact ⟨rfl, rfl⟩
  have hs : (lk rows k).isSome = true := by
    rcases hl with h | h | h
    · exact h
    · exact absurd h h1
    · exact absurd h h2
  obtain ⟨u, hu⟩ := Option.isSome_iff_exists.1 hs
  have A := Lib.hid (ref_at_some h hn hu)
  clear hl h hs hu
  go_enter Try.func19, Try.ntmps19
  go_wp2_with (go_at_call 31; refine A.out.mono ?_; rintro e w' ⟨i, hi, _, rfl, rfl⟩; clear hi)
  go_ret
  exact ⟨rfl, rfl⟩

set_option maxHeartbeats 400000 in
theorem ref_hold_full {w : World} {base mb : Nat} {F : List Nat} {rows : KV} {size next step : Int} (h : MAt w base mb F rows size next step) (hn : rows.length ≤ 64) {k : Int} (v : Int) (hl : lk rows k = none) (h1 : ¬ k < 1) (h2 : ¬ 1099511627775 < k) (hf : ((rows.length : Int) == size) = true) :
    Calls Try.prog 19 #[.pointer (some ⟨mb, 0, none⟩), .int .i64 k, .int .i64 v] w fun e w' => e = .returned (.int .i64 4) ∧ ∃ q, w' = w.drewN q := by
  have A := Lib.hid (ref_at_none h hn hl)
  obtain ⟨a, c, c0, c1, c2, c3, hp, fz, hF⟩ := h.cells
  clear hl h hp hF
  go_enter Try.func19, Try.ntmps19
  go_wp2_with (go_at_call 31; refine A.out.mono ?_; rintro e w' ⟨rfl, rfl⟩)
  go_quiet (fail)
  go_wp2_with fail
  go_ret
  exact ⟨rfl, _, rfl⟩

set_option maxHeartbeats 1000000 in
theorem ref_hold_ok {w : World} {base mb : Nat} {F : List Nat} {rows : KV} {size next step : Int} (h : MAt w base mb F rows size next step) (hn : rows.length < 64) (hbase : base ≤ w.heap.size) {k : Int} (v : Int) (hl : lk rows k = none) (h1 : ¬ k < 1) (h2 : ¬ 1099511627775 < k) (hf : ((rows.length : Int) == size) = false) :
    Calls Try.prog 19 #[.pointer (some ⟨mb, 0, none⟩), .int .i64 k, .int .i64 v] w fun e w' => e = .returned (.int .i64 0) ∧ MNow w base mb F (rows ++ [(k, v)]) size next step w' := by
  have A := Lib.hid (ref_at_none h (by omega) hl)
  obtain ⟨a, c, c0, c1, c2, c3, hp, fz, hF⟩ := h.cells
  have H := Lib.hid h
  have hF := Lib.hid hF
  obtain ⟨i0, hi, hz0, hz1, hz2⟩ := info_parts info68
  clear hl h
  go_enter Try.func19, Try.ntmps19
  go_wp2_with (go_at_call 31; refine A.out.mono ?_; rintro e w' ⟨rfl, rfl⟩)
  go_quiet (fail)
  have H2 : Hid (MAt (w.drewN nq) base mb F rows size next step) := H
  have hm0 : Hid (Moved F w (w.drewN nq)) := Lib.hid ((Moved.refl F w).drewN nq)
  have hp2 : Pairs (w.drewN nq) base (.slice a rows.length c) rows := hp
  have d3 : (w.drewN nq).cell? ⟨mb, 3, none⟩ = some (.slice a rows.length c) := c3
  have hb2 : base ≤ (w.drewN nq).heap.size := hbase
  clear hp c0 c1 c2 c3 fz A
  generalize w.drewN nq = W at *
  go_wp2_with (at_builtin; refine wpList_append_own_at _ rfl _ _ 53 rfl base 68 i0 (.agg #[.int .i64 0, .int .i64 0]) 2 16 Try.underlying53 hi hz0 hz1 hz2 rfl (by decide) _ _ _ rfl (World.ownsRow.alloc hp2 _) ⟨W.heap.size, 0, none⟩ 1 1 [.int .i64 k, .int .i64 v] rfl rfl (cell_two_new _ _ _ _) (by simp [Value.oneCell']) (by unfold maxLen; omega) (by omega) (by simp; omega) ?_; intro v' w1 hown hgrow hnil hfr; obtain ⟨g', cap', rfl⟩ := ownsRow_succ hown; obtain ⟨⟨o1, e1, e2⟩, fin⟩ := mpush_after H2.out k v hp2 hF.out hown hgrow (by rcases hfr with hf | hf; exact .inl hf.symm; (right; simp [Value.ownBlock] at hf; omega)); have fin := Lib.hid fin; have f1 : ∀ i, w1.frozen? ⟨mb, i, none⟩ = false := (fun i => by obtain ⟨rv, q1, _⟩ := H2.out; rw [q1] at e2; cases e2; exact block_frozen e1 i); have f3 : w1.cell? ⟨mb, 3, none⟩ = some (.slice a rows.length c) := (by rw [World.cell?_of_block (w := W) (a := ⟨mb, 3, none⟩) (by rw [e1, e2])]; exact d3); clear hown hgrow hnil hfr e1 e2)
  go_ret
  exact ⟨rfl, MNow.trans hm0.out (fun x hx => .inl hx) fin.out⟩

end Go.Proofs.Ytpjipdmlfpgokaa
