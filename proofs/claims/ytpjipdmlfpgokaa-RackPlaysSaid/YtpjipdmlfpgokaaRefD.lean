/-
  The document's rack: Give.
-/
import Derived.Test.YtpjipdmlfpgokaaRefC
namespace Go.Proofs.Ytpjipdmlfpgokaa
open Go.RowKit RP

set_option maxHeartbeats 400000 in
theorem ref_give_full {w : World} {base mb : Nat} {F : List Nat} {rows : KV} {size next step : Int} (h : MAt w base mb F rows size next step) (hn : rows.length ≤ 64) (v : Int) (hf : ((rows.length : Int) == size) = true) :
    Calls Try.prog 18 #[.pointer (some ⟨mb, 0, none⟩), .int .i64 v] w fun e w' => e = .returned (.tuple #[.int .i64 0, .int .i64 4]) ∧ ∃ q, w' = w.drewN q := by
  obtain ⟨a, c, c0, c1, c2, c3, hp, fz, hF⟩ := h.cells
  clear h hp hF
  go_enter Try.func18, Try.ntmps18
  go_wp2_with fail
  go_quiet (fail)
  go_wp2_with fail
  go_ret2
  exact ⟨rfl, _, rfl⟩

def MGave (w : World) (base b : Nat) (F : List Nat) (t : KV) (size next step v : Int) (e : Ending) (w' : World) : Prop :=
  ∃ m : Nat, Skipped t next step m ∧
    ((1099511627775 < next + m * step ∧ e = .returned (.tuple #[.int .i64 0, .int .i64 4]) ∧ MNow w base b F t size (next + m * step) step w') ∨
     (next + m * step ≤ 1099511627775 ∧ lk t (next + m * step) = none ∧ e = .returned (.tuple #[.int .i64 (next + m * step), .int .i64 0]) ∧ MNow w base b F (t ++ [(next + m * step, v)]) size (next + m * step + step) step w'))

theorem MNow.setNext {w w1 : World} {base mb : Nat} {F : List Nat} {t : KV} {size next step : Int} (h : MNow w base mb F t size next step w1) (hmb : mb ∈ F) (n : Int) : MNow w base mb F t size n step ((w1.setCell ⟨mb, 1, none⟩ (.int .i64 n)).drew) := by
  obtain ⟨F', h1, h2, h3⟩ := h
  exact ⟨F', h1.setNext n, (h2.setCell (p := ⟨mb, 1, none⟩) (.inl hmb) _).drew, h3⟩

set_option maxRecDepth 100000 in
set_option maxHeartbeats 4000000 in
theorem ref_give_room {w : World} {base mb : Nat} {F : List Nat} {rows : KV} {size next step : Int} (h : MAt w base mb F rows size next step) (hn : rows.length < 64) (hbase : base ≤ w.heap.size) (v : Int) (hf : ((rows.length : Int) == size) = false)
    (hn0 : 1 ≤ next) (hnx : next ≤ 1099511628776) (hst : 1 ≤ step) (hst2 : step ≤ 1000) :
    Calls Try.prog 18 #[.pointer (some ⟨mb, 0, none⟩), .int .i64 v] w (MGave w base mb F rows size next step v) := by
  obtain ⟨i0, hi, hz0, hz1, hz2⟩ := info_parts info68
  have H := Lib.hid h
  obtain ⟨a, c, c0, c1, c2, c3, hp, fz, hF⟩ := h.cells
  clear h hp hF
  go_enter Try.func18, Try.ntmps18
  go_wp2_with fail
  go_quiet (fail)
  go_wp2_with fail
  go_loopg [] (1099511629000 - next).toNat (fun g wr => ∃ m : Nat, Hid (Skipped rows next step m) ∧ Hid (MAt wr base mb F rows size (next + m * step) step) ∧ Hid (Moved F w wr) ∧ 1 ≤ next + m * step ∧ next + m * step ≤ 1099511628776 ∧ (1099511629000 - (next + m * step)).toNat ≤ g)
  case atStart => exact ⟨0, fun j hj => absurd hj (Nat.not_lt_zero _), Lib.hid (by simpa using (H.out.drewN nq : MAt _ base mb F rows size next step)), (Moved.refl F w).drewN nq, by simpa using hn0, by simpa using hnx, by simp⟩
  case round =>
    obtain ⟨m, hsk, hr, hm, hlo, hhi, hg⟩ := hrel
    clear c0 c1 c2 c3 fz
    obtain ⟨a', c', d0, d1, d2, d3, dp, dz, dF⟩ := hr.out.cells
    replace dp := Lib.hid dp
    replace dF := Lib.hid dF
    generalize hnm : next + m * step = nm at *
    have Hnm := Lib.hid hnm
    clear hnm
    by_cases hle : nm ≤ 1099511627775
    · cases hk : lk rows nm with
      | some u =>
        have A := Lib.hid (ref_at_some hr.out (by omega) hk)
        replace hk := Lib.hid hk
        have hR : Hid (MAt ((wr.setCell ⟨mb, 1, none⟩ (.int .i64 (nm + step))).drew) base mb F rows size (nm + step) step) := Lib.hid (hr.out.setNext (nm + step))
        have hM : Hid (Moved F w ((wr.setCell ⟨mb, 1, none⟩ (.int .i64 (nm + step))).drew)) := Lib.hid ((hm.out.setCell (p := ⟨mb, 1, none⟩) (.inl (by rw [dF.out]; simp)) _).drew)
        go_wp2_with (go_at_call 31; refine A.out.mono ?_; rintro e w' ⟨i, hi, _, rfl, rfl⟩; clear hi)
        go_region
        have e1 : next + ((m + 1 : Nat) : Int) * step = nm + step := by rw [← Hnm.out, Int.natCast_add, Int.add_mul]; simp; omega
        go_wp2_with fail
        go_roundg (1099511629000 - (nm + step)).toNat
        case measure => omega
        case rel =>
          refine ⟨m + 1, Lib.hid (hsk.out.succ (by rw [Hnm.out]; exact hle) (by rw [Hnm.out, hk.out]; rfl)), by rw [e1]; exact hR, hM, by omega, by omega, by rw [e1]; omega⟩
      | none =>
        have A := Lib.hid (ref_at_none hr.out (by omega) hk)
        replace hk := Lib.hid hk
        have hbr : base ≤ wr.heap.size := Nat.le_trans hbase hm.out.size
        go_wp2_with (first | (go_at_call 31; refine A.out.mono ?_; rintro e w' ⟨rfl, rfl⟩) | (at_builtin; refine wpList_append_own_at _ rfl _ _ 53 rfl base 68 i0 (.agg #[.int .i64 0, .int .i64 0]) 2 16 Try.underlying53 hi hz0 hz1 hz2 rfl (by decide) _ _ _ rfl (World.ownsRow.alloc dp.out _) ⟨wr.heap.size, 0, none⟩ 1 1 [.int .i64 nm, .int .i64 v] rfl rfl (cell_two_new _ _ _ _) (by simp [Value.oneCell']) (by unfold maxLen; omega) (by omega) (by simp; omega) ?_; intro v' w1 hown hgrow hnil hfr; obtain ⟨g', cap', rfl⟩ := ownsRow_succ hown; obtain ⟨⟨o1, e1, e2⟩, fin⟩ := mpush_after hr.out nm v dp.out dF.out hown hgrow (by rcases hfr with hf | hf; exact .inl hf.symm; (right; simp [Value.ownBlock] at hf; omega)); replace fin := Lib.hid fin; have f1 : ∀ i, w1.frozen? ⟨mb, i, none⟩ = false := (fun i => by obtain ⟨rv, q1, _⟩ := hr.out; rw [q1] at e2; cases e2; exact block_frozen e1 i); have f3 : w1.cell? ⟨mb, 3, none⟩ = some (.slice a' rows.length c') := (by rw [World.cell?_of_block (w := wr) (a := ⟨mb, 3, none⟩) (by rw [e1, e2])]; exact d3); have f4 : w1.cell? ⟨mb, 1, none⟩ = some (.int .i64 nm) := (by rw [World.cell?_of_block (w := wr) (a := ⟨mb, 1, none⟩) (by rw [e1, e2])]; exact d1); have f5 : w1.cell? ⟨mb, 2, none⟩ = some (.int .i64 step) := (by rw [World.cell?_of_block (w := wr) (a := ⟨mb, 2, none⟩) (by rw [e1, e2])]; exact d2); clear hown hgrow hnil hfr e1 e2))
        go_region
        go_wp2_with fail
        go_ret2
        refine ⟨m, hsk.out, .inr ?_⟩
        rw [Hnm.out]
        exact ⟨hle, hk.out, rfl, MNow.trans hm.out (fun x hx => .inl hx) (fin.out.setNext (by rw [dF.out]; simp) (nm + step))⟩
    · go_wp2_with fail
      go_ret2
      refine ⟨m, hsk.out, .inl ⟨?_, rfl, ?_⟩⟩
      · rw [Hnm.out]; omega
      · rw [Hnm.out]; exact ⟨F, hr.out, hm.out, fun x hx => .inl hx⟩

end Go.Proofs.Ytpjipdmlfpgokaa
