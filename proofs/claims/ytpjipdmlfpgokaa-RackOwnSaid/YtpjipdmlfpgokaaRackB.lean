/-
  Hold's last way, and Give.
-/
import Derived.Test.YtpjipdmlfpgokaaRack
namespace Go.Proofs.Ytpjipdmlfpgokaa
open Go.RowKit RP

theorem Now.trans {w w1 w2 : World} {base b : Nat} {F F1 : List Nat} {t : KV} {size next step : Int} (h : Moved F w w1) (hF : ∀ x ∈ F1, x ∈ F ∨ w.heap.size ≤ x) (k : Now w1 base b F1 t size next step w2) : Now w base b F t size next step w2 := by
  obtain ⟨F2, r, m, s⟩ := k
  refine ⟨F2, r, h.trans m hF, fun x hx => ?_⟩
  rcases s x hx with hx | hx
  · exact hF x hx
  · exact .inr (Nat.le_trans h.size hx)

set_option maxHeartbeats 1000000 in
theorem rhold_ok {w : World} {base b : Nat} {F : List Nat} {t : KV} {size next step : Int} (h : RackAt w base b F t size next step) (hs : (size == 0) = false) (hb : base ≤ w.heap.size) (h64 : size ≤ 64) {k : Int} (v : Int) (hk : lk t k = none) (h1 : ¬ k < 1) (h2 : ¬ 1099511627775 < k) (hf : (t.length : Int) < size) :
    Calls Try.prog 12 #[.pointer (some ⟨b, 0, none⟩), .int .i64 k, .int .i64 v] w fun e w' => e = .returned (.int .i64 0) ∧ Now w base b F (ins t k v) size next step w' := by
  have hn : t.length < 64 := by omega
  obtain ⟨a, c, c0, c2, c3, c4, fz⟩ := h.at
  have N := Lib.hid (none_made c2 hs)
  have G := Lib.hid (tget_none h (by omega) hk)
  have P := fun q => Lib.hid (tput_new (h.drewN q) hn v hk hb)
  clear h hs hk hb
  go_enter Try.func12, Try.ntmps12
  go_wp2_with (first | (go_at_call 25; refine N.out.mono ?_; rintro e w' ⟨rfl, rfl⟩) | (go_at_call 28; refine G.out.mono ?_; rintro e w1 ⟨rfl, hq⟩; have hq := Lib.hid hq; have d0 : w1.cell? ⟨b, 0, none⟩ = some (.slice a t.length c) := (by obtain ⟨q, rfl⟩ := hq.out; exact c0); have d2 : w1.cell? ⟨b, 2, none⟩ = some (.int .i64 size) := (by obtain ⟨q, rfl⟩ := hq.out; exact c2)))
  go_quiet ((go_at_call 27; exact Calls.quiet_of_same (tlen d0)))
  have hq2 : ∃ q, w1.drewN nq = w.drewN q := by obtain ⟨q, rfl⟩ := hq.out; exact ⟨_, World.drewN_drewN ..⟩
  generalize w1.drewN nq = w3 at *
  obtain ⟨q, rfl⟩ := hq2
  clear d0 d2
  go_wp2_with (go_at_call 29; refine (P q).out.mono ?_; rintro e w' ⟨rfl, hnow⟩; have hnow := Lib.hid hnow.of_drewN)
  go_ret
  exact ⟨rfl, hnow.out⟩

set_option maxHeartbeats 1000000 in
theorem rgive_full {w : World} {base b : Nat} {F : List Nat} {t : KV} {size next step : Int} (h : RackAt w base b F t size next step) (hs : (size == 0) = false) (v : Int) (hf : size ≤ t.length) :
    Calls Try.prog 11 #[.pointer (some ⟨b, 0, none⟩), .int .i64 v] w fun e w' => e = .returned (.tuple #[.int .i64 0, .int .i64 4]) ∧ ∃ q, w' = w.drewN q := by
  obtain ⟨a, c, c0, c2, c3, c4, fz⟩ := h.at
  have N := Lib.hid (none_made c2 hs)
  clear h hs
  go_enter Try.func11, Try.ntmps11
  go_wp2_with (go_at_call 25; refine N.out.mono ?_; rintro e w' ⟨rfl, rfl⟩)
  go_quiet ((go_at_call 27; exact Calls.quiet_of_same (tlen c0)))
  go_wp2
  go_ret2
  exact ⟨rfl, _, rfl⟩

/-- Give's way: the first m of its own ids are passed over. -/
def Skipped (t : KV) (next step : Int) (m : Nat) : Prop := ∀ j : Nat, j < m → next + j * step ≤ 1099511627775 ∧ (lk t (next + j * step)).isSome = true

theorem Skipped.succ {t : KV} {next step : Int} {m : Nat} (h : Skipped t next step m) (h1 : next + m * step ≤ 1099511627775) (h2 : (lk t (next + m * step)).isSome = true) : Skipped t next step (m + 1) := by
  intro j hj
  by_cases e : j = m
  · subst e; exact ⟨h1, h2⟩
  · exact h j (by omega)

def Gave (w : World) (base b : Nat) (F : List Nat) (t : KV) (size next step v : Int) (e : Ending) (w' : World) : Prop :=
  ∃ m : Nat, Skipped t next step m ∧
    ((1099511627775 < next + m * step ∧ e = .returned (.tuple #[.int .i64 0, .int .i64 4]) ∧ Now w base b F t size (next + m * step) step w') ∨
     (next + m * step ≤ 1099511627775 ∧ lk t (next + m * step) = none ∧ e = .returned (.tuple #[.int .i64 (next + m * step), .int .i64 0]) ∧ Now w base b F (ins t (next + m * step) v) size (next + m * step + step) step w'))

set_option maxHeartbeats 2000000 in
theorem rgive_room {w : World} {base b : Nat} {F : List Nat} {t : KV} {size next step : Int} (h : RackAt w base b F t size next step) (hs : (size == 0) = false) (hb : base ≤ w.heap.size) (h64 : size ≤ 64) (hn0 : 1 ≤ next) (hnx : next ≤ 1099511628776) (hst : 1 ≤ step) (hst2 : step ≤ 1000) (v : Int) (hf : (t.length : Int) < size) :
    Calls Try.prog 11 #[.pointer (some ⟨b, 0, none⟩), .int .i64 v] w (Gave w base b F t size next step v) := by
  have hn : t.length < 64 := by omega
  obtain ⟨a, c, c0, c2, c3, c4, fz⟩ := h.at
  have N := Lib.hid (none_made c2 hs)
  have H := Lib.hid h
  clear h hs
  go_enter Try.func11, Try.ntmps11
  go_wp2_with (go_at_call 25; refine N.out.mono ?_; rintro e w' ⟨rfl, rfl⟩)
  go_quiet ((go_at_call 27; exact Calls.quiet_of_same (tlen c0)))
  go_wp2_with fail
  go_loopg [] (1099511629000 - next).toNat (fun g wr => ∃ m : Nat, Hid (Skipped t next step m) ∧ Hid (RackAt wr base b F t size (next + m * step) step) ∧ Hid (Moved F w wr) ∧ 1 ≤ next + m * step ∧ next + m * step ≤ 1099511628776 ∧ (1099511629000 - (next + m * step)).toNat ≤ g)
  case atStart => exact ⟨0, fun j hj => absurd hj (Nat.not_lt_zero _), Lib.hid (by simpa using (H.out.drewN nq : RackAt _ base b F t size next step)), (Moved.refl F w).drewN nq, by simpa using hn0, by simpa using hnx, by simp⟩
  case round =>
    obtain ⟨m, hsk, hr, hm, hlo, hhi, hg⟩ := hrel
    obtain ⟨a', c', d0, d2, d3, d4, dz⟩ := hr.out.at
    generalize hnm : next + m * step = nm at *
    have Hnm := Lib.hid hnm
    clear hnm c0 c2 c3 c4 fz
    by_cases hle : nm ≤ 1099511627775
    · have hR : Hid (RackAt ((wr.setCell ⟨b, 3, none⟩ (.int .i64 (nm + step))).drew) base b F t size (nm + step) step) := Lib.hid (hr.out.next (nm + step))
      have hM : Hid (Moved F w ((wr.setCell ⟨b, 3, none⟩ (.int .i64 (nm + step))).drew)) := Lib.hid ((hm.out.setCell (p := ⟨b, 3, none⟩) (.inl (by have hh := H.out; obtain ⟨_, _, _, _, _, hF, _⟩ := hh; rw [hF]; simp)) _).drew)
      cases hk : lk t nm with
      | none =>
        have hk := Lib.hid hk
        go_wp2_with fail
        go_region
        all_goals (go_wp2_with (go_at_call 28; refine (tget_none hR.out (by omega) hk.out).mono ?_; rintro e w1 ⟨rfl, hq⟩))
        have hR1 : Hid (RackAt w1 base b F t size (nm + step) step) := Lib.hid (by obtain ⟨q, rfl⟩ := hq; exact hR.out.drewN q)
        have hM1 : Hid (Moved F w w1) := Lib.hid (by obtain ⟨q, rfl⟩ := hq; exact hM.out.drewN q)
        clear hq
        refine (tput_new hR1.out hn v hk.out (by have := hM1.out.size; omega)).mono ?_
        rintro e w2 ⟨rfl, hnow⟩
        have hnow := Lib.hid (hnow.trans hM1.out (fun x hx => .inl hx))
        go_wp2_with fail
        go_ret2
        refine ⟨m, hsk.out, .inr ?_⟩
        rw [Hnm.out]
        exact ⟨hle, hk.out, rfl, hnow.out⟩
      | some u =>
        have hk := Lib.hid hk
        go_wp2_with fail
        go_region
        all_goals (go_wp2_with (go_at_call 28; refine (tget_some hR.out (by omega) hk.out).mono ?_; rintro e w1 ⟨rfl, hq⟩))
        have hR1 : Hid (RackAt w1 base b F t size (nm + step) step) := Lib.hid (by obtain ⟨q, rfl⟩ := hq; exact hR.out.drewN q)
        have hM1 : Hid (Moved F w w1) := Lib.hid (by obtain ⟨q, rfl⟩ := hq; exact hM.out.drewN q)
        clear hq
        have e1 : next + ((m + 1 : Nat) : Int) * step = nm + step := by rw [← Hnm.out, Int.natCast_add, Int.add_mul]; simp; omega
        go_roundg (1099511629000 - (nm + step)).toNat
        case measure => omega
        case rel =>
          refine ⟨m + 1, Lib.hid (hsk.out.succ (by rw [Hnm.out]; exact hle) (by rw [Hnm.out, hk.out]; rfl)), by rw [e1]; exact hR1, hM1, by omega, by omega, by rw [e1]; omega⟩
    · go_wp2_with fail
      go_ret2
      refine ⟨m, hsk.out, .inl ⟨?_, rfl, ?_⟩⟩
      · rw [Hnm.out]; omega
      · rw [Hnm.out]; exact ⟨F, hr.out, hm.out, fun x hx => .inl hx⟩

end Go.Proofs.Ytpjipdmlfpgokaa
