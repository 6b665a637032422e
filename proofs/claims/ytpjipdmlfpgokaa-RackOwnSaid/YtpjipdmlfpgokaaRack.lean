/-
  What the rack's methods do to a rack that New made.
-/
import Derived.Test.YtpjipdmlfpgokaaTabB
import Derived.Deep.QuietTactic
import Derived.BigQuiet
import Derived.Deep.LoopGhost
namespace Go.Proofs.Ytpjipdmlfpgokaa
open Go.RowKit RP

theorem RackAt.at {w : World} {base b : Nat} {F : List Nat} {t : KV} {size next step : Int} (h : RackAt w base b F t size next step) :
    ∃ a c, w.cell? ⟨b, 0, none⟩ = some (.slice a t.length c) ∧ w.cell? ⟨b, 2, none⟩ = some (.int .i64 size) ∧ w.cell? ⟨b, 3, none⟩ = some (.int .i64 next) ∧ w.cell? ⟨b, 4, none⟩ = some (.int .i64 step) ∧ ∀ i, w.frozen? ⟨b, i, none⟩ = false := by
  obtain ⟨kv, vv, h1, h2, h3, hF, h5, h6, h7⟩ := h
  obtain ⟨a, c, rfl⟩ := h2.shape
  refine ⟨a, c, ?_, ?_, ?_, ?_, fun i => block_frozen h1 i⟩ <;> rw [block_cell h1] <;> simp [ks_length]

theorem RackAt.next {w : World} {base b : Nat} {F : List Nat} {t : KV} {size next step : Int} (h : RackAt w base b F t size next step) (n : Int) :
    RackAt (w.setCell ⟨b, 3, none⟩ (.int .i64 n)) base b F t size n step := by
  obtain ⟨kv, vv, h1, h2, h3, hF, h5, h6, h7⟩ := h
  have B := block_setCell (i := 3) (v := .int .i64 n) h1
  have hn := h5
  rw [hF, List.nodup_cons] at hn
  refine ⟨kv, vv, B, h2.same fun k hk => ?_, h3.same fun k hk => ?_, hF, h5, h6, h7⟩
  · refine Below.heap_setCell _ _ _ _ (fun e => hn.1 ?_)
    simp at e; subst e; simp [hk]
  · refine Below.heap_setCell _ _ _ _ (fun e => hn.1 ?_)
    simp at e; subst e; simp [hk]

set_option maxHeartbeats 400000 in
theorem none_made {b : Nat} {n : Int} {w : World} (h : w.cell? ⟨b, 2, none⟩ = some (.int .i64 n)) (hn : (n == 0) = false) :
    Calls Try.prog 25 #[.pointer (some ⟨b, 0, none⟩)] w fun e w' => e = .returned (.bool false) ∧ w = w' := by
  go_enter Try.func25, Try.ntmps25
  go_wp2
  go_ret
  exact ⟨rfl, rfl⟩

set_option maxHeartbeats 400000 in
theorem tlen {b : Nat} {a : Option Addr} {n c : Nat} {w : World} (h : w.cell? ⟨b, 0, none⟩ = some (.slice a n c)) :
    Calls Try.prog 27 #[.pointer (some ⟨b, 0, none⟩)] w fun e w' => e = .returned (.int .i64 n) ∧ w' = w := by
  go_enter Try.func27, Try.ntmps27
  go_wp2
  go_ret
  exact ⟨rfl, rfl⟩

theorem tlen' {b : Nat} {a : Option Addr} {n c : Nat} {w : World} (h : w.cell? ⟨b, 0, none⟩ = some (.slice a n c)) :
    Calls Try.prog 27 #[.pointer (some ⟨b, 0, none⟩)] w fun e w' => e = .returned (.int .i64 n) ∧ w = w' := (tlen h).mono fun _ _ ⟨a, b⟩ => ⟨a, b.symm⟩

set_option maxHeartbeats 400000 in
theorem rlen {w : World} {base b : Nat} {F : List Nat} {t : KV} {size next step : Int} (h : RackAt w base b F t size next step) (hs : (size == 0) = false) :
    Calls Try.prog 16 #[.pointer (some ⟨b, 0, none⟩)] w fun e w' => e = .returned (.int .i64 t.length) ∧ w = w' := by
  obtain ⟨a, c, c0, c2, c3, c4, fz⟩ := h.at
  have N := Lib.hid (none_made c2 hs)
  have L := Lib.hid (tlen' c0)
  clear h hs
  go_enter Try.func16, Try.ntmps16
  go_wp2_with (first | (go_at_call 25; refine N.out.mono ?_; rintro e w' ⟨rfl, rfl⟩) | (go_at_call 27; refine L.out.mono ?_; rintro e w' ⟨rfl, rfl⟩))
  go_ret
  exact ⟨rfl, rfl⟩

set_option maxHeartbeats 400000 in
theorem rget_none {w : World} {base b : Nat} {F : List Nat} {t : KV} {size next step : Int} (h : RackAt w base b F t size next step) (hs : (size == 0) = false) (hn : t.length ≤ 64) {k : Int} (hl : lk t k = none) :
    Calls Try.prog 14 #[.pointer (some ⟨b, 0, none⟩), .int .i64 k] w fun e w' => e = .returned (.tuple #[.int .i64 0, .int .i64 30]) ∧ ∃ q, w' = w.drewN q := by
  obtain ⟨a, c, c0, c2, c3, c4, fz⟩ := h.at
  have N := Lib.hid (none_made c2 hs)
  have G := Lib.hid (tget_none h hn hl)
  clear h hs hl
  go_enter Try.func14, Try.ntmps14
  go_wp2_with (first | (go_at_call 25; refine N.out.mono ?_; rintro e w' ⟨rfl, rfl⟩) | (go_at_call 28; refine G.out.mono ?_; rintro e w' ⟨rfl, q, rfl⟩))
  go_ret2
  exact ⟨rfl, _, rfl⟩

set_option maxHeartbeats 400000 in
theorem rget_some {w : World} {base b : Nat} {F : List Nat} {t : KV} {size next step : Int} (h : RackAt w base b F t size next step) (hs : (size == 0) = false) (hn : t.length ≤ 64) {k v : Int} (hl : lk t k = some v) :
    Calls Try.prog 14 #[.pointer (some ⟨b, 0, none⟩), .int .i64 k] w fun e w' => e = .returned (.tuple #[.int .i64 v, .int .i64 0]) ∧ ∃ q, w' = w.drewN q := by
  obtain ⟨a, c, c0, c2, c3, c4, fz⟩ := h.at
  have N := Lib.hid (none_made c2 hs)
  have G := Lib.hid (tget_some h hn hl)
  clear h hs hl
  go_enter Try.func14, Try.ntmps14
  go_wp2_with (first | (go_at_call 25; refine N.out.mono ?_; rintro e w' ⟨rfl, rfl⟩) | (go_at_call 28; refine G.out.mono ?_; rintro e w' ⟨rfl, q, rfl⟩))
  go_ret2
  exact ⟨rfl, _, rfl⟩

set_option maxHeartbeats 400000 in
theorem rset_none {w : World} {base b : Nat} {F : List Nat} {t : KV} {size next step : Int} (h : RackAt w base b F t size next step) (hs : (size == 0) = false) (hn : t.length ≤ 64) {k : Int} (v : Int) (hl : lk t k = none) :
    Calls Try.prog 15 #[.pointer (some ⟨b, 0, none⟩), .int .i64 k, .int .i64 v] w fun e w' => e = .returned (.int .i64 30) ∧ ∃ q, w' = w.drewN q := by
  have G := Lib.hid (rget_none h hs hn hl)
  clear h hs hl
  go_enter Try.func15, Try.ntmps15
  go_wp2_with (go_at_call 14; refine G.out.mono ?_; rintro e w' ⟨rfl, q, rfl⟩)
  go_ret
  exact ⟨rfl, _, rfl⟩

set_option maxHeartbeats 400000 in
theorem rset_some {w : World} {base b : Nat} {F : List Nat} {t : KV} {size next step : Int} (h : RackAt w base b F t size next step) (hs : (size == 0) = false) (hn : t.length ≤ 64) {k u : Int} (v : Int) (hl : lk t k = some u) :
    Calls Try.prog 15 #[.pointer (some ⟨b, 0, none⟩), .int .i64 k, .int .i64 v] w fun e w' => e = .returned (.int .i64 0) ∧ Now w base b F (upd t k v) size next step w' := by
  have G := Lib.hid (rget_some h hs hn hl)
  have U := fun q => Lib.hid (tput_upd (h.drewN q) hn v hl)
  clear h hs hl
  go_enter Try.func15, Try.ntmps15
  go_wp2_with (first | (go_at_call 14; refine G.out.mono ?_; rintro e w' ⟨rfl, q, rfl⟩) | (go_at_call 29; refine (U _).out.mono ?_; rintro e w' ⟨rfl, hnow⟩; have hnow := Lib.hid hnow.of_drewN))
  go_ret
  exact ⟨rfl, hnow.out⟩

set_option maxHeartbeats 400000 in
theorem rdrop_none {w : World} {base b : Nat} {F : List Nat} {t : KV} {size next step : Int} (h : RackAt w base b F t size next step) (hs : (size == 0) = false) (hn : t.length ≤ 64) {k : Int} (hl : lk t k = none) :
    Calls Try.prog 13 #[.pointer (some ⟨b, 0, none⟩), .int .i64 k] w fun e w' => e = .returned (.int .i64 30) ∧ ∃ q, w' = w.drewN q := by
  have G := Lib.hid (rget_none h hs hn hl)
  clear h hs hl
  go_enter Try.func13, Try.ntmps13
  go_wp2_with (go_at_call 14; refine G.out.mono ?_; rintro e w' ⟨rfl, q, rfl⟩)
  go_ret
  exact ⟨rfl, _, rfl⟩

set_option maxHeartbeats 400000 in
theorem rdrop_some {w : World} {base b : Nat} {F : List Nat} {t : KV} {size next step : Int} (h : RackAt w base b F t size next step) (hs : (size == 0) = false) (hn : t.length ≤ 64) {k u : Int} (hl : lk t k = some u) :
    Calls Try.prog 13 #[.pointer (some ⟨b, 0, none⟩), .int .i64 k] w fun e w' => e = .returned (.int .i64 0) ∧ Now w base b F (del t k) size next step w' := by
  have G := Lib.hid (rget_some h hs hn hl)
  have U := fun q => Lib.hid (tdrop (h.drewN q) hn hl)
  clear h hs hl
  go_enter Try.func13, Try.ntmps13
  go_wp2_with (first | (go_at_call 14; refine G.out.mono ?_; rintro e w' ⟨rfl, q, rfl⟩) | (go_at_call 30; refine (U _).out.mono ?_; rintro e w' ⟨rfl, hnow⟩; have hnow := Lib.hid hnow.of_drewN))
  go_ret
  exact ⟨rfl, hnow.out⟩

set_option maxHeartbeats 1000000 in
theorem rhold_arg {w : World} {base b : Nat} {F : List Nat} {t : KV} {size next step : Int} (h : RackAt w base b F t size next step) (hs : (size == 0) = false) (hn : t.length ≤ 64) {k : Int} (v : Int) (hl : (lk t k).isSome = true ∨ k < 1 ∨ 1099511627775 < k) :
    Calls Try.prog 12 #[.pointer (some ⟨b, 0, none⟩), .int .i64 k, .int .i64 v] w fun e w' => e = .returned (.int .i64 2) ∧ ∃ q, w' = w.drewN q := by
  obtain ⟨a, c, c0, c2, c3, c4, fz⟩ := h.at
  have N := Lib.hid (none_made c2 hs)
  cases hk : lk t k with
  | some u =>
    have G := Lib.hid (tget_some h hn hk)
    clear h hs hl hk
    go_enter Try.func12, Try.ntmps12
    go_wp2_with (first | (go_at_call 25; refine N.out.mono ?_; rintro e w' ⟨rfl, rfl⟩) | (go_at_call 28; refine G.out.mono ?_; rintro e w' ⟨rfl, q, rfl⟩))
    go_ret
    exact ⟨rfl, _, rfl⟩
  | none =>
    have G := Lib.hid (tget_none h hn hk)
    have hl : k < 1 ∨ 1099511627775 < k := by simpa [hk] using hl
    clear h hs hk
    by_cases h1 : k < 1
    · clear hl
      go_enter Try.func12, Try.ntmps12
      go_wp2_with (first | (go_at_call 25; refine N.out.mono ?_; rintro e w' ⟨rfl, rfl⟩) | (go_at_call 28; refine G.out.mono ?_; rintro e w' ⟨rfl, q, rfl⟩))
      go_ret
      exact ⟨rfl, _, rfl⟩
    · have h2 : 1099511627775 < k := by omega
      clear hl
      go_enter Try.func12, Try.ntmps12
      go_wp2_with (first | (go_at_call 25; refine N.out.mono ?_; rintro e w' ⟨rfl, rfl⟩) | (go_at_call 28; refine G.out.mono ?_; rintro e w' ⟨rfl, q, rfl⟩))
      go_ret
      exact ⟨rfl, _, rfl⟩

set_option maxHeartbeats 1000000 in
theorem rhold_full {w : World} {base b : Nat} {F : List Nat} {t : KV} {size next step : Int} (h : RackAt w base b F t size next step) (hs : (size == 0) = false) (hn : t.length ≤ 64) {k : Int} (v : Int) (hk : lk t k = none) (h1 : ¬ k < 1) (h2 : ¬ 1099511627775 < k) (hf : size ≤ t.length) :
    Calls Try.prog 12 #[.pointer (some ⟨b, 0, none⟩), .int .i64 k, .int .i64 v] w fun e w' => e = .returned (.int .i64 4) ∧ ∃ q, w' = w.drewN q := by
  obtain ⟨a, c, c0, c2, c3, c4, fz⟩ := h.at
  have N := Lib.hid (none_made c2 hs)
  have G := Lib.hid (tget_none h hn hk)
  clear h hs hk
  go_enter Try.func12, Try.ntmps12
  go_wp2_with (first | (go_at_call 25; refine N.out.mono ?_; rintro e w' ⟨rfl, rfl⟩) | (go_at_call 28; refine G.out.mono ?_; rintro e w1 ⟨rfl, hq⟩; have hq := Lib.hid hq; have d0 : w1.cell? ⟨b, 0, none⟩ = some (.slice a t.length c) := (by obtain ⟨q, rfl⟩ := hq.out; exact c0); have d2 : w1.cell? ⟨b, 2, none⟩ = some (.int .i64 size) := (by obtain ⟨q, rfl⟩ := hq.out; exact c2)))
  go_quiet ((go_at_call 27; exact Calls.quiet_of_same (tlen d0)))
  go_wp2
  go_ret
  exact ⟨rfl, (by obtain ⟨q, rfl⟩ := hq.out; exact ⟨_, World.drewN_drewN ..⟩)⟩

end Go.Proofs.Ytpjipdmlfpgokaa
