/-
  Walks of the nil ways of health.
-/
import Derived.Test.YtkncjnpgnpoloaaLets
namespace Go.Proofs.Ytkncjnpgnpoloaa
open Go.RowKit

set_option maxHeartbeats 400000 in
theorem try_none {p : Option Addr} {w : World} (h : Hid (NoH p w)) (i : Int) :
    Calls Try.prog 9 #[.pointer p, .int .i64 i] w fun e w' => e = .returned (.tuple #[.bool false, .int .i64 1]) ∧ w = w' := by
  go_enter Try.func9, Try.ntmps9
  go_wp2_with (go_at_call 34; refine (none_any h.out).mono ?_; rintro e w' ⟨rfl, rfl⟩)
  go_ret2
  exact ⟨rfl, rfl⟩

set_option maxHeartbeats 400000 in
theorem now_none {p : Option Addr} {w : World} (h : Hid (NoH p w)) :
    Calls Try.prog 13 #[.pointer p] w fun e w' => e = .returned (.int .i64 0) ∧ w = w' := by
  go_enter Try.func13, Try.ntmps13
  go_wp2_with (go_at_call 34; refine (none_any h.out).mono ?_; rintro e w' ⟨rfl, rfl⟩)
  go_ret
  exact ⟨rfl, rfl⟩

set_option maxHeartbeats 400000 in
theorem key_none {p : Option Addr} {w : World} (h : Hid (NoH p w)) (i : Int) :
    Calls Try.prog 14 #[.pointer p, .int .i64 i] w fun e w' => e = .returned (.int .i64 0) ∧ w = w' := by
  go_enter Try.func14, Try.ntmps14
  go_wp2_with (go_at_call 35; refine (at_none h _).mono ?_; rintro e w' ⟨rfl, rfl⟩)
  go_ret
  exact ⟨rfl, rfl⟩

set_option maxHeartbeats 400000 in
theorem place_none {p : Option Addr} {w : World} (h : Hid (NoH p w)) (i : Int) :
    Calls Try.prog 15 #[.pointer p, .int .i64 i] w fun e w' => e = .returned (.int .i64 (-1)) ∧ Below w.heap.size w w' := by
  have h2 : Hid (NoH p (w.alloc (.cells #[.int .i64 i] 3))) := Lib.hid (h.out.below ((Below.refl _ w).alloc (Nat.le_refl _) _))
  go_enter Try.func15, Try.ntmps15
  go_wp2_with (go_at_call 34; refine (none_any h2.out).mono ?_; rintro e w' ⟨rfl, rfl⟩)
  go_ret
  exact ⟨rfl, (Below.refl _ w).alloc (Nat.le_refl _) _⟩

set_option maxHeartbeats 400000 in
theorem tick_none {p : Option Addr} {w : World} (h : Hid (NoH p w)) :
    Calls Try.prog 12 #[.pointer p] w fun e w' => e = .returned (.slice none 0 0) ∧ w = w' := by
  go_enter Try.func12, Try.ntmps12
  go_wp2_with (go_at_call 34; refine (none_any h.out).mono ?_; rintro e w' ⟨rfl, rfl⟩)
  go_ret
  exact ⟨rfl, rfl⟩

set_option maxHeartbeats 400000 in
theorem note_none {p : Option Addr} {w : World} (h : Hid (NoH p w)) (i : Int) (f : Value) :
    Calls Try.prog 48 #[.pointer p, .int .i64 i, f] w fun e w' => e = .returned (.int .i64 1) ∧ w = w' := by
  go_enter Try.func48, Try.ntmps48
  go_wp2_with (go_at_call 34; refine (none_any h.out).mono ?_; rintro e w' ⟨rfl, rfl⟩)
  go_ret
  exact ⟨rfl, rfl⟩

set_option maxHeartbeats 400000 in
theorem tells_none {p : Option Addr} {w : World} (h : Hid (NoH p w)) (i : Int) :
    Calls Try.prog 10 #[.pointer p, .int .i64 i] w fun e w' => e = .returned (.tuple #[.int .u16 0, .agg #[.bool false, .int .i64 0, .int .i64 0, .bool false]]) ∧ Below w.heap.size w w' := by
  have h2 : Hid (NoH p (w.alloc (.cells #[.bool false, .int .i64 0, .int .i64 0, .bool false] 43))) := Lib.hid (h.out.below ((Below.refl _ w).alloc (Nat.le_refl _) _))
  go_enter Try.func10, Try.ntmps10
  go_wp2_with (go_at_call 35; refine (at_none h2 _).mono ?_; rintro e w' ⟨rfl, rfl⟩)
  refine bodyPost_ret (results_slot_cell rfl _ _ w.heap.size 43 #[.bool false, .int .i64 0, .int .i64 0, .bool false] (0, 0) _ rfl (by unfold World.alloc; simp) Try.underlying43 rfl (by kernel_rfl)) rfl ?_
  exact ⟨rfl, (Below.refl _ w).alloc (Nat.le_refl _) _⟩

set_option maxHeartbeats 400000 in
theorem good_none {p : Option Addr} {w : World} (h : Hid (NoH p w)) (i : Int) (t : Bool) :
    Calls Try.prog 17 #[.pointer p, .int .i64 i, .bool t] w fun e w' => e = .returned (.int .i64 1) ∧ Below w.heap.size w w' := by
  have hb : Hid (Below w.heap.size w ((w.alloc (.cells #[.pointer p] 31)).alloc (.cells #[.bool t] 4))) := Lib.hid (((Below.refl _ w).alloc (Nat.le_refl _) _).alloc (by simp) _)
  have h2 : Hid (NoH p ((w.alloc (.cells #[.pointer p] 31)).alloc (.cells #[.bool t] 4))) := Lib.hid (h.out.below hb.out)
  go_enter Try.func17, Try.ntmps17
  go_wp2_with (go_at_call 48; refine (note_none h2 _ _).mono ?_; rintro e w' ⟨rfl, rfl⟩)
  go_ret
  exact ⟨rfl, hb.out⟩

set_option maxHeartbeats 400000 in
theorem bad_none {p : Option Addr} {w : World} (h : Hid (NoH p w)) (i : Int) (t : Bool) :
    Calls Try.prog 18 #[.pointer p, .int .i64 i, .bool t] w fun e w' => e = .returned (.int .i64 1) ∧ Below w.heap.size w w' := by
  have hb : Hid (Below w.heap.size w ((w.alloc (.cells #[.pointer p] 31)).alloc (.cells #[.bool t] 4))) := Lib.hid (((Below.refl _ w).alloc (Nat.le_refl _) _).alloc (by simp) _)
  have h2 : Hid (NoH p ((w.alloc (.cells #[.pointer p] 31)).alloc (.cells #[.bool t] 4))) := Lib.hid (h.out.below hb.out)
  go_enter Try.func18, Try.ntmps18
  go_wp2_with (go_at_call 48; refine (note_none h2 _ _).mono ?_; rintro e w' ⟨rfl, rfl⟩)
  go_ret
  exact ⟨rfl, hb.out⟩

set_option maxHeartbeats 400000 in
theorem back_none {p : Option Addr} {w : World} (h : Hid (NoH p w)) (i : Int) (t : Bool) :
    Calls Try.prog 19 #[.pointer p, .int .i64 i, .bool t] w fun e w' => e = .returned (.int .i64 1) ∧ Below w.heap.size w w' := by
  have hb : Hid (Below w.heap.size w (w.alloc (.cells #[.bool t] 4))) := Lib.hid ((Below.refl _ w).alloc (Nat.le_refl _) _)
  have h2 : Hid (NoH p (w.alloc (.cells #[.bool t] 4))) := Lib.hid (h.out.below hb.out)
  go_enter Try.func19, Try.ntmps19
  go_wp2_with (go_at_call 48; refine (note_none h2 _ _).mono ?_; rintro e w' ⟨rfl, rfl⟩)
  go_ret
  exact ⟨rfl, hb.out⟩

set_option maxHeartbeats 400000 in
theorem reload_none {p : Option Addr} {w : World} (h : Hid (NoH p w)) (cs : Array Value) (hc : ¬ cs = #[]) :
    Calls Try.prog 11 #[.pointer p, .agg cs] w fun e w' => e = .returned (.int .i64 1) ∧ Below w.heap.size w w' := by
  have hb : Hid (Below w.heap.size w (w.alloc (.cells cs 29))) := Lib.hid ((Below.refl _ w).alloc (Nat.le_refl _) _)
  have h2 : Hid (NoH p (w.alloc (.cells cs 29))) := Lib.hid (h.out.below hb.out)
  go_enter Try.func11, Try.ntmps11
  go_wp2_with (go_at_call 34; refine (none_any h2.out).mono ?_; rintro e w' ⟨rfl, rfl⟩)
  go_ret
  exact ⟨rfl, hb.out⟩

/-- The parents of a configuration that came in. -/
def Ps (w : World) (a : Option Addr) (len : Nat) : Prop :=
  len = 0 ∨ ∃ b off, a = some ⟨b, off, none⟩ ∧ b < w.heap.size ∧ ∀ i, i < len → ∃ s1 s2, w.cell? ⟨b, off + i * 8, none⟩ = some (.string s1) ∧ w.cell? ⟨b, off + i * 8 + 2, none⟩ = some (.string s2)

theorem Ps.below {w w' : World} {a : Option Addr} {len : Nat} (h : Ps w a len) (hb : Below w.heap.size w w') : Ps w' a len := by
  refine h.imp id ?_
  rintro ⟨b, off, rfl, hlt, hc⟩
  refine ⟨b, off, rfl, Nat.lt_of_lt_of_le hlt hb.size, fun i hi => ?_⟩
  obtain ⟨s1, s2, c1, c2⟩ := hc i hi
  exact ⟨s1, s2, (hb.cell (p := ⟨b, _, none⟩) hlt).trans c1, (hb.cell (p := ⟨b, _, none⟩) hlt).trans c2⟩

def LongPost (w : World) (e : Ending) (w' : World) : Prop := ∃ r : Bool, e = .returned (.bool r) ∧ Below w.heap.size w w'

set_option maxHeartbeats 1000000 in
theorem long_any {w : World} {a : Option Addr} {len cap : Nat} (c0 c1 c2 c3 c4 c5 c6 c7 c8 c9 c10 c11 c12 c14 c15 : Value) (h : Ps w a len) (hm : len ≤ 9223372036854775807) :
    Calls Try.prog 8 #[.agg #[c0, c1, c2, c3, c4, c5, c6, c7, c8, c9, c10, c11, c12, .slice a len cap, c14, c15]] w (LongPost w) := by
  have hb : Hid (Below w.heap.size w (w.alloc (.cells #[c0, c1, c2, c3, c4, c5, c6, c7, c8, c9, c10, c11, c12, .slice a len cap, c14, c15] 29))) := Lib.hid ((Below.refl _ w).alloc (Nat.le_refl _) _)
  have hp := Lib.hid (h.below hb.out)
  have hc : (w.alloc (.cells #[c0, c1, c2, c3, c4, c5, c6, c7, c8, c9, c10, c11, c12, .slice a len cap, c14, c15] 29)).cell? ⟨w.heap.size, 13, none⟩ = some (.slice a len cap) := by go_simp
  clear h
  go_enter Try.func8, Try.ntmps8
  by_cases hbig : 30 < len
  · go_wp2_with fail
    go_ret
    exact ⟨_, rfl, hb.out⟩
  · go_wp2_with fail
    generalize w.alloc (.cells #[c0, c1, c2, c3, c4, c5, c6, c7, c8, c9, c10, c11, c12, .slice a len cap, c14, c15] 29) = W at *
    go_loop [3] (fun i => ∃ k : Nat, k ≤ len ∧ i = .int .i64 k) (fun i => len - (intOf i).toNat)
    case atStart => exact ⟨0, Nat.zero_le _, rfl⟩
    case round =>
      obtain ⟨k, hk, rfl⟩ := hrel
      by_cases hlt : k < len
      · rcases hp.out with h0 | ⟨b, off, rfl, hbl, hcs⟩
        · omega
        · obtain ⟨s1, s2, e1, e2⟩ := hcs k hlt
          clear hcs
          by_cases h1 : 100 < s1.size
          · go_wp2_with fail
            go_ret
            exact ⟨_, rfl, hb.out⟩
          · by_cases h2 : 100 < s2.size
            · go_wp2_with fail
              go_ret
              exact ⟨_, rfl, hb.out⟩
            · go_wp2_with fail
              go_round
              case rel => exact ⟨k + 1, by omega, by go_num⟩
              case measure => simp [intOf]; omega
      · obtain rfl : k = len := by omega
        go_wp2_with fail
        go_ret
        exact ⟨_, rfl, hb.out⟩

/-- The cells of the slice of the two. -/
def Two (w : World) (B : Nat) : Prop := w.cell? ⟨B, 0, none⟩ = some (.pointer none) ∧ ∃ b, w.cell? ⟨B, 1, none⟩ = some (.pointer (some ⟨b, 0, none⟩)) ∧ w.cell? ⟨b, 12, none⟩ = some (.int .i64 0)

theorem Two.at {w : World} {B k : Nat} (h : Two w B) (hk : k < 2) : ∃ p, w.cell? ⟨B, k, none⟩ = some (.pointer p) ∧ NoH p w := by
  obtain ⟨h0, b, h1, h2⟩ := h
  match k, hk with
  | 0, _ => exact ⟨none, h0, .inl rfl⟩
  | 1, _ => exact ⟨_, h1, .inr ⟨b, rfl, h2⟩⟩

set_option maxRecDepth 100000 in
set_option maxHeartbeats 4000000 in
theorem nil_core {i : Int} {t : Bool} {w : World} {a : Option Addr} {len cap : Nat} (c0 c1 c2 c3 c4 c5 c6 c7 c8 c9 c10 c11 c12 c14 c15 : Value) (h : Ps w a len) (hm : len ≤ 9223372036854775807) :
    Calls Try.prog 3 #[.int .i64 i, .bool t, .agg #[c0, c1, c2, c3, c4, c5, c6, c7, c8, c9, c10, c11, c12, .slice a len cap, c14, c15]] w fun e w' => e = .returned (.bool true) ∧ Below w.heap.size w w' := by
  replace h := Lib.hid h
  go_enter Try.func3, Try.ntmps3
  go_wp2_with fail
  have hb0 : Hid (Below w.heap.size w (w.alloc (.cells #[c0, c1, c2, c3, c4, c5, c6, c7, c8, c9, c10, c11, c12, .slice a len cap, c14, c15] 29))) := Lib.hid ((Below.refl _ w).alloc (Nat.le_refl _) _)
  have hcfg : Hid (∀ j, (w.alloc (.cells #[c0, c1, c2, c3, c4, c5, c6, c7, c8, c9, c10, c11, c12, .slice a len cap, c14, c15] 29)).cell? ⟨w.heap.size, j, none⟩ = (#[c0, c1, c2, c3, c4, c5, c6, c7, c8, c9, c10, c11, c12, .slice a len cap, c14, c15] : Array Value)[j]?) := Lib.hid (fun j => by go_simp)
  refine (long_any c0 c1 c2 c3 c4 c5 c6 c7 c8 c9 c10 c11 c12 c14 c15 (h.out.below hb0.out) hm).mono ?_
  rintro e w1 ⟨r, rfl, hb1⟩
  replace hb1 := Lib.hid hb1
  cases r with
  | true =>
    go_wp2_with fail
    go_ret
    exact ⟨rfl, hb0.out.trans (hb1.out.mono hb0.out.size)⟩
  | false =>
    go_wp2_with fail
    have hT : Hid (Two ((w1.alloc (.cells #[.int .i64 0, .int .i64 0, .int .i64 0, .int .i64 0, .int .i64 0, .int .i64 0, .int .i64 0, .int .i64 0, .int .i64 0, .int .i64 0, .int .i64 0, .int .i64 0, .int .i64 0, .slice none 0 0, .pointer none] 35)).alloc (.cells #[.pointer none, .pointer (some ⟨w1.heap.size, 0, none⟩)] 31)) (w1.heap.size + 1)) := Lib.hid ⟨by go_simp, w1.heap.size, by go_simp, by go_simp⟩
    have hB : Hid (Below w1.heap.size w1 ((w1.alloc (.cells #[.int .i64 0, .int .i64 0, .int .i64 0, .int .i64 0, .int .i64 0, .int .i64 0, .int .i64 0, .int .i64 0, .int .i64 0, .int .i64 0, .int .i64 0, .int .i64 0, .int .i64 0, .slice none 0 0, .pointer none] 35)).alloc (.cells #[.pointer none, .pointer (some ⟨w1.heap.size, 0, none⟩)] 31))) := Lib.hid (((Below.refl _ w1).alloc (Nat.le_refl _) _).alloc (by simp) _)
    have hbw : Hid (w.heap.size < w1.heap.size) := Lib.hid (by have := hb1.out.size; simp at this; omega)
    have hTs : Hid (w1.heap.size + 1 < ((w1.alloc (.cells #[.int .i64 0, .int .i64 0, .int .i64 0, .int .i64 0, .int .i64 0, .int .i64 0, .int .i64 0, .int .i64 0, .int .i64 0, .int .i64 0, .int .i64 0, .int .i64 0, .int .i64 0, .slice none 0 0, .pointer none] 35)).alloc (.cells #[.pointer none, .pointer (some ⟨w1.heap.size, 0, none⟩)] 31)).heap.size) := Lib.hid (by simp)
    generalize hW : (w1.alloc (.cells #[.int .i64 0, .int .i64 0, .int .i64 0, .int .i64 0, .int .i64 0, .int .i64 0, .int .i64 0, .int .i64 0, .int .i64 0, .int .i64 0, .int .i64 0, .int .i64 0, .int .i64 0, .slice none 0 0, .pointer none] 35)).alloc (.cells #[.pointer none, .pointer (some ⟨w1.heap.size, 0, none⟩)] 31) = W at *
    generalize hTB : w1.heap.size + 1 = TB at *
    have hcf : Hid (∀ j v, (#[c0, c1, c2, c3, c4, c5, c6, c7, c8, c9, c10, c11, c12, .slice a len cap, c14, c15] : Array Value)[j]? = some v → W.cell? ⟨w.heap.size, j, none⟩ = some v) := Lib.hid (fun j v hv => by
      have h1 := hcfg.out j
      rw [hv] at h1
      exact (hB.out.cell (p := ⟨w.heap.size, j, none⟩) hbw.out).trans ((hb1.out.cell (p := ⟨w.heap.size, j, none⟩) (by simp)).trans h1))
    clear hW hTB hcfg
    go_loopw [9] (fun i wr => ∃ k : Nat, k ≤ 2 ∧ i = .int .i64 k ∧ Hid (Below W.heap.size W wr)) (fun i _ => 2 - (intOf i).toNat)
    case atStart => exact ⟨0, by omega, rfl, Lib.hid (Below.refl _ _)⟩
    case round =>
      obtain ⟨k, hk, rfl, hbr⟩ := hrel
      by_cases hlt : k < 2
      · obtain ⟨p, hp, hn⟩ := hT.out.at hlt
        replace hp := (hbr.out.cell (p := ⟨TB, k, none⟩) (World.block_lt_of_cell? _ _ hp)).trans hp
        replace hn := hn.below hbr.out
        replace hn := Lib.hid hn
        go_wp2_with fail
        refine (try_none hn i).mono ?_
        rintro e w' ⟨rfl, rfl⟩
        go_wp2_with fail
        refine (tells_none hn i).mono ?_
        rintro e w2 ⟨rfl, hb2⟩
        have hb3 := Lib.hid (hbr.out.trans (hb2.mono hbr.out.size))
        have hn2 := Lib.hid (hn.out.below hb2)
        have hWs : Hid (w.heap.size < W.heap.size) := Lib.hid (Nat.lt_of_lt_of_le hbw.out hB.out.size)
        have hlt2 : w.heap.size < w2.heap.size := Nat.lt_of_lt_of_le hWs.out hb3.out.size
        clear hb2 hp hbr
        have f0 : w2.cell? ⟨w.heap.size, 0, none⟩ = some (c0) := (hb3.out.cell (p := ⟨w.heap.size, 0, none⟩) hWs.out).trans (hcf.out 0 _ rfl)
        have f1 : w2.cell? ⟨w.heap.size, 1, none⟩ = some (c1) := (hb3.out.cell (p := ⟨w.heap.size, 1, none⟩) hWs.out).trans (hcf.out 1 _ rfl)
        have f2 : w2.cell? ⟨w.heap.size, 2, none⟩ = some (c2) := (hb3.out.cell (p := ⟨w.heap.size, 2, none⟩) hWs.out).trans (hcf.out 2 _ rfl)
        have f3 : w2.cell? ⟨w.heap.size, 3, none⟩ = some (c3) := (hb3.out.cell (p := ⟨w.heap.size, 3, none⟩) hWs.out).trans (hcf.out 3 _ rfl)
        have f4 : w2.cell? ⟨w.heap.size, 4, none⟩ = some (c4) := (hb3.out.cell (p := ⟨w.heap.size, 4, none⟩) hWs.out).trans (hcf.out 4 _ rfl)
        have f5 : w2.cell? ⟨w.heap.size, 5, none⟩ = some (c5) := (hb3.out.cell (p := ⟨w.heap.size, 5, none⟩) hWs.out).trans (hcf.out 5 _ rfl)
        have f6 : w2.cell? ⟨w.heap.size, 6, none⟩ = some (c6) := (hb3.out.cell (p := ⟨w.heap.size, 6, none⟩) hWs.out).trans (hcf.out 6 _ rfl)
        have f7 : w2.cell? ⟨w.heap.size, 7, none⟩ = some (c7) := (hb3.out.cell (p := ⟨w.heap.size, 7, none⟩) hWs.out).trans (hcf.out 7 _ rfl)
        have f8 : w2.cell? ⟨w.heap.size, 8, none⟩ = some (c8) := (hb3.out.cell (p := ⟨w.heap.size, 8, none⟩) hWs.out).trans (hcf.out 8 _ rfl)
        have f9 : w2.cell? ⟨w.heap.size, 9, none⟩ = some (c9) := (hb3.out.cell (p := ⟨w.heap.size, 9, none⟩) hWs.out).trans (hcf.out 9 _ rfl)
        have f10 : w2.cell? ⟨w.heap.size, 10, none⟩ = some (c10) := (hb3.out.cell (p := ⟨w.heap.size, 10, none⟩) hWs.out).trans (hcf.out 10 _ rfl)
        have f11 : w2.cell? ⟨w.heap.size, 11, none⟩ = some (c11) := (hb3.out.cell (p := ⟨w.heap.size, 11, none⟩) hWs.out).trans (hcf.out 11 _ rfl)
        have f12 : w2.cell? ⟨w.heap.size, 12, none⟩ = some (c12) := (hb3.out.cell (p := ⟨w.heap.size, 12, none⟩) hWs.out).trans (hcf.out 12 _ rfl)
        have f13 : w2.cell? ⟨w.heap.size, 13, none⟩ = some (.slice a len cap) := (hb3.out.cell (p := ⟨w.heap.size, 13, none⟩) hWs.out).trans (hcf.out 13 _ rfl)
        have f14 : w2.cell? ⟨w.heap.size, 14, none⟩ = some (c14) := (hb3.out.cell (p := ⟨w.heap.size, 14, none⟩) hWs.out).trans (hcf.out 14 _ rfl)
        have f15 : w2.cell? ⟨w.heap.size, 15, none⟩ = some (c15) := (hb3.out.cell (p := ⟨w.heap.size, 15, none⟩) hWs.out).trans (hcf.out 15 _ rfl)
        go_wp2_with fail
        have hB5 := Lib.hid (hb3.out.trans (((Below.refl _ w2).alloc (Nat.le_refl _) (.cells #[.bool false, .int .i64 0, .int .i64 0, .bool false] 43)).mono hb3.out.size))
        have hN := Lib.hid (hn2.out.below ((Below.refl _ w2).alloc (Nat.le_refl _) (.cells #[.bool false, .int .i64 0, .int .i64 0, .bool false] 43)))
        clear f0 f1 f2 f3 f4 f5 f6 f7 f8 f9 f10 f11 f12 f13 f14 f15 hlt2 hn2 hn hb3
        refine (reload_none hN _ (by simp)).mono ?_
        rintro e w5 ⟨rfl, hx⟩
        replace hN := Lib.hid (hN.out.below hx)
        replace hB5 := Lib.hid (hB5.out.trans (hx.mono hB5.out.size))
        clear hx
        go_wp2_with fail
        refine (tick_none hN).mono ?_
        rintro e w' ⟨rfl, rfl⟩
        go_wp2_with fail
        refine (now_none hN).mono ?_
        rintro e w' ⟨rfl, rfl⟩
        go_wp2_with fail
        refine (key_none hN i).mono ?_
        rintro e w' ⟨rfl, rfl⟩
        go_wp2_with fail
        refine (place_none hN i).mono ?_
        rintro e w6 ⟨rfl, hx⟩
        replace hN := Lib.hid (hN.out.below hx)
        replace hB5 := Lib.hid (hB5.out.trans (hx.mono hB5.out.size))
        clear hx
        go_wp2_with fail
        refine (lets_none hN i).mono ?_
        rintro e w7 ⟨rfl, hx⟩
        replace hN := Lib.hid (hN.out.below hx)
        replace hB5 := Lib.hid (hB5.out.trans (hx.mono hB5.out.size))
        clear hx
        go_wp2_with fail
        refine (good_none hN i t).mono ?_
        rintro e w8 ⟨rfl, hx⟩
        replace hN := Lib.hid (hN.out.below hx)
        replace hB5 := Lib.hid (hB5.out.trans (hx.mono hB5.out.size))
        clear hx
        go_wp2_with fail
        refine (bad_none hN i t).mono ?_
        rintro e w9 ⟨rfl, hx⟩
        replace hN := Lib.hid (hN.out.below hx)
        replace hB5 := Lib.hid (hB5.out.trans (hx.mono hB5.out.size))
        clear hx
        go_wp2_with fail
        refine (back_none hN i t).mono ?_
        rintro e w10 ⟨rfl, hx⟩
        replace hN := Lib.hid (hN.out.below hx)
        replace hB5 := Lib.hid (hB5.out.trans (hx.mono hB5.out.size))
        clear hx
        go_wp2_with fail
        go_roundw
        case rel => exact ⟨k + 1, by omega, by go_num, hB5⟩
        case measure => simp [intOf]; omega
      · go_wp2_with fail
        go_ret
        exact ⟨rfl, hb0.out.trans ((hb1.out.trans ((hB.out.trans (hbr.out.mono hB.out.size)).mono hb1.out.size)).mono hb0.out.size)⟩
end Go.Proofs.Ytkncjnpgnpoloaa
