/-
  The walk of TokenBack.
-/
import Derived.Test.YtmddbnfhbnofgaaDoorTokPr
import Derived.Test.YtmddbnfhbnofgaaDoorTokOpen
namespace Go.Proofs.YtmddbnfhbnofgaaDoor
open Go.RowKit Go.BigFrame

set_option maxRecDepth 100000 in
set_option maxHeartbeats 2000000 in
theorem tokenBack_core {w : World} {a : Option Addr} {len cap : Nat} {xs : List ByteArray} (h : Strs w a len xs) (hm : len ≤ 9223372036854775807) (hcap : len ≤ cap) (s : ByteArray) (hs : s.size ≤ 9223372036854775807) (c : UInt8) :
    Calls Tryd.prog 4 #[.slice a len cap, .string s, .int .u8 c.toNat] w (TruePost w) := by
  replace h := Lib.hid h
  go_enter Tryd.func4, Tryd.ntmps4
  go_wp2_with fail
  refine (awake_any w).mono ?_
  rintro e w1 ⟨rfl, hB1⟩
  replace h := Lib.hid (h.out.below hB1)
  replace hB1 := Lib.hid hB1
  go_wp2_with fail
  refine (great_any h.out hm).mono ?_
  rintro e w1' ⟨r, rfl, hg, rfl⟩
  cases r with
  | true =>
    clear hg
    go_wp2_with fail
    go_ret
    exact ⟨rfl, hB1.out⟩
  | false =>
    replace hg := Lib.hid (hg rfl)
    have h20 : len ≤ 20 := by rw [← h.out.1]; exact hg.out.1
    by_cases h1000 : 1000 < s.size
    · go_wp2_with fail
      go_ret
      exact ⟨rfl, hB1.out⟩
    · go_wp2_with fail
      refine (print_any h.out hm hcap c).mono ?_
      rintro e w2 ⟨rfl, hB2⟩
      replace h := Lib.hid (h.out.below hB2)
      replace hB2 := Lib.hid (hB1.out.trans (hB2.mono hB1.out.size))
      clear hB1
      rcases prn_cases c xs with h0 | ⟨h1, h2⟩
      · obtain ⟨b1, b2⟩ := back1 h0
        have hsz : (prn c xs).1.size ≤ 1000 := prn_size c xs
        rw [h0]
        generalize (prn c xs).1 = t at *
        replace b1 := Lib.hid b1
        replace b2 := Lib.hid b2
        clear h0
        go_wp2_with fail
        refine (parse_any t c (by omega) w2).mono ?_
        rintro e w3 ⟨a3, k3, rfl, hst, hB3, hk3⟩
        rw [b1.out] at hst hk3 ⊢
        replace h := Lib.hid (h.out.below hB3)
        replace hB3 := Lib.hid (hB2.out.trans (hB3.mono hB2.out.size))
        have hx20 : xs.length ≤ 20 := hg.out.1
        replace hst := Lib.hid hst
        clear hB2 hk3
        go_wp2_with fail
        refine (same_any h.out hst.out hm (by omega) true (by rw [decide_eq_true rfl])).mono ?_
        rintro e w4 ⟨rfl, q, rfl⟩
        replace h : Hid (Strs (w3.drewN q) a len xs) := h
        have HBW : Hid (Below w.heap.size w (w3.drewN q)) := Lib.hid (below_drewN hB3.out q)
        clear hB3 hst
        generalize w3.drewN q = W at *
        go_wp2_with fail
        refine (may_any h.out hm).mono ?_
        rintro e w7 ⟨rfl, rfl⟩
        rw [b2.out]
        go_wp2_with fail
        refine (parse_any s c (by omega) _).mono ?_
        rintro e w5 ⟨a5, k5, rfl, hst5, hB5, hk5⟩
        replace hB5 := Lib.hid (HBW.out.trans (hB5.mono HBW.out.size))
        rcases prs_cases c s with g0 | ⟨g1, g2⟩
        · obtain ⟨b3, b4⟩ := back2 g0
          rw [g0]
          generalize (prs c s).1 = m at *
          replace b3 := Lib.hid b3
          replace b4 := Lib.hid b4
          have hm8 := (may_all b4.out).1
          replace hst5 := Lib.hid hst5
          clear g0
          go_wp2_with fail
          refine (print_any hst5.out (by omega) hk5 c).mono ?_
          rintro e w6 ⟨rfl, hB6⟩
          rw [b3.out]
          replace hst5 := Lib.hid (hst5.out.below hB6)
          replace hB6 := Lib.hid (hB5.out.trans (hB6.mono hB5.out.size))
          have hss : (s.toList == s.toList) = true := by simp
          go_wp2_with fail
          refine (may_any hst5.out (by omega)).mono ?_
          rintro e w7 ⟨rfl, rfl⟩
          rw [b4.out]
          go_wp2_with fail
          go_ret
          exact ⟨rfl, hB6.out⟩
        · rw [g1]
          clear hst5 hk5
          rcases g2 with g2 | g2
          · rw [g2]
            go_wp2_with fail
            go_ret
            exact ⟨rfl, hB5.out⟩
          · rw [g2]
            go_wp2_with fail
            go_ret
            exact ⟨rfl, hB5.out⟩
      · rw [h1, h2]
        have HBW := hB2
        clear hB2 h1 h2
        rw [show toB [] = (⟨#[]⟩ : ByteArray) from rfl]
        go_wp2_with fail
        refine (parse_any s c (by omega) _).mono ?_
        rintro e w5 ⟨a5, k5, rfl, hst5, hB5, hk5⟩
        replace hB5 := Lib.hid (HBW.out.trans (hB5.mono HBW.out.size))
        rcases prs_cases c s with g0 | ⟨g1, g2⟩
        · obtain ⟨b3, b4⟩ := back2 g0
          rw [g0]
          generalize (prs c s).1 = m at *
          replace b3 := Lib.hid b3
          replace b4 := Lib.hid b4
          have hm8 := (may_all b4.out).1
          replace hst5 := Lib.hid hst5
          clear g0
          go_wp2_with fail
          refine (print_any hst5.out (by omega) hk5 c).mono ?_
          rintro e w6 ⟨rfl, hB6⟩
          rw [b3.out]
          replace hst5 := Lib.hid (hst5.out.below hB6)
          replace hB6 := Lib.hid (hB5.out.trans (hB6.mono hB5.out.size))
          have hss : (s.toList == s.toList) = true := by simp
          go_wp2_with fail
          refine (may_any hst5.out (by omega)).mono ?_
          rintro e w7 ⟨rfl, rfl⟩
          rw [b4.out]
          go_wp2_with fail
          go_ret
          exact ⟨rfl, hB6.out⟩
        · rw [g1]
          clear hst5 hk5
          rcases g2 with g2 | g2
          · rw [g2]
            go_wp2_with fail
            go_ret
            exact ⟨rfl, hB5.out⟩
          · rw [g2]
            go_wp2_with fail
            go_ret
            exact ⟨rfl, hB5.out⟩

theorem tokenBack.walk {H : Type} {enc : TypeId × Value → H} {spare : Nat → Bool} {d : DataW H} {ps : List MemPlace} (a0 : Option Addr) (len0 cap0 : Nat) (a1 : ByteArray) (a2 : Int) (w : World)
    (k : DataW.Trod enc Tryd.prog w 0 spare true 22 (.slice a0 len0 cap0) d ps) (h1 : a1.size ≤ maxLen) (h2 : (Lit.int .u8 a2).wf = true) :
    Calls Tryd.prog 4 #[.slice a0 len0 cap0, .string a1, .int .u8 a2] w (TruePost w) := by
  obtain ⟨xs, hs, hc, hm⟩ := strs_opened k
  obtain ⟨c, rfl⟩ := byte_of h2
  exact tokenBack_core hs (by unfold maxLen at hm; omega) hc a1 (by unfold maxLen at h1; omega) c

end Go.Proofs.YtmddbnfhbnofgaaDoor
