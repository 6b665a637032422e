/-
  Same: contract.
-/
import Derived.Test.YtmddbnfhbnofgaaDoorTok3
import Derived.Deep.QuietTactic
namespace Go.Proofs.YtmddbnfhbnofgaaDoor
open Go.RowKit Go.BigFrame

theorem Strs.drewN {w : World} {a : Option Addr} {len : Nat} {xs : List ByteArray} (h : Strs w a len xs) (q : Nat) : Strs (w.drewN q) a len xs := h

theorem take_eq_snoc {α : Type} {xs ys : List α} {k : Nat} {x : α} (h : xs.take k = ys.take k) (hx : xs[k]? = some x) (hy : ys[k]? = some x) : xs.take (k + 1) = ys.take (k + 1) := by
  rw [take_snoc _ hx, take_snoc _ hy, h]

theorem toList_ne {x y : ByteArray} (h : ¬ x = y) : (x.toList == y.toList) = false := by
  rw [beq_eq_false_iff_ne]
  intro e
  rw [ByteArray.toList_eq, ByteArray.toList_eq] at e
  exact h (ByteArray.ext (Array.toList_inj.1 e))

def SamePost (b : Bool) (w : World) (e : Ending) (w' : World) : Prop := e = .returned (.bool b) ∧ ∃ q, w' = w.drewN q

set_option maxHeartbeats 1000000 in
theorem same_any {w : World} {a a2 : Option Addr} {n n2 c c2 : Nat} {xs ys : List ByteArray} (h : Strs w a n xs) (h2 : Strs w a2 n2 ys) (hm : n ≤ 9223372036854775807) (hm2 : n2 ≤ 9223372036854775807) (b : Bool) (hb : b = decide (xs = ys)) :
    Calls Tryd.prog 11 #[.slice a n c, .slice a2 n2 c2] w (SamePost b w) := by
  have hl := h.1
  have hl2 := h2.1
  by_cases hne : n = n2
  · subst hne
    replace h := Lib.hid h
    replace h2 := Lib.hid h2
    replace hl := Lib.hid hl
    replace hl2 := Lib.hid hl2
    replace hb := Lib.hid hb
    have hnn : ((n : Int) != (n : Int)) = false := by simp
    go_enter Tryd.func11, Tryd.ntmps11
    go_wp2
    go_loopw [5] (fun i wx => ∃ k : Nat, k ≤ n ∧ i = .int .i64 k ∧ Hid (xs.take k = ys.take k) ∧ ∃ q, wx = w.drewN q) (fun i _ => n - (intOf i).toNat)
    case atStart => exact ⟨0, Nat.zero_le _, rfl, Lib.hid (by simp), 0, rfl⟩
    case round =>
      obtain ⟨k, hk, rfl, hp, q, rfl⟩ := hrel
      by_cases hlt : k < n
      · obtain ⟨b1, off1, x, hx, _, rfl, _, hc1⟩ := h.out.at hlt
        obtain ⟨b2, off2, y, hy, _, rfl, _, hc2⟩ := h2.out.at hlt
        have hk0 : (0 : Int) ≤ (k : Int) := by omega
        have hk1 : (k : Int) < (n : Int) := by omega
        replace hx := Lib.hid hx
        replace hy := Lib.hid hy
        have d1 : (w.drewN q).cell? ⟨b1, off1 + k, none⟩ = some (.string x) := hc1
        have d2 : (w.drewN q).cell? ⟨b2, off2 + k, none⟩ = some (.string y) := hc2
        clear hc1 hc2
        generalize hW : w.drewN q = W at *
        by_cases hxy : x = y
        · subst hxy
          go_wp2_with fail
          go_quiet (fail)
          go_wp2_with fail
          subst hW
          go_roundw
          case rel => exact ⟨k + 1, by omega, by go_num, Lib.hid (take_eq_snoc hp.out hx.out hy.out), _, World.drewN_drewN ..⟩
          case measure => simp [intOf]; omega
        · have hne := toList_ne hxy
          have hf : Hid (b = false) := Lib.hid (by
            rw [hb.out, decide_eq_false]
            intro e
            rw [e] at hx
            have := hx.out.symm.trans hy.out
            exact hxy (Option.some.inj this))
          go_wp2_with fail
          go_quiet (fail)
          go_wp2_with fail
          subst hW
          go_ret
          exact ⟨by rw [hf.out]; rfl, _, World.drewN_drewN ..⟩
      · obtain rfl : k = n := by omega
        go_wp2_with fail
        go_ret
        refine ⟨?_, q, rfl⟩
        have e1 : xs = ys := by
          have := hp.out
          rwa [List.take_of_length_le (by rw [hl.out]; exact Nat.le_refl _), List.take_of_length_le (by rw [hl2.out]; exact Nat.le_refl _)] at this
        rw [hb.out, decide_eq_true e1]; rfl
  · have hb' : Hid (b = false) := Lib.hid (by rw [hb, decide_eq_false]; rintro rfl; omega)
    have hnn : ((n : Int) != (n2 : Int)) = true := by simp; omega
    clear h h2 hl hl2 hb
    go_enter Tryd.func11, Tryd.ntmps11
    go_wp2
    go_ret
    exact ⟨by rw [hb'.out]; rfl, 0, rfl⟩

end Go.Proofs.YtmddbnfhbnofgaaDoor
