/-
  Check, Same, the guard: contracts.
-/
import Derived.Test.YtmddbnfhbnofgaaDoorTok
namespace Go.Proofs.YtmddbnfhbnofgaaDoor
open Go.RowKit Go.BigFrame

theorem contains_any {w : World} {a : Option Addr} {len cap : Nat} {xs : List ByteArray} (h : Strs w a len xs) (hm : len ≤ 9223372036854775807) (x : ByteArray) :
    Calls Tryd.prog 23 #[.slice a len cap, .string x] w fun e w' => e = .returned (.bool (Lib.containsS xs x)) ∧ w = w' := by
  obtain ⟨h1, h2, h3⟩ := h
  rcases Nat.eq_zero_or_pos len with h0 | h0
  · subst h0
    obtain rfl : xs = [] := List.eq_nil_of_length_eq_zero h1
    refine (Tryd.slices_Contains_string_empty a cap x w).mono ?_
    rintro e w' ⟨rfl, rfl⟩
    exact ⟨rfl, rfl⟩
  · rcases h3 with h3 | ⟨b, off, rfl, hlt, hc⟩
    · omega
    · refine (Tryd.slices_Contains_string b off len cap xs x w (by omega) hm (fun j hj => ?_)).mono ?_
      · rw [hc j xs[j] (List.getElem?_eq_getElem hj)]
        simp [List.getD, List.getElem?_eq_getElem hj]
      · rintro e w' ⟨rfl, rfl⟩
        rw [List.take_of_length_le (by omega)]
        exact ⟨rfl, rfl⟩

/-- Check. -/
def chk (own : ByteArray) (xs : List ByteArray) (most : Int) : Int := if may xs = true ∧ Lib.containsS xs own = false ∧ (xs.length : Int) < most then 0 else 170

set_option maxHeartbeats 1000000 in
theorem check_any {w : World} {a : Option Addr} {len cap : Nat} {xs : List ByteArray} (h : Strs w a len xs) (hm : len ≤ 9223372036854775807) (own : ByteArray) (most : Int) :
    Calls Tryd.prog 9 #[.string own, .slice a len cap, .int .i64 most] w fun e w' => e = .returned (.int .i64 (chk own xs most)) ∧ w = w' := by
  have hl := h.1
  replace h := Lib.hid h
  cases hmay : may xs with
  | false =>
    have hc : Hid (chk own xs most = 170) := Lib.hid (by unfold chk; rw [if_neg (by rw [hmay]; simp)])
    replace hmay := Lib.hid hmay
    go_enter Tryd.func9, Tryd.ntmps9
    go_wp2_with (go_at_call 12; refine (may_any h.out hm).mono ?_; rintro e w' ⟨rfl, rfl⟩; rw [hmay.out])
    go_ret
    exact ⟨by rw [hc.out]; rfl, rfl⟩
  | true =>
    cases hcon : Lib.containsS xs own with
    | true =>
      have hc : Hid (chk own xs most = 170) := Lib.hid (by unfold chk; rw [if_neg (by rw [hcon]; simp)])
      replace hmay := Lib.hid hmay
      replace hcon := Lib.hid hcon
      go_enter Tryd.func9, Tryd.ntmps9
      go_wp2_with (first | (go_at_call 12; refine (may_any h.out hm).mono ?_; rintro e w' ⟨rfl, rfl⟩; rw [hmay.out]) | (go_at_call 23; refine (contains_any h.out hm own).mono ?_; rintro e w' ⟨rfl, rfl⟩; rw [hcon.out]))
      go_ret
      exact ⟨by rw [hc.out]; rfl, rfl⟩
    | false =>
      by_cases hlt : (len : Int) < most
      · have hc : Hid (chk own xs most = 0) := Lib.hid (by unfold chk; rw [if_pos ⟨hmay, hcon, by rw [hl]; exact hlt⟩])
        replace hmay := Lib.hid hmay
        replace hcon := Lib.hid hcon
        go_enter Tryd.func9, Tryd.ntmps9
        go_wp2_with (first | (go_at_call 12; refine (may_any h.out hm).mono ?_; rintro e w' ⟨rfl, rfl⟩; rw [hmay.out]) | (go_at_call 23; refine (contains_any h.out hm own).mono ?_; rintro e w' ⟨rfl, rfl⟩; rw [hcon.out]))
        go_ret
        exact ⟨by rw [hc.out]; rfl, rfl⟩
      · have hc : Hid (chk own xs most = 170) := Lib.hid (by unfold chk; rw [if_neg (by rw [hl]; exact fun hh => hlt hh.2.2)])
        replace hmay := Lib.hid hmay
        replace hcon := Lib.hid hcon
        go_enter Tryd.func9, Tryd.ntmps9
        go_wp2_with (first | (go_at_call 12; refine (may_any h.out hm).mono ?_; rintro e w' ⟨rfl, rfl⟩; rw [hmay.out]) | (go_at_call 23; refine (contains_any h.out hm own).mono ?_; rintro e w' ⟨rfl, rfl⟩; rw [hcon.out]))
        go_ret
        exact ⟨by rw [hc.out]; rfl, rfl⟩

/-- The guard. -/
def GreatPost (xs : List ByteArray) (w : World) (e : Ending) (w' : World) : Prop := ∃ r : Bool, e = .returned (.bool r) ∧ (r = false → xs.length ≤ 20 ∧ ∀ x ∈ xs, x.size ≤ 100) ∧ w = w'

set_option maxHeartbeats 1000000 in
theorem great_any {w : World} {a : Option Addr} {len cap : Nat} {xs : List ByteArray} (h : Strs w a len xs) (hm : len ≤ 9223372036854775807) :
    Calls Tryd.prog 7 #[.slice a len cap] w (GreatPost xs w) := by
  have hl := h.1
  by_cases hbig : 20 < len
  · clear h hl
    go_enter Tryd.func7, Tryd.ntmps7
    go_wp2
    go_ret
    exact ⟨true, rfl, by simp, rfl⟩
  · replace h := Lib.hid h
    replace hl := Lib.hid hl
    go_enter Tryd.func7, Tryd.ntmps7
    go_wp2
    go_loop [3] (fun i => ∃ k : Nat, k ≤ len ∧ i = .int .i64 k ∧ Hid (∀ x ∈ xs.take k, x.size ≤ 100)) (fun i => len - (intOf i).toNat)
    case atStart => exact ⟨0, Nat.zero_le _, rfl, Lib.hid (by simp)⟩
    case round =>
      obtain ⟨k, hk, rfl, hg⟩ := hrel
      by_cases hlt : k < len
      · obtain ⟨b, off, x, hx, hxm, rfl, hb, hc⟩ := h.out.at hlt
        replace hx := Lib.hid hx
        by_cases h1 : 100 < x.size
        · go_wp2
          go_ret
          exact ⟨true, rfl, by simp, rfl⟩
        · go_wp2
          go_round
          case rel =>
            refine ⟨k + 1, by omega, by go_num, Lib.hid ?_⟩
            rw [take_snoc _ hx.out]
            intro y hy
            simp at hy
            rcases hy with hy | rfl
            · exact hg.out y hy
            · omega
          case measure => simp [intOf]; omega
      · obtain rfl : k = len := by omega
        go_wp2
        go_ret
        refine ⟨false, rfl, fun _ => ⟨by rw [hl.out]; omega, fun x hx => hg.out x ?_⟩, rfl⟩
        rw [List.take_of_length_le (by rw [hl.out]; exact Nat.le_refl _)]; exact hx

end Go.Proofs.YtmddbnfhbnofgaaDoor
