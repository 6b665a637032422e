/-
  Print: its contract.
-/
import Derived.Test.YtmddbnfhbnofgaaDoorTokA
namespace Go.Proofs.YtmddbnfhbnofgaaDoor
open Go.RowKit Go.BigFrame

def PrintPost (c : UInt8) (xs : List ByteArray) (w : World) (e : Ending) (w' : World) : Prop := e = .returned (.tuple #[.string (prn c xs).1, .int .i64 (prn c xs).2]) ∧ Below w.heap.size w w'

theorem print_bad {c : UInt8} {xs : List ByteArray} {w w' : World} (h : prn c xs = (toB [], 2)) (hB : Below w.heap.size w w') : PrintPost c xs w (.returned (.tuple #[.string ⟨#[]⟩, .int .i64 2])) w' := by
  refine ⟨?_, hB⟩
  rw [h]; rfl

theorem len_join8 : ∀ (xs : List ByteArray) (s : List UInt8), (∀ x ∈ xs, x.size ≤ 8) → s.length = 1 → (Lib.join (xs.map (·.data.toList)) s).length ≤ 9 * xs.length
  | [], s, _, _ => by simp [Lib.join_nil]
  | [x], s, h, _ => by
    have := h x (by simp)
    have e : x.data.toList.length = x.size := by rw [Array.length_toList]; rfl
    simp only [List.map_cons, List.map_nil, Lib.join_one, List.length_cons, List.length_nil]
    omega
  | x :: y :: r, s, h, hs => by
    have ih := len_join8 (y :: r) s (fun z hz => h z (by simp at hz ⊢; exact .inr hz)) hs
    have := h x (by simp)
    have e : x.data.toList.length = x.size := by rw [Array.length_toList]; rfl
    have e2 : Lib.join ((x :: y :: r).map (·.data.toList)) s = x.data.toList ++ s ++ Lib.join ((y :: r).map (·.data.toList)) s := by
      simp only [List.map_cons]
      rw [Lib.join_cons, Lib.join_cons]
      simp [Lib.joinTail]
    rw [e2]
    simp only [List.length_append, List.length_cons] at ih ⊢
    omega

theorem join_any {w : World} {a : Option Addr} {len cap : Nat} {xs : List ByteArray} (h : Strs w a len xs) (hcap : len ≤ cap) (hm : may xs = true) (c : UInt8) :
    Calls Tryd.prog 27 #[.slice a len cap, .string ⟨#[c]⟩] w fun e w' => e = .returned (.string (toB (Lib.join (xs.map (·.data.toList)) [c]))) ∧ Below w.heap.size w w' := by
  obtain ⟨h8, hall⟩ := may_all hm
  obtain ⟨h1, h2, h3⟩ := h
  rcases Nat.eq_zero_or_pos len with h0 | h0
  · subst h0
    obtain rfl : xs = [] := List.eq_nil_of_length_eq_zero h1
    refine (Tryd.strings_Join_none a cap ⟨#[c]⟩ w).mono ?_
    rintro e w' ⟨rfl, rfl⟩
    exact ⟨rfl, Below.refl _ _⟩
  · rcases h3 with h3 | ⟨b, off, rfl, hlt, hc⟩
    · omega
    · have hl := len_join8 xs [c] (fun x hx => (id_size (hall x hx)).2) rfl
      subst h1
      exact Tryd.strings_Join b off cap xs ⟨#[c]⟩ w hc hlt (by omega) hcap (by simp at hl ⊢; omega)

theorem prn_size (c : UInt8) (xs : List ByteArray) : (prn c xs).1.size ≤ 1000 := by
  unfold prn
  split
  · simp [toB_size]
  · split
    · rename_i hm
      obtain ⟨h8, hall⟩ := may_all hm
      have hl := len_join8 xs [c] (fun x hx => (id_size (hall x hx)).2) rfl
      simp only [toB_size]
      omega
    · simp [toB_size]

set_option maxHeartbeats 1000000 in
theorem print_any {w : World} {a : Option Addr} {len cap : Nat} {xs : List ByteArray} (h : Strs w a len xs) (hm : len ≤ 9223372036854775807) (hcap : len ≤ cap) (c : UInt8) :
    Calls Tryd.prog 13 #[.slice a len cap, .int .u8 c.toNat] w (PrintPost c xs w) := by
  replace h := Lib.hid h
  have hcv := conv_one c
  cases hc : lett c.toNat with
  | true =>
    have hp : Hid (prn c xs = (toB [], 2)) := Lib.hid (by unfold prn; rw [if_pos hc])
    replace hc := Lib.hid hc
    go_enter Tryd.func13, Tryd.ntmps13
    go_wp2_with fail
    refine (letter_any _ _).mono ?_
    rintro e w' ⟨rfl, rfl⟩
    rw [hc.out]
    go_wp2_with fail
    go_ret2
    exact print_bad hp.out (Below.refl _ _)
  | false =>
    cases hmay : may xs with
    | false =>
      have hp : Hid (prn c xs = (toB [], 2)) := Lib.hid (by unfold prn; rw [if_neg (by rw [hc]; simp), if_neg (by rw [hmay]; simp)])
      replace hc := Lib.hid hc
      replace hmay := Lib.hid hmay
      go_enter Tryd.func13, Tryd.ntmps13
      go_wp2_with fail
      refine (letter_any _ _).mono ?_
      rintro e w' ⟨rfl, rfl⟩
      rw [hc.out]
      go_wp2_with fail
      refine (may_any h.out hm).mono ?_
      rintro e w' ⟨rfl, rfl⟩
      rw [hmay.out]
      go_wp2_with fail
      go_ret2
      exact print_bad hp.out (Below.refl _ _)
    | true =>
      have hp : Hid (prn c xs = (toB (Lib.join (xs.map (·.data.toList)) [c]), 0)) := Lib.hid (by unfold prn; rw [if_neg (by rw [hc]; simp), if_pos hmay])
      replace hc := Lib.hid hc
      replace hmay := Lib.hid hmay
      go_enter Tryd.func13, Tryd.ntmps13
      go_wp2_with fail
      refine (letter_any _ _).mono ?_
      rintro e w' ⟨rfl, rfl⟩
      rw [hc.out]
      go_wp2_with fail
      refine (may_any h.out hm).mono ?_
      rintro e w' ⟨rfl, rfl⟩
      rw [hmay.out]
      go_wp2_with fail
      have hA : Below w.heap.size w (w.alloc (.cells #[.int .u8 c.toNat] 5)) := (Below.refl _ _).alloc (Nat.le_refl _) _
      refine (join_any (h.out.below hA) hcap hmay.out c).mono ?_
      rintro e w' ⟨rfl, hB⟩
      replace hB := Lib.hid (hA.trans (hB.mono (by simp)))
      clear hA hcv
      go_wp2_with fail
      go_ret2
      exact ⟨by rw [hp.out]; rfl, hB.out⟩
end Go.Proofs.YtmddbnfhbnofgaaDoor
