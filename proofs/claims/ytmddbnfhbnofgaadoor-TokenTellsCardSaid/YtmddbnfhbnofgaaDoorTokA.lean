/-
  The chapter's examples.
-/
import Derived.Test.YtmddbnfhbnofgaaDoorTokR
import Derived.Test.YtmddbnfhbnofgaaDoorTok4
import Derived.Outline
namespace Go.Proofs.YtmddbnfhbnofgaaDoor
open Go.RowKit Go.BigFrame

theorem below_drewN {B : Nat} {a w : World} (h : Below B a w) (q : Nat) : Below B a (w.drewN q) := ⟨h.os, h.tape, h.output, h.size, h.block⟩

def TruePost (w : World) (e : Ending) (w' : World) : Prop := e = .returned (.bool true) ∧ Below w.heap.size w w'

set_option maxHeartbeats 1000000 in
theorem none_any {w : World} {a : Option Addr} {len cap : Nat} {xs : List ByteArray} (h : Strs w a len xs) (hm : len ≤ 1000) (hs : ∀ x ∈ xs, prs 44 x = ([], 6) ∧ x.size ≤ 1000) :
    Calls Tryd.prog 21 #[.slice a len cap] w (TruePost w) := by
  replace h := Lib.hid h
  replace hs := Lib.hid hs
  go_enter Tryd.func21, Tryd.ntmps21
  go_wp2
  go_loopw [3] (fun i wr => ∃ k : Nat, k ≤ len ∧ i = .int .i64 k ∧ Hid (Below w.heap.size w wr)) (fun i _ => len - (intOf i).toNat)
  case atStart => exact ⟨0, Nat.zero_le _, rfl, Lib.hid (Below.refl _ _)⟩
  case round =>
    obtain ⟨k, hk, rfl, hB⟩ := hrel
    by_cases hlt : k < len
    · obtain ⟨b, off, x, hx, hxm, rfl, hb, hc⟩ := (h.out.below hB.out).at hlt
      obtain ⟨hp, hsz⟩ := hs.out x (List.mem_of_getElem? hx)
      replace hx := Lib.hid hx
      replace hp := Lib.hid hp
      go_wp2_with fail
      refine (parse_any x 44 (by omega) wr).mono ?_
      rintro e w1 ⟨a1, k1, rfl, hst, hB1, _⟩
      rw [hp.out]
      clear hst
      replace hB1 := Lib.hid hB1
      go_wp2_with fail
      go_roundw
      case rel => exact ⟨k + 1, by omega, by go_num, Lib.hid (hB.out.trans (hB1.out.mono hB.out.size))⟩
      case measure => simp [intOf]; omega
    · obtain rfl : k = len := by omega
      go_wp2_with fail
      go_ret
      exact ⟨rfl, hB.out⟩

theorem strs_lit (W : World) (xs : List ByteArray) (hx : ∀ x ∈ xs, x.size ≤ 1000) : Strs (W.alloc (.cells (xs.map Value.string).toArray 9)) (some ⟨W.heap.size, 0, none⟩) xs.length xs := by
  refine ⟨rfl, fun x h => by have := hx x h; omega, .inr ⟨_, _, rfl, by simp, fun i x h => ?_⟩⟩
  have hk := World.alloc_heap_new W (.cells (xs.map Value.string).toArray 9)
  simp only [World.cell?, hk]
  simp [h]

def six : List ByteArray := [⟨#[97, 44]⟩, ⟨#[65]⟩, ⟨#[97, 59, 98]⟩, ⟨#[97, 44, 98, 44, 99, 44, 100, 44, 101, 44, 102, 44, 103, 44, 104, 44, 105]⟩, ⟨#[44]⟩, ⟨#[110, 105, 110, 101, 98, 121, 116, 101, 115]⟩]
theorem six_prs : ∀ x ∈ six, prs 44 x = ([], 6) ∧ x.size ≤ 1000 := by
  intro x hx
  simp only [six, List.mem_cons, List.not_mem_nil, or_false] at hx
  rcases hx with rfl | rfl | rfl | rfl | rfl | rfl
  all_goals exact ⟨by kernel_rfl, by decide⟩

theorem chk1 : chk ⟨#[99]⟩ [⟨#[97]⟩, ⟨#[98]⟩] 3 = 0 := by kernel_rfl
theorem chk2 : chk ⟨#[99]⟩ [⟨#[97]⟩, ⟨#[98]⟩] 2 = 170 := by kernel_rfl
theorem chk3 : chk ⟨#[98]⟩ [⟨#[97]⟩, ⟨#[98]⟩] 3 = 170 := by kernel_rfl

theorem prs1 : prs 44 ⟨#[97, 44, 98, 50]⟩ = ([⟨#[97]⟩, ⟨#[98, 50]⟩], 0) := by kernel_rfl
theorem prs2 : prs 44 ⟨#[]⟩ = ([], 0) := by kernel_rfl
theorem prs3 : prs 97 ⟨#[97]⟩ = ([], 2) := by kernel_rfl

set_option maxHeartbeats 1000000 in
theorem awake_any (w : World) : Calls Tryd.prog 6 #[] w (TruePost w) := by
  go_enter Tryd.func6, Tryd.ntmps6
  go_wp2_with fail
  refine (parse_any ⟨#[97, 44, 98, 50]⟩ 44 (by decide) w).mono ?_
  rintro e w1 ⟨a1, k1, rfl, h1, hB1, _⟩
  rw [prs1] at h1 ⊢
  replace h1 := Lib.hid h1
  replace hB1 := Lib.hid hB1
  go_wp2_with fail
  refine (parse_any ⟨#[]⟩ 44 (by decide) w1).mono ?_
  rintro e w2 ⟨a2, k2, rfl, h2, hB2, _⟩
  rw [prs2]
  clear h2
  replace h1 := Lib.hid (h1.out.below hB2)
  replace hB2 := Lib.hid (hB1.out.trans (hB2.mono hB1.out.size))
  clear hB1
  go_wp2_with fail
  refine (parse_any ⟨#[97]⟩ 97 (by decide) w2).mono ?_
  rintro e w3 ⟨a3, k3, rfl, h3, hB3, _⟩
  rw [prs3]
  clear h3
  replace h1 := Lib.hid (h1.out.below hB3)
  replace hB3 := Lib.hid (hB2.out.trans (hB3.mono hB2.out.size))
  clear hB2
  have ht : Strs (w3.alloc (.cells #[.string ⟨#[97]⟩, .string ⟨#[98]⟩] 9)) (some ⟨w3.heap.size, 0, none⟩) 2 [⟨#[97]⟩, ⟨#[98]⟩] := strs_lit w3 [⟨#[97]⟩, ⟨#[98]⟩] (by intro x hx; simp at hx; rcases hx with rfl | rfl <;> decide)
  have hq : Strs ((w3.alloc (.cells #[.string ⟨#[97]⟩, .string ⟨#[98]⟩] 9)).alloc (.cells #[.string ⟨#[97]⟩, .string ⟨#[98, 50]⟩] 9)) (some ⟨w3.heap.size + 1, 0, none⟩) 2 [⟨#[97]⟩, ⟨#[98, 50]⟩] := by
    have := strs_lit (w3.alloc (.cells #[.string ⟨#[97]⟩, .string ⟨#[98]⟩] 9)) [⟨#[97]⟩, ⟨#[98, 50]⟩] (by intro x hx; simp at hx; rcases hx with rfl | rfl <;> decide)
    rw [World.size_alloc] at this
    exact this
  have hA : Below w3.heap.size w3 (w3.alloc (.cells #[.string ⟨#[97]⟩, .string ⟨#[98]⟩] 9)) := (Below.refl _ _).alloc (Nat.le_refl _) _
  have hA2 : Below (w3.heap.size + 1) (w3.alloc (.cells #[.string ⟨#[97]⟩, .string ⟨#[98]⟩] 9)) ((w3.alloc (.cells #[.string ⟨#[97]⟩, .string ⟨#[98]⟩] 9)).alloc (.cells #[.string ⟨#[97]⟩, .string ⟨#[98, 50]⟩] 9)) := (Below.refl _ _).alloc (by simp) _
  have h1' : Hid (Strs ((w3.alloc (.cells #[.string ⟨#[97]⟩, .string ⟨#[98]⟩] 9)).alloc (.cells #[.string ⟨#[97]⟩, .string ⟨#[98, 50]⟩] 9)) a1 2 [⟨#[97]⟩, ⟨#[98, 50]⟩]) := Lib.hid ((h1.out.below hA).below (by simpa using hA2))
  have ht' : Hid (Strs ((w3.alloc (.cells #[.string ⟨#[97]⟩, .string ⟨#[98]⟩] 9)).alloc (.cells #[.string ⟨#[97]⟩, .string ⟨#[98, 50]⟩] 9)) (some ⟨w3.heap.size, 0, none⟩) 2 [⟨#[97]⟩, ⟨#[98]⟩]) := Lib.hid (ht.below (by simpa using hA2))
  have hB4 : Hid (Below w.heap.size w ((w3.alloc (.cells #[.string ⟨#[97]⟩, .string ⟨#[98]⟩] 9)).alloc (.cells #[.string ⟨#[97]⟩, .string ⟨#[98, 50]⟩] 9))) := Lib.hid ((hB3.out.trans (hA.mono hB3.out.size)).trans (hA2.mono (by have := hB3.out.size; omega)))
  replace hq := Lib.hid hq
  clear ht hA hA2 h1
  go_wp2_with fail
  refine (same_any h1'.out hq.out (by omega) (by omega) true (by rw [decide_eq_true rfl])).mono ?_
  clear hq h1'
  generalize hV : (w3.alloc (.cells #[.string ⟨#[97]⟩, .string ⟨#[98]⟩] 9)).alloc (.cells #[.string ⟨#[97]⟩, .string ⟨#[98, 50]⟩] 9) = V at *
  generalize hg : w3.heap.size = g at *
  clear hV
  rintro e w4 ⟨rfl, q, rfl⟩
  replace ht' : Hid (Strs (V.drewN q) (some ⟨g, 0, none⟩) 2 [⟨#[97]⟩, ⟨#[98]⟩]) := ht'
  replace hB4 : Hid (Below w.heap.size w (V.drewN q)) := Lib.hid (below_drewN hB4.out q)
  generalize V.drewN q = W at *
  have hs6 : Hid (Strs (W.alloc (.cells #[.string ⟨#[97, 44]⟩, .string ⟨#[65]⟩, .string ⟨#[97, 59, 98]⟩, .string ⟨#[97, 44, 98, 44, 99, 44, 100, 44, 101, 44, 102, 44, 103, 44, 104, 44, 105]⟩, .string ⟨#[44]⟩, .string ⟨#[110, 105, 110, 101, 98, 121, 116, 101, 115]⟩] 9)) (some ⟨W.heap.size, 0, none⟩) 6 six) := Lib.hid (strs_lit W six (fun x hx => (six_prs x hx).2))
  go_wp2_with fail
  refine (none_any hs6.out (by omega) six_prs).mono ?_
  rintro e w5 ⟨rfl, hB5⟩
  have hA : Below W.heap.size W (W.alloc (.cells #[.string ⟨#[97, 44]⟩, .string ⟨#[65]⟩, .string ⟨#[97, 59, 98]⟩, .string ⟨#[97, 44, 98, 44, 99, 44, 100, 44, 101, 44, 102, 44, 103, 44, 104, 44, 105]⟩, .string ⟨#[44]⟩, .string ⟨#[110, 105, 110, 101, 98, 121, 116, 101, 115]⟩] 9)) := (Below.refl _ _).alloc (Nat.le_refl _) _
  replace hA := hA.trans (hB5.mono (by simp))
  replace ht' := Lib.hid (ht'.out.below hA)
  replace hB4 := Lib.hid (hB4.out.trans (hA.mono hB4.out.size))
  clear hs6 hB5 hA
  go_wp2_with fail
  refine (check_any ht'.out (by omega) ⟨#[99]⟩ 3).mono ?_
  rintro e w6 ⟨rfl, rfl⟩
  rw [chk1]
  go_wp2_with fail
  refine (check_any ht'.out (by omega) ⟨#[99]⟩ 2).mono ?_
  rintro e w6 ⟨rfl, rfl⟩
  rw [chk2]
  go_wp2_with fail
  refine (check_any ht'.out (by omega) ⟨#[98]⟩ 3).mono ?_
  rintro e w6 ⟨rfl, rfl⟩
  rw [chk3]
  go_wp2_with fail
  go_ret
  exact ⟨rfl, hB4.out⟩
end Go.Proofs.YtmddbnfhbnofgaaDoor
