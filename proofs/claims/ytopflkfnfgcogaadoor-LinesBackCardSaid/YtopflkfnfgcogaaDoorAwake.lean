/-
  The chapter's examples.
-/
import Derived.Test.YtopflkfnfgcogaaDoorLit
import Derived.Outline
namespace Go.Proofs.YtopflkfnfgcogaaDoor
open Go.RowKit Go

def txt1 : ByteArray := ⟨#[105, 100, 32, 97, 10, 10, 35, 32, 120, 10, 32, 32, 98, 32, 32, 32, 99, 32, 35, 100]⟩
theorem sp1 : split txt1.data.toList = ([[[105, 100], [97]], [[98], [99]]], 0) := by kernel_rfl
theorem sp2 : split [97, 35, 98] = ([[[97, 35, 98]]], 0) := by kernel_rfl
theorem sp3 : split [] = ([], 0) := by kernel_rfl
theorem sp4 : split [97, 9] = ([], 180) := by kernel_rfl
theorem sp5 : split [35, 200] = ([], 180) := by kernel_rfl
theorem sp6 : split (strOfNums (List.replicate 4097 32)).data.toList = ([], 3) := by
  unfold split
  rw [if_pos]
  rw [strOfNums_data, List.length_map, List.length_replicate]
  decide

theorem LR.drewN {w : World} {a : Option Addr} {n c : Nat} {xss : List (List ByteArray)} (h : LR w a n c xss) (q : Nat) : LR (w.drewN q) a n c xss := h

/-- Split of a text whose lines are known. -/
theorem split_at (s : ByteArray) {l : List (List (List UInt8))} {e : Int} (h : split s.data.toList = (l, e)) (w : World) (hT : Tab w) : Calls Tryd.prog 6 #[.string s] w fun e' W => ∃ a c, e' = .returned (.tuple #[.slice a l.length c, .int .i64 e]) ∧ LR W a l.length c (l.map (·.map toB)) ∧ Below w.heap.size w W := by
  refine (split_any s w hT (zero_lt hT)).mono ?_
  rintro e' W ⟨v, rfl, h1, h2⟩
  rw [h] at h1 ⊢
  obtain ⟨a, c, rfl, h3⟩ := h1.read
  rw [List.length_map] at h3 ⊢
  exact ⟨a, c, rfl, h3, h2⟩

theorem lit2 (W : World) : LL (((W.alloc (.cells #[.string ⟨#[105, 100]⟩, .string ⟨#[97]⟩] 9)).alloc (.cells #[.string ⟨#[98]⟩, .string ⟨#[99]⟩] 9)).alloc (.cells #[.slice (some ⟨W.heap.size, 0, none⟩) 2 2, .slice (some ⟨W.heap.size + 1, 0, none⟩) 2 2] 39)) W.heap.size (.slice (some ⟨W.heap.size + 1 + 1, 0, none⟩) 2 2) [[⟨#[105, 100]⟩, ⟨#[97]⟩], [⟨#[98]⟩, ⟨#[99]⟩]] := by
  have h1 := row_lit W (e := 9) [.string ⟨#[105, 100]⟩, .string ⟨#[97]⟩] (Nat.le_refl _) (by decide)
  have h2 := row_lit (W.alloc (.cells #[.string ⟨#[105, 100]⟩, .string ⟨#[97]⟩] 9)) (e := 9) (base := W.heap.size) [.string ⟨#[98]⟩, .string ⟨#[99]⟩] (by simp) (by decide)
  have h3 := row_lit ((W.alloc (.cells #[.string ⟨#[105, 100]⟩, .string ⟨#[97]⟩] 9)).alloc (.cells #[.string ⟨#[98]⟩, .string ⟨#[99]⟩] 9)) (e := 39) (base := W.heap.size) [.slice (some ⟨W.heap.size, 0, none⟩) 2 2, .slice (some ⟨W.heap.size + 1, 0, none⟩) 2 2] (by simp; omega) (by simp)
  simp only [World.size_alloc] at h2 h3
  refine ⟨_, h3, fun i xs c hi hc => ?_⟩
  match i with
  | 0 =>
    simp at hi hc
    subst hi hc
    exact (h1.alloc _).alloc _
  | 1 =>
    simp at hi hc
    subst hi hc
    exact h2.alloc _
  | i + 2 => simp at hi

theorem lit1 (W : World) : LL ((W.alloc (.cells #[.string ⟨#[97, 35, 98]⟩] 9)).alloc (.cells #[.slice (some ⟨W.heap.size, 0, none⟩) 1 1] 39)) W.heap.size (.slice (some ⟨W.heap.size + 1, 0, none⟩) 1 1) [[⟨#[97, 35, 98]⟩]] := by
  have h1 := row_lit W (e := 9) [.string ⟨#[97, 35, 98]⟩] (Nat.le_refl _) (by decide)
  have h3 := row_lit (W.alloc (.cells #[.string ⟨#[97, 35, 98]⟩] 9)) (e := 39) (base := W.heap.size) [.slice (some ⟨W.heap.size, 0, none⟩) 1 1] (by simp) (by simp)
  simp only [World.size_alloc] at h3
  refine ⟨_, h3, fun i xs c hi hc => ?_⟩
  match i with
  | 0 =>
    simp at hi hc
    subst hi hc
    exact h1.alloc _
  | i + 1 => simp at hi

theorem LR.of_LL {W : World} {base : Nat} {a : Option Addr} {n c : Nat} {xss : List (List ByteArray)} (h : LL W base (.slice a n c) xss) : LR W a n c xss := by
  obtain ⟨a', c', e, h2⟩ := h.read
  cases e
  exact h2

set_option maxRecDepth 100000 in
set_option maxHeartbeats 4000000 in
theorem awake_any (w : World) (hT : Tab w) : Calls Tryd.prog 9 #[] w (TruePost w) := by
  have hz := zero_lt hT
  replace hT := Lib.hid hT
  go_enter Tryd.func9, Tryd.ntmps9
  go_wp2_with fail
  refine (split_at _ sp1 w hT.out).mono ?_
  rintro e w1 ⟨a1, c1, rfl, h1, hB⟩
  have HB := Lib.hid hB
  have HT := Lib.hid (hT.out.below hz hB)
  replace h1 := Lib.hid h1
  clear hB
  go_wp2_with fail
  refine (split_at _ sp2 w1 HT.out).mono ?_
  rintro e w2 ⟨a2, c2, rfl, h2, hB⟩
  replace HT := Lib.hid (HT.out.below (zero_lt HT.out) hB)
  replace h1 := Lib.hid (h1.out.below hB)
  replace HB := Lib.hid (HB.out.trans (hB.mono HB.out.size))
  replace h2 := Lib.hid h2
  clear hB
  go_wp2_with fail
  refine (split_at _ sp3 w2 HT.out).mono ?_
  rintro e w3 ⟨a3, c3, rfl, h3, hB⟩
  replace HT := Lib.hid (HT.out.below (zero_lt HT.out) hB)
  replace h1 := Lib.hid (h1.out.below hB)
  replace h2 := Lib.hid (h2.out.below hB)
  replace HB := Lib.hid (HB.out.trans (hB.mono HB.out.size))
  clear hB h3
  go_wp2_with fail
  refine (split_at _ sp4 w3 HT.out).mono ?_
  rintro e w4 ⟨a4, c4, rfl, h3, hB⟩
  replace HT := Lib.hid (HT.out.below (zero_lt HT.out) hB)
  replace h1 := Lib.hid (h1.out.below hB)
  replace h2 := Lib.hid (h2.out.below hB)
  replace HB := Lib.hid (HB.out.trans (hB.mono HB.out.size))
  clear hB h3
  go_wp2_with fail
  refine (split_at _ sp5 w4 HT.out).mono ?_
  rintro e w5 ⟨a5, c5, rfl, h3, hB⟩
  replace HT := Lib.hid (HT.out.below (zero_lt HT.out) hB)
  replace h1 := Lib.hid (h1.out.below hB)
  replace h2 := Lib.hid (h2.out.below hB)
  replace HB := Lib.hid (HB.out.trans (hB.mono HB.out.size))
  clear hB h3
  go_wp2_with fail
  refine (blanks_any 4097 (by decide) w5).mono ?_
  rintro e w6 ⟨rfl, hB⟩
  replace HT := Lib.hid (HT.out.below (zero_lt HT.out) hB)
  replace h1 := Lib.hid (h1.out.below hB)
  replace h2 := Lib.hid (h2.out.below hB)
  replace HB := Lib.hid (HB.out.trans (hB.mono HB.out.size))
  clear hB
  have hs6 := Lib.hid sp6
  generalize strOfNums (List.replicate 4097 32) = t6 at *
  go_wp2_with fail
  refine (split_at _ hs6.out w6 HT.out).mono ?_
  rintro e w7 ⟨a7, c7, rfl, h3, hB⟩
  replace h1 := Lib.hid (h1.out.below hB)
  replace h2 := Lib.hid (h2.out.below hB)
  replace HB := Lib.hid (HB.out.trans (hB.mono HB.out.size))
  clear hB h3 hs6 HT
  have hA1 : Below w7.heap.size w7 (((w7.alloc (.cells #[.string ⟨#[105, 100]⟩, .string ⟨#[97]⟩] 9)).alloc (.cells #[.string ⟨#[98]⟩, .string ⟨#[99]⟩] 9)).alloc (.cells #[.slice (some ⟨w7.heap.size, 0, none⟩) 2 2, .slice (some ⟨w7.heap.size + 1, 0, none⟩) 2 2] 39)) :=
    (((Below.refl _ w7).alloc (Nat.le_refl _) _).alloc (by simp) _).alloc (by simp; omega) _
  have hq1 := Lib.hid (LR.of_LL (lit2 w7))
  replace h1 := Lib.hid (h1.out.below hA1)
  replace h2 := Lib.hid (h2.out.below hA1)
  replace HB := Lib.hid (HB.out.trans (hA1.mono HB.out.size))
  clear hA1
  go_wp2_with fail
  refine (same_any (xss := [[⟨#[105, 100]⟩, ⟨#[97]⟩], [⟨#[98]⟩, ⟨#[99]⟩]]) h1.out hq1.out (by decide) (fun xs hxs => ?_)).mono ?_
  · simp only [List.mem_cons, List.not_mem_nil, or_false] at hxs
    rcases hxs with rfl | rfl <;> decide
  clear hq1 h1
  generalize ((w7.alloc (.cells #[.string ⟨#[105, 100]⟩, .string ⟨#[97]⟩] 9)).alloc (.cells #[.string ⟨#[98]⟩, .string ⟨#[99]⟩] 9)).alloc (.cells #[.slice (some ⟨w7.heap.size, 0, none⟩) 2 2, .slice (some ⟨w7.heap.size + 1, 0, none⟩) 2 2] 39) = V at *
  rintro e w8 ⟨rfl, q, rfl⟩
  replace h2 := Lib.hid (h2.out.drewN q)
  replace HB := Lib.hid (below_drewN HB.out q)
  generalize V.drewN q = W at *
  have hA1 : Below W.heap.size W ((W.alloc (.cells #[.string ⟨#[97, 35, 98]⟩] 9)).alloc (.cells #[.slice (some ⟨W.heap.size, 0, none⟩) 1 1] 39)) :=
    ((Below.refl _ W).alloc (Nat.le_refl _) _).alloc (by simp) _
  have hq1 := Lib.hid (LR.of_LL (lit1 W))
  replace h2 := Lib.hid (h2.out.below hA1)
  replace HB := Lib.hid (HB.out.trans (hA1.mono HB.out.size))
  clear hA1
  go_wp2_with fail
  refine (same_any (xss := [[⟨#[97, 35, 98]⟩]]) h2.out hq1.out (by decide) (fun xs hxs => ?_)).mono ?_
  · simp only [List.mem_cons, List.not_mem_nil, or_false] at hxs
    subst hxs; decide
  clear hq1 h2
  generalize (W.alloc (.cells #[.string ⟨#[97, 35, 98]⟩] 9)).alloc (.cells #[.slice (some ⟨W.heap.size, 0, none⟩) 1 1] 39) = V2 at *
  rintro e w9 ⟨rfl, q, rfl⟩
  replace HB := Lib.hid (below_drewN HB.out q)
  generalize V2.drewN q = W3 at *
  go_wp2_with fail
  go_ret
  exact ⟨rfl, HB.out⟩
end Go.Proofs.YtopflkfnfgcogaaDoor
