/-
  The chapter's example: awake answers true.
-/
import Derived.Test.YtpjipdmlfpgokaaSt
namespace Go.Proofs.Ytpjipdmlfpgokaa
open Go.RowKit RP

theorem Skipped.zero {t : KV} {next step : Int} {m : Nat} (h : Skipped t next step m) (h0 : lk t next = none) : m = 0 := by
  rcases Nat.eq_zero_or_pos m with h1 | h1
  · exact h1
  · have := (h 0 h1).2
    simp [h0] at this

section
variable {B b : Nat} {w0 w : World} {F : List Nat}

theorem aw1 (h : St B w0 w b F [] 2 1 2) : Calls Try.prog 11 #[.pointer (some ⟨b, 0, none⟩), .int .i64 7] w fun e w' => e = .returned (.tuple #[.int .i64 1, .int .i64 0]) ∧ Stp B w0 w b F [(1, 7)] 2 3 2 w' := by
  refine (st_give h (by omega) (by omega) (by omega) (by omega) (by omega) (by omega) 7).mono ?_
  rintro e w' (⟨h1, _⟩ | ⟨_, m, hk, h2⟩)
  · simp at h1
  · obtain rfl := hk.zero rfl
    rcases h2 with ⟨h1, _⟩ | ⟨_, _, he, h3⟩
    · simp at h1
    · exact ⟨he, h3⟩

theorem aw2 (h : St B w0 w b F [(1, 7)] 2 3 2) : Calls Try.prog 12 #[.pointer (some ⟨b, 0, none⟩), .int .i64 3, .int .i64 9] w fun e w' => e = .returned (.int .i64 0) ∧ Stp B w0 w b F [(1, 7), (3, 9)] 2 3 2 w' := by
  refine (st_hold h (by omega) (by omega) (by simp) 3 9).mono ?_
  rintro e w' (⟨h1, _⟩ | ⟨_, _, _, h1, _⟩ | ⟨_, _, _, _, he, h3⟩)
  · exact absurd h1 (by decide)
  · simp at h1
  · exact ⟨he, h3⟩

theorem aw3 (h : St B w0 w b F [(1, 7), (3, 9)] 2 3 2) : Calls Try.prog 11 #[.pointer (some ⟨b, 0, none⟩), .int .i64 1] w fun e w' => e = .returned (.tuple #[.int .i64 0, .int .i64 4]) ∧ Stp B w0 w b F [(1, 7), (3, 9)] 2 3 2 w' := by
  refine (st_give h (by omega) (by omega) (by omega) (by omega) (by omega) (by omega) 1).mono ?_
  rintro e w' (⟨_, he, h3⟩ | ⟨h1, _⟩)
  · exact ⟨he, h3⟩
  · simp at h1

theorem aw4 (h : St B w0 w b F [(1, 7), (3, 9)] 2 3 2) : Calls Try.prog 13 #[.pointer (some ⟨b, 0, none⟩), .int .i64 1] w fun e w' => e = .returned (.int .i64 0) ∧ Stp B w0 w b F [(3, 9)] 2 3 2 w' := by
  refine (st_drop h (by omega) (by simp) 1).mono ?_
  rintro e w' (⟨h1, _⟩ | ⟨u, _, he, h3⟩)
  · exact absurd h1 (by decide)
  · exact ⟨he, h3⟩

theorem aw5 (h : St B w0 w b F [(3, 9)] 2 3 2) : Calls Try.prog 11 #[.pointer (some ⟨b, 0, none⟩), .int .i64 8] w fun e w' => e = .returned (.tuple #[.int .i64 5, .int .i64 0]) ∧ Stp B w0 w b F [(3, 9), (5, 8)] 2 7 2 w' := by
  refine (st_give h (by omega) (by omega) (by omega) (by omega) (by omega) (by omega) 8).mono ?_
  rintro e w' (⟨h1, _⟩ | ⟨_, m, hk, h2⟩)
  · simp at h1
  · match m, hk, h2 with
    | 0, _, h2 =>
      rcases h2 with ⟨h1, _⟩ | ⟨_, h1, _⟩
      · simp at h1
      · exact absurd h1 (by decide)
    | 1, _, h2 =>
      rcases h2 with ⟨h1, _⟩ | ⟨_, _, he, h3⟩
      · simp at h1
      · exact ⟨he, h3⟩
    | m + 2, hk, _ => exact absurd (hk 1 (by omega)).2 (by decide)

theorem aw6 (h : St B w0 w b F [(3, 9), (5, 8)] 2 7 2) : Calls Try.prog 10 #[.pointer (some ⟨b, 0, none⟩)] w fun e w' => ∃ g cap, e = .returned (.slice (some ⟨g, 0, none⟩) 2 cap) ∧ w'.cell? ⟨g, 0, none⟩ = some (.int .i64 3) ∧ w'.cell? ⟨g, 1, none⟩ = some (.int .i64 5) ∧ Stp B w0 w b F [(3, 9), (5, 8)] 2 7 2 w' := by
  refine (st_ids h (by omega) (by simp)).mono ?_
  rintro e w' ⟨a, c, rfl, hI, hbl, hs⟩
  rcases hI.cases with ⟨_, hn⟩ | ⟨g, cap, cur, hv, _, hg, _, _, _, ht⟩
  · simp [ks] at hn
  · simp only [Value.slice.injEq] at hv
    obtain ⟨rfl, _, rfl⟩ := hv
    refine ⟨g, c, rfl, ?_, ?_, F, hs, (Moved.of_below hbl).mono (by simp), fun x hx => .inl hx⟩
    · rw [block_cell hg]; exact take_at ht (by simp [ks])
    · rw [block_cell hg]; exact take_at ht (by simp [ks])

theorem aw7 (h : St B w0 w b F [(3, 9), (5, 8)] 2 7 2) : Calls Try.prog 13 #[.pointer (some ⟨b, 0, none⟩), .int .i64 1] w fun e w' => e = .returned (.int .i64 30) ∧ Stp B w0 w b F [(3, 9), (5, 8)] 2 7 2 w' := by
  refine (st_drop h (by omega) (by simp) 1).mono ?_
  rintro e w' (⟨_, he, h3⟩ | ⟨u, h1, _⟩)
  · exact ⟨he, h3⟩
  · rw [show lk [((3 : Int), (9 : Int)), (5, 8)] 1 = none from by decide] at h1; cases h1
end

set_option maxHeartbeats 1000000 in
theorem awake_any (w : World) : Calls Try.prog 7 #[] w fun e w' => e = .returned (.bool true) ∧ Below w.heap.size w w' := by
  go_enter Try.func7, Try.ntmps7
  go_wp2_with fail
  refine (st_new (by unfold GoodArgs; omega) _).mono ?_
  rintro e w' ⟨b, rfl, F, h0⟩
  have h0 := Lib.hid h0
  go_wp2_with fail
  refine (aw1 h0.out).mono ?_
  rintro e w1 ⟨rfl, F1, h1, _, _⟩
  have h1 := Lib.hid h1
  go_wp2_with fail
  refine (aw2 h1.out).mono ?_
  rintro e w2 ⟨rfl, F2, h2, _, _⟩
  have h2 := Lib.hid h2
  go_wp2_with fail
  refine (aw3 h2.out).mono ?_
  rintro e w3 ⟨rfl, F3, h3, _, _⟩
  have h3 := Lib.hid h3
  go_wp2_with fail
  refine (aw4 h3.out).mono ?_
  rintro e w4 ⟨rfl, F4, h4, _, _⟩
  have h4 := Lib.hid h4
  go_wp2_with fail
  refine (aw5 h4.out).mono ?_
  rintro e w5 ⟨rfl, F5, h5, _, _⟩
  have h5 := Lib.hid h5
  go_wp2_with fail
  refine (aw6 h5.out).mono ?_
  rintro e w6 ⟨g, cap, rfl, c0, c1, F6, h6, _, _⟩
  have h6 := Lib.hid h6
  go_wp2_with fail
  refine (aw7 h6.out).mono ?_
  rintro e w7 ⟨rfl, F7, h7, _, _⟩
  have h7 := Lib.hid h7
  go_wp2_with fail
  go_ret
  exact ⟨rfl, h7.out.2.1⟩

end Go.Proofs.Ytpjipdmlfpgokaa
