/-
  Tokens' texts: plain laws.
-/
import Derived.Test.YtmddbnfhbnofgaaDoorTok2
import Derived.Test.YtmddbnfhbnofgaaDoorSplit
import Derived.Lib.Join
namespace Go.Proofs.YtmddbnfhbnofgaaDoor
open Go

theorem join_parts (c : UInt8) (l : List UInt8) : Lib.join (parts c l) [c] = l := by
  induction l with
  | nil => simp [parts, Lib.join_one]
  | cons x r ih =>
    obtain ⟨h, t, e⟩ : ∃ h t, parts c r = h :: t := by
      cases e : parts c r with
      | nil => exact absurd e (parts_ne c r)
      | cons h t => exact ⟨h, t, rfl⟩
    rw [e, Lib.join_cons] at ih
    by_cases hx : x = c
    · subst hx
      have : parts x (x :: r) = [] :: parts x r := by simp [parts]
      rw [this, Lib.join_cons, e, Lib.joinTail]
      rw [Lib.joinTail] at ih
      simpa using ih
    · rw [parts_step hx e, Lib.join_cons, List.cons_append, ih]

theorem parts_join {c : UInt8} : ∀ {xs : List (List UInt8)}, (∀ x ∈ xs, c ∉ x) → xs ≠ [] → parts c (Lib.join xs [c]) = xs
  | [], _, h => absurd rfl h
  | [x], h, _ => by rw [Lib.join_one]; exact parts_none (h x (by simp))
  | x :: y :: r, h, _ => by
    have ih := parts_join (c := c) (xs := y :: r) (fun z hz => h z (by simp at hz ⊢; exact .inr hz)) (by simp)
    have e : Lib.join (x :: y :: r) [c] = x ++ c :: Lib.join (y :: r) [c] := by
      rw [Lib.join_cons, Lib.join_cons]
      simp [Lib.joinTail]
    rw [e, parts_at (h x (by simp)), ih]

/-- Bytes as a text. -/
def toB (l : List UInt8) : ByteArray := ⟨l.toArray⟩
theorem toB_list (l : List UInt8) : (toB l).data.toList = l := rfl
theorem toB_of (s : ByteArray) : toB s.data.toList = s := rfl
theorem toB_size (l : List UInt8) : (toB l).size = l.length := by simp [toB, ByteArray.size]

/-- A text's parts. -/
def cut (c : UInt8) (s : ByteArray) : List ByteArray := (parts c s.data.toList).map toB

/-- What Parse tells. -/
def prs (c : UInt8) (s : ByteArray) : List ByteArray × Int :=
  if lett c.toNat = true then ([], 2) else if s.size = 0 then ([], 0) else if may (cut c s) = true then (cut c s, 0) else ([], 6)
/-- What Print tells. -/
def prn (c : UInt8) (xs : List ByteArray) : ByteArray × Int :=
  if lett c.toNat = true then (toB [], 2) else if may xs = true then (toB (Lib.join (xs.map (·.data.toList)) [c]), 0) else (toB [], 2)

theorem may_all {xs : List ByteArray} (h : may xs = true) : xs.length ≤ 8 ∧ ∀ x ∈ xs, isId x = true := by
  unfold may at h
  simp at h
  exact ⟨h.1, fun x hx => by simpa using h.2 x hx⟩
theorem may_mk {xs : List ByteArray} (h : xs.length ≤ 8) (h2 : ∀ x ∈ xs, isId x = true) : may xs = true := by
  unfold may
  simp [h]
  exact fun x hx => by simpa using h2 x hx

theorem id_size {x : ByteArray} (h : isId x = true) : 1 ≤ x.size ∧ x.size ≤ 8 := by
  unfold isId at h
  simp at h
  exact ⟨h.1.1, h.1.2⟩
theorem id_letters {x : ByteArray} (h : isId x = true) : ∀ y ∈ x.data.toList, lett y.toNat = true := by
  unfold isId at h
  rw [Bool.and_eq_true, List.all_eq_true] at h
  exact h.2

theorem not_in_id {c : UInt8} {x : ByteArray} (hc : lett c.toNat = false) (h : isId x = true) : c ∉ x.data.toList := fun hm => by
  have := id_letters h c hm
  rw [hc] at this
  cases this

theorem back1 {c : UInt8} {xs : List ByteArray} (h : (prn c xs).2 = 0) : prs c (prn c xs).1 = (xs, 0) ∧ may xs = true := by
  unfold prn at h ⊢
  by_cases hc : lett c.toNat = true
  · rw [if_pos hc] at h; cases h
  · rw [if_neg hc] at h ⊢
    by_cases hm : may xs = true
    · rw [if_pos hm] at h ⊢
      refine ⟨?_, hm⟩
      have hc' : lett c.toNat = false := by simpa using hc
      obtain ⟨h8, hall⟩ := may_all hm
      unfold prs
      rw [if_neg hc]
      dsimp only
      cases xs with
      | nil => rfl
      | cons x r =>
        have h0 : ¬ (toB (Lib.join ((x :: r).map (·.data.toList)) [c])).size = 0 := by
          rw [toB_size, List.map_cons, Lib.join_cons]
          have := (id_size (hall x (by simp))).1
          have e : x.data.toList.length = x.size := by rw [Array.length_toList]; rfl
          rw [List.length_append, e]
          omega
        have hcut : cut c (toB (Lib.join ((x :: r).map (·.data.toList)) [c])) = x :: r := by
          unfold cut
          rw [toB_list, parts_join _ (by simp), List.map_map]
          · have : (toB ∘ fun x : ByteArray => x.data.toList) = id := by funext y; rfl
            rw [this, List.map_id]
          · intro y hy
            obtain ⟨z, hz, rfl⟩ := List.mem_map.1 hy
            exact not_in_id hc' (hall z hz)
        rw [if_neg h0, hcut, if_pos hm]
    · rw [if_neg hm] at h; cases h

theorem back2 {c : UInt8} {s : ByteArray} (h : (prs c s).2 = 0) : prn c (prs c s).1 = (s, 0) ∧ may (prs c s).1 = true := by
  unfold prs at h ⊢
  by_cases hc : lett c.toNat = true
  · rw [if_pos hc] at h; cases h
  · rw [if_neg hc] at h ⊢
    by_cases h0 : s.size = 0
    · rw [if_pos h0]
      have hm : may [] = true := rfl
      refine ⟨?_, hm⟩
      have e : toB [] = s := by
        have : s.data = #[] := Array.eq_empty_of_size_eq_zero h0
        cases s; simp at this; subst this; rfl
      unfold prn
      rw [if_neg hc, if_pos hm]
      simp only [List.map_nil, Lib.join_nil, e]
    · rw [if_neg h0] at h ⊢
      by_cases hm : may (cut c s) = true
      · rw [if_pos hm] at h ⊢
        refine ⟨?_, hm⟩
        unfold prn
        rw [if_neg hc, if_pos hm]
        have e : (cut c s).map (·.data.toList) = parts c s.data.toList := by
          unfold cut
          rw [List.map_map]
          have : ((fun x : ByteArray => x.data.toList) ∘ toB) = id := by funext y; rfl
          rw [this, List.map_id]
        simp only [e, join_parts, toB_of]
      · rw [if_neg hm] at h; cases h

/-- What is told is of one of four kinds. -/
theorem prs_cases (c : UInt8) (s : ByteArray) : ((prs c s).2 = 0) ∨ (prs c s).1 = [] ∧ ((prs c s).2 = 2 ∨ (prs c s).2 = 6) := by
  unfold prs
  split
  · exact .inr ⟨rfl, .inl rfl⟩
  · split
    · exact .inl rfl
    · split
      · exact .inl rfl
      · exact .inr ⟨rfl, .inr rfl⟩
theorem prn_cases (c : UInt8) (xs : List ByteArray) : ((prn c xs).2 = 0) ∨ (prn c xs).1 = toB [] ∧ (prn c xs).2 = 2 := by
  unfold prn
  split
  · exact .inr ⟨rfl, rfl⟩
  · split
    · exact .inl rfl
    · exact .inr ⟨rfl, rfl⟩

end Go.Proofs.YtmddbnfhbnofgaaDoor
