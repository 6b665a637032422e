/-
  Lines of a text and back: plain laws.
-/
import Derived.Test.YtopflkfnfgcogaaDoorPure
namespace Go.Proofs.YtopflkfnfgcogaaDoor
open Go

theorem join_two (x y : List UInt8) (r : List (List UInt8)) (s : List UInt8) : Lib.join (x :: y :: r) s = x ++ s ++ Lib.join (y :: r) s := by
  rw [Lib.join_cons, Lib.join_cons]
  simp [Lib.joinTail]

/-- A word's bytes. -/
def wb (c : UInt8) : Prop := 33 ≤ c.toNat ∧ c.toNat ≤ 126
theorem wordOk_iff {w : List UInt8} : wordOk w = true ↔ w ≠ [] ∧ mark w = false ∧ ∀ c ∈ w, wb c := by
  unfold wordOk wb
  simp [List.all_eq_true, and_assoc]
theorem lineOk_iff {l : List (List UInt8)} : lineOk l = true ↔ l ≠ [] ∧ ∀ w ∈ l, wordOk w = true := by
  unfold lineOk some0
  simp [List.all_eq_true]

theorem wb_ne {c : UInt8} (h : wb c) : c ≠ 32 ∧ c ≠ 10 ∧ good c = true := by
  obtain ⟨h1, h2⟩ := h
  refine ⟨?_, ?_, ?_⟩
  · rintro rfl; revert h1; decide
  · rintro rfl; revert h1; decide
  · unfold good
    have : (32 : Nat) ≤ c.toNat := by omega
    simp [this, h2]

theorem fld_word : ∀ (v w rest : List UInt8), (∀ c ∈ v, c ≠ 32) → fld w (v ++ rest) = fld (w ++ v) rest
  | [], w, rest, _ => by simp
  | c :: v, w, rest, h => by
    have hc : c ≠ 32 := h c (by simp)
    have e1 : fld w (c :: v ++ rest) = fld (w ++ [c]) (v ++ rest) := by simp [fld, hc]
    rw [e1, fld_word v (w ++ [c]) rest (fun y hy => h y (by simp [hy]))]
    simp

theorem fld_join : ∀ (l : List (List UInt8)), l ≠ [] → (∀ w ∈ l, w ≠ [] ∧ ∀ c ∈ w, c ≠ 32) → fld [] (Lib.join l [32]) = l
  | [], h, _ => absurd rfl h
  | [x], _, h => by
    obtain ⟨h1, h2⟩ := h x (by simp)
    rw [Lib.join_one]
    have := fld_word x [] [] h2
    simp only [List.append_nil, List.nil_append] at this
    rw [this]
    simp [fld, h1]
  | x :: y :: r, _, h => by
    obtain ⟨h1, h2⟩ := h x (by simp)
    rw [join_two, List.append_assoc, fld_word x [] _ h2, List.nil_append]
    have e : fld x ([32] ++ Lib.join (y :: r) [32]) = x :: fld [] (Lib.join (y :: r) [32]) := by simp [fld, h1]
    rw [e, fld_join (y :: r) (by simp) (fun w hw => h w (by simp at hw ⊢; exact .inr hw))]

theorem take_all {α : Type} {p : α → Bool} : ∀ {l : List α}, (∀ x ∈ l, p x = true) → l.takeWhile p = l
  | [], _ => rfl
  | x :: r, h => by
    rw [List.takeWhile_cons, if_pos (h x (by simp)), take_all (fun y hy => h y (by simp [hy]))]

theorem counts_join {l : List (List UInt8)} (h : lineOk l = true) : counts (Lib.join l [32]) = l := by
  obtain ⟨h1, h2⟩ := lineOk_iff.1 h
  unfold counts
  rw [fld_join l h1 (fun w hw => ⟨(wordOk_iff.1 (h2 w hw)).1, fun c hc => (wb_ne ((wordOk_iff.1 (h2 w hw)).2.2 c hc)).1⟩)]
  exact take_all fun w hw => by rw [(wordOk_iff.1 (h2 w hw)).2.1]; rfl

theorem mem_join {l : List (List UInt8)} {c : UInt8} (h : c ∈ Lib.join l [32]) : c = 32 ∨ ∃ w ∈ l, c ∈ w := by
  induction l with
  | nil => simp [Lib.join_nil] at h
  | cons x r ih =>
    cases r with
    | nil => rw [Lib.join_one] at h; exact .inr ⟨x, by simp, h⟩
    | cons y r =>
      rw [join_two] at h
      simp only [List.mem_append, List.mem_singleton] at h
      rcases h with (h | h) | h
      · exact .inr ⟨x, by simp, h⟩
      · exact .inl h
      · rcases ih h with h | ⟨w, hw, hc⟩
        · exact .inl h
        · exact .inr ⟨w, by simp at hw ⊢; exact .inr hw, hc⟩

theorem not_in_line {l : List (List UInt8)} (h : lineOk l = true) : (10 : UInt8) ∉ Lib.join l [32] := fun hm => by
  rcases mem_join hm with h' | ⟨w, hw, hc⟩
  · revert h'; decide
  · exact (wb_ne ((wordOk_iff.1 ((lineOk_iff.1 h).2 w hw)).2.2 _ hc)).2.1 rfl

theorem parts_text : ∀ {l : List (List (List UInt8))}, mayL l = true → parts 10 (textOf l) = l.map (fun x => Lib.join x [32]) ++ [[]]
  | [], _ => rfl
  | x :: r, h => by
    unfold mayL at h
    simp only [List.all_cons, Bool.and_eq_true] at h
    have e : textOf (x :: r) = Lib.join x [32] ++ 10 :: textOf r := by simp [textOf, lineText]
    rw [e, parts_at (not_in_line h.1), parts_text (l := r) h.2]
    rfl

theorem split_text {l : List (List (List UInt8))} (h : mayL l = true) : splitL (textOf l) = l := by
  unfold splitL
  rw [parts_text h]
  have e1 : (l.map (fun x => Lib.join x [32])).map counts = l := by
    rw [List.map_map]
    conv => rhs; rw [← List.map_id l]
    refine List.map_congr_left fun x hx => ?_
    exact counts_join (List.all_eq_true.1 h x hx)
  rw [List.map_append, e1, List.filter_append]
  have e2 : l.filter some0 = l := by
    rw [List.filter_eq_self]
    intro x hx
    have := (lineOk_iff.1 (List.all_eq_true.1 h x hx)).1
    cases x with
    | nil => exact absurd rfl this
    | cons y ys => rfl
  rw [e2]
  simp [counts, fld, some0]

theorem good_text {l : List (List (List UInt8))} (h : mayL l = true) : (textOf l).all good = true := by
  rw [List.all_eq_true]
  intro c hc
  unfold textOf at hc
  simp only [List.mem_flatten, List.mem_map] at hc
  obtain ⟨_, ⟨x, hx, rfl⟩, hc⟩ := hc
  have hx := List.all_eq_true.1 h x hx
  unfold lineText at hc
  simp only [List.mem_append, List.mem_singleton] at hc
  rcases hc with hc | rfl
  · rcases mem_join hc with rfl | ⟨w, hw, hc⟩
    · rfl
    · exact (wb_ne ((wordOk_iff.1 ((lineOk_iff.1 hx).2 w hw)).2.2 _ hc)).2.2
  · rfl

theorem mem_fld : ∀ {l w v : List UInt8}, v ∈ fld w l → (∀ c ∈ w, c ≠ 32) → v ≠ [] ∧ ∀ c ∈ v, c ≠ 32 ∧ (c ∈ w ∨ c ∈ l)
  | [], w, v, h, hw => by
    by_cases h0 : w = []
    · simp [fld, h0] at h
    · simp [fld, h0] at h
      subst h
      exact ⟨h0, fun c hc => ⟨hw c hc, .inl hc⟩⟩
  | x :: r, w, v, h, hw => by
    by_cases hx : x = 32
    · by_cases h0 : w = []
      · simp [fld, hx, h0] at h
        obtain ⟨a, b⟩ := mem_fld h (by simp)
        exact ⟨a, fun c hc => ⟨(b c hc).1, (b c hc).2.elim (by simp) (fun h => .inr (by simp [h]))⟩⟩
      · simp [fld, hx, h0] at h
        rcases h with rfl | h
        · exact ⟨h0, fun c hc => ⟨hw c hc, .inl hc⟩⟩
        · obtain ⟨a, b⟩ := mem_fld h (by simp)
          exact ⟨a, fun c hc => ⟨(b c hc).1, (b c hc).2.elim (by simp) (fun h => .inr (by simp [h]))⟩⟩
    · have e : fld w (x :: r) = fld (w ++ [x]) r := by simp [fld, hx]
      rw [e] at h
      obtain ⟨a, b⟩ := mem_fld h (fun c hc => by simp at hc; rcases hc with hc | rfl; exact hw c hc; exact hx)
      refine ⟨a, fun c hc => ⟨(b c hc).1, ?_⟩⟩
      rcases (b c hc).2 with h | h
      · simp at h
        rcases h with h | rfl
        · exact .inl h
        · exact .inr (by simp)
      · exact .inr (by simp [h])

theorem mem_parts : ∀ {l p : List UInt8} {c : UInt8}, p ∈ parts c l → ∀ x ∈ p, x ≠ c ∧ x ∈ l
  | [], p, c, h, x, hx => by simp [parts] at h; subst h; cases hx
  | y :: r, p, c, h, x, hx => by
    by_cases hy : y = c
    · subst hy
      rw [parts_same, List.mem_cons] at h
      rcases h with rfl | h
      · cases hx
      · exact ⟨(mem_parts h x hx).1, by simp [(mem_parts h x hx).2]⟩
    · obtain ⟨a, t, e⟩ := parts_cons c r
      rw [parts_step hy e, List.mem_cons] at h
      rcases h with rfl | h
      · rw [List.mem_cons] at hx
        rcases hx with rfl | hx
        · exact ⟨hy, by simp⟩
        · have := mem_parts (l := r) (p := a) (c := c) (by rw [e]; simp) x hx
          exact ⟨this.1, by simp [this.2]⟩
      · have := mem_parts (l := r) (p := p) (c := c) (by rw [e]; simp [h]) x hx
        exact ⟨this.1, by simp [this.2]⟩

theorem may_split {t : List UInt8} (h : t.all good = true) : mayL (splitL t) = true := by
  unfold mayL
  rw [List.all_eq_true]
  intro l hl
  unfold splitL at hl
  rw [List.mem_filter, List.mem_map] at hl
  obtain ⟨⟨p, hp, rfl⟩, h0⟩ := hl
  refine lineOk_iff.2 ⟨?_, fun w hw => ?_⟩
  · intro e; rw [e] at h0; cases h0
  · unfold counts at hw
    have hm : mark w = false := by
      have := List.all_eq_true.1 (List.all_takeWhile (l := fld [] p) (p := fun w => !mark w)) w hw
      simpa using this
    have hf : w ∈ fld [] p := (List.takeWhile_sublist _).subset hw
    obtain ⟨a, b⟩ := mem_fld hf (by simp)
    refine wordOk_iff.2 ⟨a, hm, fun c hc => ?_⟩
    obtain ⟨c1, c2⟩ := b c hc
    have c3 := mem_parts hp c (by simpa using c2)
    have g := List.all_eq_true.1 h c c3.2
    unfold good at g
    have n1 : ¬ c = 10 := c3.1
    simp [n1] at g
    have n2 : c.toNat ≠ 32 := fun e => c1 (by
      have : c = UInt8.ofNat c.toNat := by simp
      rw [this, e]; rfl)
    exact ⟨by omega, g.2⟩

/-- Words' weight: each with what follows it. -/
def wt (l : List (List UInt8)) : Nat := (l.map (fun w => w.length + 1)).sum
theorem wt_join : ∀ {l : List (List UInt8)}, l ≠ [] → (Lib.join l [32]).length + 1 = wt l
  | [], h => absurd rfl h
  | [x], _ => by rw [Lib.join_one]; simp [wt]
  | x :: y :: r, _ => by
    have ih := wt_join (l := y :: r) (by simp)
    rw [join_two]
    simp [wt] at ih ⊢
    omega
theorem wt_fld : ∀ (l w : List UInt8), wt (fld w l) ≤ w.length + l.length + 1
  | [], w => by
    by_cases h : w = []
    · simp [fld, h, wt]
    · simp [fld, h, wt]
  | c :: r, w => by
    by_cases hc : c = 32
    · have ih := wt_fld r []
      by_cases h : w = []
      · simp [fld, hc, h] at ih ⊢; omega
      · simp [fld, hc, h, wt] at ih ⊢; omega
    · have ih := wt_fld r (w ++ [c])
      simp [fld, hc] at ih ⊢; omega
theorem wt_take (p : List UInt8 → Bool) : ∀ l : List (List UInt8), wt (l.takeWhile p) ≤ wt l
  | [] => by simp
  | x :: r => by
    have ih := wt_take p r
    rw [List.takeWhile_cons]
    split
    · simp [wt] at ih ⊢; omega
    · simp [wt]

theorem len_parts : ∀ (c : UInt8) (l : List UInt8), ((parts c l).map (fun p => p.length + 1)).sum = l.length + 1
  | c, [] => by simp [parts]
  | c, x :: r => by
    have ih := len_parts c r
    by_cases hx : x = c
    · subst hx
      rw [parts_same]; simp [ih]; omega
    · obtain ⟨h, t, e⟩ := parts_cons c r
      rw [parts_step hx e]
      rw [e] at ih
      simp at ih ⊢
      omega

theorem len_lines : ∀ (l : List (List UInt8)), (textOf ((l.map counts).filter some0)).length ≤ (l.map (fun p => p.length + 1)).sum
  | [] => by simp [textOf]
  | x :: r => by
    have ih := len_lines r
    rw [List.map_cons, List.filter_cons]
    split
    · rename_i h0
      have hne : counts x ≠ [] := fun e => by rw [e] at h0; cases h0
      have h1 := wt_join hne
      have h2 : wt (counts x) ≤ x.length + 1 := by
        have a := wt_take (fun w => !mark w) (fld [] x)
        have b := wt_fld x []
        unfold counts
        simp at b
        omega
      have e : textOf (counts x :: (r.map counts).filter some0) = lineText (counts x) ++ textOf ((r.map counts).filter some0) := by simp [textOf]
      rw [e]
      simp [lineText]
      omega
    · simp
      omega

theorem len_text (t : List UInt8) : (textOf (splitL t)).length ≤ t.length + 1 := by
  have := len_lines (parts 10 t)
  rw [len_parts] at this
  exact this

end Go.Proofs.YtopflkfnfgcogaaDoor
