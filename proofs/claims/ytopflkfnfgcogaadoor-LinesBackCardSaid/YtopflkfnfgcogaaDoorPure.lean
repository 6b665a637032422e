/-
  Lines of a text: plain laws.
-/
import Derived.Test.YtopflkfnfgcogaaDoorChecked
import Derived.Lib.Join
namespace Go.Proofs.YtopflkfnfgcogaaDoor
open Go

/-- A text, parted at a byte. -/
def parts (c : UInt8) : List UInt8 → List (List UInt8)
  | [] => [[]]
  | x :: r => if x = c then [] :: parts c r else match parts c r with
    | [] => [[x]]
    | h :: t => (x :: h) :: t

theorem parts_ne (c : UInt8) (l : List UInt8) : parts c l ≠ [] := by
  cases l with
  | nil => simp [parts]
  | cons x r =>
    unfold parts
    split
    · simp
    · split <;> simp

theorem parts_cons (c : UInt8) (l : List UInt8) : ∃ h t, parts c l = h :: t := by
  cases e : parts c l with
  | nil => exact absurd e (parts_ne c l)
  | cons h t => exact ⟨h, t, rfl⟩

theorem parts_step {c x : UInt8} {r h : List UInt8} {t : List (List UInt8)} (hx : ¬ x = c) (e : parts c r = h :: t) : parts c (x :: r) = (x :: h) :: t := by
  simp [parts, hx, e]

theorem parts_same (c : UInt8) (r : List UInt8) : parts c (c :: r) = [] :: parts c r := by simp [parts]

theorem parts_none {c : UInt8} {l : List UInt8} (h : c ∉ l) : parts c l = [l] := by
  induction l with
  | nil => rfl
  | cons x r ih =>
    simp at h
    exact parts_step (fun e => h.1 e.symm) (ih h.2)

theorem parts_mid (c : UInt8) (a b : List UInt8) : parts c (a ++ c :: b) = parts c a ++ parts c b := by
  induction a with
  | nil => simp [parts]
  | cons x r ih =>
    by_cases hx : x = c
    · subst hx
      rw [List.cons_append, parts_same, parts_same, ih]; rfl
    · obtain ⟨h, t, e⟩ := parts_cons c r
      rw [e] at ih
      rw [List.cons_append, parts_step hx (h := h) (t := t ++ parts c b) (by rw [ih]; rfl), parts_step hx e]
      rfl

theorem parts_at {c : UInt8} {a b : List UInt8} (h : c ∉ a) : parts c (a ++ c :: b) = a :: parts c b := by
  rw [parts_mid, parts_none h]; rfl

/-- A line's words, of which 'cur' has come of the first. -/
def fld : List UInt8 → List UInt8 → List (List UInt8)
  | cur, [] => if cur = [] then [] else [cur]
  | cur, c :: r => if c = 32 then (if cur = [] then fld [] r else cur :: fld [] r) else fld (cur ++ [c]) r

/-- Does a word begin a remark? -/
def mark (w : List UInt8) : Bool := w.head? == some 35

/-- A line's words that count. -/
def counts (l : List UInt8) : List (List UInt8) := (fld [] l).takeWhile (fun w => !mark w)

def some0 (l : List (List UInt8)) : Bool := !l.isEmpty

theorem some0_one (x : List (List UInt8)) : [x].filter some0 = if x = [] then [] else [x] := by
  cases x with
  | nil => simp [some0]
  | cons y r => simp [some0]

/-- The lines of a text. -/
def splitL (t : List UInt8) : List (List (List UInt8)) := ((parts 10 t).map counts).filter some0

/-- May a byte stand in a text? -/
def good (c : UInt8) : Bool := decide (c = 10) || (decide (32 ≤ c.toNat) && decide (c.toNat ≤ 126))

def split (t : List UInt8) : List (List (List UInt8)) × Int :=
  if 4096 < t.length then ([], 3) else if t.all good = true then (splitL t, 0) else ([], 180)

/-- The reference's way through a text: lines that came, the line's words, the word, whether it is a remark. -/
def refM : List UInt8 → List (List (List UInt8)) → List (List UInt8) → List UInt8 → Bool → Option (List (List (List UInt8)))
  | [], out, line, word, _ =>
    let line' := if word = [] then line else line ++ [word]
    some (if line' = [] then out else out ++ [line'])
  | c :: r, out, line, word, remark =>
    if c = 10 then
      let line' := if word = [] then line else line ++ [word]
      refM r (if line' = [] then out else out ++ [line']) [] [] false
    else if good c = false then none
    else if c = 32 then refM r out (if word = [] then line else line ++ [word]) [] remark
    else
      let remark' := remark || (decide (word = []) && decide (c = 35))
      refM r out line (if remark' then word else word ++ [c]) remark'

/-- The rest of a line, by the reference. -/
def mLine : List UInt8 → List UInt8 → Bool → List (List UInt8)
  | [], word, _ => if word = [] then [] else [word]
  | c :: r, word, remark =>
    if c = 32 then (if word = [] then mLine r [] remark else word :: mLine r [] remark)
    else
      let remark' := remark || (decide (word = []) && decide (c = 35))
      mLine r (if remark' then word else word ++ [c]) remark'

theorem mLine_remark (l : List UInt8) : mLine l [] true = [] := by
  induction l with
  | nil => rfl
  | cons c r ih =>
    unfold mLine
    by_cases h : c = 32
    · simp [h, ih]
    · simp [h, ih]

theorem fld_head : ∀ (l w : List UInt8), w ≠ [] → ∃ s t, fld w l = (w ++ s) :: t
  | [], w, h => ⟨[], [], by simp [fld, h]⟩
  | c :: r, w, h => by
    by_cases hc : c = 32
    · exact ⟨[], fld [] r, by simp [fld, hc, h]⟩
    · obtain ⟨s, t, e⟩ := fld_head r (w ++ [c]) (by simp)
      exact ⟨c :: s, t, by simp [fld, hc, e]⟩

theorem mLine_counts : ∀ (l w : List UInt8), mark w = false → mLine l w false = (fld w l).takeWhile (fun w => !mark w)
  | [], w, h => by
    by_cases hw : w = []
    · simp [mLine, fld, hw]
    · simp [mLine, fld, hw, h]
  | c :: r, w, h => by
    by_cases hc : c = 32
    · have ih := mLine_counts r [] rfl
      by_cases hw : w = []
      · simp [mLine, fld, hc, hw, ih]
      · simp [mLine, fld, hc, hw, ih, h]
    · by_cases hr : w = [] ∧ c = 35
      · obtain ⟨rfl, rfl⟩ := hr
        obtain ⟨s, t, e⟩ := fld_head r [35] (by simp)
        have e1 : mLine (35 :: r) [] false = mLine r [] true := by simp [mLine]
        have e2 : fld [] (35 :: r) = ([35] ++ s) :: t := by rw [← e]; simp [fld]
        rw [e1, mLine_remark, e2]
        simp [mark]
      · have hb : (decide (w = []) && decide (c = 35)) = false := by
          rw [← Bool.decide_and, decide_eq_false hr]
        have e1 : mLine (c :: r) w false = mLine r (w ++ [c]) false := by
          simp only [mLine, hc, hb, if_false, Bool.or_false]
          rfl
        have e2 : fld w (c :: r) = fld (w ++ [c]) r := by simp [fld, hc]
        rw [e1, e2]
        refine mLine_counts r (w ++ [c]) ?_
        cases w with
        | nil =>
          have : ¬ c = 35 := fun e => hr ⟨rfl, e⟩
          simp [mark, this]
        | cons y ys => simpa [mark] using h

theorem counts_eq (l : List UInt8) : mLine l [] false = counts l := mLine_counts l [] rfl

theorem refM_good : ∀ (l : List UInt8) out line word remark, l.all good = true → ∀ h t, parts 10 l = h :: t →
    refM l out line word remark = some (out ++ [line ++ mLine h word remark].filter some0 ++ (t.map counts).filter some0)
  | [], out, line, word, remark, _, h, t, e => by
    simp only [parts, List.cons.injEq] at e
    obtain ⟨rfl, rfl⟩ := e
    rw [some0_one]
    by_cases hw : word = []
    · by_cases hl : line = []
      · simp [refM, mLine, hw, hl]
      · simp [refM, mLine, hw, hl]
    · simp [refM, mLine, hw]
  | c :: r, out, line, word, remark, hg, h, t, e => by
    simp only [List.all_cons, Bool.and_eq_true] at hg
    obtain ⟨hg1, hg2⟩ := hg
    obtain ⟨h', t', e'⟩ := parts_cons 10 r
    by_cases hc : c = 10
    · subst hc
      rw [parts_same, List.cons.injEq] at e
      obtain ⟨rfl, rfl⟩ := e
      have ih := fun o => refM_good r o [] [] false hg2 h' t' e'
      have e1 : refM (10 :: r) out line word remark = refM r (if (if word = [] then line else line ++ [word]) = [] then out else out ++ [if word = [] then line else line ++ [word]]) [] [] false := by simp [refM]
      rw [e1, ih, e', counts_eq]
      have e3 : (List.map counts (h' :: t')).filter some0 = [[] ++ counts h'].filter some0 ++ (t'.map counts).filter some0 := by
        rw [List.map_cons, List.nil_append, ← List.singleton_append, List.filter_append]
      rw [e3, some0_one (line ++ mLine [] word remark)]
      by_cases hw : word = []
      · by_cases hl : line = []
        · simp [mLine, hw, hl]
        · simp [mLine, hw, hl]
      · simp [mLine, hw]
    · rw [parts_step hc e', List.cons.injEq] at e
      obtain ⟨rfl, rfl⟩ := e
      by_cases h32 : c = 32
      · have ih := refM_good r out (if word = [] then line else line ++ [word]) [] remark hg2 h' t' e'
        have e1 : refM (c :: r) out line word remark = refM r out (if word = [] then line else line ++ [word]) [] remark := by
          simp [refM, h32, good]
        rw [e1, ih]
        by_cases hw : word = []
        · simp [mLine, h32, hw]
        · simp [mLine, h32, hw]
      · have e1 : refM (c :: r) out line word remark = refM r out line (if (remark || (decide (word = []) && decide (c = 35))) then word else word ++ [c]) (remark || (decide (word = []) && decide (c = 35))) := by
          simp only [refM, hc, h32, hg1, if_false]
          rfl
        have e2 : mLine (c :: h') word remark = mLine h' (if (remark || (decide (word = []) && decide (c = 35))) then word else word ++ [c]) (remark || (decide (word = []) && decide (c = 35))) := by
          simp only [mLine, h32, if_false]
        rw [e1, refM_good r out line _ _ hg2 h' t' e', e2]

theorem refM_bad : ∀ (l : List UInt8) out line word remark, l.all good = false → refM l out line word remark = none
  | [], _, _, _, _, h => by cases h
  | c :: r, out, line, word, remark, h => by
    unfold refM
    by_cases hc : c = 10
    · rw [if_pos hc]
      have : r.all good = false := by simpa [hc, good] using h
      exact refM_bad r _ _ _ _ this
    · rw [if_neg hc]
      by_cases hg : good c = false
      · rw [if_pos hg]
      · have : r.all good = false := by simp [hg] at h; simpa using h
        rw [if_neg hg]
        split
        · exact refM_bad r _ _ _ _ this
        · exact refM_bad r _ _ _ _ this

/-- The reference's way is the text's lines. -/
theorem refM_split (l : List UInt8) : refM l [] [] [] false = if l.all good = true then some (splitL l) else none := by
  by_cases h : l.all good = true
  · obtain ⟨x, t, e⟩ := parts_cons 10 l
    rw [if_pos h, refM_good l [] [] [] false h x t e]
    unfold splitL
    rw [e, counts_eq]
    simp [List.filter_cons]
    split <;> simp
  · rw [if_neg h]
    exact refM_bad l _ _ _ _ (by simpa using h)

/-- Lines of two texts. -/
theorem splitL_join (a b : List UInt8) (h : a = [] ∨ ∃ x, a = x ++ [10]) : splitL (a ++ b) = splitL a ++ splitL b := by
  rcases h with rfl | ⟨x, rfl⟩
  · simp [splitL, parts, counts, fld, some0]
  · have e1 : x ++ [10] ++ b = x ++ 10 :: b := by simp
    have e2 : parts 10 (x ++ [10]) = parts 10 x ++ [[]] := by
      have := parts_mid 10 x []
      rw [this]; rfl
    unfold splitL
    rw [e1, parts_mid, e2]
    simp [counts, fld, some0]

/-- May a text be a word? -/
def wordOk (w : List UInt8) : Bool := !w.isEmpty && !mark w && w.all (fun c => decide (33 ≤ c.toNat) && decide (c.toNat ≤ 126))

def lineOk (l : List (List UInt8)) : Bool := some0 l && l.all wordOk

/-- May these be lines? -/
def mayL (l : List (List (List UInt8))) : Bool := l.all lineOk

/-- A line's text. -/
def lineText (l : List (List UInt8)) : List UInt8 := Lib.join l [32] ++ [10]
def textOf (l : List (List (List UInt8))) : List UInt8 := (l.map lineText).flatten

def print (l : List (List (List UInt8))) : List UInt8 × Int :=
  if mayL l = true then (if 4096 < (textOf l).length then ([], 3) else (textOf l, 0)) else ([], 2)

end Go.Proofs.YtopflkfnfgcogaaDoor
