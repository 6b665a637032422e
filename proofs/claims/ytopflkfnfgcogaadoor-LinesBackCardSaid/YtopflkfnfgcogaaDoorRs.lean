/-
  The document's Split: its contract.
-/
import Derived.Test.YtopflkfnfgcogaaDoorSq
namespace Go.Proofs.YtopflkfnfgcogaaDoor
open Go.RowKit Go

/-- Lines whose texts' rows lie below m. -/
def L2 (W : World) (base m : Nat) (v : Value) (xss : List (List ByteArray)) : Prop :=
  ∃ cells, W.ownsRow base 39 1 v xss.length cells ∧ ∀ (i : Nat) xs c, xss[i]? = some xs → cells[i]? = some c → W.ownsRow base 9 1 c xs.length (xs.map Value.string) ∧ ∀ k, c.ownBlock = some k → k < m

theorem L2.nil (W : World) (base m : Nat) : L2 W base m (.slice none 0 0) [] := ⟨[], ⟨rfl, .inl ⟨rfl, rfl⟩⟩, fun i xs c h => by simp at h⟩
theorem L2.ll {W : World} {base m : Nat} {v : Value} {xss : List (List ByteArray)} (h : L2 W base m v xss) : LL W base v xss := by
  obtain ⟨cells, h1, h2⟩ := h
  exact ⟨cells, h1, fun i xs c hi hc => (h2 i xs c hi hc).1⟩

/-- 'line = append(line, word)': lines that stand below stay. -/
theorem L2.line {W w1 : World} {base m n : Nat} {v vl x : Value} {xss : List (List ByteArray)} {ys : List Value} (h : L2 W base m v xss) (hl : W.ownsRow m 9 1 vl n ys)
    (hgrow : (W.alloc (.cells #[x] 9)).grownBy w1 vl.ownBlock) : L2 w1 base m v xss := by
  obtain ⟨cells, h1, h2⟩ := h
  refine ⟨cells, own_kept (h1.alloc (.cells #[x] 9)) hgrow (fun r e => .inr fun cur t ht => ?_), fun i xs c hi hc => ⟨?_, (h2 i xs c hi hc).2⟩⟩
  · obtain ⟨_, cur', h3⟩ := own_at (hl.alloc (.cells #[x] 9)) e
    rw [h3] at ht
    cases ht
    decide
  · refine ((h2 i xs c hi hc).1.alloc (.cells #[x] 9)).kept hgrow ?_
    cases hv : c.ownBlock with
    | none => exact .inl rfl
    | some k =>
      refine .inr fun e => ?_
      have h3 := (h2 i xs c hi hc).2 k hv
      have h4 := (own_at hl e.symm).1
      omega

/-- 'out = append(out, line)'. -/
theorem L2.snoc {W w1 : World} {base m : Nat} {v v' u : Value} {xss : List (List ByteArray)} {cells : List Value} {ys : List ByteArray}
    (hc : W.ownsRow base 39 1 v xss.length cells) (h : ∀ (i : Nat) xs c, xss[i]? = some xs → cells[i]? = some c → W.ownsRow base 9 1 c xs.length (xs.map Value.string) ∧ ∀ k, c.ownBlock = some k → k < m)
    (hu : W.ownsRow m 9 1 u ys.length (ys.map Value.string)) (hb : base ≤ m)
    (hown' : w1.ownsRow base 39 1 v' (xss.length + 1) (cells ++ [u])) (hgrow : (W.alloc (.cells #[u] 39)).grownBy w1 v.ownBlock) : L2 w1 base w1.heap.size v' (xss ++ [ys]) := by
  obtain ⟨cells', h1, h2⟩ := LL.snoc hc (fun i xs c hi hci => (h i xs c hi hci).1) hu hb hown' hgrow
  refine ⟨cells', h1, fun i xs c hi hci => ⟨h2 i xs c hi hci, fun k hk => ?_⟩⟩
  obtain ⟨_, cur, h3⟩ := own_at (h2 i xs c hi hci) hk
  exact (Array.getElem?_eq_some_iff.1 h3).1

theorem texts_snoc (line : List (List UInt8)) (x : List UInt8) : (line ++ [x]).map (fun l => Value.string (toB l)) = line.map (fun l => Value.string (toB l)) ++ [.string (toB x)] := by simp

/-- What holds ahead of a round of the document's Split. -/
structure RS (s : ByteArray) (w W : World) (k : Nat) (vo vl : Value) (wd : ByteArray) (rem : Bool) (out : List (List (List UInt8))) (line : List (List UInt8)) (m : Nat) : Prop where
  lines : L2 W w.heap.size m vo (out.map (·.map toB))
  row : W.ownsRow m 9 1 vl line.length (line.map (fun l => .string (toB l)))
  hm : m ≤ W.heap.size
  hb : w.heap.size ≤ m
  below : Below w.heap.size w W
  l1 : out.length ≤ k
  l2 : line.length ≤ k
  l3 : wd.size ≤ k
  pure : refM (s.data.toList.drop k) out line wd.data.toList rem = refM s.data.toList [] [] [] false

/-- The lines behind a line's end. -/
def endOut (out : List (List (List UInt8))) (line : List (List UInt8)) (word : List UInt8) : List (List (List UInt8)) := if (if word = [] then line else line ++ [word]) = [] then out else out ++ [if word = [] then line else line ++ [word]]
theorem endOut_0 {out : List (List (List UInt8))} {line : List (List UInt8)} {word : List UInt8} (h : word = []) (hl : line = []) : endOut out line word = out := by simp [endOut, h, hl]
theorem endOut_l {out : List (List (List UInt8))} {line : List (List UInt8)} {word : List UInt8} (h : word = []) (hl : ¬ line = []) : endOut out line word = out ++ [line] := by simp [endOut, h, hl]
theorem endOut_w {out : List (List (List UInt8))} {line : List (List UInt8)} {word : List UInt8} (h : ¬ word = []) : endOut out line word = out ++ [line ++ [word]] := by simp [endOut, h]

theorem refM_end {out : List (List (List UInt8))} {line : List (List UInt8)} {word : List UInt8} {rem : Bool} : refM [] out line word rem = some (endOut out line word) := by
  simp [refM, endOut]
theorem refM_10 {r : List UInt8} {c : UInt8} {out : List (List (List UInt8))} {line : List (List UInt8)} {word : List UInt8} {rem : Bool} (h : c.toNat = 10) : refM (c :: r) out line word rem = refM r (endOut out line word) [] [] false := by
  have : c = 10 := by
    have : c = UInt8.ofNat c.toNat := by simp
    rw [this, h]; rfl
  subst this
  simp [refM, endOut]
theorem ne10 {c : UInt8} (h : c.toNat ≠ 10) : ¬ c = 10 := fun e => h (by rw [e]; rfl)
theorem refM_bad1 {r : List UInt8} {c : UInt8} {out : List (List (List UInt8))} {line : List (List UInt8)} {word : List UInt8} {rem : Bool} (h : good c = false) : refM (c :: r) out line word rem = none := by
  have := bad_cases h
  simp [refM, ne10 this.1, h]
theorem refM_32 {r : List UInt8} {c : UInt8} {out : List (List (List UInt8))} {line : List (List UInt8)} {word : List UInt8} {rem : Bool} (h : c.toNat = 32) : refM (c :: r) out line word rem = refM r out (if word = [] then line else line ++ [word]) [] rem := by
  have : c = 32 := u8_32.2 h
  subst this
  simp [refM, good]
theorem refM_go {r : List UInt8} {c : UInt8} {out : List (List (List UInt8))} {line : List (List UInt8)} {word : List UInt8} {rem : Bool} (h10 : c.toNat ≠ 10) (h32 : c.toNat ≠ 32) (hg : good c = true) :
    refM (c :: r) out line word rem = refM r out line (if (rem || (decide (word = []) && decide (c = 35))) then word else word ++ [c]) (rem || (decide (word = []) && decide (c = 35))) := by
  have h2 : ¬ c = 32 := fun e => h32 (u8_32.1 e)
  simp only [refM, ne10 h10, h2, hg, if_false]
  rfl
end Go.Proofs.YtopflkfnfgcogaaDoor
