/-
  A slice of slices of texts, of the call's own.
-/
import Derived.Test.YtopflkfnfgcogaaDoorCounts
namespace Go.Proofs.YtopflkfnfgcogaaDoor
open Go.RowKit Go

/-- Lines: a row of rows of texts. -/
def LL (W : World) (base : Nat) (v : Value) (xss : List (List ByteArray)) : Prop :=
  ∃ cells, W.ownsRow base 39 1 v xss.length cells ∧ ∀ (i : Nat) xs c, xss[i]? = some xs → cells[i]? = some c → W.ownsRow base 9 1 c xs.length (xs.map Value.string)

theorem LL.nil (W : World) (base : Nat) : LL W base (.slice none 0 0) [] := ⟨[], ⟨rfl, .inl ⟨rfl, rfl⟩⟩, fun i xs c h => by simp at h⟩

theorem own_at {W : World} {base n : Nat} {e : TypeId} {v : Value} {xs : List Value} (h : W.ownsRow base e 1 v n xs) {k : Nat} (hk : v.ownBlock = some k) : base ≤ k ∧ ∃ cur, W.heap[k]? = some (.cells cur e (0, 0)) := by
  rcases h.2 with ⟨rfl, _⟩ | ⟨g, cap, cur, rfl, hb, hg, _⟩
  · simp [Value.ownBlock] at hk
  · have : g = k := by simpa [Value.ownBlock] using hk
    subst this
    exact ⟨hb, cur, hg⟩

/-- What turns a block that is none of the rows' leaves them. -/
theorem own_kept {A B : World} {row : Option Nat} {base n : Nat} {e : TypeId} {v : Value} {xs : List Value} (h : A.ownsRow base e 1 v n xs) (hg : A.grownBy B row)
    (hr : ∀ r, row = some r → r < base ∨ ∀ cur t, A.heap[r]? = some (.cells cur t (0, 0)) → t ≠ e) : B.ownsRow base e 1 v n xs := by
  refine h.kept hg ?_
  cases hv : v.ownBlock with
  | none => exact .inl rfl
  | some k =>
    refine .inr fun e' => ?_
    obtain ⟨h1, cur, h2⟩ := own_at h hv
    rcases hr k e'.symm with h3 | h3
    · omega
    · exact h3 cur e h2 rfl

theorem LL.kept {A B : World} {row : Option Nat} {base : Nat} {v : Value} {xss : List (List ByteArray)} (h : LL A base v xss) (hg : A.grownBy B row)
    (hr : ∀ r, row = some r → r < base ∨ ∀ cur t, A.heap[r]? = some (.cells cur t (0, 0)) → t ≠ 9 ∧ t ≠ 39) : LL B base v xss := by
  obtain ⟨cells, h1, h2⟩ := h
  exact ⟨cells, own_kept h1 hg (fun r e => (hr r e).imp id (fun f cur t k => (f cur t k).2)), fun i xs c hi hc => own_kept (h2 i xs c hi hc) hg (fun r e => (hr r e).imp id (fun f cur t k => (f cur t k).1))⟩

theorem own_below {A B : World} {base n : Nat} {e : TypeId} {v : Value} {xs : List Value} (h : A.ownsRow base e 1 v n xs) (hb : Below A.heap.size A B) : B.ownsRow base e 1 v n xs := by
  obtain ⟨h1, h2⟩ := h
  refine ⟨h1, h2.imp id ?_⟩
  rintro ⟨g, cap, cur, hv, hg, hh, r⟩
  exact ⟨g, cap, cur, hv, hg, (hb.block g (Array.getElem?_eq_some_iff.1 hh).1).trans hh, r⟩

theorem LL.below {A B : World} {base : Nat} {v : Value} {xss : List (List ByteArray)} (h : LL A base v xss) (hb : Below A.heap.size A B) : LL B base v xss := by
  obtain ⟨cells, h1, h2⟩ := h
  exact ⟨cells, own_below h1 hb, fun i xs c hi hc => own_below (h2 i xs c hi hc) hb⟩

theorem LL.drewN {A : World} {base : Nat} {v : Value} {xss : List (List ByteArray)} (h : LL A base v xss) (q : Nat) : LL (A.drewN q) base v xss := h

/-- 'out = append(out, line)'. -/
theorem LL.snoc {W w1 : World} {base base' : Nat} {v v' u : Value} {xss : List (List ByteArray)} {cells : List Value} {ys : List ByteArray}
    (hc : W.ownsRow base 39 1 v xss.length cells) (h : ∀ (i : Nat) xs c, xss[i]? = some xs → cells[i]? = some c → W.ownsRow base 9 1 c xs.length (xs.map Value.string))
    (hu : W.ownsRow base' 9 1 u ys.length (ys.map Value.string)) (hb : base ≤ base')
    (hown' : w1.ownsRow base 39 1 v' (xss.length + 1) (cells ++ [u])) (hgrow : (W.alloc (.cells #[u] 39)).grownBy w1 v.ownBlock) : LL w1 base v' (xss ++ [ys]) := by
  have step : ∀ {b : Nat} {c : Value} {zs : List ByteArray}, base ≤ b → W.ownsRow b 9 1 c zs.length (zs.map Value.string) → w1.ownsRow base 9 1 c zs.length (zs.map Value.string) := fun hb hz => by
    have h1 := (hz.alloc (.cells #[u] 39))
    have h2 := own_kept h1 hgrow (fun r e => .inr fun cur t ht => by
      obtain ⟨_, cur', h3⟩ := own_at (hc.alloc (.cells #[u] 39)) e
      rw [h3] at ht
      cases ht
      decide)
    exact ⟨h2.1, h2.2.imp id (fun ⟨g, cap, cur, a, b, c⟩ => ⟨g, cap, cur, a, by omega, c⟩)⟩
  refine ⟨cells ++ [u], by simpa using hown', fun i xs c hi hci => ?_⟩
  have hl : cells.length = xss.length := by simpa using hc.1
  by_cases hlt : i < xss.length
  · rw [List.getElem?_append_left hlt] at hi
    rw [List.getElem?_append_left (by omega)] at hci
    exact step (Nat.le_refl _) (h i xs c hi hci)
  · rw [List.getElem?_append_right (by omega)] at hi
    rw [List.getElem?_append_right (by omega), hl] at hci
    obtain ⟨j, hj⟩ : ∃ j, i - xss.length = j := ⟨_, rfl⟩
    rw [hj] at hi hci
    cases j with
    | zero =>
      simp at hi hci
      subst hi hci
      exact step hb hu
    | succ j => simp at hi
end Go.Proofs.YtopflkfnfgcogaaDoor
