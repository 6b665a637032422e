/-
  Parse: its loop's words.
-/
import Derived.Test.YtmddbnfhbnofgaaDoorSeqMade
import Derived.Test.YtmddbnfhbnofgaaDoorTok3
import Derived.Test.YtmddbnfhbnofgaaDoorTokP
import Derived.RangeFuncBox
namespace Go.Proofs.YtmddbnfhbnofgaaDoor
open Go.RowKit Go.Shelf Go
attribute [local go_sem] Oper.semAt_some

/-- Between two rounds: l's row. -/
def PI (w : World) (pre : List ByteArray) (W : World) : Prop :=
  (∃ v, Boxed W (w.heap.size + 2) 22 v ∧ W.ownsRow (w.heap.size + 7) 9 1 v pre.length (pre.map Value.string)) ∧ Boxed W w.heap.size 22 (.slice none 0 0) ∧ Boxed W (w.heap.size + 1) 26 (.int .i64 0) ∧ may pre = true ∧ w.heap.size + 7 ≤ W.heap.size ∧ Below w.heap.size w W

/-- Left by 'return nil, ErrForm'. -/
def PX (w : World) (c : Code) (pre : List ByteArray) (W : World) : Prop :=
  c = .ret ∧ Boxed W w.heap.size 22 (.slice none 0 0) ∧ Boxed W (w.heap.size + 1) 26 (.int .i64 6) ∧ may pre = false ∧ w.heap.size + 7 ≤ W.heap.size ∧ Below w.heap.size w W

theorem boxed_kept' {A B : World} {row : Option Nat} {k : Nat} {t : TypeId} {v : Value} (h : Boxed A k t v) (hg : A.grownBy B row) {m : Nat} (hr : ∀ r, row = some r → m ≤ r ∧ ∃ o : Obj, A.heap[r]? = some o ∧ o.isCells = false) : Boxed B k t v :=
  h.kept hg (fun e' => by
    obtain ⟨_, o, ho, hc⟩ := hr _ e'.symm
    rw [show A.heap[k]? = _ from h] at ho
    cases ho; cases hc)

theorem PI_own (w : World) : OwnFrom (w.heap.size + 7) (PI w) := by
  rintro s A B row ⟨⟨v, hv, hr⟩, h1, h2, hm, hs, hb⟩ hg hrow
  refine ⟨⟨v, boxed_kept' hv hg hrow, hr.kept hg ?_⟩, boxed_kept' h1 hg hrow, boxed_kept' h2 hg hrow, hm, Nat.le_trans hs hg.size, hb.grown hg (by omega) (fun k e => by have := (hrow k e).1; omega)⟩
  rcases hr.2 with ⟨rfl, _⟩ | ⟨g, cap, cur, rfl, _, hgb, _⟩
  · exact .inl rfl
  · refine .inr fun e' => ?_
    obtain ⟨_, o, ho, hc⟩ := hrow g (by rw [← e']; rfl)
    rw [hgb] at ho
    cases ho; cases hc

theorem PX_own (w : World) (c : Code) : OwnFrom (w.heap.size + 7) (PX w c) := by
  rintro s A B row ⟨hc, h1, h2, hm, hs, hb⟩ hg hrow
  exact ⟨hc, boxed_kept' h1 hg hrow, boxed_kept' h2 hg hrow, hm, Nat.le_trans hs hg.size, hb.grown hg (by omega) (fun k e => by have := (hrow k e).1; omega)⟩

theorem PI_turn {w : World} {s : List ByteArray} {A B : World} (h : PI w s A) (ht : TurnS (w.heap.size + 4) A B) : PI w s B := by
  obtain ⟨u, rfl⟩ := ht
  obtain ⟨⟨v, hv, hr⟩, h1, h2, hm, hs, hb⟩ := h
  refine ⟨⟨v, hv.other (by omega) _, hr.kept (grownBy_setCell' _ _ _) ?_⟩, h1.other (by omega) _, h2.other (by omega) _, hm, by simpa using hs, hb.setCell (p := ⟨_, 0, none⟩) (by simp) _⟩
  rcases hr.2 with ⟨rfl, _⟩ | ⟨g, cap, cur, rfl, hg, hgb, _⟩
  · exact .inl rfl
  · refine .inr fun e' => ?_
    have : g = w.heap.size + 4 := by simpa [Value.ownBlock] using e'
    omega

theorem keepS_t {n₀ Bp Bs Bv : Nat} {A B C : World} (h : KeepS n₀ Bp Bs Bv A B) (k : KeepS n₀ Bp Bs Bv B C) : KeepS n₀ Bp Bs Bv A C := ⟨h.1.trans k.1, fun i hi => (k.2 i hi).trans (h.2 i hi)⟩
theorem keepS_b {n₀ Bp Bs Bv m : Nat} (hn : n₀ ≤ m) (hp : Bp < m) (hs : Bs < m) (hv : Bv < m) (W : World) (l : Nat) (o o' : Obj) (hl : m ≤ l) (ho : W.heap[l]? = some o) (_ : o.isCells = false) (_ : o.isWalk = false) : KeepS n₀ Bp Bs Bv W (W.putObj l o') :=
  ⟨(Below.refl n₀ W).grown (grownBy_putObj' W l o') (by have := (Array.getElem?_eq_some_iff.1 ho).1; omega) (fun k e => by cases e; omega), fun k hk => World.putObj_heap_other (by omega)⟩

/-- 'l = append(l, x)', l in a box: what was made ahead of the row stays. -/
theorem appended2 {W w1 : World} {n₀ R B : Nat} {t e : TypeId} {size : Nat} {v v' : Value} {k m : Nat} {xs ys : List Value} {tmp : Obj}
    (hv : Boxed W B t v) (hte : t ≠ e) (hrow : W.ownsRow R e size v k xs) (hn₀ : R ≤ W.heap.size) (hR : n₀ ≤ R) (hB : n₀ ≤ B)
    (hown' : w1.ownsRow R e size v' m ys) (hgrow : (W.alloc tmp).grownBy w1 v.ownBlock) :
    Boxed w1 B t v ∧ Boxed (w1.setCell ⟨B, 0, none⟩ v') B t v' ∧ (w1.setCell ⟨B, 0, none⟩ v').ownsRow R e size v' m ys ∧ KeepsOthers W (w1.setCell ⟨B, 0, none⟩ v') ∧ Below n₀ W (w1.setCell ⟨B, 0, none⟩ v') ∧ (∀ j, j < R → j ≠ B → (w1.setCell ⟨B, 0, none⟩ v').heap[j]? = W.heap[j]?) := by
  have weak : ∀ {X : World} {u : Value} {i : Nat} {zs : List Value}, X.ownsRow R e size u i zs → X.ownsRow n₀ e size u i zs := fun h =>
    ⟨h.1, h.2.imp id (fun ⟨g, cap, cur, a, b, c⟩ => ⟨g, cap, cur, a, by omega, c⟩)⟩
  obtain ⟨a1, a2, a3, a4, a5⟩ := hv.appended hte (weak hrow) (by omega) hB (weak hown') hgrow
  refine ⟨a1, a2, hown'.kept (grownBy_setCell' w1 B v') (.inr (a1.not_row hte hown').symm), a4, a5, fun j hj hjB => ?_⟩
  have hj' : j < (W.alloc tmp).heap.size := by simp; omega
  refine (Below.heap_setCell _ _ _ j hjB).trans ((hgrow.block j hj' ?_).trans (Below.heap_alloc W _ j (by omega)))
  rcases hrow.2 with ⟨rfl, _⟩ | ⟨g, cap, cur, rfl, hg, _, _⟩
  · simp [Value.ownBlock]
  · intro e'
    have : j = g := by simpa [Value.ownBlock] using e'
    omega

theorem may_prefix {xs ys : List ByteArray} (h : may xs = false) : may (xs ++ ys) = false := by
  cases e : may (xs ++ ys) with
  | false => rfl
  | true =>
    obtain ⟨a, b⟩ := may_all e
    rw [may_mk (by simp at a; omega) (fun x hx => b x (by simp [hx]))] at h
    exact h

theorem cut_of {c : UInt8} {s : ByteArray} {ys : List ByteArray} (h : ys.map (·.data.toList) = parts c s.data.toList) : ys = cut c s := by
  unfold cut
  rw [← h, List.map_map]
  have : toB ∘ (fun x : ByteArray => x.data.toList) = id := by funext y; rfl
  rw [this, List.map_id]

theorem cut_bad {c : UInt8} {s : ByteArray} {pre : List ByteArray} (h : pre.map (·.data.toList) <+: parts c s.data.toList) (hm : may pre = false) : may (cut c s) = false := by
  obtain ⟨t, e⟩ := h
  have : cut c s = pre ++ t.map toB := by
    rw [cut, ← e, List.map_append, List.map_map]
    have : toB ∘ (fun x : ByteArray => x.data.toList) = id := by funext y; rfl
    rw [this, List.map_id]
  rw [this]
  exact may_prefix hm
end Go.Proofs.YtmddbnfhbnofgaaDoor
