/-
  Lines that a text of the program lays; raw rows of lines; blanks.
-/
import Derived.Test.YtopflkfnfgcogaaDoorLinesSplitW
namespace Go.Proofs.YtopflkfnfgcogaaDoor
open Go.RowKit Go Go.Proofs.YtopflkfnfgcogaaDoorW.PrintWords PLinesBack

theorem row_lit (W : World) {e : TypeId} {base : Nat} (cs : List Value) (hb : base ≤ W.heap.size) (hl : cs.length ≤ 1000) : (W.alloc (.cells cs.toArray e)).ownsRow base e 1 (.slice (some ⟨W.heap.size, 0, none⟩) cs.length cs.length) cs.length cs :=
  ⟨by simp, .inr ⟨W.heap.size, cs.length, cs.toArray, rfl, hb, World.alloc_heap_new W _, Nat.le_refl _, by unfold maxLen; omega, by simp, by simp⟩⟩

def encS (p : Option Addr × Nat × Nat) : Value := .slice p.1 p.2.1 p.2.2
/-- A line as a slice alone. -/
def rawKd : Kd (Option Addr × Nat × Nat) := Kd.scalar encS (fun _ => rfl)

theorem shapes {cells : List Value} : (∀ c ∈ cells, ∃ a n k, c = .slice a n k) → ∃ ps : List (Option Addr × Nat × Nat), cells = ps.map encS := by
  induction cells with
  | nil => exact fun _ => ⟨[], rfl⟩
  | cons c r ih =>
    intro h
    obtain ⟨a, n, k, rfl⟩ := h c (by simp)
    obtain ⟨ps, rfl⟩ := ih (fun c hc => h c (by simp [hc]))
    exact ⟨(a, n, k) :: ps, rfl⟩

theorem LL.raw {W : World} {base : Nat} {v : Value} {xss : List (List ByteArray)} (h : LL W base v xss) : ∃ ps : List (Option Addr × Nat × Nat), ps.length = xss.length ∧ W.ownsRow base 39 1 v xss.length (ps.map encS) ∧
    ∀ (i : Nat) xs c, xss[i]? = some xs → (ps.map encS)[i]? = some c → W.ownsRow base 9 1 c xs.length (xs.map Value.string) := by
  obtain ⟨cells, h1, h2⟩ := h
  have hl : cells.length = xss.length := by simpa using h1.1
  obtain ⟨ps, rfl⟩ := shapes (cells := cells) (fun c hc => by
    obtain ⟨i, hi, rfl⟩ := List.getElem_of_mem hc
    obtain ⟨a, k, e⟩ := own_shape (h2 i xss[i] cells[i] (List.getElem?_eq_getElem (by omega)) (List.getElem?_eq_getElem hi))
    exact ⟨a, _, k, e⟩)
  exact ⟨ps, by simpa using hl, h1, h2⟩

theorem raw_reads {W : World} {base n c : Nat} {a : Option Addr} {ps : List (Option Addr × Nat × Nat)} (h : W.ownsRow base 39 1 (.slice a n c) n (ps.map encS)) : ReadsRow (rawKd.K W) rawKd.sz W a n ps := by
  obtain ⟨_, h2, h3⟩ := own_get h
  have hl : ps.length = n := by simpa using h.1
  refine ⟨hl, h2, fun h0 => ?_⟩
  obtain ⟨g, rfl, hc⟩ := h3 h0
  refine ⟨_, rfl, fun j p hj => ⟨[encS p], rfl, rfl, fun i u hu => ?_⟩⟩
  have hi : i = 0 := by
    have := (List.getElem?_eq_some_iff.1 hu).1
    simp at this; exact this
  subst hi
  simp at hu
  subst hu
  have e : j * rawKd.sz + 0 = j := by show j * 1 + 0 = j; omega
  rw [e, addr_add, Nat.zero_add]
  exact hc j _ (by rw [List.getElem?_map, hj]; rfl)

theorem raw_own {w : World} {base : Nat} {ok : Nat → Prop} {v : Value} {ps : List (Option Addr × Nat × Nat)} (h : Kd.R rawKd 39 w base ok v ps) : w.ownsRow base 39 1 v ps.length (ps.map encS) := by
  obtain ⟨_, inner, ho, hr1, hr2⟩ := h
  have e : inner = ps.map encS := by
    refine List.ext_getElem? fun j => ?_
    have hl : inner.length = ps.length * 1 := hr1
    by_cases hj : j < ps.length
    · have hk : (inner.drop (j * 1)).take 1 = [encS ps[j]] := hr2 j ps[j] (List.getElem?_eq_getElem hj)
      have hji : j < inner.length := by omega
      rw [Nat.mul_one, List.drop_eq_getElem_cons hji, List.take_succ_cons, List.take_zero, List.cons.injEq] at hk
      rw [List.getElem?_eq_getElem hji, hk.1]
      simp [hj]
    · rw [List.getElem?_eq_none (by omega), List.getElem?_eq_none (by simp; omega)]
  rw [← e]
  exact ho

/-- Two rows of lines, one behind the other. -/
theorem LL.join {W : World} {base : Nat} {v : Value} {xss yss : List (List ByteArray)} {ps qs : List (Option Addr × Nat × Nat)} (hp : ps.length = xss.length) (hq : qs.length = yss.length)
    (h : Kd.R rawKd 39 W base (fun _ => True) v (ps ++ qs))
    (h1 : ∀ (i : Nat) xs c, xss[i]? = some xs → (ps.map encS)[i]? = some c → W.ownsRow base 9 1 c xs.length (xs.map Value.string))
    (h2 : ∀ (i : Nat) xs c, yss[i]? = some xs → (qs.map encS)[i]? = some c → W.ownsRow base 9 1 c xs.length (xs.map Value.string)) : LL W base v (xss ++ yss) := by
  have ho := raw_own h
  refine ⟨(ps ++ qs).map encS, by rw [List.length_append, ← hp, ← hq, ← List.length_append]; exact ho, fun i xs c hi hc => ?_⟩
  rw [List.map_append] at hc
  by_cases hlt : i < xss.length
  · rw [List.getElem?_append_left hlt] at hi
    rw [List.getElem?_append_left (by simp; omega)] at hc
    exact h1 i xs c hi hc
  · rw [List.getElem?_append_right (by omega)] at hi
    rw [List.getElem?_append_right (by simp; omega)] at hc
    simp only [List.length_map, hp] at hc
    exact h2 _ xs c hi hc

theorem blanks_l0 (n : Nat) (hn : n ≤ 100000) : ∀ d k (i : Nat) (xs : List Int), n - i = d → i ≤ n → d < k → xs.length = i → postilionlaw18_blanks.l0 k n xs i = some (strOfNums (xs ++ List.replicate d 32))
  | d, 0, i, xs, _, _, h, _ => by omega
  | d, k + 1, i, xs, hd, hi, hk, hx => by
    unfold postilionlaw18_blanks.l0
    by_cases hlt : i < n
    · rw [if_pos (by omega), if_pos (by omega), w64 (by omega), blanks_l0 n hn (d - 1) k (i + 1) (xs ++ [32]) (by omega) (by omega) (by omega) (by simp [hx])]
      have : d = (d - 1) + 1 := by omega
      conv => rhs; rw [this]
      rw [List.replicate_succ, List.append_assoc]
      rfl
    · obtain rfl : d = 0 := by omega
      rw [if_neg (by omega)]
      simp

theorem blanks_any (n : Nat) (hn : n ≤ 100000) (w : World) : Calls Tryd.prog 15 #[.int .i64 n] w fun e w' => e = .returned (.string (strOfNums (List.replicate n 32))) ∧ Below w.heap.size w w' := by
  refine postilionlaw18_blanks.calls (n + 1) n _ w ?_
  unfold postilionlaw18_blanks.f
  have := blanks_l0 n hn n (n + 1) 0 [] rfl (Nat.zero_le _) (by omega) rfl
  simpa using this
end Go.Proofs.YtopflkfnfgcogaaDoor
