/-
  Both racks at a law.
-/
import Derived.Test.YtpjipdmlfpgokaaPlay
import Derived.Test.YtpjipdmlfpgokaaActs
namespace Go.Proofs.Ytpjipdmlfpgokaa
open Go.RowKit RP

/-- Both racks, apart from each other. -/
def Jt (B : Nat) (w0 w : World) (b : Nat) (F : List Nat) (t : KV) (mb : Nat) (G : List Nat) (rows : KV) (S n n' step : Int) : Prop :=
  St B w0 w b F t S n step ∧ MAt w B mb G rows S n' step ∧ ∀ x ∈ F, x ∉ G

section
variable {B b mb : Nat} {w0 w w' : World} {F G : List Nat} {t t' rows rows' : KV} {S n n' n2 step : Int}

theorem Jt.r (h : Jt B w0 w b F t mb G rows S n n' step) (hs : Stp B w0 w b F t' S n2 step w') : ∃ F', Jt B w0 w' b F' t' mb G rows S n2 n' step ∧ (∀ k, k < w.heap.size → B ≤ k → k ∉ F → w'.heap[k]? = w.heap[k]?) ∧ Below B w w' ∧ (∀ x ∈ F', x ∈ F ∨ w.heap.size ≤ x) ∧ w.heap.size ≤ w'.heap.size := by
  obtain ⟨h1, h2, h3⟩ := h
  obtain ⟨F', s1, s2, s3⟩ := hs
  refine ⟨F', ⟨s1, h2.moved s2 (fun x hx hf => h3 x hf hx), fun x hx hg => ?_⟩, fun k hk _ hn => s2.block k hk hn, s2.below h1.2.2 (fun x hx => (h1.lt x hx).1), s3, s2.size⟩
  rcases s3 x hx with hf | hf
  · exact h3 x hf hg
  · have := (h2.lt x hg).2; omega

theorem Jt.m (h : Jt B w0 w b F t mb G rows S n n' step) (hs : MNow w B mb G rows' S n2 step w') : ∃ G', Jt B w0 w' b F t mb G' rows' S n n2 step ∧ (∀ k, k < w.heap.size → B ≤ k → k ∉ G → w'.heap[k]? = w.heap[k]?) ∧ Below B w w' ∧ (∀ x ∈ G', x ∈ G ∨ w.heap.size ≤ x) ∧ w.heap.size ≤ w'.heap.size := by
  obtain ⟨h1, h2, h3⟩ := h
  obtain ⟨G', s1, s2, s3⟩ := hs
  refine ⟨G', ⟨h1.moved s2 (fun x hx => ⟨(h2.lt x hx).1, fun hf => h3 x hf hx⟩), s1, fun x hx hg => ?_⟩, fun k hk _ hn => s2.block k hk hn, s2.below h1.2.2 (fun x hx => (h2.lt x hx).1), s3, s2.size⟩
  rcases s3 x hg with hf | hf
  · exact h3 x hx hf
  · have := (h1.lt x hx).2; omega

theorem Jt.drewN (h : Jt B w0 w b F t mb G rows S n n' step) (q : Nat) : Jt B w0 (w.drewN q) b F t mb G rows S n n' step := ⟨h.1.drewN q, h.2.1.drewN q, h.2.2⟩

theorem Jt.below (h : Jt B w0 w b F t mb G rows S n n' step) (hb : Below w.heap.size w w') : Jt B w0 w' b F t mb G rows S n n' step :=
  ⟨h.1.below hb, h.2.1.moved (Moved.of_below hb) (fun _ _ => by simp), h.2.2⟩

theorem Jt.alloc (h : Jt B w0 w b F t mb G rows S n n' step) (o : Obj) : Jt B w0 (w.alloc o) b F t mb G rows S n n' step := h.below ((Below.refl _ w).alloc (Nat.le_refl _) o)

/-- What the law holds at a round's head. -/
def Pl (B : Nat) (w0 w : World) (b : Nat) (mb : Nat) (S step : Int) : Prop :=
  ∃ F t G rows n, Jt B w0 w b F t mb G rows S n n step ∧ Rel t rows ∧ (t.length : Int) ≤ S ∧ 1 ≤ n ∧ n ≤ 1099511628775

theorem Skipped.bound {t : KV} {n s : Int} {m : Nat} (h : Skipped t n s m) (hn : n ≤ 1099511628775) (hs : 1 ≤ s) (hs2 : s ≤ 1000) : n ≤ n + m * s ∧ n + m * s ≤ 1099511628775 := by
  have hnn : 0 ≤ (m : Int) * s := Int.mul_nonneg (by omega) (by omega)
  refine ⟨by omega, ?_⟩
  rcases Nat.eq_zero_or_pos m with rfl | hp
  · simpa using hn
  · have hk := (h (m - 1) (by omega)).1
    have e : (m : Int) * s = ((m - 1 : Nat) : Int) * s + s := by
      rw [show (m : Int) = ((m - 1 : Nat) : Int) + 1 from by omega, Int.add_mul, Int.one_mul]
    omega
end

end Go.Proofs.Ytpjipdmlfpgokaa
