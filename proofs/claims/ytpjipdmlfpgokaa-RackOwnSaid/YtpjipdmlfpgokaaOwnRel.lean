/-
  Plain laws of RackOwn: what stands under an id, kept in two arrays besides.
-/
import Derived.Test.YtpjipdmlfpgokaaAwake
namespace Go.Proofs.Ytpjipdmlfpgokaa
open Go.RowKit RP

/-- The arrays tell what the table tells. -/
def OwnRel (t : KV) (th : List Bool) (va : List Int) : Prop :=
  th.length = 1000 ∧ va.length = 1000 ∧ (∀ i : Nat, i < 1000 → th[i]? = some ((lk t (i : Int)).isSome)) ∧ ∀ (i : Nat) (u : Int), i < 1000 → lk t (i : Int) = some u → va[i]? = some u

/-- Bounds at round k. -/
def OwnBd (k : Nat) (t : KV) (next : Int) : Prop := 1 ≤ next ∧ next ≤ 402 + 2 * k ∧ ∀ p ∈ t, 1 ≤ p.1 ∧ (p.1 ≤ 400 ∨ p.1 < next)

theorem OwnBd.skip {step : Int} {k : Nat} {t : KV} {next : Int} (h : OwnBd k t next) (hs : 1 ≤ step) (hs2 : step ≤ 2) {m : Nat} (hm : Skipped t next step m) :
    next ≤ next + m * step ∧ next + m * step ≤ 402 + 2 * k := by
  obtain ⟨h1, h2, h6⟩ := h
  have hnn : 0 ≤ (m : Int) * step := Int.mul_nonneg (by omega) (by omega)
  refine ⟨by omega, ?_⟩
  rcases Nat.eq_zero_or_pos m with rfl | hp
  · simp; omega
  · have hk := (hm (m - 1) (by omega)).2
    obtain ⟨u, hu⟩ := Option.isSome_iff_exists.1 hk
    have hmem := lk_some_mem hu
    have e : (m : Int) * step = ((m - 1 : Nat) : Int) * step + step := by
      rw [show (m : Int) = ((m - 1 : Nat) : Int) + 1 from by omega, Int.add_mul, Int.one_mul]
    have hnn' : 0 ≤ ((m - 1 : Nat) : Int) * step := Int.mul_nonneg (by omega) (by omega)
    have h7 := (h6 _ hmem).2
    simp at h7
    omega

theorem OwnBd.mono {k : Nat} {t : KV} {next : Int} (h : OwnBd k t next) : OwnBd (k + 1) t next := ⟨h.1, by have := h.2.1; omega, h.2.2⟩

theorem memIns {t : KV} {k v : Int} {p : Int × Int} (h : p ∈ ins t k v) : p = (k, v) ∨ p ∈ t := by
  unfold ins at h
  simp at h
  rcases h with h | h | h
  · exact .inr (List.mem_of_mem_take h)
  · exact .inl h
  · exact .inr (List.mem_of_mem_drop h)
theorem memDel {t : KV} {k : Int} {p : Int × Int} (h : p ∈ del t k) : p ∈ t := by
  unfold del at h
  simp at h
  rcases h with h | h
  · exact List.mem_of_mem_take h
  · exact List.mem_of_mem_drop h

theorem OwnBd.give {step : Int} {k : Nat} {t : KV} {next : Int} (h : OwnBd k t next) (hs : 1 ≤ step) (hs2 : step ≤ 2) {m : Nat} (hm : Skipped t next step m) (v : Int) : OwnBd (k + 1) (ins t (next + m * step) v) (next + m * step + step) := by
  obtain ⟨a, b⟩ := h.skip hs hs2 hm
  obtain ⟨h1, h2, h6⟩ := h
  refine ⟨by omega, by omega, fun p hp => ?_⟩
  rcases memIns hp with rfl | hp
  · exact ⟨by simp; omega, .inr (by simp; omega)⟩
  · obtain ⟨q1, q2⟩ := h6 p hp
    exact ⟨q1, q2.imp id (fun h => by omega)⟩
theorem OwnBd.hold {k : Nat} {t : KV} {next : Int} (h : OwnBd k t next) {id : Int} (h1 : 1 ≤ id) (h4 : id ≤ 400) (v : Int) : OwnBd (k + 1) (ins t id v) next := by
  refine ⟨h.1, by have := h.2.1; omega, fun p hp => ?_⟩
  rcases memIns hp with rfl | hp
  · exact ⟨h1, .inl h4⟩
  · exact h.2.2 p hp
theorem OwnBd.of_drop {k : Nat} {t : KV} {next : Int} (h : OwnBd k t next) (id : Int) : OwnBd (k + 1) (del t id) next :=
  ⟨h.1, by have := h.2.1; omega, fun p hp => h.2.2 p (memDel hp)⟩
theorem OwnBd.of_upd {k : Nat} {t : KV} {next : Int} (h : OwnBd k t next) (hr : Rise t) {id u : Int} (v : Int) (hu : lk t id = some u) : OwnBd (k + 1) (upd t id v) next := by
  refine ⟨h.1, by have := h.2.1; omega, fun p hp => ?_⟩
  have hm : p.1 ∈ (upd t id v).map (·.1) := List.mem_map.2 ⟨p, hp, rfl⟩
  rw [keys_upd hr v hu] at hm
  obtain ⟨q, hq, hpq⟩ := List.mem_map.1 hm
  rw [← hpq]; exact h.2.2 q hq

theorem OwnRel.of_ins {t : KV} {th : List Bool} {va : List Int} (h : OwnRel t th va) (hr : Rise t) {N : Nat} (hN : N < 1000) (v : Int) : OwnRel (ins t (N : Int) v) (th.set N true) (va.set N v) := by
  obtain ⟨a, b, c, d⟩ := h
  refine ⟨by simpa using a, by simpa using b, fun i hi => ?_, fun i u hi hu => ?_⟩
  · by_cases e : N = i
    · subst e; rw [List.getElem?_set_self (by omega), lk_ins_same hr]; rfl
    · rw [List.getElem?_set_ne e, lk_ins_ne t v (by omega)]; exact c i hi
  · by_cases e : N = i
    · subst e; rw [lk_ins_same hr] at hu; cases hu; rw [List.getElem?_set_self (by omega)]
    · rw [lk_ins_ne t v (by omega)] at hu; rw [List.getElem?_set_ne e]; exact d i u hi hu

theorem OwnRel.of_upd {t : KV} {th : List Bool} {va : List Int} (h : OwnRel t th va) (hr : Rise t) {N : Nat} (hN : N < 1000) {u : Int} (v : Int) (hu : lk t (N : Int) = some u) : OwnRel (upd t (N : Int) v) th (va.set N v) := by
  obtain ⟨a, b, c, d⟩ := h
  refine ⟨a, by simpa using b, fun i hi => ?_, fun i u' hi hu' => ?_⟩
  · by_cases e : N = i
    · subst e; rw [lk_upd_same hr v hu, c N hi, hu]; rfl
    · rw [lk_upd_ne hr v hu (by omega)]; exact c i hi
  · by_cases e : N = i
    · subst e; rw [lk_upd_same hr v hu] at hu'; cases hu'; rw [List.getElem?_set_self (by omega)]
    · rw [lk_upd_ne hr v hu (by omega)] at hu'; rw [List.getElem?_set_ne e]; exact d i u' hi hu'

theorem OwnRel.of_del {t : KV} {th : List Bool} {va : List Int} (h : OwnRel t th va) (hr : Rise t) {N : Nat} (hN : N < 1000) {u : Int} (hu : lk t (N : Int) = some u) : OwnRel (del t (N : Int)) (th.set N false) va := by
  obtain ⟨a, b, c, d⟩ := h
  refine ⟨by simpa using a, b, fun i hi => ?_, fun i u' hi hu' => ?_⟩
  · by_cases e : N = i
    · subst e; rw [List.getElem?_set_self (by omega), lk_del_same hr hu]; rfl
    · rw [List.getElem?_set_ne e, lk_del_ne hr hu (by omega)]; exact c i hi
  · by_cases e : N = i
    · subst e; rw [lk_del_same hr hu] at hu'; cases hu'
    · rw [lk_del_ne hr hu (by omega)] at hu'; exact d i u' hi hu'

theorem OwnRel.nil : OwnRel [] (List.replicate 1000 false) (List.replicate 1000 0) := by
  refine ⟨List.length_replicate, List.length_replicate, fun i hi => ?_, fun i u _ hu => ?_⟩
  · rw [List.getElem?_replicate, if_pos hi]; rfl
  · cases hu

/-- An array of truths, an array of numbers. -/
def ThAt (w : World) (TB : Nat) (th : List Bool) : Prop := w.heap[TB]? = some (.cells (th.map Value.bool).toArray 57 (0, 0))
def VaAt (w : World) (VB : Nat) (va : List Int) : Prop := w.heap[VB]? = some (.cells (va.map (Value.int .i64)).toArray 58 (0, 0))

theorem ThAt.cell {w : World} {TB : Nat} {th : List Bool} (h : ThAt w TB th) {i : Nat} {x : Bool} (hx : th[i]? = some x) : w.cell? ⟨TB, i, none⟩ = some (.bool x) := by
  rw [block_cell h]; simp [hx]
theorem VaAt.cell {w : World} {VB : Nat} {va : List Int} (h : VaAt w VB va) {i : Nat} {x : Int} (hx : va[i]? = some x) : w.cell? ⟨VB, i, none⟩ = some (.int .i64 x) := by
  rw [block_cell h]; simp [hx]
theorem ThAt.set {w : World} {TB : Nat} {th : List Bool} (h : ThAt w TB th) (i : Nat) (x : Bool) : ThAt (w.setCell ⟨TB, i, none⟩ (.bool x)) TB (th.set i x) := by
  have := block_setCell (i := i) (v := .bool x) h
  unfold ThAt; rw [this]; simp [List.map_set]
theorem VaAt.set {w : World} {VB : Nat} {va : List Int} (h : VaAt w VB va) (i : Nat) (x : Int) : VaAt (w.setCell ⟨VB, i, none⟩ (.int .i64 x)) VB (va.set i x) := by
  have := block_setCell (i := i) (v := .int .i64 x) h
  unfold VaAt; rw [this]; simp [List.map_set]

/-- What the law holds between two steps: the rack, the arrays, apart from each other. -/
def Os (B : Nat) (w0 w : World) (b TB VB : Nat) (F : List Nat) (t : KV) (S next step : Int) (th : List Bool) (va : List Int) : Prop :=
  St B w0 w b F t S next step ∧ ThAt w TB th ∧ VaAt w VB va ∧ TB ∉ F ∧ VB ∉ F ∧ TB ≠ VB ∧ B ≤ TB ∧ B ≤ VB

section
variable {B b TB VB : Nat} {w0 w w' : World} {F : List Nat} {t t' : KV} {S next next' step : Int} {th : List Bool} {va : List Int}

theorem Os.stepped (h : Os B w0 w b TB VB F t S next step th va) (hs : Stp B w0 w b F t' S next' step w') : ∃ F', Os B w0 w' b TB VB F' t' S next' step th va ∧ (∀ k, k < w.heap.size → k ∉ F → w'.heap[k]? = w.heap[k]?) := by
  obtain ⟨h1, h2, h3, h4, h5, h6, h7, h8⟩ := h
  obtain ⟨F', s1, s2, s3⟩ := hs
  refine ⟨F', ⟨s1, (s2.same h2 h4), (s2.same h3 h5), fun hx => ?_, fun hx => ?_, h6, h7, h8⟩, fun k hk hn => s2.block k hk hn⟩
  · rcases s3 _ hx with h | h
    · exact h4 h
    · have := block_lt h2; omega
  · rcases s3 _ hx with h | h
    · exact h5 h
    · have := block_lt h3; omega

theorem Os.alloc (h : Os B w0 w b TB VB F t S next step th va) (o : Obj) : Os B w0 (w.alloc o) b TB VB F t S next step th va :=
  ⟨h.1.alloc o, block_alloc o h.2.1, block_alloc o h.2.2.1, h.2.2.2⟩

theorem Os.setTh (h : Os B w0 w b TB VB F t S next step th va) (i : Nat) (x : Bool) : Os B w0 (w.setCell ⟨TB, i, none⟩ (.bool x)) b TB VB F t S next step (th.set i x) va := by
  obtain ⟨h1, h2, h3, h4, h5, h6, h7, h8⟩ := h
  refine ⟨h1.moved (S := [TB]) ((Moved.refl _ _).setCell (p := ⟨TB, i, none⟩) (.inl (by simp)) _) (fun y hy => by simp at hy; subst hy; exact ⟨h7, h4⟩), h2.set i x, ?_, h4, h5, h6, h7, h8⟩
  unfold VaAt
  rw [Below.heap_setCell _ _ _ _ (by simpa using h6.symm)]; exact h3

theorem Os.setVa (h : Os B w0 w b TB VB F t S next step th va) (i : Nat) (x : Int) : Os B w0 (w.setCell ⟨VB, i, none⟩ (.int .i64 x)) b TB VB F t S next step th (va.set i x) := by
  obtain ⟨h1, h2, h3, h4, h5, h6, h7, h8⟩ := h
  refine ⟨h1.moved (S := [VB]) ((Moved.refl _ _).setCell (p := ⟨VB, i, none⟩) (.inl (by simp)) _) (fun y hy => by simp at hy; subst hy; exact ⟨h8, h5⟩), ?_, h3.set i x, h4, h5, h6, h7, h8⟩
  unfold ThAt
  rw [Below.heap_setCell _ _ _ _ (by simpa using h6)]; exact h2

theorem Os.drewN (h : Os B w0 w b TB VB F t S next step th va) (q : Nat) : Os B w0 (w.drewN q) b TB VB F t S next step th va := ⟨h.1.drewN q, h.2⟩
end

end Go.Proofs.Ytpjipdmlfpgokaa
