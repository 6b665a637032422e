/-
  The document's rack in memory, and what its methods do to it.
-/
import Derived.Test.YtpjipdmlfpgokaaSt
namespace Go.Proofs.Ytpjipdmlfpgokaa
open Go.RowKit RP

/-- Pairs as cells. -/
def flat (rows : KV) : List Value := rows.flatMap (fun p => [.int .i64 p.1, .int .i64 p.2])
theorem flat_length (rows : KV) : (flat rows).length = rows.length * 2 := by
  induction rows with
  | nil => rfl
  | cons p r ih => simp only [flat, List.flatMap_cons, List.length_append, List.length_cons, List.length_nil] at *; omega
theorem flat_at0 {rows : KV} {i : Nat} {p : Int × Int} (h : rows[i]? = some p) : (flat rows)[i * 2]? = some (.int .i64 p.1) := by
  induction rows generalizing i with
  | nil => simp at h
  | cons q r ih =>
    cases i with
    | zero => simp at h; subst h; rfl
    | succ i => simp at h; have := ih h; simp only [flat, List.flatMap_cons] at *; rw [show (i + 1) * 2 = i * 2 + 2 from by omega]; simpa using this
theorem flat_at1 {rows : KV} {i : Nat} {p : Int × Int} (h : rows[i]? = some p) : (flat rows)[i * 2 + 1]? = some (.int .i64 p.2) := by
  induction rows generalizing i with
  | nil => simp at h
  | cons q r ih =>
    cases i with
    | zero => simp at h; subst h; rfl
    | succ i => simp at h; have := ih h; simp only [flat, List.flatMap_cons] at *; rw [show (i + 1) * 2 + 1 = i * 2 + 1 + 2 from by omega]; simpa using this
theorem flat_snoc (rows : KV) (p : Int × Int) : flat (rows ++ [p]) = flat rows ++ [.int .i64 p.1, .int .i64 p.2] := by simp [flat]

/-- The slice value v owns the pairs. -/
def Pairs (w : World) (base : Nat) (v : Value) (rows : KV) : Prop := w.ownsRow base 68 2 v rows.length (flat rows)

theorem Pairs.shape {w : World} {base : Nat} {v : Value} {rows : KV} (h : Pairs w base v rows) : ∃ a c, v = .slice a rows.length c := by
  rcases h.2 with ⟨rfl, hn⟩ | ⟨g, cap, cur, rfl, _⟩
  · exact ⟨none, 0, by rw [hn]⟩
  · exact ⟨_, _, rfl⟩

theorem Pairs.at {w : World} {base : Nat} {a : Option Addr} {n c : Nat} {rows : KV} (h : Pairs w base (.slice a n c) rows) {i : Nat} {p : Int × Int} (hp : rows[i]? = some p) :
    ∃ g, a = some ⟨g, 0, none⟩ ∧ w.cell? ⟨g, i * 2, none⟩ = some (.int .i64 p.1) ∧ w.cell? ⟨g, i * 2 + 1, none⟩ = some (.int .i64 p.2) ∧ ∀ j, w.frozen? ⟨g, j, none⟩ = false := by
  have hlt := (List.getElem?_eq_some_iff.1 hp).1
  rcases h.2 with ⟨_, hn⟩ | ⟨g, cap, cur, hv, _, hg, _, _, _, ht⟩
  · omega
  · simp only [Value.slice.injEq] at hv
    have key : ∀ j u, j < rows.length * 2 → (flat rows)[j]? = some u → cur[j]? = some u := by
      intro j u hj hu
      rw [← ht, List.getElem?_take, if_pos hj] at hu
      simpa using hu
    refine ⟨g, hv.1, ?_, ?_, fun j => block_frozen hg j⟩
    · rw [block_cell hg]; exact key _ _ (by omega) (flat_at0 hp)
    · rw [block_cell hg]; exact key _ _ (by omega) (flat_at1 hp)

/-- Block mb is the document's rack. -/
def MAt (w : World) (base mb : Nat) (F : List Nat) (rows : KV) (size next step : Int) : Prop :=
  ∃ rv, w.heap[mb]? = some (.cells #[.int .i64 size, .int .i64 next, .int .i64 step, rv] 55 (0, 0)) ∧ Pairs w base rv rows ∧ F = mb :: rv.ownBlock.toList ∧ F.Nodup ∧ base ≤ mb

theorem MAt.moved {S : List Nat} {w w' : World} {base mb : Nat} {F : List Nat} {rows : KV} {size next step : Int} (h : MAt w base mb F rows size next step) (hm : Moved S w w') (hd : ∀ x ∈ F, x ∉ S) : MAt w' base mb F rows size next step := by
  obtain ⟨rv, h1, h2, rfl, h5, h7⟩ := h
  exact ⟨rv, hm.same h1 (hd mb (by simp)), owns_moved h2 hm (fun k hk => hd k (by simp [hk])), rfl, h5, h7⟩

theorem MAt.lt {w : World} {base mb : Nat} {F : List Nat} {rows : KV} {size next step : Int} (h : MAt w base mb F rows size next step) : ∀ x ∈ F, base ≤ x ∧ x < w.heap.size := by
  obtain ⟨rv, h1, h2, rfl, h5, h7⟩ := h
  intro x hx
  simp at hx
  rcases hx with rfl | hx
  · exact ⟨h7, block_lt h1⟩
  · exact h2.lt x hx

theorem MAt.drewN {w : World} {base mb : Nat} {F : List Nat} {rows : KV} {size next step : Int} (h : MAt w base mb F rows size next step) (q : Nat) : MAt (w.drewN q) base mb F rows size next step := h

theorem MAt.cells {w : World} {base mb : Nat} {F : List Nat} {rows : KV} {size next step : Int} (h : MAt w base mb F rows size next step) :
    ∃ a c, w.cell? ⟨mb, 0, none⟩ = some (.int .i64 size) ∧ w.cell? ⟨mb, 1, none⟩ = some (.int .i64 next) ∧ w.cell? ⟨mb, 2, none⟩ = some (.int .i64 step) ∧ w.cell? ⟨mb, 3, none⟩ = some (.slice a rows.length c) ∧
      Pairs w base (.slice a rows.length c) rows ∧ (∀ i, w.frozen? ⟨mb, i, none⟩ = false) ∧ F = mb :: (Value.slice a rows.length c).ownBlock.toList := by
  obtain ⟨rv, h1, h2, hF, h5, h7⟩ := h
  obtain ⟨a, c, rfl⟩ := h2.shape
  refine ⟨a, c, ?_, ?_, ?_, ?_, h2, fun i => block_frozen h1 i, hF⟩ <;> rw [block_cell h1] <;> simp

theorem MAt.setNext {w : World} {base mb : Nat} {F : List Nat} {rows : KV} {size next step : Int} (h : MAt w base mb F rows size next step) (n : Int) : MAt (w.setCell ⟨mb, 1, none⟩ (.int .i64 n)) base mb F rows size n step := by
  obtain ⟨rv, h1, h2, hF, h5, h7⟩ := h
  have hn := h5
  rw [hF, List.nodup_cons] at hn
  refine ⟨rv, block_setCell (i := 1) (v := .int .i64 n) h1, owns_same h2 (fun k hk => Below.heap_setCell _ _ _ _ (fun e => hn.1 ?_)), hF, h5, h7⟩
  simp at e; subst e; simp [hk]

/-- What a change of the document's rack comes to. -/
def MNow (w : World) (base mb : Nat) (F : List Nat) (rows : KV) (size next step : Int) (w' : World) : Prop :=
  ∃ F', MAt w' base mb F' rows size next step ∧ Moved F w w' ∧ ∀ x ∈ F', x ∈ F ∨ w.heap.size ≤ x

theorem lk_at {rows : KV} {k : Nat} {id v : Int} (h : ∀ x ∈ rows.take k, x.1 ≠ id) (hk : rows[k]? = some (id, v)) : lk rows id = some v := by
  induction rows generalizing k with
  | nil => simp at hk
  | cons q r ih =>
    cases k with
    | zero => simp at hk; subst hk; simp [lk]
    | succ k =>
      simp at hk h
      rw [show q = (q.1, q.2) from rfl, lk_cons_ne _ _ h.1]
      exact ih (k := k) (fun x hx => h.2 _ _ hx) hk

theorem lk_out {rows : KV} {id : Int} (h : ∀ x ∈ rows, x.1 ≠ id) : lk rows id = none := by
  rw [lk_none]
  intro hm
  obtain ⟨p, hp, rfl⟩ := List.mem_map.1 hm
  exact h p hp rfl

def AtR (rows : KV) (id : Int) (w : World) (e : Ending) (w' : World) : Prop :=
  w = w' ∧ ((lk rows id = none ∧ e = .returned (.int .i64 (-1))) ∨ ∃ (i : Nat) (v : Int), rows[i]? = some (id, v) ∧ (∀ x ∈ rows.take i, x.1 ≠ id) ∧ lk rows id = some v ∧ e = .returned (.int .i64 i))

set_option maxHeartbeats 1000000 in
theorem ref_at {w : World} {base mb : Nat} {F : List Nat} {rows : KV} {size next step : Int} (h : MAt w base mb F rows size next step) (hn : rows.length ≤ 64) (id : Int) :
    Calls Try.prog 31 #[.pointer (some ⟨mb, 0, none⟩), .int .i64 id] w (AtR rows id w) := by
  obtain ⟨a, c, c0, c1, c2, c3, hp, fz, _⟩ := h.cells
  have hp := Lib.hid hp
  clear h
  go_enter Try.func31, Try.ntmps31
  go_wp2
  go_loop [5] (fun i => ∃ k : Nat, k ≤ rows.length ∧ i = .int .i64 k ∧ Hid (∀ x ∈ rows.take k, x.1 ≠ id)) (fun i => rows.length - (intOf i).toNat)
  case atStart => exact ⟨0, Nat.zero_le _, rfl, by simp [Hid]⟩
  case round =>
    obtain ⟨k, hk, rfl, hg⟩ := hrel
    by_cases hlt : k < rows.length
    · obtain ⟨x, hx⟩ : ∃ x, rows[k]? = some x := ⟨_, List.getElem?_eq_getElem hlt⟩
      obtain ⟨g, rfl, d0, d1, _⟩ := hp.out.at hx
      obtain ⟨xk, xv⟩ := x
      have hx := Lib.hid hx
      simp only at d0 d1
      by_cases he : xk = id
      · subst he
        have hb : (xk == xk) = true := by simp
        go_wp2
        go_ret
        exact ⟨rfl, .inr ⟨k, xv, hx.out, hg.out, lk_at hg.out hx.out, rfl⟩⟩
      · have hb : (xk == id) = false := by simpa using he
        go_wp2
        go_round
        case rel =>
          refine ⟨k + 1, by omega, by go_num, Lib.hid ?_⟩
          rw [List.take_add_one, hx.out]
          intro y hy
          simp at hy
          rcases hy with hy | rfl
          · exact hg.out y hy
          · exact he
        case measure => simp [intOf]; omega
    · obtain rfl : k = rows.length := by omega
      go_wp2
      go_ret
      exact ⟨rfl, .inl ⟨lk_out (by have := hg.out; rwa [List.take_length] at this), rfl⟩⟩

set_option maxHeartbeats 400000 in
theorem ref_at_none {w : World} {base mb : Nat} {F : List Nat} {rows : KV} {size next step : Int} (h : MAt w base mb F rows size next step) (hn : rows.length ≤ 64) {id : Int} (hl : lk rows id = none) :
    Calls Try.prog 31 #[.pointer (some ⟨mb, 0, none⟩), .int .i64 id] w fun e w' => e = .returned (.int .i64 (-1)) ∧ w = w' := by
  refine (ref_at h hn id).mono ?_
  rintro e w' ⟨rfl, ⟨_, he⟩ | ⟨i, v, _, _, h2, _⟩⟩
  · exact ⟨he, rfl⟩
  · rw [hl] at h2; cases h2

theorem ref_at_some {w : World} {base mb : Nat} {F : List Nat} {rows : KV} {size next step : Int} (h : MAt w base mb F rows size next step) (hn : rows.length ≤ 64) {id v : Int} (hl : lk rows id = some v) :
    Calls Try.prog 31 #[.pointer (some ⟨mb, 0, none⟩), .int .i64 id] w fun e w' => ∃ i : Nat, rows[i]? = some (id, v) ∧ (∀ x ∈ rows.take i, x.1 ≠ id) ∧ e = .returned (.int .i64 i) ∧ w = w' := by
  refine (ref_at h hn id).mono ?_
  rintro e w' ⟨rfl, ⟨h2, _⟩ | ⟨i, v', h1, h3, h2, he⟩⟩
  · rw [hl] at h2; cases h2
  · rw [hl] at h2; cases h2; exact ⟨i, h1, h3, he, rfl⟩

set_option maxHeartbeats 400000 in
theorem ref_get_none {w : World} {base mb : Nat} {F : List Nat} {rows : KV} {size next step : Int} (h : MAt w base mb F rows size next step) (hn : rows.length ≤ 64) {id : Int} (hl : lk rows id = none) :
    Calls Try.prog 22 #[.pointer (some ⟨mb, 0, none⟩), .int .i64 id] w fun e w' => e = .returned (.tuple #[.int .i64 0, .int .i64 30]) ∧ w = w' := by
  have A := Lib.hid (ref_at_none h hn hl)
  clear h hl
  go_enter Try.func22, Try.ntmps22
  go_wp2_with (go_at_call 31; refine A.out.mono ?_; rintro e w' ⟨rfl, rfl⟩)
  go_ret2
  exact ⟨rfl, rfl⟩

set_option maxHeartbeats 400000 in
theorem ref_get_some {w : World} {base mb : Nat} {F : List Nat} {rows : KV} {size next step : Int} (h : MAt w base mb F rows size next step) (hn : rows.length ≤ 64) {id v : Int} (hl : lk rows id = some v) :
    Calls Try.prog 22 #[.pointer (some ⟨mb, 0, none⟩), .int .i64 id] w fun e w' => e = .returned (.tuple #[.int .i64 v, .int .i64 0]) ∧ w = w' := by
  have A := Lib.hid (ref_at_some h hn hl)
  obtain ⟨a, c, c0, c1, c2, c3, hp, fz, _⟩ := h.cells
  have hp := Lib.hid hp
  clear h hl
  go_enter Try.func22, Try.ntmps22
  go_wp2_with fail
  refine A.out.mono ?_
  rintro e w' ⟨i, hi, _, rfl, rfl⟩
  obtain ⟨g, rfl, d0, d1, _⟩ := hp.out.at hi
  have hlt := (List.getElem?_eq_some_iff.1 hi).1
  simp only at d0 d1
  clear hi
  go_wp2_with fail
  go_ret2
  exact ⟨rfl, rfl⟩

end Go.Proofs.Ytpjipdmlfpgokaa
