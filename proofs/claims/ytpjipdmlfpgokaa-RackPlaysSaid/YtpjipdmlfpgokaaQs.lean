/-
  Two calls in either order, one on each rack.
-/
import Derived.Test.YtpjipdmlfpgokaaJt
namespace Go.Proofs.Ytpjipdmlfpgokaa
open Go.RowKit RP

/-- Block A is an act's variable: its id and its value. -/
def ActAt (A : Nat) (id val : Int) (W : World) : Prop := W.cell? ⟨A, 1, none⟩ = some (.int .i64 id) ∧ W.cell? ⟨A, 2, none⟩ = some (.int .i64 val)

/-- Where both racks stand: i: the first has been changed; j: the second has. -/
def Qs (B : Nat) (w0 : World) (b mb : Nat) (S step : Int) (A : Nat) (id val : Int) (t t' rows rows' : KV) (n n2 : Int) (i j : Bool) (W : World) : Prop :=
  (∃ F G, Jt B w0 W b F (if i then t' else t) mb G (if j then rows' else rows) S (if i then n2 else n) (if j then n2 else n) step ∧ A ∉ F ∧ A ∉ G) ∧ B ≤ A ∧ A < W.heap.size ∧ ActAt A id val W

section
variable {B b mb : Nat} {w0 : World} {S step : Int} {A : Nat} {id val : Int} {t t' rows rows' : KV} {n n2 : Int} {f : FuncId} {args : Array Value} {c : Int}

theorem actAt_same {A : Nat} {id val : Int} {W W' : World} (h : ActAt A id val W) (hb : W'.heap[A]? = W.heap[A]?) : ActAt A id val W' :=
  ⟨(World.cell?_of_block (w := W) (a := ⟨A, 1, none⟩) hb).trans h.1, (World.cell?_of_block (w := W) (a := ⟨A, 2, none⟩) hb).trans h.2⟩

theorem qs_r (hc : ∀ (W : World) (F : List Nat), St B w0 W b F t S n step → Calls Try.prog f args W fun e w' => e = .returned (.int .i64 c) ∧ Stp B w0 W b F t' S n2 step w') :
    ∀ (j : Bool) (W : World), Qs B w0 b mb S step A id val t t' rows rows' n n2 false j W → Calls Try.prog f args W fun e w' => e = .returned (.int .i64 c) ∧ Qs B w0 b mb S step A id val t t' rows rows' n n2 true j w' := by
  rintro j W ⟨⟨F, G, hJ, hF, hG⟩, hA, hlt, hact⟩
  refine (hc W F hJ.1).mono ?_
  rintro e w' ⟨rfl, hs⟩
  obtain ⟨F', hJ', hk, _, hF', hsz⟩ := Jt.r hJ hs
  refine ⟨rfl, ⟨F', G, hJ', fun hx => ?_, hG⟩, hA, by omega, actAt_same hact (hk A hlt hA hF)⟩
  rcases hF' A hx with h | h
  · exact hF h
  · omega

theorem qs_m (hc : ∀ (W : World) (G : List Nat), B ≤ W.heap.size → MAt W B mb G rows S n step → Calls Try.prog f args W fun e w' => e = .returned (.int .i64 c) ∧ MNow W B mb G rows' S n2 step w') :
    ∀ (i : Bool) (W : World), Qs B w0 b mb S step A id val t t' rows rows' n n2 i false W → Calls Try.prog f args W fun e w' => e = .returned (.int .i64 c) ∧ Qs B w0 b mb S step A id val t t' rows rows' n n2 i true w' := by
  rintro i W ⟨⟨F, G, hJ, hF, hG⟩, hA, hlt, hact⟩
  refine (hc W G hJ.1.2.2 hJ.2.1).mono ?_
  rintro e w' ⟨rfl, hs⟩
  obtain ⟨G', hJ', hk, _, hG', hsz⟩ := Jt.m hJ hs
  refine ⟨rfl, ⟨F, G', hJ', hF, fun hx => ?_⟩, hA, by omega, actAt_same hact (hk A hlt hA hG)⟩
  rcases hG' A hx with h | h
  · exact hG h
  · omega

theorem Qs.drew {i j : Bool} {W : World} (h : Qs B w0 b mb S step A id val t t' rows rows' n n2 i j W) : Qs B w0 b mb S step A id val t t' rows rows' n n2 i j W.drew := by
  obtain ⟨⟨F, G, hJ, hF, hG⟩, hA, hlt, hact⟩ := h
  exact ⟨⟨F, G, hJ.drewN 1, hF, hG⟩, hA, hlt, hact⟩

end

/-- What Hold, Set, Drop come to, the same on both racks. -/
def Both (B : Nat) (w0 : World) (b mb : Nat) (S step : Int) (A : Nat) (id val : Int) (t rows : KV) (n : Int) (f g : FuncId) (args : Addr → Array Value) : Prop :=
  ∃ t' rows' c, (∀ (j : Bool) (W : World), Qs B w0 b mb S step A id val t t' rows rows' n n false j W → Calls Try.prog f (args ⟨b, 0, none⟩) W fun e w' => e = .returned (.int .i64 c) ∧ Qs B w0 b mb S step A id val t t' rows rows' n n true j w') ∧
    (∀ (i : Bool) (W : World), Qs B w0 b mb S step A id val t t' rows rows' n n i false W → Calls Try.prog g (args ⟨mb, 0, none⟩) W fun e w' => e = .returned (.int .i64 c) ∧ Qs B w0 b mb S step A id val t t' rows rows' n n i true w') ∧ Rel t' rows' ∧ (t'.length : Int) ≤ S

theorem Stp.of_st {B b : Nat} {w0 w : World} {F : List Nat} {t : KV} {size next step : Int} (h : St B w0 w b F t size next step) : Stp B w0 w b F t size next step w := ⟨F, h, Moved.refl _ _, fun x hx => .inl hx⟩
theorem MNow.of_m {w : World} {base mb : Nat} {F : List Nat} {rows : KV} {size next step : Int} (h : MAt w base mb F rows size next step) : MNow w base mb F rows size next step w := ⟨F, h, Moved.refl _ _, fun x hx => .inl hx⟩
theorem MNow.drewN {w : World} {base mb : Nat} {F : List Nat} {rows : KV} {size next step : Int} (h : MAt w base mb F rows size next step) (q : Nat) : MNow w base mb F rows size next step (w.drewN q) := ⟨F, h.drewN q, (Moved.refl _ _).drewN q, fun x hx => .inl hx⟩

theorem both_hold {B b mb : Nat} {w0 : World} {S step : Int} {A : Nat} {id val : Int} {t rows : KV} {n : Int} (hr : Rel t rows) (hs : 1 ≤ S) (h64 : S ≤ 64) (hl : (t.length : Int) ≤ S) :
    Both B w0 b mb S step A id val t rows n 12 19 (fun a => #[.pointer (some a), .int .i64 id, .int .i64 val]) := by
  have hlr : rows.length ≤ 64 := by have := hr.2.1; omega
  by_cases ha : (lk t id).isSome = true ∨ id < 1 ∨ 1099511627775 < id
  · have ha' : (lk rows id).isSome = true ∨ id < 1 ∨ 1099511627775 < id := by rw [← hr.1]; exact ha
    refine ⟨t, rows, 2, qs_r fun W F hS => ?_, qs_m fun W G hb hM => ?_, hr, hl⟩
    · refine (st_hold hS hs h64 hl id val).mono ?_
      rintro e w' (⟨_, rfl, h⟩ | ⟨h1, h2, h3, _⟩ | ⟨h1, h2, h3, _⟩)
      · exact ⟨rfl, h⟩
      · rw [h1] at ha; simp at ha; omega
      · rw [h1] at ha; simp at ha; omega
    · refine (ref_hold_arg hM hlr val ha').mono ?_
      rintro e w' ⟨rfl, rfl⟩
      exact ⟨rfl, MNow.of_m hM⟩
  · have hk : lk t id = none := by
      cases hh : lk t id with
      | none => rfl
      | some u => exact absurd (.inl (by rw [hh]; rfl)) ha
    have h1 : ¬ id < 1 := fun hh => ha (.inr (.inl hh))
    have h2 : ¬ 1099511627775 < id := fun hh => ha (.inr (.inr hh))
    have hk' : lk rows id = none := by rw [← hr.1]; exact hk
    by_cases hf : S ≤ t.length
    · refine ⟨t, rows, 4, qs_r fun W F hS => ?_, qs_m fun W G hb hM => ?_, hr, hl⟩
      · refine (st_hold hS hs h64 hl id val).mono ?_
        rintro e w' (⟨h, _⟩ | ⟨_, _, _, _, rfl, h⟩ | ⟨_, _, _, h, _⟩)
        · exact absurd h ha
        · exact ⟨rfl, h⟩
        · omega
      · refine (ref_hold_full hM hlr val hk' h1 h2 (by rw [beq_iff_eq, hr.2.1]; omega)).mono ?_
        rintro e w' ⟨rfl, q, rfl⟩
        exact ⟨rfl, MNow.drewN hM q⟩
    · refine ⟨ins t id val, rows ++ [(id, val)], 0, qs_r fun W F hS => ?_, qs_m fun W G hb hM => ?_, hr.ins val hk (by omega), by rw [length_ins]; omega⟩
      · refine (st_hold hS hs h64 hl id val).mono ?_
        rintro e w' (⟨h, _⟩ | ⟨_, _, _, h, _⟩ | ⟨_, _, _, _, rfl, h⟩)
        · exact absurd h ha
        · omega
        · exact ⟨rfl, h⟩
      · refine (ref_hold_ok hM (by have := hr.2.1; omega) hb val hk' h1 h2 (by rw [beq_eq_false_iff_ne, hr.2.1]; omega)).mono ?_
        rintro e w' ⟨rfl, h⟩
        exact ⟨rfl, h⟩

theorem first_at {rows : KV} {k v : Int} (h : lk rows k = some v) : ∃ i, rows[i]? = some (k, v) ∧ ∀ x ∈ rows.take i, x.1 ≠ k := by
  induction rows with
  | nil => simp [lk] at h
  | cons p r ih =>
    by_cases hp : p.1 = k
    · refine ⟨0, ?_, by simp⟩
      have : lk (p :: r) k = some p.2 := by rw [show p = (p.1, p.2) from rfl, hp, lk_cons_same]
      rw [this] at h; cases h
      simp [← hp]
    · rw [show p = (p.1, p.2) from rfl, lk_cons_ne _ _ hp] at h
      obtain ⟨i, h1, h2⟩ := ih h
      refine ⟨i + 1, by simpa using h1, fun x hx => ?_⟩
      simp at hx
      rcases hx with rfl | hx
      · exact hp
      · exact h2 x hx

theorem first_unique {rows : KV} {k v v' : Int} {i i' : Nat} (h1 : rows[i]? = some (k, v)) (h2 : ∀ x ∈ rows.take i, x.1 ≠ k) (h3 : rows[i']? = some (k, v')) (h4 : ∀ x ∈ rows.take i', x.1 ≠ k) : i' = i := by
  rcases Nat.lt_trichotomy i i' with h | h | h
  · exact absurd rfl (h4 (k, v) (List.mem_of_getElem? (i := i) (by rw [List.getElem?_take, if_pos h]; exact h1)))
  · exact h.symm
  · exact absurd rfl (h2 (k, v') (List.mem_of_getElem? (i := i') (by rw [List.getElem?_take, if_pos h]; exact h3)))

theorem both_set {B b mb : Nat} {w0 : World} {S step : Int} {A : Nat} {id val : Int} {t rows : KV} {n : Int} (hr : Rel t rows) (hs : 1 ≤ S) (h64 : S ≤ 64) (hl : (t.length : Int) ≤ S) :
    Both B w0 b mb S step A id val t rows n 15 20 (fun a => #[.pointer (some a), .int .i64 id, .int .i64 val]) := by
  have hlr : rows.length ≤ 64 := by have := hr.2.1; omega
  cases hk : lk t id with
  | none =>
    have hk' : lk rows id = none := by rw [← hr.1]; exact hk
    refine ⟨t, rows, 30, qs_r fun W F hS => ?_, qs_m fun W G hb hM => ?_, hr, hl⟩
    · refine (st_set hS hs (by omega) id val).mono ?_
      rintro e w' (⟨_, rfl, h⟩ | ⟨u, h, _⟩)
      · exact ⟨rfl, h⟩
      · rw [hk] at h; cases h
    · refine (ref_set_none hM hlr val hk').mono ?_
      rintro e w' ⟨rfl, rfl⟩
      exact ⟨rfl, MNow.of_m hM⟩
  | some u =>
    have hk' : lk rows id = some u := by rw [← hr.1]; exact hk
    obtain ⟨i, hi1, hi2⟩ := first_at hk'
    refine ⟨upd t id val, rows.set i (id, val), 0, qs_r fun W F hS => ?_, qs_m fun W G hb hM => ?_, hr.upd val hk hi1 hi2, by rw [length_upd]; exact hl⟩
    · refine (st_set hS hs (by omega) id val).mono ?_
      rintro e w' (⟨h, _⟩ | ⟨u, h, rfl, h'⟩)
      · rw [hk] at h; cases h
      · exact ⟨rfl, h'⟩
    · refine (ref_set_some hM hlr val hk').mono ?_
      rintro e w' ⟨i', h1, h2, rfl, h⟩
      rw [first_unique hi1 hi2 h1 h2] at h
      exact ⟨rfl, h⟩

theorem both_drop {B b mb : Nat} {w0 : World} {S step : Int} {A : Nat} {id val : Int} {t rows : KV} {n : Int} (hr : Rel t rows) (hs : 1 ≤ S) (h64 : S ≤ 64) (hl : (t.length : Int) ≤ S) :
    Both B w0 b mb S step A id val t rows n 13 21 (fun a => #[.pointer (some a), .int .i64 id]) := by
  have hlr : rows.length ≤ 64 := by have := hr.2.1; omega
  cases hk : lk t id with
  | none =>
    have hk' : lk rows id = none := by rw [← hr.1]; exact hk
    refine ⟨t, rows, 30, qs_r fun W F hS => ?_, qs_m fun W G hb hM => ?_, hr, hl⟩
    · refine (st_drop hS hs (by omega) id).mono ?_
      rintro e w' (⟨_, rfl, h⟩ | ⟨u, h, _⟩)
      · exact ⟨rfl, h⟩
      · rw [hk] at h; cases h
    · refine (ref_drop_none hM hlr hk').mono ?_
      rintro e w' ⟨rfl, rfl⟩
      exact ⟨rfl, MNow.of_m hM⟩
  | some u =>
    have hk' : lk rows id = some u := by rw [← hr.1]; exact hk
    obtain ⟨i, hi1, hi2⟩ := first_at hk'
    have hdl := length_del hr.2.2.2.1 hk
    refine ⟨del t id, rows.eraseIdx i, 0, qs_r fun W F hS => ?_, qs_m fun W G hb hM => ?_, hr.del hk hi1 hi2, by omega⟩
    · refine (st_drop hS hs (by omega) id).mono ?_
      rintro e w' (⟨h, _⟩ | ⟨u, h, rfl, h'⟩)
      · rw [hk] at h; cases h
      · exact ⟨rfl, h'⟩
    · refine (ref_drop_some hM hlr hk').mono ?_
      rintro e w' ⟨i', h1, h2, rfl, h⟩
      rw [first_unique hi1 hi2 h1 h2] at h
      exact ⟨rfl, h⟩

end Go.Proofs.Ytpjipdmlfpgokaa
