/-
  A rack as a law holds it: made behind B, all that lay below B untouched.
-/
import Derived.Test.YtpjipdmlfpgokaaActs
namespace Go.Proofs.Ytpjipdmlfpgokaa
open Go.RowKit RP

def GoodArgs (size first step : Int) : Prop := 1 ≤ size ∧ size ≤ 64 ∧ 1 ≤ first ∧ first ≤ 1000 ∧ 1 ≤ step ∧ step ≤ 1000

set_option maxHeartbeats 1000000 in
theorem new_ok {size first step : Int} (h : GoodArgs size first step) (w : World) :
    Calls Try.prog 8 #[.int .i64 size, .int .i64 first, .int .i64 step] w fun e w' => e = .returned (.tuple #[.pointer (some ⟨w.heap.size, 0, none⟩), .int .i64 0]) ∧
      w' = w.alloc (.cells #[.slice none 0 0, .slice none 0 0, .int .i64 size, .int .i64 first, .int .i64 step] 42) := by
  obtain ⟨h1, h2, h3, h4, h5, h6⟩ := h
  have a1 : ¬ size < 1 := by omega
  have a2 : ¬ 64 < size := by omega
  have a3 : ¬ min first step < 1 := by omega
  have a4 : ¬ 1000 < max first step := by omega
  clear h1 h2 h3 h4 h5 h6
  go_enter Try.func8, Try.ntmps8
  go_wp2
  go_ret2
  exact ⟨rfl, rfl⟩

set_option maxHeartbeats 1000000 in
theorem new_bad {size first step : Int} (h : ¬ GoodArgs size first step) (w : World) :
    Calls Try.prog 8 #[.int .i64 size, .int .i64 first, .int .i64 step] w fun e w' => e = .returned (.tuple #[.pointer none, .int .i64 2]) ∧ w = w' := by
  by_cases a1 : size < 1
  · clear h
    go_enter Try.func8, Try.ntmps8
    go_wp2
    go_ret2
    exact ⟨rfl, rfl⟩
  by_cases a2 : 64 < size
  · clear h
    go_enter Try.func8, Try.ntmps8
    go_wp2
    go_ret2
    exact ⟨rfl, rfl⟩
  by_cases a3 : min first step < 1
  · clear h
    go_enter Try.func8, Try.ntmps8
    go_wp2
    go_ret2
    exact ⟨rfl, rfl⟩
  have a4 : 1000 < max first step := by
    unfold GoodArgs at h; omega
  clear h
  go_enter Try.func8, Try.ntmps8
  go_wp2
  go_ret2
  exact ⟨rfl, rfl⟩

/-- A rack as a law holds it. -/
def St (B : Nat) (w0 w : World) (b : Nat) (F : List Nat) (t : KV) (size next step : Int) : Prop := RackAt w B b F t size next step ∧ Below B w0 w ∧ B ≤ w.heap.size

/-- A step of a law's rack: the rack stands as told, and of all else that lay nothing has turned. -/
def Stp (B : Nat) (w0 w : World) (b : Nat) (F : List Nat) (t : KV) (size next step : Int) (w' : World) : Prop := ∃ F', St B w0 w' b F' t size next step ∧ Moved F w w' ∧ ∀ x ∈ F', x ∈ F ∨ w.heap.size ≤ x

theorem St.now {B b : Nat} {w0 w w' : World} {F : List Nat} {t t' : KV} {size next next' step : Int} (h : St B w0 w b F t size next step) (hn : Now w B b F t' size next' step w') : Stp B w0 w b F t' size next' step w' := by
  obtain ⟨F', h1, h2, h3⟩ := hn
  exact ⟨F', ⟨h1, h.2.1.trans (h2.below h.2.2 (fun x hx => (h.1.lt x hx).1)), Nat.le_trans h.2.2 h2.size⟩, h2, h3⟩

theorem St.drewN {B b : Nat} {w0 w : World} {F : List Nat} {t : KV} {size next step : Int} (h : St B w0 w b F t size next step) (q : Nat) : St B w0 (w.drewN q) b F t size next step := by
  obtain ⟨h1, h2, h3⟩ := h
  exact ⟨h1.drewN q, ⟨h2.os, h2.tape, h2.output, h2.size, h2.block⟩, h3⟩

theorem St.step {B b : Nat} {w0 w : World} {F : List Nat} {t : KV} {size next step : Int} (h : St B w0 w b F t size next step) (q : Nat) : Stp B w0 w b F t size next step (w.drewN q) :=
  ⟨F, h.drewN q, (Moved.refl F w).drewN q, fun x hx => .inl hx⟩

/-- What else is done behind the rack leaves it as it is. -/
theorem St.moved {B b : Nat} {w0 w w' : World} {F S : List Nat} {t : KV} {size next step : Int} (h : St B w0 w b F t size next step) (hm : Moved S w w') (hS : ∀ x ∈ S, B ≤ x ∧ x ∉ F) : St B w0 w' b F t size next step := by
  obtain ⟨h1, h2, h3⟩ := h
  exact ⟨h1.moved hm (fun x hx hs => (hS x hs).2 hx), h2.trans (hm.below h3 (fun x hx => (hS x hx).1)), Nat.le_trans h3 hm.size⟩

theorem St.below {B b : Nat} {w0 w w' : World} {F : List Nat} {t : KV} {size next step : Int} (h : St B w0 w b F t size next step) (hb : Below w.heap.size w w') : St B w0 w' b F t size next step :=
  h.moved (Moved.of_below hb) (by simp)

theorem St.alloc {B b : Nat} {w0 w : World} {F : List Nat} {t : KV} {size next step : Int} (h : St B w0 w b F t size next step) (o : Obj) : St B w0 (w.alloc o) b F t size next step := h.below ((Below.refl _ w).alloc (Nat.le_refl _) o)

theorem St.made (w : World) (size first step : Int) : St w.heap.size w (w.alloc (.cells #[.slice none 0 0, .slice none 0 0, .int .i64 size, .int .i64 first, .int .i64 step] 42)) w.heap.size [w.heap.size] [] size first step := by
  refine ⟨⟨.slice none 0 0, .slice none 0 0, block_new w _, Ints.nil _ _, Ints.nil _ _, rfl, by simp, List.Pairwise.nil, Nat.le_refl _⟩, (Below.refl _ w).alloc (Nat.le_refl _) _, by simp⟩

theorem St.rise {B b : Nat} {w0 w : World} {F : List Nat} {t : KV} {size next step : Int} (h : St B w0 w b F t size next step) : Rise t := by
  obtain ⟨⟨kv, vv, h1, h2, h3, h4, h5, h6, h7⟩, _⟩ := h; exact h6

theorem St.lt {B b : Nat} {w0 w : World} {F : List Nat} {t : KV} {size next step : Int} (h : St B w0 w b F t size next step) : ∀ x ∈ F, B ≤ x ∧ x < w.heap.size := h.1.lt

theorem st_new {size first step : Int} (h : GoodArgs size first step) (w : World) :
    Calls Try.prog 8 #[.int .i64 size, .int .i64 first, .int .i64 step] w fun e w' => ∃ b, e = .returned (.tuple #[.pointer (some ⟨b, 0, none⟩), .int .i64 0]) ∧ ∃ F, St w.heap.size w w' b F [] size first step := by
  refine (new_ok h w).mono ?_
  rintro e w' ⟨rfl, rfl⟩
  exact ⟨_, rfl, _, St.made w size first step⟩

/-! ### The methods, at a law -/
section
variable {B b : Nat} {w0 w : World} {F : List Nat} {t : KV} {size next step : Int}

def GiveR (B : Nat) (w0 w : World) (b : Nat) (F : List Nat) (t : KV) (size next step v : Int) (e : Ending) (w' : World) : Prop :=
  (size ≤ t.length ∧ e = .returned (.tuple #[.int .i64 0, .int .i64 4]) ∧ Stp B w0 w b F t size next step w') ∨
  ((t.length : Int) < size ∧ ∃ m : Nat, Skipped t next step m ∧ ((1099511627775 < next + m * step ∧ e = .returned (.tuple #[.int .i64 0, .int .i64 4]) ∧ Stp B w0 w b F t size (next + m * step) step w') ∨
     (next + m * step ≤ 1099511627775 ∧ lk t (next + m * step) = none ∧ e = .returned (.tuple #[.int .i64 (next + m * step), .int .i64 0]) ∧ Stp B w0 w b F (ins t (next + m * step) v) size (next + m * step + step) step w')))

theorem st_give (h : St B w0 w b F t size next step) (hs : 1 ≤ size) (h64 : size ≤ 64) (hn0 : 1 ≤ next) (hnx : next ≤ 1099511628776) (hst : 1 ≤ step) (hst2 : step ≤ 1000) (v : Int) :
    Calls Try.prog 11 #[.pointer (some ⟨b, 0, none⟩), .int .i64 v] w (GiveR B w0 w b F t size next step v) := by
  have hs0 : (size == 0) = false := by simp; omega
  by_cases hf : size ≤ t.length
  · refine (rgive_full h.1 hs0 v hf).mono ?_
    rintro e w' ⟨rfl, q, rfl⟩
    exact .inl ⟨hf, rfl, h.step q⟩
  · refine (rgive_room h.1 hs0 h.2.2 h64 hn0 hnx hst hst2 v (by omega)).mono ?_
    rintro e w' ⟨m, hk, h1⟩
    refine .inr ⟨by omega, m, hk, ?_⟩
    rcases h1 with ⟨h1, rfl, h2⟩ | ⟨h1, h2, rfl, h3⟩
    · exact .inl ⟨h1, rfl, h.now h2⟩
    · exact .inr ⟨h1, h2, rfl, h.now h3⟩

def HoldR (B : Nat) (w0 w : World) (b : Nat) (F : List Nat) (t : KV) (size next step k v : Int) (e : Ending) (w' : World) : Prop :=
  (((lk t k).isSome = true ∨ k < 1 ∨ 1099511627775 < k) ∧ e = .returned (.int .i64 2) ∧ Stp B w0 w b F t size next step w') ∨
  (lk t k = none ∧ 1 ≤ k ∧ k ≤ 1099511627775 ∧ size ≤ t.length ∧ e = .returned (.int .i64 4) ∧ Stp B w0 w b F t size next step w') ∨
  (lk t k = none ∧ 1 ≤ k ∧ k ≤ 1099511627775 ∧ (t.length : Int) < size ∧ e = .returned (.int .i64 0) ∧ Stp B w0 w b F (ins t k v) size next step w')

theorem st_hold (h : St B w0 w b F t size next step) (hs : 1 ≤ size) (h64 : size ≤ 64) (hl : t.length ≤ size) (k v : Int) :
    Calls Try.prog 12 #[.pointer (some ⟨b, 0, none⟩), .int .i64 k, .int .i64 v] w (HoldR B w0 w b F t size next step k v) := by
  have hs0 : (size == 0) = false := by simp; omega
  by_cases ha : (lk t k).isSome = true ∨ k < 1 ∨ 1099511627775 < k
  · refine (rhold_arg h.1 hs0 (by omega) v ha).mono ?_
    rintro e w' ⟨rfl, q, rfl⟩
    exact .inl ⟨ha, rfl, h.step q⟩
  · have hk : lk t k = none := by
      cases hh : lk t k with
      | none => rfl
      | some u => exact absurd (.inl (by rw [hh]; rfl)) ha
    have h1 : ¬ k < 1 := fun hh => ha (.inr (.inl hh))
    have h2 : ¬ 1099511627775 < k := fun hh => ha (.inr (.inr hh))
    by_cases hf : size ≤ t.length
    · refine (rhold_full h.1 hs0 (by omega) v hk h1 h2 hf).mono ?_
      rintro e w' ⟨rfl, q, rfl⟩
      exact .inr (.inl ⟨hk, by omega, by omega, hf, rfl, h.step q⟩)
    · refine (rhold_ok h.1 hs0 h.2.2 h64 v hk h1 h2 (by omega)).mono ?_
      rintro e w' ⟨rfl, hn⟩
      exact .inr (.inr ⟨hk, by omega, by omega, by omega, rfl, h.now hn⟩)

def DropR (B : Nat) (w0 w : World) (b : Nat) (F : List Nat) (t : KV) (size next step k : Int) (e : Ending) (w' : World) : Prop :=
  (lk t k = none ∧ e = .returned (.int .i64 30) ∧ Stp B w0 w b F t size next step w') ∨ (∃ u, lk t k = some u ∧ e = .returned (.int .i64 0) ∧ Stp B w0 w b F (del t k) size next step w')

theorem st_drop (h : St B w0 w b F t size next step) (hs : 1 ≤ size) (hl : t.length ≤ 64) (k : Int) :
    Calls Try.prog 13 #[.pointer (some ⟨b, 0, none⟩), .int .i64 k] w (DropR B w0 w b F t size next step k) := by
  have hs0 : (size == 0) = false := by simp; omega
  cases hk : lk t k with
  | none =>
    refine (rdrop_none h.1 hs0 hl hk).mono ?_
    rintro e w' ⟨rfl, q, rfl⟩
    exact .inl ⟨hk, rfl, h.step q⟩
  | some u =>
    refine (rdrop_some h.1 hs0 hl hk).mono ?_
    rintro e w' ⟨rfl, hn⟩
    exact .inr ⟨u, hk, rfl, h.now hn⟩

def SetR (B : Nat) (w0 w : World) (b : Nat) (F : List Nat) (t : KV) (size next step k v : Int) (e : Ending) (w' : World) : Prop :=
  (lk t k = none ∧ e = .returned (.int .i64 30) ∧ Stp B w0 w b F t size next step w') ∨ (∃ u, lk t k = some u ∧ e = .returned (.int .i64 0) ∧ Stp B w0 w b F (upd t k v) size next step w')

theorem st_set (h : St B w0 w b F t size next step) (hs : 1 ≤ size) (hl : t.length ≤ 64) (k v : Int) :
    Calls Try.prog 15 #[.pointer (some ⟨b, 0, none⟩), .int .i64 k, .int .i64 v] w (SetR B w0 w b F t size next step k v) := by
  have hs0 : (size == 0) = false := by simp; omega
  cases hk : lk t k with
  | none =>
    refine (rset_none h.1 hs0 hl v hk).mono ?_
    rintro e w' ⟨rfl, q, rfl⟩
    exact .inl ⟨hk, rfl, h.step q⟩
  | some u =>
    refine (rset_some h.1 hs0 hl v hk).mono ?_
    rintro e w' ⟨rfl, hn⟩
    exact .inr ⟨u, hk, rfl, h.now hn⟩

def GetR (t : KV) (k : Int) (w : World) (e : Ending) (w' : World) : Prop :=
  (∃ q, w' = w.drewN q) ∧ ((lk t k = none ∧ e = .returned (.tuple #[.int .i64 0, .int .i64 30])) ∨ (∃ u, lk t k = some u ∧ e = .returned (.tuple #[.int .i64 u, .int .i64 0])))

theorem st_get (h : St B w0 w b F t size next step) (hs : 1 ≤ size) (hl : t.length ≤ 64) (k : Int) :
    Calls Try.prog 14 #[.pointer (some ⟨b, 0, none⟩), .int .i64 k] w (GetR t k w) := by
  have hs0 : (size == 0) = false := by simp; omega
  cases hk : lk t k with
  | none =>
    refine (rget_none h.1 hs0 hl hk).mono ?_
    rintro e w' ⟨rfl, q, rfl⟩
    exact ⟨⟨q, rfl⟩, .inl ⟨hk, rfl⟩⟩
  | some u =>
    refine (rget_some h.1 hs0 hl hk).mono ?_
    rintro e w' ⟨rfl, q, rfl⟩
    exact ⟨⟨q, rfl⟩, .inr ⟨u, hk, rfl⟩⟩

theorem st_len (h : St B w0 w b F t size next step) (hs : 1 ≤ size) :
    Calls Try.prog 16 #[.pointer (some ⟨b, 0, none⟩)] w fun e w' => e = .returned (.int .i64 t.length) ∧ w = w' :=
  rlen h.1 (by simp; omega)

theorem st_ids (h : St B w0 w b F t size next step) (hs : 1 ≤ size) (hl : t.length ≤ 64) :
    Calls Try.prog 10 #[.pointer (some ⟨b, 0, none⟩)] w fun e w' => ∃ a c, e = .returned (.slice a t.length c) ∧ Ints w' w.heap.size (.slice a t.length c) (ks t) ∧ Below w.heap.size w w' ∧ St B w0 w' b F t size next step := by
  refine (rids h.1 (by simp; omega) hl).mono ?_
  rintro e w' ⟨v, rfl, h1, h2⟩
  obtain ⟨a, c, rfl⟩ := h1.shape
  rw [ks_length] at h1 ⊢
  exact ⟨a, c, rfl, h1, h2, h.below h2⟩
end

end Go.Proofs.Ytpjipdmlfpgokaa
