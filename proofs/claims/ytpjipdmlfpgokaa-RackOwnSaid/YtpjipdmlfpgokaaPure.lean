/-
  Plain laws of the rack's table: a list of pairs whose keys rise; what stands under a key; a pair put in, turned, let go. No program here.
-/
import Derived.KernelRfl
namespace Go.Proofs.Ytpjipdmlfpgokaa.RP

abbrev KV := List (Int × Int)

/-- What stands under a key. -/
def lk (t : KV) (k : Int) : Option Int := (t.find? (fun p => p.1 == k)).map (·.2)
/-- Where a key stands, or would. -/
def pos (t : KV) (k : Int) : Nat := (t.map (·.1)).countP (· < k)
/-- The keys rise. -/
def Rise (t : KV) : Prop := t.Pairwise (fun a b => a.1 < b.1)
def ins (t : KV) (k v : Int) : KV := t.take (pos t k) ++ (k, v) :: t.drop (pos t k)
def upd (t : KV) (k v : Int) : KV := t.set (pos t k) (k, v)
def del (t : KV) (k : Int) : KV := t.take (pos t k) ++ t.drop (pos t k + 1)

theorem pos_le (t : KV) (k : Int) : pos t k ≤ t.length := by
  unfold pos; have := List.countP_le_length (p := fun x => decide (x < k)) (l := t.map (·.1)); simpa using this

theorem pos_cons_lt {p : Int × Int} {t : KV} {k : Int} (h : p.1 < k) : pos (p :: t) k = pos t k + 1 := by
  simp [pos, h]
theorem pos_cons_ge {p : Int × Int} {t : KV} {k : Int} (hr : Rise (p :: t)) (h : ¬ p.1 < k) : pos (p :: t) k = 0 := by
  unfold pos
  rw [List.countP_eq_zero]
  intro x hx
  simp at hx
  rcases hx with rfl | ⟨v, hx⟩
  · simpa using h
  · have := (List.pairwise_cons.1 hr).1 _ hx
    simp at this ⊢
    omega

theorem take_lt {t : KV} (hr : Rise t) (k : Int) : ∀ p ∈ t.take (pos t k), p.1 < k := by
  induction t with
  | nil => simp
  | cons p t ih =>
    by_cases h : p.1 < k
    · rw [pos_cons_lt h]
      intro q hq
      simp at hq
      rcases hq with rfl | hq
      · exact h
      · exact ih (List.pairwise_cons.1 hr).2 q hq
    · rw [pos_cons_ge hr h]; simp

theorem drop_ge {t : KV} (hr : Rise t) (k : Int) : ∀ p ∈ t.drop (pos t k), k ≤ p.1 := by
  induction t with
  | nil => simp
  | cons p t ih =>
    by_cases h : p.1 < k
    · rw [pos_cons_lt h]
      intro q hq
      simp at hq
      exact ih (List.pairwise_cons.1 hr).2 q hq
    · rw [pos_cons_ge hr h]
      intro q hq
      simp at hq
      rcases hq with rfl | hq
      · omega
      · have := (List.pairwise_cons.1 hr).1 q hq; omega

theorem lk_none {t : KV} {k : Int} : lk t k = none ↔ k ∉ t.map (·.1) := by
  simp only [lk, Option.map_eq_none_iff, List.find?_eq_none, List.mem_map]
  constructor
  · rintro h ⟨p, hp, rfl⟩
    exact h p hp (by simp)
  · intro h p hp e
    exact h ⟨p, hp, by simpa using e⟩

theorem lk_some_mem {t : KV} {k v : Int} (h : lk t k = some v) : (k, v) ∈ t := by
  simp only [lk, Option.map_eq_some_iff] at h
  obtain ⟨⟨a, b⟩, h1, rfl⟩ := h
  have h2 := List.find?_some h1
  simp at h2
  subst h2
  exact List.mem_of_find?_eq_some h1

/-- A key that is there stands at its place. -/
theorem at_pos {t : KV} (hr : Rise t) {k v : Int} (h : lk t k = some v) : t[pos t k]? = some (k, v) := by
  induction t with
  | nil => simp [lk] at h
  | cons p t ih =>
    by_cases hp : p.1 < k
    · have hne : (p.1 == k) = false := by simp; omega
      have h' : lk t k = some v := by simpa [lk, List.find?_cons, hne] using h
      rw [pos_cons_lt hp]
      simpa using ih (List.pairwise_cons.1 hr).2 h'
    · rw [pos_cons_ge hr hp]
      have hm := lk_some_mem h
      simp at hm
      rcases hm with rfl | hm
      · simp
      · have := (List.pairwise_cons.1 hr).1 _ hm
        simp at this
        omega

theorem split (t : KV) (k : Int) : t.take (pos t k) ++ t.drop (pos t k) = t := List.take_append_drop _ _

theorem lk_append (a b : KV) (k : Int) : lk (a ++ b) k = (lk a k).or (lk b k) := by
  simp only [lk, List.find?_append]
  cases a.find? (fun p => p.1 == k) <;> simp

theorem lk_take {t : KV} (hr : Rise t) (k : Int) : lk (t.take (pos t k)) k = none := by
  rw [lk_none]
  intro hm
  obtain ⟨p, hp, rfl⟩ := List.mem_map.1 hm
  have := take_lt hr _ p hp
  omega

theorem lk_cons_same (k v : Int) (t : KV) : lk ((k, v) :: t) k = some v := by simp [lk]
theorem lk_cons_ne {k k' : Int} (v : Int) (t : KV) (h : k ≠ k') : lk ((k, v) :: t) k' = lk t k' := by
  have : (k == k') = false := by simpa using h
  simp [lk, List.find?_cons, this]

theorem lk_ins_same {t : KV} (hr : Rise t) (k v : Int) : lk (ins t k v) k = some v := by
  rw [ins, lk_append, lk_take hr, lk_cons_same]; rfl
theorem lk_ins_ne (t : KV) {k k' : Int} (v : Int) (h : k ≠ k') : lk (ins t k v) k' = lk t k' := by
  rw [ins, lk_append, lk_cons_ne v _ h, ← lk_append, split]

theorem length_ins (t : KV) (k v : Int) : (ins t k v).length = t.length + 1 := by
  have := pos_le t k
  simp [ins]; omega

theorem rise_ins {t : KV} (hr : Rise t) {k : Int} (v : Int) (h : lk t k = none) : Rise (ins t k v) := by
  have hk := lk_none.1 h
  unfold Rise ins
  rw [List.pairwise_append]
  refine ⟨(hr.sublist (List.take_sublist _ _)), ?_, ?_⟩
  · rw [List.pairwise_cons]
    refine ⟨fun q hq => ?_, hr.sublist (List.drop_sublist _ _)⟩
    have h1 := drop_ge hr k q hq
    have h2 : q.1 ≠ k := fun e => hk (List.mem_map.2 ⟨q, List.mem_of_mem_drop hq, e⟩)
    show k < q.1
    omega
  · intro p hp q hq
    have h1 := take_lt hr k p hp
    simp at hq
    rcases hq with rfl | hq
    · exact h1
    · have h2 := drop_ge hr k q hq
      omega

/-- The place of a key that is there, as the list is parted by it. -/
theorem parted {t : KV} (hr : Rise t) {k v : Int} (h : lk t k = some v) : t = t.take (pos t k) ++ (k, v) :: t.drop (pos t k + 1) := by
  have h1 := at_pos hr h
  have hlt : pos t k < t.length := (List.getElem?_eq_some_iff.1 h1).1
  have h2 : t.drop (pos t k) = (k, v) :: t.drop (pos t k + 1) := by
    rw [List.drop_eq_getElem_cons hlt]
    congr 1
    exact (List.getElem?_eq_some_iff.1 h1).2
  rw [← h2, split]

theorem pos_lt {t : KV} (hr : Rise t) {k v : Int} (h : lk t k = some v) : pos t k < t.length :=
  (List.getElem?_eq_some_iff.1 (at_pos hr h)).1

theorem upd_eq {t : KV} (hr : Rise t) {k v : Int} (w : Int) (h : lk t k = some v) : upd t k w = t.take (pos t k) ++ (k, w) :: t.drop (pos t k + 1) := by
  have hlt := pos_lt hr h
  unfold upd
  rw [List.set_eq_take_append_cons_drop, if_pos hlt]

theorem lk_upd_same {t : KV} (hr : Rise t) {k v : Int} (w : Int) (h : lk t k = some v) : lk (upd t k w) k = some w := by
  rw [upd_eq hr w h, lk_append, lk_take hr, lk_cons_same]; rfl
theorem lk_upd_ne {t : KV} (hr : Rise t) {k v k' : Int} (w : Int) (h : lk t k = some v) (hne : k ≠ k') : lk (upd t k w) k' = lk t k' := by
  rw [upd_eq hr w h, lk_append, lk_cons_ne w _ hne]
  conv => rhs; rw [parted hr h, lk_append, lk_cons_ne v _ hne]
theorem length_upd (t : KV) (k w : Int) : (upd t k w).length = t.length := by simp [upd]
theorem keys_upd {t : KV} (hr : Rise t) {k v : Int} (w : Int) (h : lk t k = some v) : (upd t k w).map (·.1) = t.map (·.1) := by
  rw [upd_eq hr w h]
  conv => rhs; rw [parted hr h]
  simp
theorem rise_keys {t : KV} : Rise t ↔ (t.map (·.1)).Pairwise (· < ·) := by
  unfold Rise; rw [List.pairwise_map]
theorem rise_upd {t : KV} (hr : Rise t) {k v : Int} (w : Int) (h : lk t k = some v) : Rise (upd t k w) := by
  rw [rise_keys, keys_upd hr w h]; exact rise_keys.1 hr

theorem lk_del_same {t : KV} (hr : Rise t) {k v : Int} (h : lk t k = some v) : lk (del t k) k = none := by
  rw [del, lk_append, lk_take hr, Option.none_or]
  rw [lk_none]
  intro hm
  obtain ⟨q, hq, e⟩ := List.mem_map.1 hm
  have h3 := hr
  unfold Rise at h3
  rw [parted hr h, List.pairwise_append] at h3
  have := (List.pairwise_cons.1 h3.2.1).1 q hq
  simp at this
  omega
theorem lk_del_ne {t : KV} (hr : Rise t) {k v k' : Int} (h : lk t k = some v) (hne : k ≠ k') : lk (del t k) k' = lk t k' := by
  conv => rhs; rw [parted hr h, lk_append, lk_cons_ne v _ hne]
  rw [del, lk_append]
theorem length_del {t : KV} (hr : Rise t) {k v : Int} (h : lk t k = some v) : (del t k).length + 1 = t.length := by
  have hlt := pos_lt hr h
  simp [del]; omega
theorem rise_del {t : KV} (hr : Rise t) (k : Int) : Rise (del t k) := by
  refine List.Pairwise.sublist ?_ hr
  unfold del
  conv => rhs; rw [← split t k]
  exact List.Sublist.append_left (by rw [show t.drop (pos t k + 1) = (t.drop (pos t k)).drop 1 from by rw [List.drop_drop]]; exact List.drop_sublist _ _) _

theorem contains_lk (t : KV) (k : Int) : (t.map (·.1)).contains k = (lk t k).isSome := by
  rw [Bool.eq_iff_iff]
  have := lk_none (t := t) (k := k)
  cases h : lk t k with
  | none => simpa using this.1 h
  | some v =>
    simp
    exact ⟨v, lk_some_mem h⟩

theorem L_end {α : Type} (L rs : List α) (n : Nat) (v : α) (ht : L.take n = rs) (hlen : n + 1 ≤ L.length) :
    (L.take n ++ [v] ++ L.drop (n + 1)).take (n + 1) = rs.take n ++ v :: rs.drop n := by
  subst ht
  have hl : (L.take n).length = n := by simp; omega
  rw [List.append_assoc, List.take_append, hl, show n + 1 - n = 1 from by omega, List.take_of_length_le (by omega)]
  simp [List.take_take]

theorem L_shift {α : Type} (L L1 L2 rs : List α) (n i : Nat) (v : α) (ht : L.take n = rs) (hi : i < n) (hlen : n + 1 ≤ L.length)
    (h1 : L1 = L.take (i + 1) ++ rs.drop i ++ L.drop (i + 1 + (n - i))) (h2 : L2 = L1.take i ++ [v] ++ L1.drop (i + 1)) : L2.take (n + 1) = rs.take i ++ v :: rs.drop i := by
  subst ht
  have l1 : L1.length = L.length := by subst h1; simp; omega
  have a1 : L1.take i = L.take i := by subst h1; rw [List.append_assoc, List.take_append, List.take_take, Nat.min_eq_left (by omega), List.length_take, show i - min (i + 1) L.length = 0 from by omega]; simp
  have a2 : (L1.drop (i + 1)).take (n - i) = (L.take n).drop i := by
    subst h1
    rw [List.append_assoc, List.drop_append, List.drop_of_length_le (by simp; omega), List.nil_append, List.length_take, show i + 1 - min (i + 1) L.length = 0 from by omega, List.drop_zero, List.take_append, List.take_of_length_le (by simp; omega)]
    simp
    omega
  subst h2
  rw [a1, List.append_assoc, List.take_append, List.take_of_length_le (by simp; omega), List.length_take, Nat.min_eq_left (by omega), show n + 1 - i = (n - i) + 1 from by omega, List.singleton_append, List.take_succ_cons, a2, List.take_take, Nat.min_eq_left (by omega)]

theorem L_grow {α : Type} (L L1 L2 rs Z Z2 : List α) (n i : Nat) (v : α) (hl : rs.length = n) (hi : i < n) (hL : L = rs.take i ++ Z ++ Z2) (hZ : Z.length = n + 1 - i) (h1 : L1 = L.take i ++ [v] ++ L.drop (i + 1))
    (h2 : L2 = L1.take (i + 1) ++ rs.drop i ++ L1.drop (i + 1 + (n - i))) : L2.take (n + 1) = rs.take i ++ v :: rs.drop i := by
  have a0 : L.take i = rs.take i := by
    subst hL; rw [List.append_assoc, List.take_append, List.take_take, Nat.min_self, List.length_take, show i - min i rs.length = 0 from by omega]; simp
  have l0 : n + 1 ≤ L.length := by subst hL; simp; omega
  have a1 : L1.take (i + 1) = rs.take i ++ [v] := by
    subst h1; rw [a0, List.take_append, List.take_of_length_le (by simp; omega)]
    simp; omega
  subst h2
  rw [a1, List.take_append, List.take_of_length_le (by simp; omega)]
  simp; omega

theorem L_end2 {α : Type} (rs Z : List α) (n : Nat) (v : α) (hl : rs.length = n) : (rs ++ v :: Z).take (n + 1) = rs.take n ++ v :: rs.drop n := by
  subst hl
  rw [List.take_append, List.take_of_length_le (by omega), show rs.length + 1 - rs.length = 1 from by omega]
  simp

end Go.Proofs.Ytpjipdmlfpgokaa.RP
