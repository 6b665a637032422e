/-
  The library's search, insertion and deletion, said of a row of whole numbers that the call owns.
-/
import Derived.Test.YtpjipdmlfpgokaaMem
import Derived.Test.YtpjipdmlfpgokaaShelf
import Derived.Test.YtpjipdmlfpgokaaPure
namespace Go.Proofs.Ytpjipdmlfpgokaa
open Go.RowKit

/-- Whole numbers as cells. -/
def ri (xs : List Int) : List Value := xs.map (Value.int .i64)
/-- The slice value v owns the whole numbers xs. -/
def Ints (w : World) (base : Nat) (v : Value) (xs : List Int) : Prop := w.ownsRow base 3 1 v xs.length (ri xs)

theorem ri_length (xs : List Int) : (ri xs).length = xs.length := by simp [ri]
theorem ri_one (xs : List Int) : ∀ v ∈ ri xs, v.oneCell' = true := by
  intro v hv; obtain ⟨x, _, rfl⟩ := List.mem_map.1 hv; rfl
theorem ri_at (xs : List Int) (j : Nat) (v : Value) (h : (ri xs)[j]? = some v) : ∃ x, xs[j]? = some x ∧ v = .int .i64 x := by
  simp [ri] at h; obtain ⟨x, hx, rfl⟩ := h; exact ⟨x, hx, rfl⟩

theorem Ints.nil (w : World) (base : Nat) : Ints w base (.slice none 0 0) [] := World.ownsRow_nil _ _ _ _

/-- Either nothing, or a row of a block of its own. -/
theorem Ints.cases {w : World} {base : Nat} {v : Value} {xs : List Int} (h : Ints w base v xs) : (v = .slice none 0 0 ∧ xs = []) ∨
    ∃ g cap cur, v = .slice (some ⟨g, 0, none⟩) xs.length cap ∧ base ≤ g ∧ w.heap[g]? = some (.cells cur 3 (0, 0)) ∧ xs.length ≤ cap ∧ cap ≤ maxLen ∧ cur.size = cap ∧ cur.toList.take xs.length = ri xs := by
  rcases h.2 with ⟨rfl, hn⟩ | ⟨g, cap, cur, rfl, hb, hg, hn, hc, hs, ht⟩
  · exact .inl ⟨rfl, List.length_eq_zero_iff.1 hn⟩
  · exact .inr ⟨g, cap, cur, rfl, hb, hg, hn, hc, by simpa using hs, by simpa using ht⟩

theorem Ints.mk {w : World} {base g cap : Nat} {cur : Array Value} {xs : List Int} (hb : base ≤ g) (hg : w.heap[g]? = some (.cells cur 3 (0, 0))) (hc : cap ≤ maxLen) (hs : cur.size = cap)
    (ht : cur.toList.take xs.length = ri xs) : Ints w base (.slice (some ⟨g, 0, none⟩) xs.length cap) xs := by
  have hl : xs.length ≤ cap := by
    have := congrArg List.length ht
    simp [ri] at this
    omega
  exact ⟨by simp [ri], .inr ⟨g, cap, cur, rfl, hb, hg, hl, hc, by simpa using hs, by simpa using ht⟩⟩

theorem Ints.mk' {w : World} {base g cap n : Nat} {cur : Array Value} {xs : List Int} (hn : xs.length = n) (hb : base ≤ g) (hg : w.heap[g]? = some (.cells cur 3 (0, 0))) (hc : cap ≤ maxLen) (hs : cur.size = cap)
    (ht : cur.toList.take n = ri xs) : Ints w base (.slice (some ⟨g, 0, none⟩) n cap) xs := by
  subst hn; exact Ints.mk hb hg hc hs ht

theorem take_at {cur : Array Value} {xs : List Int} (ht : cur.toList.take xs.length = ri xs) {j : Nat} {x : Int} (hj : xs[j]? = some x) : cur[j]? = some (.int .i64 x) := by
  have hlt : j < xs.length := (List.getElem?_eq_some_iff.1 hj).1
  have : (cur.toList.take xs.length)[j]? = (ri xs)[j]? := by rw [ht]
  rw [List.getElem?_take, if_pos hlt] at this
  simpa [ri, hj] using this

theorem search_own {w : World} {base : Nat} {v : Value} {xs : List Int} (h : Ints w base v xs) (hs : xs.Pairwise (· < ·)) (hn : xs.length ≤ 64) (x : Int) :
    Calls Try.prog 33 #[v, .int .i64 x] w fun e w' => e = .returned (.tuple #[.int .i64 (xs.countP (· < x) : Nat), .bool (xs.contains x)]) ∧ ∃ q, w' = w.drewN q := by
  rcases h.cases with ⟨rfl, rfl⟩ | ⟨g, cap, cur, rfl, _, hg, hl, _, hc, ht⟩
  · refine (Try.slices_BinarySearch_int_empty none 0 x w).mono ?_
    rintro e w' ⟨rfl, rfl⟩
    exact ⟨rfl, 0, rfl⟩
  · refine (Try.slices_BinarySearch_int g 0 xs.length cap xs x w (Nat.le_refl _) (by omega) (fun j hj => ?_) ?_).mono ?_
    · rw [Nat.zero_add, block_cell hg, take_at ht (x := xs.getD j 0)]
      simp [List.getD, hj]
    · rw [List.take_length]; exact hs.imp (fun h => by omega)
    · rintro e w' ⟨rfl, q, rfl⟩
      rw [List.take_length]
      exact ⟨rfl, q, rfl⟩

theorem Ints.same {w w' : World} {base : Nat} {v : Value} {xs : List Int} (h : Ints w base v xs) (hb : ∀ k, v.ownBlock = some k → w'.heap[k]? = w.heap[k]?) : Ints w' base v xs := owns_same h hb
theorem Ints.moved {S : List Nat} {w w' : World} {base : Nat} {v : Value} {xs : List Int} (h : Ints w base v xs) (hm : Moved S w w') (hn : ∀ k, v.ownBlock = some k → k ∉ S) : Ints w' base v xs := owns_moved h hm hn

/-- What an insertion comes to. -/
def Inserted (w : World) (base : Nat) (v : Value) (ys : List Int) (e : Ending) (w' : World) : Prop :=
  ∃ g cap, e = .returned (.slice (some ⟨g, 0, none⟩) ys.length cap) ∧ Ints w' base (.slice (some ⟨g, 0, none⟩) ys.length cap) ys ∧ Moved v.ownBlock.toList w w' ∧ (v.ownBlock = some g ∨ w.heap.size ≤ g)

theorem setCells_moved {b : Nat} {vs : List Value} {o : Nat} {w : World} : Moved [b] w (w.setCells b o vs) := by
  obtain ⟨h1, h2, h3, h4, h5⟩ := setCells_frame b vs o w
  exact ⟨h1, h2, h3, by omega, fun k _ hk => h5 k (by simpa using hk)⟩

theorem insert_own {w : World} {base : Nat} {v : Value} {xs : List Int} (h : Ints w base v xs) (hn : xs.length ≤ 64) {i : Nat} (hi : i ≤ xs.length) (hbase : base ≤ w.heap.size)
    {vb : Nat} {x : Int} (hv : w.heap[vb]? = some (.cells #[.int .i64 x] 3 (0, 0))) (hne : v.ownBlock ≠ some vb) :
    Calls Try.prog 34 #[v, .int .i64 i, .slice (some ⟨vb, 0, none⟩) 1 1] w (Inserted w base v (xs.take i ++ x :: xs.drop i)) := by
  have hvs : ∀ (j : Nat) (u : Value), ([Value.int .i64 x] : List Value)[j]? = some u → w.cell? ⟨vb, 0 + j, none⟩ = some u := by
    intro j u hj
    rw [Nat.zero_add, block_cell hv]; simpa using hj
  have h1v : ∀ u ∈ ([Value.int .i64 x] : List Value), u.oneCell' = true := by simp [Value.oneCell']
  have hlen : (xs.take i ++ x :: xs.drop i).length = xs.length + 1 := by simp; omega
  have hri : ri (xs.take i ++ x :: xs.drop i) = (ri xs).take i ++ Value.int .i64 x :: (ri xs).drop i := by simp [ri, List.map_take, List.map_drop]
  have hm64 : 65 ≤ maxLen := by unfold maxLen; omega
  rcases h.cases with ⟨rfl, rfl⟩ | ⟨g, cap, cur, rfl, hb, hg, hl, hcm, hc, ht⟩
  · obtain rfl : i = 0 := by simpa using hi
    refine (Try.slices_Insert_int_end_grow none 0 0 vb 0 1 1 [] [.int .i64 x] w (by omega) (by omega) (by omega) (by omega) rfl rfl (fun _ => rfl) (by simp) hvs h1v).mono ?_
    rintro e w' ⟨rfl, rfl⟩
    have hge := grownCap_ge w 1 0 3
    refine ⟨w.heap.size, grownCap w 1 0 3, rfl, Ints.mk (cur := _) hbase (block_new w.drew _) (grownCap_le_maxLen _ _ _ _ (by omega)) ?_ ?_, (Moved.refl _ w).drew.alloc _, .inr (Nat.le_refl _)⟩
    · simp [size_zeroCells, Value.cells]; omega
    · simp [ri]
  · have hcs : ∀ (j : Nat) (u : Value), (ri xs)[j]? = some u → w.cell? ⟨g, 0 + j, none⟩ = some u := by
      intro j u hj
      obtain ⟨y, hy, rfl⟩ := ri_at xs j u hj
      rw [Nat.zero_add, block_cell hg, take_at ht hy]
    have hgv : vb ≠ g := fun e => hne (by rw [e]; rfl)
    have hpre : cur.toList.take i = (ri xs).take i := by rw [← ht, List.take_take, Nat.min_eq_left hi]
    by_cases hroom : xs.length + 1 ≤ cap
    · have hcap63 : cap ≤ 9223372036854775807 := by unfold maxLen at hcm; omega
      by_cases hend : i = xs.length
      · subst hend
        refine (Try.slices_Insert_int_end_room g 0 xs.length cap vb 0 1 1 [.int .i64 x] w (by omega) hroom hcap63 rfl ?_ ?_ hvs h1v).mono ?_
        · intro j hj
          rw [block_cell hg, Array.getElem?_eq_getElem (by omega)]; rfl
        · intro j hj
          exact block_frozen hg _
        · rintro e w' ⟨rfl, rfl⟩
          obtain ⟨cur', hb', ht'⟩ := block_setCells [Value.int .i64 x] (0 + xs.length) w cur hg (by simp; omega)
          have hs' : cur'.size = cap := by have := congrArg List.length ht'; simp at this; omega
          refine ⟨g, cap, by rw [hlen], ?_, setCells_moved, .inl rfl⟩
          rw [hlen]
          refine Ints.mk' hlen hb hb' hcm hs' ?_
          rw [ht', hri]
          simp only [Nat.zero_add, List.length_singleton]
          exact RP.L_end cur.toList (ri xs) xs.length (.int .i64 x) ht (by simp; omega)
      · have hilt : i < xs.length := by omega
        refine (Try.slices_Insert_int_shift g 0 xs.length cap i vb 0 1 1 (ri xs) [.int .i64 x] w hilt (by omega) hroom hcap63 hgv (ri_length xs) rfl hcs ?_ ?_ hvs (ri_one xs) h1v 3 3 _ _ (block_shape hv) (block_shape hg) (by omega) (block_frozen hv _) (block_frozen hv _)).mono ?_
        · intro j hj
          rw [block_cell hg, Array.getElem?_eq_getElem (by omega)]; rfl
        · intro j hj
          exact block_frozen hg _
        · rintro e w' ⟨rfl, rfl⟩
          obtain ⟨cur1, hb1, ht1⟩ := block_setCells ((ri xs).drop i) (0 + (i + 1)) w.drew cur hg (by simp [ri]; omega)
          have hs1 : cur1.size = cap := by have := congrArg List.length ht1; simp [ri] at this; omega
          obtain ⟨cur2, hb2, ht2⟩ := block_setCells [Value.int .i64 x] (0 + i) _ cur1 hb1 (by simp; omega)
          have hs2 : cur2.size = cap := by have := congrArg List.length ht2; simp at this; omega
          refine ⟨g, cap, by rw [hlen], ?_, ((Moved.refl [g] w).drew.trans setCells_moved (fun x hx => .inl hx)).trans setCells_moved (fun x hx => .inl hx), .inl rfl⟩
          rw [hlen]
          refine Ints.mk' hlen hb hb2 hcm hs2 ?_
          rw [hri]
          refine RP.L_shift cur.toList cur1.toList cur2.toList (ri xs) xs.length i (.int .i64 x) ht hilt (by simp; omega) ?_ ?_
          · rw [ht1]; simp [ri]
          · rw [ht2]; simp
    · by_cases hend : i = xs.length
      · subst hend
        refine (Try.slices_Insert_int_end_grow (some ⟨g, 0, none⟩) xs.length cap vb 0 1 1 (ri xs) [.int .i64 x] w (by omega) hl (by omega) (by omega) (ri_length xs) rfl (by simp) ?_ hvs h1v).mono ?_
        · intro a ha j u hj
          cases ha
          have := hcs j u hj
          rw [show (⟨g, 0, none⟩ : Addr).add j = ⟨g, 0 + j, none⟩ from by unfold Addr.add; split <;> simp_all]
          exact this
        · rintro e w' ⟨rfl, rfl⟩
          have hge := grownCap_ge w (xs.length + 1) cap 3
          refine ⟨w.heap.size, grownCap w (xs.length + 1) cap 3, by rw [hlen], ?_, (Moved.refl _ w).drew.alloc _, .inr (Nat.le_refl _)⟩
          rw [hlen]
          refine Ints.mk' hlen hbase (block_new w.drew _) (grownCap_le_maxLen _ _ _ _ (by omega)) ?_ ?_
          · simp [size_zeroCells, Value.cells, ri]; omega
          · rw [hri]
            rw [← RP.L_end2 (ri xs) (Builtin.zeroCells (Value.int .i64 0).cells (grownCap w (xs.length + 1) cap 3 - (xs.length + 1))).toList xs.length (.int .i64 x) (ri_length xs)]
            simp [ri]
      · have hilt : i < xs.length := by omega
        refine (Try.slices_Insert_int_grow g 0 xs.length cap i vb 0 1 1 (ri xs) [.int .i64 x] w hilt (by omega) hl (by omega) (by omega) (ri_length xs) rfl hcs hvs (ri_one xs) h1v).mono ?_
        rintro e w' ⟨rfl, rfl⟩
        have hge := grownCap_ge w (xs.length + 1) cap 3
        have hcm' := grownCap_le_maxLen w (xs.length + 1) cap 3 (by omega)
        generalize grownCap w (xs.length + 1) cap 3 = C at *
        have hz1 : (Builtin.zeroCells (Value.int .i64 0).cells (xs.length + 1 - i)).size = xs.length + 1 - i := by simp [size_zeroCells, Value.cells]
        have hz2 : (Builtin.zeroCells (Value.int .i64 0).cells (C - (xs.length + 1))).size = C - (xs.length + 1) := by simp [size_zeroCells, Value.cells]
        generalize Builtin.zeroCells (Value.int .i64 0).cells (xs.length + 1 - i) = Z1 at *
        generalize Builtin.zeroCells (Value.int .i64 0).cells (C - (xs.length + 1)) = Z2 at *
        have hs0 : (((ri xs).take i).toArray ++ Z1 ++ Z2).size = C := by simp [hz1, hz2, ri]; omega
        obtain ⟨cur1, hb1, ht1⟩ := block_setCells [Value.int .i64 x] i _ _ (block_new w.drew (.cells (((ri xs).take i).toArray ++ Z1 ++ Z2) 3)) (by rw [hs0]; simp; omega)
        have hs1 : cur1.size = C := by have := congrArg List.length ht1; simp [ri, hz1, hz2] at this; omega
        obtain ⟨cur2, hb2, ht2⟩ := block_setCells ((ri xs).drop i) (i + 1) (((w.alloc (.cells (((ri xs).take i).toArray ++ Z1 ++ Z2) 3)).drew.setCells w.heap.size i [.int .i64 x]).drew) cur1 hb1 (by simp [ri]; omega)
        have hs2 : cur2.size = C := by have := congrArg List.length ht2; simp [ri] at this; omega
        refine ⟨w.heap.size, C, by rw [hlen], ?_, ((((Moved.refl _ w).alloc _).drew.trans setCells_moved (fun x hx => .inr (by simp at hx; omega))).drew).trans setCells_moved (fun x hx => .inr (by simp at hx; omega)), .inr (Nat.le_refl _)⟩
        rw [hlen]
        refine Ints.mk' hlen hbase hb2 hcm' hs2 ?_
        rw [hri]
        refine RP.L_grow _ cur1.toList cur2.toList (ri xs) Z1.toList Z2.toList xs.length i (.int .i64 x) (ri_length xs) hilt rfl (by simpa using hz1) ?_ ?_
        · rw [ht1]; simp
        · rw [ht2]; simp [ri]

open Go.Sort in
theorem putRow_block {w : World} {b : Nat} {c : Array Value} {e : TypeId} {fz : Nat × Nat} {enc : Int → Value} (d : Array Int) (h : w.heap[b]? = some (.cells c e fz)) :
    (putRow enc w b 0 d).heap[b]? = some (.cells (putCells enc 0 d c) e fz) := by
  simp [putRow, mapBlock, Array.getElem?_modify, h, onCells]

open Go.Sort in
theorem putRow_moved (w : World) (b : Nat) (enc : Int → Value) (d : Array Int) : Moved [b] w (putRow enc w b 0 d) := by
  refine ⟨rfl, rfl, rfl, by simp [putRow, mapBlock], fun k _ hk => ?_⟩
  simp only [putRow, mapBlock, Array.getElem?_modify]
  rw [if_neg (by simp at hk; omega)]

open Go.Sort in
theorem putCells_take (c : Array Value) (d : List Int) (n : Nat) (hn : n ≤ d.length) (hc : d.length ≤ c.size) : (putCells (Value.int .i64) 0 d.toArray c).toList.take n = ri (d.take n) := by
  apply List.ext_getElem?
  intro j
  simp only [List.getElem?_take, putCells, ri, List.getElem?_map]
  by_cases hj : j < n
  · simp [hj, show j < d.length from by omega, show j < c.size from by omega]
  · simp [hj]

open Go.Sort in
theorem delete_own {w : World} {base : Nat} {v : Value} {xs : List Int} (h : Ints w base v xs) {i : Nat} (hi : i < xs.length) :
    Calls Try.prog 35 #[v, .int .i64 i, .int .i64 ((i + 1 : Nat) : Int)] w fun e w' => ∃ g cap, v = .slice (some ⟨g, 0, none⟩) xs.length cap ∧ e = .returned (.slice (some ⟨g, 0, none⟩) (xs.length - 1) cap) ∧
      Ints w' base (.slice (some ⟨g, 0, none⟩) (xs.length - 1) cap) (xs.take i ++ xs.drop (i + 1)) ∧ Moved [g] w w' := by
  rcases h.cases with ⟨rfl, rfl⟩ | ⟨g, cap, cur, rfl, hb, hg, hl, hcm, hc, ht⟩
  · simp at hi
  · have hd : (xs.take i ++ xs.drop (i + 1) ++ List.replicate (i + 1 - i) (0 : Int)).length = xs.length := by simp; omega
    refine (Try.slices_Delete_int g 0 cap i (i + 1) xs w ?_ hl (by unfold maxLen at hcm; omega) (by omega) (by omega)).mono ?_
    · intro j hj
      simp at hj
      rw [Nat.zero_add, block_cell hg]
      refine ⟨?_, block_frozen hg _⟩
      rw [take_at ht (x := xs[j]) (by simp [hj])]
      simp [hj]
    · rintro e w' ⟨rfl, q, rfl⟩
      refine ⟨g, cap, rfl, by rw [show i + 1 - i = 1 from by omega], ?_, (show Moved [g] w (Sort.ahead w q) from ⟨rfl, rfl, rfl, Nat.le_refl _, fun _ _ _ => rfl⟩).trans (putRow_moved (Sort.ahead w q) g _ _) (fun x hx => .inl hx)⟩
      have hg' : (Sort.ahead w q).heap[g]? = some (.cells cur 3 (0, 0)) := hg
      refine Ints.mk' (by simp; omega) hb (putRow_block _ hg') hcm (by simp [putCells, hc]) ?_
      rw [putCells_take _ _ _ (by omega) (by omega)]
      rw [List.take_append_of_le_length (by simp; omega), List.take_of_length_le (by simp; omega)]

end Go.Proofs.Ytpjipdmlfpgokaa
