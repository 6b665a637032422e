/-
  The rack in memory, and what the table's functions do to it.
-/
import Derived.Test.YtpjipdmlfpgokaaOwn
namespace Go.Proofs.Ytpjipdmlfpgokaa
open Go.RowKit RP

def ks (t : KV) : List Int := t.map (·.1)
def vs (t : KV) : List Int := t.map (·.2)
theorem ks_length (t : KV) : (ks t).length = t.length := by simp [ks]
theorem vs_length (t : KV) : (vs t).length = t.length := by simp [vs]

/-- Block b is a rack: its table t, its size, the next id, the step; F: the blocks that it owns. -/
def RackAt (w : World) (base b : Nat) (F : List Nat) (t : KV) (size next step : Int) : Prop :=
  ∃ kv vv, w.heap[b]? = some (.cells #[kv, vv, .int .i64 size, .int .i64 next, .int .i64 step] 42 (0, 0)) ∧ Ints w base kv (ks t) ∧ Ints w base vv (vs t) ∧
    F = b :: (kv.ownBlock.toList ++ vv.ownBlock.toList) ∧ F.Nodup ∧ Rise t ∧ base ≤ b

theorem RackAt.moved {S : List Nat} {w w' : World} {base b : Nat} {F : List Nat} {t : KV} {size next step : Int} (h : RackAt w base b F t size next step) (hm : Moved S w w') (hd : ∀ x ∈ F, x ∉ S) : RackAt w' base b F t size next step := by
  obtain ⟨kv, vv, h1, h2, h3, rfl, h5, h6, h7⟩ := h
  exact ⟨kv, vv, hm.same h1 (hd b (by simp)), h2.moved hm (fun k hk => hd k (by simp [hk])), h3.moved hm (fun k hk => hd k (by simp [hk])), rfl, h5, h6, h7⟩

theorem RackAt.lt {w : World} {base b : Nat} {F : List Nat} {t : KV} {size next step : Int} (h : RackAt w base b F t size next step) : ∀ x ∈ F, base ≤ x ∧ x < w.heap.size := by
  obtain ⟨kv, vv, h1, h2, h3, rfl, h5, h6, h7⟩ := h
  intro x hx
  simp at hx
  rcases hx with rfl | hx | hx
  · exact ⟨h7, block_lt h1⟩
  · exact h2.lt x hx
  · exact h3.lt x hx

theorem Ints.shape {w : World} {base : Nat} {v : Value} {xs : List Int} (h : Ints w base v xs) : ∃ a c, v = .slice a xs.length c := by
  rcases h.cases with ⟨rfl, rfl⟩ | ⟨g, cap, cur, rfl, _⟩
  · exact ⟨none, 0, rfl⟩
  · exact ⟨_, _, rfl⟩

theorem Ints.drewN {w : World} {base : Nat} {v : Value} {xs : List Int} (h : Ints w base v xs) (q : Nat) : Ints (w.drewN q) base v xs := h
theorem RackAt.drewN {w : World} {base b : Nat} {F : List Nat} {t : KV} {size next step : Int} (h : RackAt w base b F t size next step) (q : Nat) : RackAt (w.drewN q) base b F t size next step := h

theorem search_some {w : World} {base : Nat} {kv : Value} {t : KV} (h : Ints w base kv (ks t)) (hr : Rise t) (hn : t.length ≤ 64) {k v : Int} (hl : lk t k = some v) :
    Calls Try.prog 33 #[kv, .int .i64 k] w fun e w' => e = .returned (.tuple #[.int .i64 (pos t k : Nat), .bool true]) ∧ ∃ q, w' = w.drewN q := by
  refine (search_own h (rise_keys.1 hr) (by simpa [ks] using hn) k).mono ?_
  rintro e w' ⟨rfl, hq⟩
  refine ⟨?_, hq⟩
  have : (ks t).contains k = true := by rw [ks, contains_lk, hl]; rfl
  rw [this]; rfl

theorem search_none {w : World} {base : Nat} {kv : Value} {t : KV} (h : Ints w base kv (ks t)) (hr : Rise t) (hn : t.length ≤ 64) {k : Int} (hl : lk t k = none) :
    Calls Try.prog 33 #[kv, .int .i64 k] w fun e w' => e = .returned (.tuple #[.int .i64 (pos t k : Nat), .bool false]) ∧ ∃ q, w' = w.drewN q := by
  refine (search_own h (rise_keys.1 hr) (by simpa [ks] using hn) k).mono ?_
  rintro e w' ⟨rfl, hq⟩
  refine ⟨?_, hq⟩
  have : (ks t).contains k = false := by rw [ks, contains_lk, hl]; rfl
  rw [this]; rfl

set_option maxHeartbeats 1000000 in
theorem tget_none {w : World} {base b : Nat} {F : List Nat} {t : KV} {size next step : Int} (h : RackAt w base b F t size next step) (hn : t.length ≤ 64) {k : Int} (hl : lk t k = none) :
    Calls Try.prog 28 #[.pointer (some ⟨b, 0, none⟩), .int .i64 k] w fun e w' => e = .returned (.tuple #[.int .i64 0, .bool false]) ∧ ∃ q, w' = w.drewN q := by
  obtain ⟨kv, vv, h1, h2, h3, hF, h5, h6, h7⟩ := h
  have S := Lib.hid (search_none h2 h6 hn hl)
  obtain ⟨a, c, rfl⟩ := h2.shape
  have c0 := block_cell h1 0
  simp only [List.getElem?_toArray, List.getElem?_cons_zero] at c0
  clear h1 h2 h3 hl
  go_enter Try.func28, Try.ntmps28
  go_wp2_with (go_at_call 33; refine S.out.mono ?_; rintro e w' ⟨rfl, q, rfl⟩)
  go_ret2
  exact ⟨rfl, _, rfl⟩

set_option maxHeartbeats 1000000 in
theorem tget_some {w : World} {base b : Nat} {F : List Nat} {t : KV} {size next step : Int} (h : RackAt w base b F t size next step) (hn : t.length ≤ 64) {k v : Int} (hl : lk t k = some v) :
    Calls Try.prog 28 #[.pointer (some ⟨b, 0, none⟩), .int .i64 k] w fun e w' => e = .returned (.tuple #[.int .i64 v, .bool true]) ∧ ∃ q, w' = w.drewN q := by
  obtain ⟨kv, vv, h1, h2, h3, hF, h5, h6, h7⟩ := h
  have S := Lib.hid (search_some h2 h6 hn hl)
  obtain ⟨a, c, rfl⟩ := h2.shape
  have hp := pos_lt h6 hl
  have hat : (vs t)[pos t k]? = some v := by simp [vs, at_pos h6 hl]
  rcases h3.cases with ⟨rfl, he⟩ | ⟨g, cap, cur, rfl, _, hg, _, _, _, ht⟩
  · have : t.length = 0 := by rw [← vs_length, he]; rfl
    omega
  · have c0 := block_cell h1 0
    have c1 := block_cell h1 1
    simp only [List.getElem?_toArray, List.getElem?_cons_zero, List.getElem?_cons_succ] at c0 c1
    have cv : w.cell? ⟨g, pos t k, none⟩ = some (.int .i64 v) := by rw [block_cell hg]; exact take_at ht hat
    have hb1 : pos t k < (vs t).length := by rw [vs_length]; exact hp
    have hb2 : (vs t).length ≤ 64 := by rw [vs_length]; exact hn
    clear h1 h2 h3 hl hat hg ht
    generalize pos t k = i at *
    generalize (vs t).length = n at *
    generalize (ks t).length = n' at *
    clear hp h6 h5 hF
    go_enter Try.func28, Try.ntmps28
    go_wp2_with (go_at_call 33; refine S.out.mono ?_; rintro e w' ⟨rfl, q, rfl⟩)
    go_ret2
    exact ⟨rfl, _, rfl⟩

/-- What a change of a rack comes to: the rack stands as told; of what was there only its own blocks have turned. -/
def Now (w : World) (base b : Nat) (F : List Nat) (t : KV) (size next step : Int) (w' : World) : Prop :=
  ∃ F', RackAt w' base b F' t size next step ∧ Moved F w w' ∧ ∀ x ∈ F', x ∈ F ∨ w.heap.size ≤ x

theorem keys_ins (t : KV) (k v : Int) : ks (ins t k v) = (ks t).take (pos t k) ++ k :: (ks t).drop (pos t k) := by simp [ks, ins, List.map_take, List.map_drop]
theorem vals_ins (t : KV) (k v : Int) : vs (ins t k v) = (vs t).take (pos t k) ++ v :: (vs t).drop (pos t k) := by simp [vs, ins, List.map_take, List.map_drop]

/-- The two insertions and the two stores of 'put', said of worlds alone. -/
theorem put_after {w w2 w5 : World} {base b : Nat} {F : List Nat} {t : KV} {size next step : Int} (h : RackAt w base b F t size next step) {k v : Int} (hl : lk t k = none) {q : Nat} {kv vv : Value} {g g' cap cap' : Nat}
    (h1 : w.heap[b]? = some (.cells #[kv, vv, .int .i64 size, .int .i64 next, .int .i64 step] 42 (0, 0)))
    (hF : F = b :: (kv.ownBlock.toList ++ vv.ownBlock.toList)) (h5 : F.Nodup)
    (hI : Ints w2 base (.slice (some ⟨g, 0, none⟩) (ks (ins t k v)).length cap) (ks (ins t k v))) (hM : Moved kv.ownBlock.toList ((w.drewN q).alloc (.cells #[.int .i64 k] 3)) w2) (hg : kv.ownBlock = some g ∨ w.heap.size + 1 ≤ g)
    (hI' : Ints w5 base (.slice (some ⟨g', 0, none⟩) (vs (ins t k v)).length cap') (vs (ins t k v)))
    (hM' : Moved vv.ownBlock.toList ((w2.setCell ⟨b, 0, none⟩ (.slice (some ⟨g, 0, none⟩) (ks (ins t k v)).length cap)).alloc (.cells #[.int .i64 v] 3)) w5) (hg' : vv.ownBlock = some g' ∨ w2.heap.size + 1 ≤ g') :
    Now w base b F (ins t k v) size next step (w5.setCell ⟨b, 1, none⟩ (.slice (some ⟨g', 0, none⟩) (vs (ins t k v)).length cap')) := by
  have hlt := h.lt
  obtain ⟨kv0, vv0, e1, e2, e3, e4, e5, e6, e7⟩ := h
  have hb := block_lt h1
  subst hF
  rw [List.nodup_cons, List.nodup_append] at h5
  obtain ⟨hbn, hk1, hv1, hkv⟩ := h5
  have hbk : b ∉ kv.ownBlock.toList := fun hm => hbn (by simp at hm ⊢; exact .inl hm)
  have hbv : b ∉ vv.ownBlock.toList := fun hm => hbn (by simp at hm ⊢; exact .inr hm)
  have B2 : w2.heap[b]? = some (.cells #[kv, vv, .int .i64 size, .int .i64 next, .int .i64 step] 42 (0, 0)) := hM.same (block_alloc _ h1) hbk
  have B3 := block_setCell (i := 0) (v := .slice (some ⟨g, 0, none⟩) (ks (ins t k v)).length cap) B2
  have B5 := hM'.same (block_alloc _ B3) hbv
  have B6 := block_setCell (i := 1) (v := .slice (some ⟨g', 0, none⟩) (vs (ins t k v)).length cap') B5
  have gb : b ≠ g := by
    rintro rfl
    rcases hg with hg | hg
    · exact hbk (by simp [hg])
    · omega
  have hs2 := hM.size
  simp at hs2
  have gb' : b ≠ g' := by
    rintro rfl
    rcases hg' with hg' | hg'
    · exact hbv (by simp [hg'])
    · omega
  have hglt : g < w2.heap.size := hI.lt g rfl |>.2
  have gg : g ≠ g' := by
    rintro rfl
    rcases hg' with hg' | hg'
    · rcases hg with hg | hg
      · exact hkv g (by simp [hg]) g (by simp [hg']) rfl
      · have := (hlt g (by simp [hg'])).2; omega
    · omega
  refine ⟨[b, g, g'], ⟨_, _, B6, ?_, ?_, rfl, ?_, rise_ins e6 v hl, e7⟩, ?_, ?_⟩
  · -- the keys' row stands
    refine hI.same fun k hk => ?_
    obtain rfl : g = k := by simpa [Value.ownBlock] using hk
    rw [Below.heap_setCell _ _ _ _ (by simpa using gb.symm), hM'.block g (by simp; omega), Below.heap_alloc _ _ _ (by simpa using hglt), Below.heap_setCell _ _ _ _ (by simpa using gb.symm)]
    intro hm
    simp at hm
    rcases hg with hg | hg
    · exact hkv g (by simp [hg]) g (by simp [hm]) rfl
    · have := (hlt g (by simp [hm])).2; omega
  · refine hI'.same fun k hk => ?_
    obtain rfl : g' = k := by simpa [Value.ownBlock] using hk
    rw [Below.heap_setCell _ _ _ _ (by simpa using gb'.symm)]
  · simp [gb, gb', gg]
  · have m1 : Moved (b :: (kv.ownBlock.toList ++ vv.ownBlock.toList)) w w2 := (((Moved.refl _ w).drewN q).alloc _).trans hM (fun x hx => .inl (by simp at hx ⊢; exact .inr (.inl hx)))
    have m2 := (m1.setCell (p := ⟨b, 0, none⟩) (.inl (by simp)) (.slice (some ⟨g, 0, none⟩) (ks (ins t k v)).length cap)).alloc (.cells #[.int .i64 v] 3)
    exact (m2.trans hM' (fun x hx => .inl (by simp at hx ⊢; exact .inr (.inr hx)))).setCell (p := ⟨b, 1, none⟩) (.inl (by simp)) _
  · intro x hx
    simp at hx
    rcases hx with rfl | rfl | rfl
    · exact .inl (by simp)
    · rcases hg with hg | hg
      · exact .inl (by simp [hg])
      · exact .inr (by omega)
    · rcases hg' with hg' | hg'
      · exact .inl (by simp [hg'])
      · exact .inr (by omega)

set_option maxHeartbeats 400000 in
theorem tput_new {w : World} {base b : Nat} {F : List Nat} {t : KV} {size next step : Int} (h : RackAt w base b F t size next step) (hn : t.length < 64) {k : Int} (v : Int) (hl : lk t k = none) (hbase : base ≤ w.heap.size) :
    Calls Try.prog 29 #[.pointer (some ⟨b, 0, none⟩), .int .i64 k, .int .i64 v] w fun e w' => e = .returned (.tuple #[]) ∧ Now w base b F (ins t k v) size next step w' := by
  have H := Lib.hid h
  obtain ⟨kv, vv, h1, h2, h3, hF, h5, h6, h7⟩ := h
  have S := Lib.hid (search_none h2 h6 (by omega) hl)
  have hlt := H.out.lt
  have I1 := fun q => Lib.hid (insert_own (w := (w.drewN q).alloc (.cells #[.int .i64 k] 3)) (h2.moved (((Moved.refl [] w).drewN q).alloc _) (by simp)) (by rw [ks_length]; omega) (i := pos t k) (by rw [ks_length]; exact pos_le t k) (by simp; omega)
    (vb := w.heap.size) (x := k) (block_new (w.drewN q) _) (fun e => by have := (hlt w.heap.size (by rw [hF]; simp [e])).2; omega))
  obtain ⟨a, c, ha⟩ := h2.shape
  obtain ⟨a', c', ha'⟩ := h3.shape
  have c0 := block_cell h1 0
  have c1 := block_cell h1 1
  have f0 := fun i => block_frozen h1 i
  simp only [List.getElem?_toArray, List.getElem?_cons_zero, List.getElem?_cons_succ] at c0 c1
  have hnb : b ∉ kv.ownBlock.toList := fun hm => by
    rw [hF, List.nodup_cons] at h5
    exact h5.1 (by simp at hm ⊢; exact .inl hm)
  have HF := Lib.hid hF
  have HN := Lib.hid h5
  have H1 := Lib.hid h1
  have H3 := Lib.hid h3
  have HL := Lib.hid hl
  have Ha := Lib.hid ha
  have Ha' := Lib.hid ha'
  rw [ha] at c0
  rw [ha'] at c1
  simp only [← keys_ins t k v] at I1
  clear h1 h2 h3 hF h5 hl
  simp only [ha] at S I1
  clear ha ha'
  go_enter Try.func29, Try.ntmps29
  go_wp2_with (go_at_call 33; refine S.out.mono ?_; rintro e w' ⟨rfl, q, rfl⟩)
  refine (I1 q).out.mono ?_
  rintro e w2 ⟨g, cap, rfl, hI, hM, hg⟩
  rw [← Ha.out] at hM hg
  have B2 := hM.same (block_alloc _ H1.out) hnb
  have c20 := block_cell B2 0
  have c21 := block_cell B2 1
  have f2 := fun i => block_frozen B2 i
  simp only [List.getElem?_toArray, List.getElem?_cons_zero, List.getElem?_cons_succ] at c20 c21
  have hv2 : Ints ((w2.setCell ⟨b, 0, none⟩ (.slice (some ⟨g, 0, none⟩) (ks (ins t k v)).length cap)).alloc (.cells #[.int .i64 v] 3)) base vv (vs t) := by
    have hF := HF.out; have h5 := HN.out
    rw [hF, List.nodup_cons, List.nodup_append] at h5
    have hv1 : vv.ownBlock.toList ⊆ F := by rw [hF]; intro x hx; simp at hx ⊢; exact .inr (.inr hx)
    have m1 : Moved (b :: kv.ownBlock.toList) w w2 := (((Moved.refl _ w).drewN q).alloc _).trans hM (fun x hx => .inl (by simp at hx ⊢; exact .inr hx))
    refine H3.out.moved ((m1.setCell (p := ⟨b, 0, none⟩) (.inl (by simp)) _).alloc _) (fun x hx hm => ?_)
    simp at hm
    rcases hm with rfl | hm
    · exact h5.1 (by simp [hx])
    · exact h5.2.2.2 x (by simp [hm]) x (by simp [hx]) rfl
  have hs2 := hM.size
  simp only [World.size_alloc] at hs2
  have hs2' : w.heap.size + 1 ≤ w2.heap.size := hs2
  have I2 := Lib.hid (insert_own hv2 (by rw [vs_length]; omega) (i := pos t k) (by rw [vs_length]; exact pos_le t k) (by simp; omega)
    (vb := w2.heap.size) (x := v) (by have := block_new (w2.setCell ⟨b, 0, none⟩ (.slice (some ⟨g, 0, none⟩) (ks (ins t k v)).length cap)) (.cells #[.int .i64 v] 3); rwa [World.size_setCell] at this)
    (fun e => by have := (hlt w2.heap.size (by rw [HF.out]; simp [e])).2; omega))
  simp only [← vals_ins t k v] at I2
  have B3 := block_setCell (i := 0) (v := .slice (some ⟨g, 0, none⟩) (ks (ins t k v)).length cap) B2
  have hM1 := Lib.hid hM
  have hI1 := Lib.hid hI
  have hg1 := Lib.hid hg
  clear hM hI hg hs2 B2
  go_wp2_with fail
  refine I2.out.mono ?_
  rintro e w5 ⟨g', cap', rfl, hI', hM', hg'⟩
  have hnv : b ∉ vv.ownBlock.toList := fun hm => by
    have h5 := HN.out
    rw [HF.out, List.nodup_cons] at h5
    exact h5.1 (by simp at hm ⊢; exact .inr hm)
  have B5 := hM'.same (block_alloc _ B3) hnv
  have c51 := block_cell B5 1
  have f5 := fun i => block_frozen B5 i
  simp only [List.size_toArray, List.length_cons, List.length_nil, Array.getElem?_setIfInBounds, List.getElem?_toArray, List.getElem?_cons_zero, List.getElem?_cons_succ] at c51
  simp at c51
  have fin := Lib.hid (put_after H.out HL.out H1.out HF.out HN.out hI1.out hM1.out (by simpa using hg1.out) hI' hM' (by simpa using hg'))
  clear hI' hM' hg' B5 B3 hv2 I2
  go_wp2_with fail
  go_end0
  exact ⟨rfl, fin.out⟩

end Go.Proofs.Ytpjipdmlfpgokaa
