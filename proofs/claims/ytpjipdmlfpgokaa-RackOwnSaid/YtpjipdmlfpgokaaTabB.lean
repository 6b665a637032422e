/-
  The table's replacing and letting go.
-/
import Derived.Test.YtpjipdmlfpgokaaTab
namespace Go.Proofs.Ytpjipdmlfpgokaa
open Go.RowKit RP

theorem vals_upd (t : KV) (k v : Int) : vs (upd t k v) = (vs t).set (pos t k) v := by simp [vs, upd]
theorem keys_upd' {t : KV} (hr : Rise t) {k u : Int} (v : Int) (h : lk t k = some u) : ks (upd t k v) = ks t := keys_upd hr v h
theorem keys_del (t : KV) (k : Int) : ks (del t k) = (ks t).take (pos t k) ++ (ks t).drop (pos t k + 1) := by simp [ks, del, List.map_take, List.map_drop]
theorem vals_del (t : KV) (k : Int) : vs (del t k) = (vs t).take (pos t k) ++ (vs t).drop (pos t k + 1) := by simp [vs, del, List.map_take, List.map_drop]

theorem take_set {α : Type} (L : List α) (n i : Nat) (v : α) : (L.set i v).take n = (L.take n).set i v := by
  apply List.ext_getElem?; intro j
  simp only [List.getElem?_take, List.getElem?_set, List.length_take]
  by_cases hj : j < n <;> by_cases hij : i = j <;> simp [hj, hij]
  · subst hij; split <;> split <;> first | rfl | omega
  · omega

theorem upd_after {w : World} {base b : Nat} {F : List Nat} {t : KV} {size next step : Int} (h : RackAt w base b F t size next step) {k u : Int} (v : Int) (hl : lk t k = some u) {kv : Value} {g cap : Nat}
    (h1 : w.heap[b]? = some (.cells #[kv, .slice (some ⟨g, 0, none⟩) (vs t).length cap, .int .i64 size, .int .i64 next, .int .i64 step] 42 (0, 0))) :
    Now w base b F (upd t k v) size next step (w.setCell ⟨g, pos t k, none⟩ (.int .i64 v)) := by
  obtain ⟨kv0, vv0, e1, e2, e3, e4, e5, e6, e7⟩ := h
  have he := e1.symm.trans h1
  simp only [Option.some.injEq, Obj.cells.injEq, and_true] at he
  simp only [Array.mk.injEq, List.cons.injEq, and_true, true_and] at he
  obtain ⟨rfl, rfl⟩ := he
  rw [e4, List.nodup_cons, List.nodup_append] at e5
  obtain ⟨hbn, hk1, hv1, hkv⟩ := e5
  have hgF : g ∈ F := by rw [e4]; simp [Value.ownBlock]
  have gb : b ≠ g := fun e => hbn (by simp [Value.ownBlock, e])
  rcases e3.cases with ⟨hh, _⟩ | ⟨g', cap', cur, hh, hb', hg, hl', hcm, hc, ht⟩
  · cases hh
  · cases hh
    have B := block_setCell (i := pos t k) (v := Value.int .i64 v) hg
    have hm : Moved F w (w.setCell ⟨g, pos t k, none⟩ (.int .i64 v)) := (Moved.refl F w).setCell (p := ⟨g, pos t k, none⟩) (.inl hgF) _
    refine ⟨F, ⟨kv0, .slice (some ⟨g, 0, none⟩) (vs t).length cap, ?_, ?_, ?_, e4, by rw [e4, List.nodup_cons, List.nodup_append]; exact ⟨hbn, hk1, hv1, hkv⟩, rise_upd e6 v hl, e7⟩, hm, fun x hx => .inl hx⟩
    · rw [Below.heap_setCell _ _ _ _ (by simpa using gb)]; exact e1
    · rw [keys_upd' e6 v hl]
      refine e2.same fun x hx => Below.heap_setCell _ _ _ _ (fun e => ?_)
      simp at e; subst e
      exact hkv x (by simp [hx]) x (by simp [Value.ownBlock]) rfl
    · have hlen : (vs (upd t k v)).length = (vs t).length := by rw [vals_upd]; simp
      refine Ints.mk' hlen hb' B hcm (by simpa using hc) ?_
      rw [Array.toList_setIfInBounds, take_set, ht, vals_upd]
      simp [ri, List.map_set]

theorem Now.of_drewN {w w' : World} {q : Nat} {base b : Nat} {F : List Nat} {t : KV} {size next step : Int} (h : Now (w.drewN q) base b F t size next step w') : Now w base b F t size next step w' := by
  obtain ⟨F', h1, h2, h3⟩ := h
  exact ⟨F', h1, ⟨h2.os, h2.tape, h2.output, h2.size, h2.block⟩, h3⟩

set_option maxHeartbeats 1000000 in
theorem tput_upd {w : World} {base b : Nat} {F : List Nat} {t : KV} {size next step : Int} (h : RackAt w base b F t size next step) (hn : t.length ≤ 64) {k u : Int} (v : Int) (hl : lk t k = some u) :
    Calls Try.prog 29 #[.pointer (some ⟨b, 0, none⟩), .int .i64 k, .int .i64 v] w fun e w' => e = .returned (.tuple #[]) ∧ Now w base b F (upd t k v) size next step w' := by
  have H := Lib.hid h
  obtain ⟨kv, vv, h1, h2, h3, hF, h5, h6, h7⟩ := h
  have S := Lib.hid (search_some h2 h6 hn hl)
  obtain ⟨a, c, rfl⟩ := h2.shape
  have hp := pos_lt h6 hl
  have hat : (vs t)[pos t k]? = some u := by simp [vs, at_pos h6 hl]
  rcases h3.cases with ⟨rfl, he⟩ | ⟨g, cap, cur, rfl, _, hg, _, _, _, ht⟩
  · have : t.length = 0 := by rw [← vs_length, he]; rfl
    omega
  · have c0 := block_cell h1 0
    have c1 := block_cell h1 1
    simp only [List.getElem?_toArray, List.getElem?_cons_zero, List.getElem?_cons_succ] at c0 c1
    have cv : w.cell? ⟨g, pos t k, none⟩ = some (.int .i64 u) := by rw [block_cell hg]; exact take_at ht hat
    have fv : w.frozen? ⟨g, pos t k, none⟩ = false := block_frozen hg _
    have hb1 : pos t k < (vs t).length := by rw [vs_length]; exact hp
    have hb2 : (vs t).length ≤ 64 := by rw [vs_length]; exact hn
    have fin := fun q => Lib.hid (upd_after (H.out.drewN q) v hl h1)
    clear h1 h2 h3 hl hat hg ht
    generalize pos t k = i at *
    generalize (vs t).length = n at *
    generalize (ks t).length = n' at *
    clear hp h6 h5 hF
    go_enter Try.func29, Try.ntmps29
    go_wp2_with (go_at_call 33; refine S.out.mono ?_; rintro e w' ⟨rfl, q, rfl⟩)
    refine bodyPost_ret (results_none rfl _ _ _) rfl ?_
    exact ⟨rfl, (fin q).out.of_drewN⟩

theorem del_after {w w2 w5 : World} {base b : Nat} {F : List Nat} {t : KV} {size next step : Int} (h : RackAt w base b F t size next step) {k u : Int} (hl : lk t k = some u) {q : Nat} {g g' cap cap' : Nat}
    (h1 : w.heap[b]? = some (.cells #[.slice (some ⟨g, 0, none⟩) (ks t).length cap, .slice (some ⟨g', 0, none⟩) (vs t).length cap', .int .i64 size, .int .i64 next, .int .i64 step] 42 (0, 0)))
    (hI : Ints w2 base (.slice (some ⟨g, 0, none⟩) ((ks t).length - 1) cap) (ks (del t k))) (hM : Moved [g] (w.drewN q) w2)
    (hI' : Ints w5 base (.slice (some ⟨g', 0, none⟩) ((vs t).length - 1) cap') (vs (del t k)))
    (hM' : Moved [g'] (w2.setCell ⟨b, 0, none⟩ (.slice (some ⟨g, 0, none⟩) ((ks t).length - 1) cap)) w5) :
    Now w base b F (del t k) size next step (w5.setCell ⟨b, 1, none⟩ (.slice (some ⟨g', 0, none⟩) ((vs t).length - 1) cap')) := by
  have hlt := h.lt
  obtain ⟨kv0, vv0, e1, e2, e3, e4, e5, e6, e7⟩ := h
  have he := e1.symm.trans h1
  simp only [Option.some.injEq, Obj.cells.injEq, and_true] at he
  simp only [Array.mk.injEq, List.cons.injEq, and_true, true_and] at he
  obtain ⟨rfl, rfl⟩ := he
  have e4' : F = [b, g, g'] := by rw [e4]; rfl
  rw [e4'] at e5
  have hgg : b ≠ g ∧ b ≠ g' ∧ g ≠ g' := by
    simp at e5; exact ⟨fun e => e5.1.1 e, fun e => e5.1.2 e, e5.2⟩
  obtain ⟨gb, gb', gg⟩ := hgg
  have B2 := hM.same (b := b) h1 (by simpa using gb)
  have B3 := block_setCell (i := 0) (v := .slice (some ⟨g, 0, none⟩) ((ks t).length - 1) cap) B2
  have B5 := hM'.same B3 (by simpa using gb')
  have B6 := block_setCell (i := 1) (v := .slice (some ⟨g', 0, none⟩) ((vs t).length - 1) cap') B5
  have hglt : g < w2.heap.size := (hI.lt g rfl).2
  refine ⟨F, ⟨_, _, B6, ?_, ?_, e4, by rw [e4']; exact e5, rise_del e6 k, e7⟩, ?_, fun x hx => .inl hx⟩
  · refine hI.same fun x hx => ?_
    obtain rfl : g = x := by simpa [Value.ownBlock] using hx
    rw [Below.heap_setCell _ _ _ _ (by simpa using gb.symm), hM'.block g (by simpa using hglt) (by simpa using gg), Below.heap_setCell _ _ _ _ (by simpa using gb.symm)]
  · refine hI'.same fun x hx => ?_
    obtain rfl : g' = x := by simpa [Value.ownBlock] using hx
    rw [Below.heap_setCell _ _ _ _ (by simpa using gb'.symm)]
  · rw [e4']
    have m1 : Moved [b, g, g'] w w2 := ((Moved.refl _ w).drewN q).trans hM (fun x hx => .inl (by simp at hx; simp [hx]))
    exact ((m1.setCell (p := ⟨b, 0, none⟩) (.inl (by simp)) _).trans hM' (fun x hx => .inl (by simp at hx; simp [hx]))).setCell (p := ⟨b, 1, none⟩) (.inl (by simp)) _

set_option maxHeartbeats 1000000 in
theorem tdrop {w : World} {base b : Nat} {F : List Nat} {t : KV} {size next step : Int} (h : RackAt w base b F t size next step) (hn : t.length ≤ 64) {k u : Int} (hl : lk t k = some u) :
    Calls Try.prog 30 #[.pointer (some ⟨b, 0, none⟩), .int .i64 k] w fun e w' => e = .returned (.tuple #[]) ∧ Now w base b F (del t k) size next step w' := by
  have H := Lib.hid h
  obtain ⟨kv, vv, h1, h2, h3, hF, h5, h6, h7⟩ := h
  have S := Lib.hid (search_some h2 h6 hn hl)
  have hp := pos_lt h6 hl
  have hpk : pos t k < (ks t).length := by rw [ks_length]; exact hp
  have hpv : pos t k < (vs t).length := by rw [vs_length]; exact hp
  rcases h2.cases with ⟨rfl, he⟩ | ⟨g, cap, cur, rfl, _, hg, _, _, _, ht⟩
  · have : t.length = 0 := by rw [← ks_length, he]; rfl
    omega
  rcases h3.cases with ⟨rfl, he⟩ | ⟨g', cap', cur', rfl, _, hg', _, _, _, ht'⟩
  · have : t.length = 0 := by rw [← vs_length, he]; rfl
    omega
  have c0 := block_cell h1 0
  have c1 := block_cell h1 1
  have f0 := fun i => block_frozen h1 i
  simp only [List.getElem?_toArray, List.getElem?_cons_zero, List.getElem?_cons_succ] at c0 c1
  have e4' : F = [b, g, g'] := by rw [hF]; rfl
  rw [e4'] at h5
  have gb : b ≠ g := by simp at h5; exact fun e => h5.1.1 e
  have gb' : b ≠ g' := by simp at h5; exact fun e => h5.1.2 e
  have gg : g ≠ g' := by simp at h5; exact h5.2
  have I1 := fun q => Lib.hid (delete_own (h2.drewN q) hpk)
  simp only [Int.natCast_add, Int.cast_ofNat_Int, ← keys_del] at I1
  have H1 := Lib.hid h1
  have H3 := Lib.hid h3
  have HL := Lib.hid hl
  clear h1 h2 h3 hl hF h5 e4' ht ht' hg hg'
  go_enter Try.func30, Try.ntmps30
  go_wp2_with (go_at_call 33; refine S.out.mono ?_; rintro e w' ⟨rfl, q, rfl⟩)
  refine (I1 q).out.mono ?_
  rintro e w2 ⟨g1, cap1, e1, rfl, hI, hM⟩
  cases e1
  have B2 := hM.same (b := b) H1.out (by simpa using gb)
  have B3 := block_setCell (i := 0) (v := .slice (some ⟨g, 0, none⟩) ((ks t).length - 1) cap) B2
  have hv2 : Ints (w2.setCell ⟨b, 0, none⟩ (.slice (some ⟨g, 0, none⟩) ((ks t).length - 1) cap)) base (.slice (some ⟨g', 0, none⟩) (vs t).length cap') (vs t) := by
    have m1 : Moved [b, g] w w2 := ((Moved.refl _ w).drewN q).trans hM (fun x hx => .inl (by simp at hx; simp [hx]))
    refine H3.out.moved (m1.setCell (p := ⟨b, 0, none⟩) (.inl (by simp)) _) (fun x hx => ?_)
    obtain rfl : g' = x := by simpa [Value.ownBlock] using hx
    simp [gb'.symm, gg.symm]
  have I2 := Lib.hid (delete_own hv2 hpv)
  simp only [Int.natCast_add, Int.cast_ofNat_Int, ← vals_del] at I2
  have c20 := block_cell B2 0
  have c21 := block_cell B2 1
  have f2 := fun i => block_frozen B2 i
  simp only [List.getElem?_toArray, List.getElem?_cons_zero, List.getElem?_cons_succ] at c20 c21
  have hM1 := Lib.hid hM
  have hI1 := Lib.hid hI
  have HB3 := Lib.hid B3
  clear hM hI hv2 B2 B3
  go_wp2_with fail
  refine I2.out.mono ?_
  rintro e w5 ⟨g2, cap2, e2, rfl, hI', hM'⟩
  cases e2
  have B5 := hM'.same (b := b) HB3.out (by simpa using gb')
  have c51 := block_cell B5 1
  have f5 := fun i => block_frozen B5 i
  simp at c51
  have fin := Lib.hid (del_after H.out HL.out H1.out hI1.out hM1.out hI' hM')
  clear hI' hM' B5 I2
  go_wp2_with fail
  go_end0
  exact ⟨rfl, fin.out⟩

end Go.Proofs.Ytpjipdmlfpgokaa
