/-
  The document's rack: Drop, IDs; lists compared.
-/
import Derived.Test.YtpjipdmlfpgokaaRefD
namespace Go.Proofs.Ytpjipdmlfpgokaa
open Go.RowKit RP

set_option maxHeartbeats 400000 in
theorem ref_drop_none {w : World} {base mb : Nat} {F : List Nat} {rows : KV} {size next step : Int} (h : MAt w base mb F rows size next step) (hn : rows.length ≤ 64) {id : Int} (hl : lk rows id = none) :
    Calls Try.prog 21 #[.pointer (some ⟨mb, 0, none⟩), .int .i64 id] w fun e w' => e = .returned (.int .i64 30) ∧ w = w' := by
  have A := Lib.hid (ref_at_none h hn hl)
  clear h hl
  go_enter Try.func21, Try.ntmps21
  go_wp2_with (go_at_call 31; refine A.out.mono ?_; rintro e w' ⟨rfl, rfl⟩)
  go_ret
  exact ⟨rfl, rfl⟩

/-- What is left when k rows were gone through, all but the i-th. -/
def lft (rows : KV) (i k : Nat) : KV := (rows.take k).eraseIdx i
theorem lft_skip {rows : KV} {i : Nat} {x : Int × Int} (h : rows[i]? = some x) : lft rows i (i + 1) = lft rows i i := by
  have hl := (List.getElem?_eq_some_iff.1 h).1
  have h1 : (rows.take i).length = i := by simp; omega
  unfold lft
  rw [List.take_add_one, h, List.eraseIdx_of_length_le (l := rows.take i) (by omega)]
  simp only [Option.toList_some]
  rw [List.eraseIdx_append_of_length_le (by omega), h1]
  simp
theorem lft_keep {rows : KV} {i k : Nat} {x : Int × Int} (h : rows[k]? = some x) (hne : k ≠ i) : lft rows i (k + 1) = lft rows i k ++ [x] := by
  have hl := (List.getElem?_eq_some_iff.1 h).1
  have h1 : (rows.take k).length = k := by simp; omega
  unfold lft
  rw [List.take_add_one, h]
  simp only [Option.toList_some]
  by_cases hlt : i < k
  · rw [List.eraseIdx_append_of_lt_length (by omega)]
  · rw [List.eraseIdx_append_of_length_le (by omega), h1, List.eraseIdx_of_length_le (l := rows.take k) (by omega), List.eraseIdx_of_length_le (by simp; omega)]
theorem lft_le (rows : KV) (i k : Nat) : (lft rows i k).length ≤ rows.length := by
  unfold lft
  have := List.length_eraseIdx_le (rows.take k) i
  simp at this; omega

theorem mdrop_after {w w2 : World} {base mb : Nat} {F : List Nat} {rows rows' : KV} {size next step : Int} (h : MAt w base mb F rows size next step) {v : Value}
    (hown : Pairs w2 w.heap.size v rows') (hb : Below w.heap.size w w2) : MNow w base mb F rows' size next step (w2.setCell ⟨mb, 3, none⟩ v) := by
  obtain ⟨rv, h1, h2, hF', h5, h7⟩ := h
  have hmb := block_lt h1
  have B2 := (hb.block mb hmb).trans h1
  have B3 := block_setCell (i := 3) (v := v) B2
  have hge : ∀ k, v.ownBlock = some k → w.heap.size ≤ k := fun k hk => (hown.lt k hk).1
  refine ⟨mb :: v.ownBlock.toList, ⟨v, B3, ?_, rfl, ?_, h7⟩, ?_, ?_⟩
  · refine ⟨hown.1, ?_⟩
    rcases hown.2 with hn | ⟨g, cap, cur, rfl, hg, hgg, r⟩
    · exact .inl hn
    · refine .inr ⟨g, cap, cur, rfl, by omega, ?_, r⟩
      rw [Below.heap_setCell _ _ _ _ (by have := hge g rfl; simp; omega)]; exact hgg
  · rw [List.nodup_cons]
    refine ⟨fun hm => ?_, by cases v.ownBlock <;> simp⟩
    simp at hm
    have := hge mb hm
    omega
  · exact ((Moved.of_below hb).mono (by simp)).setCell (p := ⟨mb, 3, none⟩) (.inl (by rw [hF']; simp)) _
  · intro x hx
    simp at hx
    rcases hx with rfl | hx
    · exact .inl (by rw [hF']; simp)
    · exact .inr (hge x hx)

set_option maxHeartbeats 2000000 in
theorem ref_drop_some {w : World} {base mb : Nat} {F : List Nat} {rows : KV} {size next step : Int} (h : MAt w base mb F rows size next step) (hn : rows.length ≤ 64) {id v : Int} (hl : lk rows id = some v) :
    Calls Try.prog 21 #[.pointer (some ⟨mb, 0, none⟩), .int .i64 id] w fun e w' => ∃ i : Nat, rows[i]? = some (id, v) ∧ (∀ x ∈ rows.take i, x.1 ≠ id) ∧ e = .returned (.int .i64 0) ∧ MNow w base mb F (rows.eraseIdx i) size next step w' := by
  have A := Lib.hid (ref_at_some h hn hl)
  obtain ⟨i0, hi, hz0, hz1, hz2⟩ := info_parts info68
  obtain ⟨a, c, c0, c1, c2, c3, hp, fz, hF⟩ := h.cells
  replace hp := Lib.hid hp
  have H := Lib.hid h
  have hmb : mb < w.heap.size := (h.lt mb (by rw [hF]; simp)).2
  clear h hl hF
  go_enter Try.func21, Try.ntmps21
  go_wp2_with fail
  refine A.out.mono ?_
  rintro e w' ⟨i, hix, htk, rfl, rfl⟩
  have hlt := (List.getElem?_eq_some_iff.1 hix).1
  replace hix := Lib.hid hix
  replace htk := Lib.hid htk
  clear A
  go_wp2_with fail
  go_loopw [6, 7] (fun lv iv wr => ∃ (k : Nat) (a' : Option Addr) (c' : Nat), k ≤ rows.length ∧ iv = .int .i64 k ∧ lv = .slice a' (lft rows i k).length c' ∧ Hid (Pairs wr w.heap.size (.slice a' (lft rows i k).length c') (lft rows i k)) ∧ Hid (Below w.heap.size w wr)) (fun _ iv _ => rows.length - (intOf iv).toNat)
  case atStart => exact ⟨0, none, 0, Nat.zero_le _, rfl, by simp [lft], Lib.hid (by simpa [lft, Pairs, flat] using World.ownsRow_nil w w.heap.size 68 2), Below.refl _ _⟩
  case round =>
    obtain ⟨k, a', c', hk, rfl, rfl, hrow, hbl⟩ := hrel
    have d3 : wr.cell? ⟨mb, 3, none⟩ = some (.slice a rows.length c) := (hbl.out.cell (p := ⟨mb, 3, none⟩) hmb).trans c3
    clear c0 c1 c2 fz
    by_cases hkl : k < rows.length
    · obtain ⟨x, hx⟩ : ∃ x, rows[k]? = some x := ⟨_, List.getElem?_eq_getElem hkl⟩
      obtain ⟨g, rfl, e0, e1, _⟩ := hp.out.at hx
      have hgl : g < w.heap.size := World.block_lt_of_cell? _ _ e0
      have d0 : wr.cell? ⟨g, k * 2, none⟩ = some (.int .i64 x.1) := (hbl.out.cell (p := ⟨g, k * 2, none⟩) hgl).trans e0
      have d1 : wr.cell? ⟨g, k * 2 + 1, none⟩ = some (.int .i64 x.2) := (hbl.out.cell (p := ⟨g, k * 2 + 1, none⟩) hgl).trans e1
      clear e0 e1
      have hle := lft_le rows i k
      by_cases hki : k = i
      · subst hki
        have hbq : ((k : Int) != (k : Int)) = false := by simp
        have hsk := Lib.hid (lft_skip hx)
        clear hx
        go_wp2_with fail
        go_roundw
        case rel => exact ⟨k + 1, a', c', by omega, by go_num, by rw [hsk.out], by rw [hsk.out]; exact hrow, hbl⟩
        case measure => simp [intOf]; omega
      · have hbq : ((k : Int) != (i : Int)) = true := by rw [bne_iff_ne]; omega
        have hsk := Lib.hid (lft_keep hx hki)
        clear hx
        have hbs := hbl.out.size
        generalize hL : lft rows i k = L at *
        go_wp2_with (at_builtin; refine wpList_append_own _ rfl _ _ 53 rfl w.heap.size 68 i0 (.agg #[.int .i64 0, .int .i64 0]) 2 16 Try.underlying53 hi hz0 hz1 hz2 rfl (by decide) _ _ _ rfl (World.ownsRow.alloc hrow.out _) ⟨wr.heap.size, 0, none⟩ 1 1 [.int .i64 x.1, .int .i64 x.2] rfl rfl (cell_two_new _ _ _ _) (by simp [Value.oneCell']) (by unfold maxLen; omega) (by omega) (by simp; omega) ?_; intro v' w1 hown hgrow hnil; obtain ⟨g', cap', rfl⟩ := ownsRow_succ hown; have hb1 : Hid (Below w.heap.size w w1) := Lib.hid ((hbl.out.alloc hbs _).grown hgrow (by simp; omega) (fun k hk => (hrow.out.lt k hk).1)); replace hown := Lib.hid hown; clear hgrow hnil)
        go_roundw
        case rel =>
          refine ⟨k + 1, some ⟨g', 0, none⟩, cap', by omega, by go_num, by rw [hsk.out]; simp, Lib.hid ?_, hb1⟩
          rw [hsk.out]
          unfold Pairs
          rw [flat_snoc]
          simpa using hown.out
        case measure => simp [intOf]; omega
    · obtain rfl : k = rows.length := by omega
      have d5 : wr.frozen? ⟨mb, 3, none⟩ = false := by
        rw [hbl.out.frozen (p := ⟨mb, 3, none⟩) hmb]
        obtain ⟨rv, q1, _⟩ := H.out
        exact block_frozen q1 3
      have fin := Lib.hid (mdrop_after H.out hrow.out hbl.out)
      go_wp2_with fail
      go_ret
      refine ⟨i, hix.out, htk.out, rfl, ?_⟩
      have e1 : lft rows i rows.length = rows.eraseIdx i := by unfold lft; rw [List.take_length]
      rw [← e1]; exact fin.out

end Go.Proofs.Ytpjipdmlfpgokaa
