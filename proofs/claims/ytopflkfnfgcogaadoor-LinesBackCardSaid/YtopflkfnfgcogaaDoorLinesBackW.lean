/-
  The walk of LinesBack.
-/
import Derived.Test.YtopflkfnfgcogaaDoorPrn
import Derived.Test.YtopflkfnfgcogaaDoorLinesJoinedW
namespace Go.Proofs.YtopflkfnfgcogaaDoor
open Go.RowKit Go Go.BigFrame Go.ChangeShapes Go.Proofs.YtopflkfnfgcogaaDoorW.PrintWords

theorem one_len {w : World} {base : Nat} {a : Addr} {cs : List Value} (h : w.cells? base a 1 = some cs) : cs.length = 1 := (World.cells?_some h).2.1

/-- Lines that came in. -/
theorem row_opened {H : Type} {enc : TypeId × Value → H} {w : World} {spare : Nat → Bool} {fuel : Nat} {v : Value} {y : DataW H × List MemPlace}
    (h : DataW.trod enc Tryd.prog w 0 spare true fuel 39 [v] = some y) : ∃ a c xs, v = .slice a xs.length c ∧ xs.length ≤ c ∧ Kd.C Kd.string w a xs.length xs := by
  have hc9 : Tryd.prog.cellsOf 9 = 1 := by kernel_rfl
  rcases open_strings Tryd.underlying39 Tryd.underlying9 hc9 h with ⟨hn, _⟩ | ⟨x, l, c, ss, hcs, _, hl, hm, hz, _, hcell, hsz⟩
  · simp at hn
    subst hn
    exact ⟨none, 0, [], rfl, Nat.le_refl _, rfl, by simp, fun h => by simp at h⟩
  · simp only [List.cons.injEq, and_true] at hcs
    subst hcs
    have hls : l ≤ ss.length := by rw [hz]; split <;> omega
    have hlen : (ss.take l).length = l := by rw [List.length_take]; omega
    unfold maxLen at hm
    refine ⟨some x, c, ss.take l, by rw [hlen], by omega, rfl, by omega, fun h0 => ⟨x, rfl, fun j p hj => ⟨[.string p], rfl, rfl, fun i u hu => ?_⟩⟩⟩
    have hi : i = 0 := by
      have := (List.getElem?_eq_some_iff.1 hu).1
      simp at this; exact this
    subst hi
    simp at hu
    subst hu
    have e : j * Kd.string.sz + 0 = j := by show j * 1 + 0 = j; omega
    have hjl : j < l := by have := (List.getElem?_eq_some_iff.1 hj).1; rw [hlen] at this; exact this
    rw [e, hcell j (by omega)]
    rw [List.getElem?_take, if_pos hjl] at hj
    simp [List.getD, hj]

theorem lines_opened {H : Type} {enc : TypeId × Value → H} {w : World} {spare : Nat → Bool} {a : Option Addr} {len cap : Nat} {d : DataW H} {ps : List MemPlace}
    (h : DataW.Trod enc Tryd.prog w 0 spare true 22 (.slice a len cap) d ps) : ∃ xss, LR w a len cap xss ∧ ∀ xs ∈ xss, xs.length ≤ 9223372036854775807 := by
  obtain ⟨fuel, h⟩ := h
  have e0 : (Value.slice a len cap).cells.toList = [.slice a len cap] := rfl
  rw [e0] at h
  have hc39 : Tryd.prog.cellsOf 39 = 1 := by kernel_rfl
  rcases DataW.trod_slice Tryd.underlying22 h with ⟨hn, _⟩ | ⟨x, l, c, elems, rst, n, _, hcs, _, hb, hl, hm, hlen, hel, _, _⟩
  · simp at hn
    obtain ⟨rfl, rfl, rfl⟩ := hn
    exact ⟨[], ⟨rfl, Nat.le_refl _, rfl, by simp, fun h => by simp at h⟩, fun xs h => by simp at h⟩
  · simp only [List.cons.injEq, Value.slice.injEq, and_true] at hcs
    obtain ⟨rfl, rfl, rfl⟩ := hcs
    unfold maxLen at hm
    have each : ∀ i, i < len → ∃ xs : List ByteArray, ∃ a2 c2, w.cell? (x.add i) = some (.slice a2 xs.length c2) ∧ xs.length ≤ c2 ∧ Kd.C Kd.string w a2 xs.length xs := fun i hi => by
      have h1 := hel i hi
      rw [hc39, Nat.mul_one, List.getElem?_eq_getElem (by omega), Option.bind_eq_some_iff] at h1
      obtain ⟨cs', hcs, hy⟩ := h1
      obtain ⟨v, rfl⟩ : ∃ v, cs' = [v] := List.length_eq_one_iff.1 (one_len hcs)
      obtain ⟨a2, c2, xs, rfl, k1, k2⟩ := row_opened hy
      exact ⟨xs, a2, c2, cell_of_cells?_one hcs, k1, k2⟩
    refine ⟨(List.range len).map (fun i => if h : i < len then Classical.choose (each i h) else []), ⟨by simp, hl, by simp, by omega, fun h0 => ⟨x, rfl, fun j p hj => ?_⟩⟩, fun xs hxs => ?_⟩
    · rw [List.getElem?_map, Option.map_eq_some_iff] at hj
      obtain ⟨i, hi, rfl⟩ := hj
      have hjl : j < len := by have := (List.getElem?_eq_some_iff.1 hi).1; simpa using this
      rw [List.getElem?_range hjl] at hi
      obtain rfl : j = i := Option.some.inj hi
      rw [dif_pos hjl]
      obtain ⟨a2, c2, k0, k1, k2⟩ := Classical.choose_spec (each j hjl)
      refine ⟨[.slice a2 _ c2], rfl, ⟨a2, c2, rfl, k1, k2⟩, fun i u hu => ?_⟩
      have hi : i = 0 := by
        have := (List.getElem?_eq_some_iff.1 hu).1
        simp at this; exact this
      subst hi
      simp at hu
      subst hu
      have e : j * (Kd.slice 9 Kd.string).sz + 0 = j := by show j * 1 + 0 = j; omega
      rw [e]
      exact k0
    · obtain ⟨i, hi, rfl⟩ := List.mem_map.1 hxs
      have hil : i < len := by simpa using hi
      rw [dif_pos hil]
      obtain ⟨a2, c2, k0, k1, k2⟩ := Classical.choose_spec (each i hil)
      exact k2.2.1

theorem split_cases (t : List UInt8) : (∃ E, (E = 3 ∨ E = 180) ∧ split t = ([], E)) ∨ (t.all good = true ∧ t.length ≤ 4096 ∧ split t = (splitL t, 0)) := by
  by_cases h : t.length ≤ 4096
  · cases hg : t.all good with
    | true => exact .inr ⟨rfl, h, by rw [split_ok h, if_pos hg]⟩
    | false => exact .inl ⟨180, .inr rfl, by rw [split_ok h, if_neg (by rw [hg]; simp)]⟩
  · refine .inl ⟨3, .inl rfl, ?_⟩
    unfold split
    rw [if_pos (by omega)]

theorem rawL_toB (L : List (List (List UInt8))) : rawL (L.map (·.map toB)) = L := by
  unfold rawL raws
  rw [List.map_map]
  conv => rhs; rw [← List.map_id L]
  apply List.map_congr_left
  intro x _
  show (x.map toB).map _ = x
  rw [List.map_map]
  conv => rhs; rw [← List.map_id x]
  rfl
theorem rawL_back (yss : List (List ByteArray)) : (rawL yss).map (·.map toB) = yss := by
  unfold rawL raws
  rw [List.map_map]
  conv => rhs; rw [← List.map_id yss]
  apply List.map_congr_left
  intro x _
  show (x.map _).map toB = x
  rw [List.map_map]
  conv => rhs; rw [← List.map_id x]
  rfl

theorem print_may {L : List (List (List UInt8))} (h : mayL L = true) : print L = if 4096 < (textOf L).length then ([], 3) else (textOf L, 0) := by
  unfold print
  rw [if_pos h]
theorem print_not {L : List (List (List UInt8))} (h : mayL L = false) : print L = ([], 2) := by
  unfold print
  rw [if_neg (by rw [h]; simp)]

theorem tab_drewN {w : World} (h : Tab w) (q : Nat) : Tab (w.drewN q) := h

theorem weight_lines {L : List (List (List UInt8))} (h : mayL L = true) : (L.map (fun l => wt l + 1)).sum ≤ 2 * (textOf L).length := by
  induction L with
  | nil => exact Nat.le_refl _
  | cons l r ih =>
    unfold mayL at h
    rw [List.all_cons, Bool.and_eq_true] at h
    have h1 := (lineOk_iff.1 h.1).1
    have h2 := wt_join h1
    have e : textOf (l :: r) = lineText l ++ textOf r := rfl
    have := ih h.2
    rw [e, List.map_cons, List.sum_cons, List.length_append]
    unfold lineText
    rw [List.length_append, List.length_singleton]
    omega
theorem weightL_raw (yss : List (List ByteArray)) : weightL yss = ((rawL yss).map (fun l => wt l + 1)).sum := by
  unfold weightL rawL
  rw [List.map_map]
  congr 1
  apply List.map_congr_left
  intro x _
  show weight x + 1 = wt (raws x) + 1
  rw [wt_raws]
theorem weightL_text {L : List (List (List UInt8))} (h : mayL L = true) : weightL (L.map (·.map toB)) ≤ 2 * (textOf L).length := by
  rw [weightL_raw, rawL_toB]
  exact weight_lines h

set_option maxRecDepth 100000 in
set_option maxHeartbeats 4000000 in
theorem back_core (a : Option Addr) (n c : Nat) (xss : List (List ByteArray)) (s : ByteArray) (hs : s.size ≤ 9223372036854775807) (w : World) (hT : Tab w) (h : LR w a n c xss) (hx : ∀ xs ∈ xss, xs.length ≤ 9223372036854775807) :
    Calls Tryd.prog 5 #[.slice a n c, .string s] w (TruePost w) := by
  replace hT := Lib.hid hT
  replace h := Lib.hid h
  replace hx := Lib.hid hx
  go_enter Tryd.func5, Tryd.ntmps5
  go_wp2_with fail
  refine (awake_any w hT.out).mono ?_
  rintro e w1 ⟨rfl, hB⟩
  have HB := Lib.hid hB
  have HT := Lib.hid (hT.out.below (zero_lt hT.out) hB)
  replace h := Lib.hid (h.out.below hB)
  clear hB hT
  go_wp2_with fail
  obtain ⟨r, hr, hgreat⟩ := great_any h.out hx.out
  refine hgreat.mono ?_
  rintro e w2 ⟨rfl, q, rfl⟩
  clear hgreat
  replace HB := Lib.hid (below_drewN HB.out q)
  replace HT := Lib.hid (tab_drewN HT.out q)
  replace h := Lib.hid (h.out.drewN q)
  cases r with
  | true =>
    clear hr
    go_wp2_with fail
    go_ret
    exact ⟨rfl, HB.out⟩
  | false =>
    obtain ⟨hl200, hw9⟩ := hr rfl
    clear hr hx
    by_cases hbig : 6000 < s.size
    · go_wp2_with fail
      go_ret
      exact ⟨rfl, HB.out⟩
    · have hwx : weightL xss ≤ 100000 := by omega
      obtain ⟨hxl, hxw⟩ := lines_of_weight hwx
      have hxl2 : xss.length ≤ 9223372036854775806 := by omega
      replace hxw := Lib.hid hxw
      go_wp2_with fail
      refine (print_any h.out hwx (zero_lt HT.out)).mono ?_
      rintro e w3 ⟨rfl, hB⟩
      replace h := Lib.hid (h.out.below hB)
      replace HT := Lib.hid (HT.out.below (zero_lt HT.out) hB)
      replace HB := Lib.hid (HB.out.trans (hB.mono HB.out.size))
      clear hB
      cases hmx : mayL (rawL xss) with
      | false =>
        rw [print_not hmx]
        dsimp only
        have hbe : toB [] = (⟨#[]⟩ : ByteArray) := rfl
        rw [hbe]
        replace hmx := Lib.hid hmx
        go_wp2_with fail
        refine (may_any h.out (M := 100000) (by omega) hxl hxw.out).mono ?_
        rintro e w4 ⟨rfl, q4, rfl⟩
        rw [hmx.out]
        replace HB := Lib.hid (below_drewN HB.out q4)
        replace HT := Lib.hid (tab_drewN HT.out q4)
        clear h
        go_wp2_with fail
        refine (split_any s _ HT.out (zero_lt HT.out)).mono ?_
        rintro e w5 ⟨v5, rfl, h5, hB⟩
        replace HT := Lib.hid (HT.out.below (zero_lt HT.out) hB)
        replace HB := Lib.hid (HB.out.trans (hB.mono HB.out.size))
        replace h5 := Lib.hid h5.zero
        clear hB
        rcases split_cases s.data.toList with ⟨E, hE, hsp⟩ | ⟨hgood, hlen, hsp⟩
        · rw [hsp] at h5 ⊢
          obtain ⟨a5, c5, rfl, r5⟩ := h5.out.read
          clear h5 hsp r5 HT
          rcases hE with rfl | rfl
          · go_wp2_with fail
            go_ret
            exact ⟨rfl, HB.out⟩
          · go_wp2_with fail
            go_ret
            exact ⟨rfl, HB.out⟩
        · rw [hsp] at h5 ⊢
          obtain ⟨a5, c5, rfl, r5⟩ := h5.out.read
          have hraw := rawL_toB (splitL s.data.toList)
          have hmay := may_split hgood
          have hlt := len_text s.data.toList
          have hback := split_text hmay
          have hgt := good_text hmay
          have hwy := weightL_text hmay
          have hyss : (splitL s.data.toList).map (·.map toB) = (splitL s.data.toList).map (·.map toB) := rfl
          clear h5 hsp hgood
          rw [data_len] at hlen hlt
          dsimp only at r5 ⊢
          generalize splitL s.data.toList = L at *
          generalize hy : L.map (·.map toB) = yss at *
          clear hyss
          rw [← hraw] at hmay hlt hback hgt hwy
          have hwy2 : weightL yss ≤ 100000 := by omega
          obtain ⟨hyl, hyw⟩ := lines_of_weight hwy2
          have hyl2 : yss.length ≤ 9223372036854775806 := by omega
          replace r5 := Lib.hid r5
          replace hyw := Lib.hid hyw
          replace hmay := Lib.hid hmay
          replace hback := Lib.hid hback
          replace hgt := Lib.hid hgt
          replace hraw := Lib.hid hraw
          replace hy := Lib.hid hy
          have hpy := Lib.hid (print_may hmay.out)
          clear hwy
          replace hlt := Lib.hid hlt
          go_wp2_with fail
          refine (print_any r5.out hwy2 (zero_lt HT.out)).mono ?_
          rintro e w6 ⟨rfl, hB⟩
          replace r5 := Lib.hid (r5.out.below hB)
          replace HT := Lib.hid (HT.out.below (zero_lt HT.out) hB)
          replace HB := Lib.hid (HB.out.trans (hB.mono HB.out.size))
          clear hB
          by_cases hbig : 4096 < (textOf (rawL yss)).length
          · have hp3 := hpy.out
            rw [if_pos hbig] at hp3
            rw [hp3]
            have hge : 4096 ≤ s.size := by have := hlt.out; omega
            clear hp3 hbig
            go_wp2_with fail
            refine (may_any r5.out (M := 100000) (by omega) hyl hyw.out).mono ?_
            rintro e w7 ⟨rfl, q7, rfl⟩
            rw [hmay.out]
            replace HB := Lib.hid (below_drewN HB.out q7)
            go_wp2_with fail
            go_ret
            exact ⟨rfl, HB.out⟩
          · have hp3 := hpy.out
            rw [if_neg hbig] at hp3
            rw [hp3]
            dsimp only
            have hT4 : (textOf (rawL yss)).length ≤ 4096 := by omega
            have hsz : (toB (textOf (rawL yss))).size = (textOf (rawL yss)).length := rfl
            have hlt2 : (toB (textOf (rawL yss))).size ≤ s.size + 1 := by rw [hsz]; exact hlt.out
            have hspT : split (toB (textOf (rawL yss))).data.toList = (rawL yss, 0) := by
              rw [toB_list, split_ok hT4, if_pos hgt.out, hback.out]
            clear hp3 hbig hsz
            replace hspT := Lib.hid hspT
            generalize toB (textOf (rawL yss)) = T at *
            go_wp2_with fail
            refine (may_any r5.out (M := 100000) (by omega) hyl hyw.out).mono ?_
            rintro e w7 ⟨rfl, q7, rfl⟩
            rw [hmay.out]
            replace HB := Lib.hid (below_drewN HB.out q7)
            replace r5 := Lib.hid (r5.out.drewN q7)
            replace HT := Lib.hid (tab_drewN HT.out q7)
            go_wp2_with fail
            refine (split_any T _ HT.out (zero_lt HT.out)).mono ?_
            rintro e w8 ⟨v8, rfl, h8, hB⟩
            replace r5 := Lib.hid (r5.out.below hB)
            replace HB := Lib.hid (HB.out.trans (hB.mono HB.out.size))
            replace h8 := h8.zero
            clear hB HT
            rw [hspT.out] at h8 ⊢
            dsimp only at h8 ⊢
            rw [rawL_back] at h8
            obtain ⟨a8, c8, rfl, r8⟩ := h8.read
            replace r8 := Lib.hid r8
            clear h8
            go_wp2_with fail
            refine (same_any r5.out r8.out hyl2 (fun xs hxs => by have := (hyw.out xs hxs).1; omega)).mono ?_
            rintro e w9 ⟨rfl, q9, rfl⟩
            replace HB := Lib.hid (below_drewN HB.out q9)
            go_wp2_with fail
            go_ret
            exact ⟨by simp; omega, HB.out⟩
      | true =>
        have hpx := print_may hmx
        by_cases hbx : 4096 < (textOf (rawL xss)).length
        · rw [if_pos hbx] at hpx
          rw [hpx]
          dsimp only
          have hbe : toB [] = (⟨#[]⟩ : ByteArray) := rfl
          rw [hbe]
          clear hpx hmx hbx h
          go_wp2_with fail
          refine (split_any s w3 HT.out (zero_lt HT.out)).mono ?_
          rintro e w5 ⟨v5, rfl, h5, hB⟩
          replace HT := Lib.hid (HT.out.below (zero_lt HT.out) hB)
          replace HB := Lib.hid (HB.out.trans (hB.mono HB.out.size))
          replace h5 := Lib.hid h5.zero
          clear hB
          rcases split_cases s.data.toList with ⟨E, hE, hsp⟩ | ⟨hgood, hlen, hsp⟩
          · rw [hsp] at h5 ⊢
            obtain ⟨a5, c5, rfl, r5⟩ := h5.out.read
            clear h5 hsp r5 HT
            rcases hE with rfl | rfl
            · go_wp2_with fail
              go_ret
              exact ⟨rfl, HB.out⟩
            · go_wp2_with fail
              go_ret
              exact ⟨rfl, HB.out⟩
          · rw [hsp] at h5 ⊢
            obtain ⟨a5, c5, rfl, r5⟩ := h5.out.read
            have hraw := rawL_toB (splitL s.data.toList)
            have hmay := may_split hgood
            have hlt := len_text s.data.toList
            have hback := split_text hmay
            have hgt := good_text hmay
            have hwy := weightL_text hmay
            have hyss : (splitL s.data.toList).map (·.map toB) = (splitL s.data.toList).map (·.map toB) := rfl
            clear h5 hsp hgood
            rw [data_len] at hlen hlt
            dsimp only at r5 ⊢
            generalize splitL s.data.toList = L at *
            generalize hy : L.map (·.map toB) = yss at *
            clear hyss
            rw [← hraw] at hmay hlt hback hgt hwy
            have hwy2 : weightL yss ≤ 100000 := by omega
            obtain ⟨hyl, hyw⟩ := lines_of_weight hwy2
            have hyl2 : yss.length ≤ 9223372036854775806 := by omega
            replace r5 := Lib.hid r5
            replace hyw := Lib.hid hyw
            replace hmay := Lib.hid hmay
            replace hback := Lib.hid hback
            replace hgt := Lib.hid hgt
            replace hraw := Lib.hid hraw
            replace hy := Lib.hid hy
            have hpy := Lib.hid (print_may hmay.out)
            clear hwy
            replace hlt := Lib.hid hlt
            go_wp2_with fail
            refine (print_any r5.out hwy2 (zero_lt HT.out)).mono ?_
            rintro e w6 ⟨rfl, hB⟩
            replace r5 := Lib.hid (r5.out.below hB)
            replace HT := Lib.hid (HT.out.below (zero_lt HT.out) hB)
            replace HB := Lib.hid (HB.out.trans (hB.mono HB.out.size))
            clear hB
            by_cases hbig : 4096 < (textOf (rawL yss)).length
            · have hp3 := hpy.out
              rw [if_pos hbig] at hp3
              rw [hp3]
              have hge : 4096 ≤ s.size := by have := hlt.out; omega
              clear hp3 hbig
              go_wp2_with fail
              refine (may_any r5.out (M := 100000) (by omega) hyl hyw.out).mono ?_
              rintro e w7 ⟨rfl, q7, rfl⟩
              rw [hmay.out]
              replace HB := Lib.hid (below_drewN HB.out q7)
              go_wp2_with fail
              go_ret
              exact ⟨rfl, HB.out⟩
            · have hp3 := hpy.out
              rw [if_neg hbig] at hp3
              rw [hp3]
              dsimp only
              have hT4 : (textOf (rawL yss)).length ≤ 4096 := by omega
              have hsz : (toB (textOf (rawL yss))).size = (textOf (rawL yss)).length := rfl
              have hlt2 : (toB (textOf (rawL yss))).size ≤ s.size + 1 := by rw [hsz]; exact hlt.out
              have hspT : split (toB (textOf (rawL yss))).data.toList = (rawL yss, 0) := by
                rw [toB_list, split_ok hT4, if_pos hgt.out, hback.out]
              clear hp3 hbig hsz
              replace hspT := Lib.hid hspT
              generalize toB (textOf (rawL yss)) = T at *
              go_wp2_with fail
              refine (may_any r5.out (M := 100000) (by omega) hyl hyw.out).mono ?_
              rintro e w7 ⟨rfl, q7, rfl⟩
              rw [hmay.out]
              replace HB := Lib.hid (below_drewN HB.out q7)
              replace r5 := Lib.hid (r5.out.drewN q7)
              replace HT := Lib.hid (tab_drewN HT.out q7)
              go_wp2_with fail
              refine (split_any T _ HT.out (zero_lt HT.out)).mono ?_
              rintro e w8 ⟨v8, rfl, h8, hB⟩
              replace r5 := Lib.hid (r5.out.below hB)
              replace HB := Lib.hid (HB.out.trans (hB.mono HB.out.size))
              replace h8 := h8.zero
              clear hB HT
              rw [hspT.out] at h8 ⊢
              dsimp only at h8 ⊢
              rw [rawL_back] at h8
              obtain ⟨a8, c8, rfl, r8⟩ := h8.read
              replace r8 := Lib.hid r8
              clear h8
              go_wp2_with fail
              refine (same_any r5.out r8.out hyl2 (fun xs hxs => by have := (hyw.out xs hxs).1; omega)).mono ?_
              rintro e w9 ⟨rfl, q9, rfl⟩
              replace HB := Lib.hid (below_drewN HB.out q9)
              go_wp2_with fail
              go_ret
              exact ⟨by simp; omega, HB.out⟩
        · rw [if_neg hbx] at hpx
          rw [hpx]
          dsimp only
          have hX4 : (textOf (rawL xss)).length ≤ 4096 := by omega
          have hsx : (toB (textOf (rawL xss))).size ≤ 4096 := hX4
          have hspX : split (toB (textOf (rawL xss))).data.toList = (rawL xss, 0) := by
            rw [toB_list, split_ok hX4, if_pos (good_text hmx), split_text hmx]
          clear hpx hmx hbx hX4
          replace hspX := Lib.hid hspX
          generalize toB (textOf (rawL xss)) = X at *
          go_wp2_with fail
          refine (split_any X _ HT.out (zero_lt HT.out)).mono ?_
          rintro e w4 ⟨v4, rfl, h4, hB⟩
          replace h := Lib.hid (h.out.below hB)
          replace HT := Lib.hid (HT.out.below (zero_lt HT.out) hB)
          replace HB := Lib.hid (HB.out.trans (hB.mono HB.out.size))
          replace h4 := h4.zero
          clear hB
          rw [hspX.out] at h4 ⊢
          dsimp only at h4 ⊢
          rw [rawL_back] at h4
          obtain ⟨a4, c4, rfl, r4⟩ := h4.read
          replace r4 := Lib.hid r4
          clear h4
          go_wp2_with fail
          refine (same_any h.out r4.out hxl2 (fun xs hxs => by have := (hxw.out xs hxs).1; omega)).mono ?_
          rintro e w4' ⟨rfl, q4, rfl⟩
          replace HB := Lib.hid (below_drewN HB.out q4)
          replace HT := Lib.hid (tab_drewN HT.out q4)
          clear h r4 hspX
          go_wp2_with fail
          refine (split_any s _ HT.out (zero_lt HT.out)).mono ?_
          rintro e w5 ⟨v5, rfl, h5, hB⟩
          replace HT := Lib.hid (HT.out.below (zero_lt HT.out) hB)
          replace HB := Lib.hid (HB.out.trans (hB.mono HB.out.size))
          replace h5 := Lib.hid h5.zero
          clear hB
          rcases split_cases s.data.toList with ⟨E, hE, hsp⟩ | ⟨hgood, hlen, hsp⟩
          · rw [hsp] at h5 ⊢
            obtain ⟨a5, c5, rfl, r5⟩ := h5.out.read
            clear h5 hsp r5 HT
            rcases hE with rfl | rfl
            · go_wp2_with fail
              go_ret
              exact ⟨rfl, HB.out⟩
            · go_wp2_with fail
              go_ret
              exact ⟨rfl, HB.out⟩
          · rw [hsp] at h5 ⊢
            obtain ⟨a5, c5, rfl, r5⟩ := h5.out.read
            have hraw := rawL_toB (splitL s.data.toList)
            have hmay := may_split hgood
            have hlt := len_text s.data.toList
            have hback := split_text hmay
            have hgt := good_text hmay
            have hwy := weightL_text hmay
            have hyss : (splitL s.data.toList).map (·.map toB) = (splitL s.data.toList).map (·.map toB) := rfl
            clear h5 hsp hgood
            rw [data_len] at hlen hlt
            dsimp only at r5 ⊢
            generalize splitL s.data.toList = L at *
            generalize hy : L.map (·.map toB) = yss at *
            clear hyss
            rw [← hraw] at hmay hlt hback hgt hwy
            have hwy2 : weightL yss ≤ 100000 := by omega
            obtain ⟨hyl, hyw⟩ := lines_of_weight hwy2
            have hyl2 : yss.length ≤ 9223372036854775806 := by omega
            replace r5 := Lib.hid r5
            replace hyw := Lib.hid hyw
            replace hmay := Lib.hid hmay
            replace hback := Lib.hid hback
            replace hgt := Lib.hid hgt
            replace hraw := Lib.hid hraw
            replace hy := Lib.hid hy
            have hpy := Lib.hid (print_may hmay.out)
            clear hwy
            replace hlt := Lib.hid hlt
            go_wp2_with fail
            refine (print_any r5.out hwy2 (zero_lt HT.out)).mono ?_
            rintro e w6 ⟨rfl, hB⟩
            replace r5 := Lib.hid (r5.out.below hB)
            replace HT := Lib.hid (HT.out.below (zero_lt HT.out) hB)
            replace HB := Lib.hid (HB.out.trans (hB.mono HB.out.size))
            clear hB
            by_cases hbig : 4096 < (textOf (rawL yss)).length
            · have hp3 := hpy.out
              rw [if_pos hbig] at hp3
              rw [hp3]
              have hge : 4096 ≤ s.size := by have := hlt.out; omega
              clear hp3 hbig
              go_wp2_with fail
              refine (may_any r5.out (M := 100000) (by omega) hyl hyw.out).mono ?_
              rintro e w7 ⟨rfl, q7, rfl⟩
              rw [hmay.out]
              replace HB := Lib.hid (below_drewN HB.out q7)
              go_wp2_with fail
              go_ret
              exact ⟨rfl, HB.out⟩
            · have hp3 := hpy.out
              rw [if_neg hbig] at hp3
              rw [hp3]
              dsimp only
              have hT4 : (textOf (rawL yss)).length ≤ 4096 := by omega
              have hsz : (toB (textOf (rawL yss))).size = (textOf (rawL yss)).length := rfl
              have hlt2 : (toB (textOf (rawL yss))).size ≤ s.size + 1 := by rw [hsz]; exact hlt.out
              have hspT : split (toB (textOf (rawL yss))).data.toList = (rawL yss, 0) := by
                rw [toB_list, split_ok hT4, if_pos hgt.out, hback.out]
              clear hp3 hbig hsz
              replace hspT := Lib.hid hspT
              generalize toB (textOf (rawL yss)) = T at *
              go_wp2_with fail
              refine (may_any r5.out (M := 100000) (by omega) hyl hyw.out).mono ?_
              rintro e w7 ⟨rfl, q7, rfl⟩
              rw [hmay.out]
              replace HB := Lib.hid (below_drewN HB.out q7)
              replace r5 := Lib.hid (r5.out.drewN q7)
              replace HT := Lib.hid (tab_drewN HT.out q7)
              go_wp2_with fail
              refine (split_any T _ HT.out (zero_lt HT.out)).mono ?_
              rintro e w8 ⟨v8, rfl, h8, hB⟩
              replace r5 := Lib.hid (r5.out.below hB)
              replace HB := Lib.hid (HB.out.trans (hB.mono HB.out.size))
              replace h8 := h8.zero
              clear hB HT
              rw [hspT.out] at h8 ⊢
              dsimp only at h8 ⊢
              rw [rawL_back] at h8
              obtain ⟨a8, c8, rfl, r8⟩ := h8.read
              replace r8 := Lib.hid r8
              clear h8
              go_wp2_with fail
              refine (same_any r5.out r8.out hyl2 (fun xs hxs => by have := (hyw.out xs hxs).1; omega)).mono ?_
              rintro e w9 ⟨rfl, q9, rfl⟩
              replace HB := Lib.hid (below_drewN HB.out q9)
              go_wp2_with fail
              go_ret
              exact ⟨by simp; omega, HB.out⟩

theorem linesBack.walk (a : Option Addr) (n c : Nat) (a1 : ByteArray) (w : World) {H : Type} {enc : TypeId × Value → H} {spare : Nat → Bool} {d : DataW H} {ps : List MemPlace} (k0 : DataW.Trod enc Tryd.prog w 0 spare true 22 (.slice a n c) d ps) (h1 : a1.size ≤ maxLen) (hL : laidMetH Tryd.prog Rows.linesBackRow.laid w) :
    Calls Tryd.prog 5 #[.slice a n c, .string a1] w (TruePost w) := by
  unfold maxLen at h1
  obtain ⟨xss, h, hx⟩ := lines_opened k0
  exact back_core a n c xss a1 (by omega) w (tab_of hL) h hx
end Go.Proofs.YtopflkfnfgcogaaDoor
