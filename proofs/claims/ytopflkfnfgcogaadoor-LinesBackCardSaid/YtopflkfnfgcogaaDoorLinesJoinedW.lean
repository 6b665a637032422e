/-
  The walk of LinesJoined.
-/
import Derived.Test.YtopflkfnfgcogaaDoorAwake
namespace Go.Proofs.YtopflkfnfgcogaaDoor
open Go.RowKit Go Go.Proofs.YtopflkfnfgcogaaDoorW.PrintWords

theorem split_ok {t : List UInt8} (h : t.length ≤ 4096) : split t = if t.all good = true then (splitL t, 0) else ([], 180) := by
  unfold split
  rw [if_neg (by omega)]

theorem texts_small {t : List UInt8} (hg : t.all good = true) (h : t.length ≤ 4096) : ((splitL t).map (·.map toB)).length ≤ 4097 ∧ ∀ xs ∈ (splitL t).map (·.map toB), xs.length ≤ 4097 := by
  obtain ⟨h1, h2⟩ := split_small t
  rw [split_ok h, if_pos hg] at h1 h2
  dsimp only at h1 h2
  exact ⟨by omega, fun xs hx => by have := h2 xs hx; omega⟩

def lined (a : ByteArray) : Prop := a.data.toList = [] ∨ ∃ x, a.data.toList = x ++ [10]

theorem lined_empty {a : ByteArray} (h : a.size = 0) : lined a := .inl (List.eq_nil_of_length_eq_zero (by rw [data_len]; exact h))
theorem lined_end {a : ByteArray} (h : 0 < a.size) (hl : (a[a.size - 1]'(by omega)).toNat = 10) : lined a := by
  refine .inr ⟨a.data.toList.take (a.size - 1), ?_⟩
  have h1 := take_snoc' a.data.toList (data_at a (k := a.size - 1) (by omega))
  rw [show a.size - 1 + 1 = a.size by omega, List.take_of_length_le (by rw [data_len]; exact Nat.le_refl _)] at h1
  rw [h1]
  congr 2
  have : a[a.size - 1]'(by omega) = UInt8.ofNat (a[a.size - 1]'(by omega)).toNat := by simp
  rw [this, hl]; rfl
theorem lined_add (a : ByteArray) : lined (a ++ ⟨#[10]⟩) := .inr ⟨a.data.toList, by rw [ByteArray.data_append, Array.toList_append]⟩

theorem info39R : (Tryd.prog.info? 39).map (fun i => (i.zero, i.size, i.bytes)) = some (some (.slice none 0 0), rawKd.sz, 24) := by kernel_rfl

theorem LL.zero {A : World} {base : Nat} {v : Value} {xss : List (List ByteArray)} (h : LL A base v xss) : LL A 0 v xss := h.lower (Nat.zero_le _)

theorem good_join {x y : List UInt8} : (x ++ y).all good = (x.all good && y.all good) := List.all_append

set_option maxRecDepth 100000 in
set_option maxHeartbeats 4000000 in
theorem joined_core (a b : ByteArray) (ha : a.size ≤ 2000) (hb : b.size ≤ 2000) (w : World) (hT : Tab w) : Calls Tryd.prog 4 #[.string a, .string b] w (TruePost w) := by
  have hz := zero_lt hT
  have hone : (⟨#[10]⟩ : ByteArray).size = 1 := rfl
  replace hone := Lib.hid hone
  replace hT := Lib.hid hT
  go_enter Tryd.func4, Tryd.ntmps4
  go_wp2_with fail
  refine (awake_any w hT.out).mono ?_
  rintro e w1 ⟨rfl, hB⟩
  have HB := Lib.hid hB
  have HT := Lib.hid (hT.out.below hz hB)
  clear hB hT
  by_cases h0 : 0 < a.size
  · have hi1 : (0 : Int) ≤ (a.size : Int) - 1 := by omega
    have hi2 : (1 : Int) ≤ (a.size : Int) := by omega
    have hi3 : ((a.size : Int) - 1).toNat = a.size - 1 := by omega
    have hw1 : IntKind.i64.wrap ((a.size : Int) - 1) = (a.size : Int) - 1 := IntWalk.i64_in _ (by omega)
    have hlt : a.size - 1 < a.size := by omega
    by_cases h10 : (a[a.size - 1]'hlt).toNat = 10
    · have hl2 : lined a := lined_end h0 h10
      have hx10 : (((a[a.size - 1]'hlt).toNat : Int) != 10) = false := by rw [h10]; rfl
      have hsum : a.size + b.size ≤ 9223372036854775807 := by omega
      replace hl2 := Lib.hid hl2
      clear h10
      go_wp2_with fail
      replace hl2 := hl2.out
      refine (split_any (a) w1 HT.out (zero_lt HT.out)).mono ?_
      rintro e w2 ⟨v2, rfl, h2, hB⟩
      replace HT := Lib.hid (HT.out.below (zero_lt HT.out) hB)
      replace HB := Lib.hid (HB.out.trans (hB.mono HB.out.size))
      replace h2 := Lib.hid h2.zero
      clear hB
      go_wp2_with fail
      refine (split_any b w2 HT.out (zero_lt HT.out)).mono ?_
      rintro e w3 ⟨v3, rfl, h3, hB⟩
      replace HT := Lib.hid (HT.out.below (zero_lt HT.out) hB)
      replace HB := Lib.hid (HB.out.trans (hB.mono HB.out.size))
      replace h2 := Lib.hid (h2.out.below hB)
      replace h3 := Lib.hid h3.zero
      clear hB
      go_wp2_with fail
      refine (split_any ((a) ++ b) w3 HT.out (zero_lt HT.out)).mono ?_
      rintro e w4 ⟨v4, rfl, h4, hB⟩
      replace HB := Lib.hid (HB.out.trans (hB.mono HB.out.size))
      replace h2 := Lib.hid (h2.out.below hB)
      replace h3 := Lib.hid (h3.out.below hB)
      replace h4 := Lib.hid h4.zero
      clear hB HT
      have hcat : ((a) ++ b).data.toList = (a).data.toList ++ b.data.toList := by rw [ByteArray.data_append, Array.toList_append]
      have hlA : (a).data.toList.length ≤ 2001 := by rw [data_len]; omega
      have hlb : b.data.toList.length ≤ 2000 := by rw [data_len]; exact hb
      have hsA := split_ok (t := (a).data.toList) (by omega)
      have hsb := split_ok (t := b.data.toList) (by omega)
      have hsc := split_ok (t := ((a) ++ b).data.toList) (by rw [hcat, List.length_append]; omega)
      rw [hcat, good_join] at hsc
      cases hgA : (a).data.toList.all good with
      | false =>
        rw [hgA, if_neg (by simp)] at hsA
        rw [hgA, Bool.false_and, if_neg (by simp), ← hcat] at hsc
        rw [hsA, hsc]
        clear h2 h3 h4 hsb hgA hcat hsA hsc hlA hlb
        go_wp2_with fail
        go_ret
        exact ⟨rfl, HB.out⟩
      | true =>
        cases hgb : b.data.toList.all good with
        | false =>
          rw [hgA, if_pos rfl] at hsA
          rw [hgb, if_neg (by simp)] at hsb
          rw [hgA, hgb, Bool.true_and, if_neg (by simp), ← hcat] at hsc
          rw [hsA, hsb, hsc]
          clear h2 h3 h4 hgA hgb hcat hsA hsb hsc hlA hlb
          go_wp2_with fail
          go_ret
          exact ⟨rfl, HB.out⟩
        | true =>
          have hsm := texts_small hgA (by omega)
          have hsn := texts_small hgb (by omega)
          rw [hgA, if_pos rfl] at hsA
          rw [hgb, if_pos rfl] at hsb
          rw [hgA, hgb, Bool.true_and, if_pos rfl, splitL_join _ _ hl2, ← hcat] at hsc
          rw [hsA] at h2 ⊢
          rw [hsb] at h3 ⊢
          rw [hsc, List.map_append] at h4
          rw [hsc]
          clear hgA hgb hcat hsA hsb hsc hlA hlb
          dsimp only at h2 h3 h4
          generalize (splitL (a).data.toList).map (·.map toB) = xss at *
          generalize (splitL b.data.toList).map (·.map toB) = yss at *
          obtain ⟨ps, hp, p1, p2⟩ := h2.out.raw
          obtain ⟨qs, hq, q1, q2⟩ := h3.out.raw
          obtain ⟨a2, c2, rfl⟩ := own_shape p1
          obtain ⟨a3, c3, rfl⟩ := own_shape q1
          obtain ⟨a4, c4, rfl, r4⟩ := h4.out.read
          rw [List.length_append] at r4 ⊢
          have R2 := Aside0.mk (raw_reads p1)
          have R3 := Aside0.mk (raw_reads q1)
          have P2 := Lib.hid p2
          have Q2 := Lib.hid q2
          have hsm1 := hsm.1
          have hsn1 := hsn.1
          replace hsm := Lib.hid hsm.2
          replace hsn := Lib.hid hsn.2
          replace r4 := Lib.hid r4
          have hpl := Lib.hid hp
          have hql := Lib.hid hq
          clear p1 p2 q1 q2 h2 h3 h4 hp hq
          go_wp2_with (first | ((with_reducible refine gate_builtin (b := .append) (xs := #[.tmp 60, .tmp 61]) rfl ?_); at_builtin; refine Kd.R_append_rows rawKd (w0 := w4) w4.heap.size rfl (.tmp 60) (.tmp 61) 22 39 (.slice none 0 0) 24 rfl Tryd.underlying22 info39R rfl (by decide) (by omega) (.slice none 0 0) ([] : List (Option Addr × Nat × Nat)) ps _ _ _ (fun _ => True) (fun _ => False) rfl rfl (Kd.R_nil _ _ _ _ _) R2.out (fun _ _ h => h) (fun _ h => h.elim) (fun _ _ => trivial) (Below.refl _ _) (Nat.le_refl _) (by simp; omega) ?_; intro v5 w5 ho5 hb5 hg5 hat5; rw [List.nil_append] at ho5; have O5 := Aside0.mk ho5; have B5 := Aside0.mk hb5; have R3' := Aside0.mk (R3.out.imp_ hb5 (fun _ _ h => h)); clear ho5 hb5 hg5 hat5) | ((with_reducible refine gate_builtin (b := .append) (xs := #[.tmp 63, .tmp 64]) rfl ?_); at_builtin; refine Kd.R_append_rows rawKd (w0 := w4) w4.heap.size rfl (.tmp 63) (.tmp 64) 22 39 (.slice none 0 0) 24 rfl Tryd.underlying22 info39R rfl (by decide) (by omega) v5 ps qs _ _ _ (fun _ => True) (fun _ => False) rfl rfl O5.out R3'.out (fun _ _ h => h) (fun _ h => h.elim) (fun _ _ => trivial) B5.out B5.out.size (by rw [hpl.out]; omega) ?_; intro v6 w6 ho6 hb6 hg6 hat6; have O6 := Aside0.mk ho6; have B6 := Aside0.mk hb6; obtain ⟨a6, c6, rfl⟩ := Kd.R_slice ho6; rw [List.length_append, hpl.out, hql.out]; clear ho6 hb6 hg6 hat6))
          have L6 : LL w6 0 (.slice a6 (ps ++ qs).length c6) (xss ++ yss) := LL.join hpl.out hql.out (Kd.R_lower O6.out (Nat.zero_le _)) (fun i xs c h1 h2 => own_below (P2.out i xs c h1 h2) B6.out) (fun i xs c h1 h2 => own_below (Q2.out i xs c h1 h2) B6.out)
          have hpq : (ps ++ qs).length = xss.length + yss.length := by rw [List.length_append, hpl.out, hql.out]
          rw [hpq] at L6
          have r6 := LR.of_LL L6
          have r4' := r4.out.below B6.out
          refine (same_any r4' r6 (by rw [List.length_append]; omega) (fun xs hxs => ?_)).mono ?_
          · rw [List.mem_append] at hxs
            rcases hxs with h | h
            · have := hsm.out xs h; omega
            · have := hsn.out xs h; omega
          rintro e w7 ⟨rfl, q, rfl⟩
          have HB7 := Lib.hid (below_drewN (HB.out.trans (B6.out.mono HB.out.size)) q)
          go_wp2_with fail
          go_ret
          exact ⟨rfl, HB7.out⟩
    · have hl2 : lined (a ++ ⟨#[10]⟩) := lined_add a
      have hx10 : (((a[a.size - 1]'hlt).toNat : Int) != 10) = true := by simp; omega
      have hsA : (a ++ (⟨#[10]⟩ : ByteArray)).size = a.size + 1 := by rw [ByteArray.size_append, hone.out]
      have hsum1 : a.size + (⟨#[10]⟩ : ByteArray).size ≤ 9223372036854775807 := by rw [hone.out]; omega
      have hsum : (a ++ (⟨#[10]⟩ : ByteArray)).size + b.size ≤ 9223372036854775807 := by rw [hsA]; omega
      replace hl2 := Lib.hid hl2
      replace hsA := Lib.hid hsA
      clear h10
      go_wp2_with fail
      replace hl2 := hl2.out
      generalize a ++ (⟨#[10]⟩ : ByteArray) = A at *
      refine (split_any A w1 HT.out (zero_lt HT.out)).mono ?_
      rintro e w2 ⟨v2, rfl, h2, hB⟩
      replace HT := Lib.hid (HT.out.below (zero_lt HT.out) hB)
      replace HB := Lib.hid (HB.out.trans (hB.mono HB.out.size))
      replace h2 := Lib.hid h2.zero
      clear hB
      go_wp2_with fail
      refine (split_any b w2 HT.out (zero_lt HT.out)).mono ?_
      rintro e w3 ⟨v3, rfl, h3, hB⟩
      replace HT := Lib.hid (HT.out.below (zero_lt HT.out) hB)
      replace HB := Lib.hid (HB.out.trans (hB.mono HB.out.size))
      replace h2 := Lib.hid (h2.out.below hB)
      replace h3 := Lib.hid h3.zero
      clear hB
      go_wp2_with fail
      refine (split_any (A ++ b) w3 HT.out (zero_lt HT.out)).mono ?_
      rintro e w4 ⟨v4, rfl, h4, hB⟩
      replace HB := Lib.hid (HB.out.trans (hB.mono HB.out.size))
      replace h2 := Lib.hid (h2.out.below hB)
      replace h3 := Lib.hid (h3.out.below hB)
      replace h4 := Lib.hid h4.zero
      clear hB HT
      have hcat : (A ++ b).data.toList = A.data.toList ++ b.data.toList := by rw [ByteArray.data_append, Array.toList_append]
      have hlA : A.data.toList.length ≤ 2001 := by rw [data_len, hsA.out]; omega
      have hlb : b.data.toList.length ≤ 2000 := by rw [data_len]; exact hb
      have hsA := split_ok (t := A.data.toList) (by omega)
      have hsb := split_ok (t := b.data.toList) (by omega)
      have hsc := split_ok (t := (A ++ b).data.toList) (by rw [hcat, List.length_append]; omega)
      rw [hcat, good_join] at hsc
      cases hgA : A.data.toList.all good with
      | false =>
        rw [hgA, if_neg (by simp)] at hsA
        rw [hgA, Bool.false_and, if_neg (by simp), ← hcat] at hsc
        rw [hsA, hsc]
        clear h2 h3 h4 hsb hgA hcat hsA hsc hlA hlb
        go_wp2_with fail
        go_ret
        exact ⟨rfl, HB.out⟩
      | true =>
        cases hgb : b.data.toList.all good with
        | false =>
          rw [hgA, if_pos rfl] at hsA
          rw [hgb, if_neg (by simp)] at hsb
          rw [hgA, hgb, Bool.true_and, if_neg (by simp), ← hcat] at hsc
          rw [hsA, hsb, hsc]
          clear h2 h3 h4 hgA hgb hcat hsA hsb hsc hlA hlb
          go_wp2_with fail
          go_ret
          exact ⟨rfl, HB.out⟩
        | true =>
          have hsm := texts_small hgA (by omega)
          have hsn := texts_small hgb (by omega)
          rw [hgA, if_pos rfl] at hsA
          rw [hgb, if_pos rfl] at hsb
          rw [hgA, hgb, Bool.true_and, if_pos rfl, splitL_join _ _ hl2, ← hcat] at hsc
          rw [hsA] at h2 ⊢
          rw [hsb] at h3 ⊢
          rw [hsc, List.map_append] at h4
          rw [hsc]
          clear hgA hgb hcat hsA hsb hsc hlA hlb
          dsimp only at h2 h3 h4
          generalize (splitL A.data.toList).map (·.map toB) = xss at *
          generalize (splitL b.data.toList).map (·.map toB) = yss at *
          obtain ⟨ps, hp, p1, p2⟩ := h2.out.raw
          obtain ⟨qs, hq, q1, q2⟩ := h3.out.raw
          obtain ⟨a2, c2, rfl⟩ := own_shape p1
          obtain ⟨a3, c3, rfl⟩ := own_shape q1
          obtain ⟨a4, c4, rfl, r4⟩ := h4.out.read
          rw [List.length_append] at r4 ⊢
          have R2 := Aside0.mk (raw_reads p1)
          have R3 := Aside0.mk (raw_reads q1)
          have P2 := Lib.hid p2
          have Q2 := Lib.hid q2
          have hsm1 := hsm.1
          have hsn1 := hsn.1
          replace hsm := Lib.hid hsm.2
          replace hsn := Lib.hid hsn.2
          replace r4 := Lib.hid r4
          have hpl := Lib.hid hp
          have hql := Lib.hid hq
          clear p1 p2 q1 q2 h2 h3 h4 hp hq
          go_wp2_with (first | ((with_reducible refine gate_builtin (b := .append) (xs := #[.tmp 60, .tmp 61]) rfl ?_); at_builtin; refine Kd.R_append_rows rawKd (w0 := w4) w4.heap.size rfl (.tmp 60) (.tmp 61) 22 39 (.slice none 0 0) 24 rfl Tryd.underlying22 info39R rfl (by decide) (by omega) (.slice none 0 0) ([] : List (Option Addr × Nat × Nat)) ps _ _ _ (fun _ => True) (fun _ => False) rfl rfl (Kd.R_nil _ _ _ _ _) R2.out (fun _ _ h => h) (fun _ h => h.elim) (fun _ _ => trivial) (Below.refl _ _) (Nat.le_refl _) (by simp; omega) ?_; intro v5 w5 ho5 hb5 hg5 hat5; rw [List.nil_append] at ho5; have O5 := Aside0.mk ho5; have B5 := Aside0.mk hb5; have R3' := Aside0.mk (R3.out.imp_ hb5 (fun _ _ h => h)); clear ho5 hb5 hg5 hat5) | ((with_reducible refine gate_builtin (b := .append) (xs := #[.tmp 63, .tmp 64]) rfl ?_); at_builtin; refine Kd.R_append_rows rawKd (w0 := w4) w4.heap.size rfl (.tmp 63) (.tmp 64) 22 39 (.slice none 0 0) 24 rfl Tryd.underlying22 info39R rfl (by decide) (by omega) v5 ps qs _ _ _ (fun _ => True) (fun _ => False) rfl rfl O5.out R3'.out (fun _ _ h => h) (fun _ h => h.elim) (fun _ _ => trivial) B5.out B5.out.size (by rw [hpl.out]; omega) ?_; intro v6 w6 ho6 hb6 hg6 hat6; have O6 := Aside0.mk ho6; have B6 := Aside0.mk hb6; obtain ⟨a6, c6, rfl⟩ := Kd.R_slice ho6; rw [List.length_append, hpl.out, hql.out]; clear ho6 hb6 hg6 hat6))
          have L6 : LL w6 0 (.slice a6 (ps ++ qs).length c6) (xss ++ yss) := LL.join hpl.out hql.out (Kd.R_lower O6.out (Nat.zero_le _)) (fun i xs c h1 h2 => own_below (P2.out i xs c h1 h2) B6.out) (fun i xs c h1 h2 => own_below (Q2.out i xs c h1 h2) B6.out)
          have hpq : (ps ++ qs).length = xss.length + yss.length := by rw [List.length_append, hpl.out, hql.out]
          rw [hpq] at L6
          have r6 := LR.of_LL L6
          have r4' := r4.out.below B6.out
          refine (same_any r4' r6 (by rw [List.length_append]; omega) (fun xs hxs => ?_)).mono ?_
          · rw [List.mem_append] at hxs
            rcases hxs with h | h
            · have := hsm.out xs h; omega
            · have := hsn.out xs h; omega
          rintro e w7 ⟨rfl, q, rfl⟩
          have HB7 := Lib.hid (below_drewN (HB.out.trans (B6.out.mono HB.out.size)) q)
          go_wp2_with fail
          go_ret
          exact ⟨rfl, HB7.out⟩
  · have hl2 : lined a := lined_empty (by omega)
    have hsum : a.size + b.size ≤ 9223372036854775807 := by omega
    replace hl2 := Lib.hid hl2
    go_wp2_with fail
    replace hl2 := hl2.out
    refine (split_any (a) w1 HT.out (zero_lt HT.out)).mono ?_
    rintro e w2 ⟨v2, rfl, h2, hB⟩
    replace HT := Lib.hid (HT.out.below (zero_lt HT.out) hB)
    replace HB := Lib.hid (HB.out.trans (hB.mono HB.out.size))
    replace h2 := Lib.hid h2.zero
    clear hB
    go_wp2_with fail
    refine (split_any b w2 HT.out (zero_lt HT.out)).mono ?_
    rintro e w3 ⟨v3, rfl, h3, hB⟩
    replace HT := Lib.hid (HT.out.below (zero_lt HT.out) hB)
    replace HB := Lib.hid (HB.out.trans (hB.mono HB.out.size))
    replace h2 := Lib.hid (h2.out.below hB)
    replace h3 := Lib.hid h3.zero
    clear hB
    go_wp2_with fail
    refine (split_any ((a) ++ b) w3 HT.out (zero_lt HT.out)).mono ?_
    rintro e w4 ⟨v4, rfl, h4, hB⟩
    replace HB := Lib.hid (HB.out.trans (hB.mono HB.out.size))
    replace h2 := Lib.hid (h2.out.below hB)
    replace h3 := Lib.hid (h3.out.below hB)
    replace h4 := Lib.hid h4.zero
    clear hB HT
    have hcat : ((a) ++ b).data.toList = (a).data.toList ++ b.data.toList := by rw [ByteArray.data_append, Array.toList_append]
    have hlA : (a).data.toList.length ≤ 2001 := by rw [data_len]; omega
    have hlb : b.data.toList.length ≤ 2000 := by rw [data_len]; exact hb
    have hsA := split_ok (t := (a).data.toList) (by omega)
    have hsb := split_ok (t := b.data.toList) (by omega)
    have hsc := split_ok (t := ((a) ++ b).data.toList) (by rw [hcat, List.length_append]; omega)
    rw [hcat, good_join] at hsc
    cases hgA : (a).data.toList.all good with
    | false =>
      rw [hgA, if_neg (by simp)] at hsA
      rw [hgA, Bool.false_and, if_neg (by simp), ← hcat] at hsc
      rw [hsA, hsc]
      clear h2 h3 h4 hsb hgA hcat hsA hsc hlA hlb
      go_wp2_with fail
      go_ret
      exact ⟨rfl, HB.out⟩
    | true =>
      cases hgb : b.data.toList.all good with
      | false =>
        rw [hgA, if_pos rfl] at hsA
        rw [hgb, if_neg (by simp)] at hsb
        rw [hgA, hgb, Bool.true_and, if_neg (by simp), ← hcat] at hsc
        rw [hsA, hsb, hsc]
        clear h2 h3 h4 hgA hgb hcat hsA hsb hsc hlA hlb
        go_wp2_with fail
        go_ret
        exact ⟨rfl, HB.out⟩
      | true =>
        have hsm := texts_small hgA (by omega)
        have hsn := texts_small hgb (by omega)
        rw [hgA, if_pos rfl] at hsA
        rw [hgb, if_pos rfl] at hsb
        rw [hgA, hgb, Bool.true_and, if_pos rfl, splitL_join _ _ hl2, ← hcat] at hsc
        rw [hsA] at h2 ⊢
        rw [hsb] at h3 ⊢
        rw [hsc, List.map_append] at h4
        rw [hsc]
        clear hgA hgb hcat hsA hsb hsc hlA hlb
        dsimp only at h2 h3 h4
        generalize (splitL (a).data.toList).map (·.map toB) = xss at *
        generalize (splitL b.data.toList).map (·.map toB) = yss at *
        obtain ⟨ps, hp, p1, p2⟩ := h2.out.raw
        obtain ⟨qs, hq, q1, q2⟩ := h3.out.raw
        obtain ⟨a2, c2, rfl⟩ := own_shape p1
        obtain ⟨a3, c3, rfl⟩ := own_shape q1
        obtain ⟨a4, c4, rfl, r4⟩ := h4.out.read
        rw [List.length_append] at r4 ⊢
        have R2 := Aside0.mk (raw_reads p1)
        have R3 := Aside0.mk (raw_reads q1)
        have P2 := Lib.hid p2
        have Q2 := Lib.hid q2
        have hsm1 := hsm.1
        have hsn1 := hsn.1
        replace hsm := Lib.hid hsm.2
        replace hsn := Lib.hid hsn.2
        replace r4 := Lib.hid r4
        have hpl := Lib.hid hp
        have hql := Lib.hid hq
        clear p1 p2 q1 q2 h2 h3 h4 hp hq
        go_wp2_with (first | ((with_reducible refine gate_builtin (b := .append) (xs := #[.tmp 60, .tmp 61]) rfl ?_); at_builtin; refine Kd.R_append_rows rawKd (w0 := w4) w4.heap.size rfl (.tmp 60) (.tmp 61) 22 39 (.slice none 0 0) 24 rfl Tryd.underlying22 info39R rfl (by decide) (by omega) (.slice none 0 0) ([] : List (Option Addr × Nat × Nat)) ps _ _ _ (fun _ => True) (fun _ => False) rfl rfl (Kd.R_nil _ _ _ _ _) R2.out (fun _ _ h => h) (fun _ h => h.elim) (fun _ _ => trivial) (Below.refl _ _) (Nat.le_refl _) (by simp; omega) ?_; intro v5 w5 ho5 hb5 hg5 hat5; rw [List.nil_append] at ho5; have O5 := Aside0.mk ho5; have B5 := Aside0.mk hb5; have R3' := Aside0.mk (R3.out.imp_ hb5 (fun _ _ h => h)); clear ho5 hb5 hg5 hat5) | ((with_reducible refine gate_builtin (b := .append) (xs := #[.tmp 63, .tmp 64]) rfl ?_); at_builtin; refine Kd.R_append_rows rawKd (w0 := w4) w4.heap.size rfl (.tmp 63) (.tmp 64) 22 39 (.slice none 0 0) 24 rfl Tryd.underlying22 info39R rfl (by decide) (by omega) v5 ps qs _ _ _ (fun _ => True) (fun _ => False) rfl rfl O5.out R3'.out (fun _ _ h => h) (fun _ h => h.elim) (fun _ _ => trivial) B5.out B5.out.size (by rw [hpl.out]; omega) ?_; intro v6 w6 ho6 hb6 hg6 hat6; have O6 := Aside0.mk ho6; have B6 := Aside0.mk hb6; obtain ⟨a6, c6, rfl⟩ := Kd.R_slice ho6; rw [List.length_append, hpl.out, hql.out]; clear ho6 hb6 hg6 hat6))
        have L6 : LL w6 0 (.slice a6 (ps ++ qs).length c6) (xss ++ yss) := LL.join hpl.out hql.out (Kd.R_lower O6.out (Nat.zero_le _)) (fun i xs c h1 h2 => own_below (P2.out i xs c h1 h2) B6.out) (fun i xs c h1 h2 => own_below (Q2.out i xs c h1 h2) B6.out)
        have hpq : (ps ++ qs).length = xss.length + yss.length := by rw [List.length_append, hpl.out, hql.out]
        rw [hpq] at L6
        have r6 := LR.of_LL L6
        have r4' := r4.out.below B6.out
        refine (same_any r4' r6 (by rw [List.length_append]; omega) (fun xs hxs => ?_)).mono ?_
        · rw [List.mem_append] at hxs
          rcases hxs with h | h
          · have := hsm.out xs h; omega
          · have := hsn.out xs h; omega
        rintro e w7 ⟨rfl, q, rfl⟩
        have HB7 := Lib.hid (below_drewN (HB.out.trans (B6.out.mono HB.out.size)) q)
        go_wp2_with fail
        go_ret
        exact ⟨rfl, HB7.out⟩

theorem joined_big (a b : ByteArray) (h : 2000 < a.size ∨ 2000 < b.size) (ha : a.size ≤ 9223372036854775807) (hb : b.size ≤ 9223372036854775807) (w : World) (hT : Tab w) : Calls Tryd.prog 4 #[.string a, .string b] w (TruePost w) := by
  replace hT := Lib.hid hT
  go_enter Tryd.func4, Tryd.ntmps4
  go_wp2_with fail
  refine (awake_any w hT.out).mono ?_
  rintro e w1 ⟨rfl, hB⟩
  replace hB := Lib.hid hB
  by_cases h1 : 2000 < a.size
  · go_wp2_with fail
    go_ret
    exact ⟨by simp [h1], hB.out⟩
  · have h2 : 2000 < b.size := by omega
    go_wp2_with fail
    go_ret
    exact ⟨by simp [h2], hB.out⟩

theorem linesJoined.walk (a0 a1 : ByteArray) (w : World) (h0 : a0.size ≤ maxLen) (h1 : a1.size ≤ maxLen) (hL : laidMetH Tryd.prog Rows.linesJoinedRow.laid w) : Calls Tryd.prog 4 #[.string a0, .string a1] w (TruePost w) := by
  have hT : Tab w := tab_of hL
  unfold maxLen at h0 h1
  by_cases h : 2000 < a0.size ∨ 2000 < a1.size
  · exact joined_big a0 a1 h (by omega) (by omega) w hT
  · exact joined_core a0 a1 (by omega) (by omega) w hT
end Go.Proofs.YtopflkfnfgcogaaDoor
