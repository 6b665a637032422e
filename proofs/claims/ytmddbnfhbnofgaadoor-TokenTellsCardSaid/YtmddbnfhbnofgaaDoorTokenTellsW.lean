/-
  The walk of TokenTells.
-/
import Derived.Test.YtmddbnfhbnofgaaDoorTokTl
import Derived.BigQuiet
namespace Go.Proofs.YtmddbnfhbnofgaaDoor
open Go.RowKit Go.BigFrame Go.Proofs.YtmddbnfhbnofgaaDoorW.PrintWords PTokenTells

/-- '[]string{}': a row of nothing. -/
theorem row_none (w : World) (base : Nat) (hb : base ≤ w.heap.size) : Kd.R Kd.string 9 (w.alloc (.cells #[] 9)) base (fun _ => True) (.slice (some ⟨w.heap.size, 0, none⟩) 0 0) [] := by
  refine ⟨fun _ _ => trivial, [], ⟨rfl, .inr ⟨w.heap.size, 0, #[], rfl, hb, World.alloc_heap_new w _, Nat.le_refl _, Nat.zero_le _, rfl, rfl⟩⟩, rfl, fun j p h => by simp at h⟩

theorem kept_row {w : World} {base len : Nat} {ok : Nat → Prop} {v : Value} {xs : List ByteArray} {y : ByteArray} (h : Kd.R Kd.string 9 w base ok v (xs ++ [y])) (hl : xs.length = len) (hs : ∀ x ∈ xs, x.size ≤ 9223372036854775807) (hy : y.size ≤ 9223372036854775807) :
    ∃ a c, v = .slice a (len + 1) c ∧ Strs w a (len + 1) (xs ++ [y]) ∧ len + 1 ≤ c := by
  obtain ⟨a, c, rfl, h1, h2⟩ := strs_of_R h (fun x hx => by
    simp at hx
    rcases hx with hx | rfl
    · exact hs x hx
    · exact hy)
  have e : (xs ++ [y]).length = len + 1 := by simp [hl]
  rw [e] at h1 h2 ⊢
  exact ⟨a, c, rfl, h1, h2⟩

theorem strs_prefix {w : World} {a : Option Addr} {n m : Nat} {xs ys : List ByteArray} (h : Strs w a (n + m) (xs ++ ys)) (hn : xs.length = n) : Strs w a n xs := by
  obtain ⟨h1, h2, h3⟩ := h
  refine ⟨hn, fun x hx => h2 x (by simp [hx]), ?_⟩
  rcases h3 with h3 | ⟨b, off, rfl, hlt, hc⟩
  · exact .inl (by omega)
  · exact .inr ⟨b, off, rfl, hlt, fun i x hx => hc i x (by rw [List.getElem?_append_left (List.getElem?_eq_some_iff.1 hx).1]; exact hx)⟩

set_option maxRecDepth 100000 in
set_option maxHeartbeats 4000000 in
theorem tokenTells_core {w : World} {a : Option Addr} {len cap : Nat} {xs : List ByteArray} (own : ByteArray) (h : Strs w a len xs) (hm : len ≤ 9223372036854775807) (hcap : len ≤ cap) (s : ByteArray) (c : UInt8) (most : Int) (how : own.size ≤ 9223372036854775807) (hss : s.size ≤ 9223372036854775807) :
    Calls Tryd.prog 5 #[.string own, .slice a len cap, .string s, .int .u8 c.toNat, .int .i64 most] w (TruePost w) := by
  replace h := Lib.hid h
  by_cases ho1 : 100 < own.size
  · go_enter Tryd.func5, Tryd.ntmps5
    go_wp2_with fail
    refine (great_any h.out hm).mono ?_
    rintro e w1' ⟨r, rfl, hg, rfl⟩
    clear hg
    cases r
    all_goals
      go_wp2_with fail
      go_ret
      exact ⟨rfl, Below.refl _ _⟩
  by_cases hs1 : 1000 < s.size
  · go_enter Tryd.func5, Tryd.ntmps5
    go_wp2_with fail
    refine (great_any h.out hm).mono ?_
    rintro e w1' ⟨r, rfl, hg, rfl⟩
    clear hg
    cases r
    all_goals
      go_wp2_with fail
      go_ret
      exact ⟨rfl, Below.refl _ _⟩
  go_enter Tryd.func5, Tryd.ntmps5
  go_wp2_with fail
  refine (great_any h.out hm).mono ?_
  rintro e w1' ⟨r, rfl, hg, rfl⟩
  cases r with
  | true =>
    clear hg
    go_wp2_with fail
    go_ret
    exact ⟨rfl, Below.refl _ _⟩
  | false =>
    replace hg := Lib.hid (hg rfl)
    have h20 : len ≤ 20 := by rw [← h.out.1]; exact hg.out.1
    have HB := Aside0.mk ((Below.refl w.heap.size w).alloc (Nat.le_refl _) (.cells #[] 9))
    have HO := Aside0.mk (row_none w w.heap.size (Nat.le_refl _))
    have HL := Aside0.mk (((h.out.below ((Below.refl w.heap.size w).alloc (Nat.le_refl _) (.cells #[] 9))).toC hm))
    go_wp2_with ((with_reducible refine gate_builtin (b := .append) (xs := #[.tmp 36, .tmp 37]) rfl ?_); at_builtin; refine Kd.R_append_rows Kd.string (w0 := w) w.heap.size rfl (.tmp 36) (.tmp 37) 22 9 (.string ⟨#[]⟩) 16 rfl Tryd.underlying22 info9 rfl (by decide) (by omega) (.slice (some ⟨w.heap.size, 0, none⟩) 0 0) ([] : List ByteArray) xs _ _ _ (fun _ => True) (fun _ => False) rfl rfl HO.out HL.out (fun _ _ h => h) (fun _ h => h.elim) (fun _ _ => trivial) HB.out (by simp) (by simp; omega) ?_; intro v1 w1 ho hb hg hat; rw [List.nil_append] at ho; have HO1 := Aside0.mk ho; have HB1 := Lib.hid hb; clear ho hb hg hat)
    clear HO HL HB
    obtain ⟨am, cm, rfl, hmi, hcm⟩ := strs_of_R HO1.out h.out.2.1
    have hxl : xs.length = len := h.out.1
    rw [hxl] at hmi hcm ⊢
    replace hmi : Hid (Strs w1 am len xs) := Lib.hid hmi
    replace h := Lib.hid (h.out.below HB1.out)
    replace hxl := Lib.hid hxl
    clear HO1
    refine (parse_any s c (by omega) w1).mono ?_
    rintro e w2 ⟨a2, k2, rfl, hp, hB, hk2⟩
    replace h := Lib.hid (h.out.below hB)
    replace hmi := Lib.hid (hmi.out.below hB)
    replace HB1 := Lib.hid (HB1.out.trans (hB.mono HB1.out.size))
    replace hp := Lib.hid hp
    clear hB hk2
    go_wp2_with fail
    refine (rparse_any s c (by omega) w2).mono ?_
    rintro e w3 ⟨a3, k3, rfl, hq, hB, hk3⟩
    replace h := Lib.hid (h.out.below hB)
    replace hmi := Lib.hid (hmi.out.below hB)
    replace hp := Lib.hid (hp.out.below hB)
    replace HB1 := Lib.hid (HB1.out.trans (hB.mono HB1.out.size))
    replace hq := Lib.hid hq
    clear hB hk3
    go_wp2_with fail
    refine (print_any hmi.out hm hcm c).mono ?_
    rintro e w4 ⟨rfl, hB⟩
    replace h := Lib.hid (h.out.below hB)
    replace hmi := Lib.hid (hmi.out.below hB)
    replace hp := Lib.hid (hp.out.below hB)
    replace hq := Lib.hid (hq.out.below hB)
    replace HB1 := Lib.hid (HB1.out.trans (hB.mono HB1.out.size))
    clear hB
    go_wp2_with fail
    refine (rprint_any h.out h20 hcap hg.out.2 c).mono ?_
    rintro e w5 ⟨rfl, hB⟩
    replace h := Lib.hid (h.out.below hB)
    replace hmi := Lib.hid (hmi.out.below hB)
    replace hp := Lib.hid (hp.out.below hB)
    replace hq := Lib.hid (hq.out.below hB)
    replace HB1 := Lib.hid (HB1.out.trans (hB.mono HB1.out.size))
    clear hB
    have hps : (prs c s).1.length ≤ 9223372036854775807 := prs_len c s
    generalize (prs c s).1 = ps at *
    generalize (prs c s).2 = pe at *
    generalize (prn c xs).1 = pt at *
    generalize (prn c xs).2 = pf at *
    generalize hid : isId own = bid at *
    generalize hmy : may xs = bmy at *
    generalize hck : chk own xs most = nck at *
    replace hid := Lib.hid hid
    replace hmy := Lib.hid hmy
    replace hck := Lib.hid hck
    go_wp2_with fail
    refine (same_any hp.out hq.out hps hps true (by rw [decide_eq_true rfl])).mono ?_
    rintro e w6 ⟨rfl, q, rfl⟩
    clear hp hq
    replace h : Hid (Strs (w5.drewN q) a len xs) := h
    replace hmi : Hid (Strs (w5.drewN q) am len xs) := hmi
    replace HB1 : Hid (Below w.heap.size w (w5.drewN q)) := Lib.hid (below_drewN HB1.out q)
    generalize w5.drewN q = W at *
    clear w5
    go_wp2_with fail
    refine (id_any own how W).mono ?_
    rintro e w6 ⟨rfl, rfl⟩
    rw [hid.out]
    go_wp2_with fail
    refine (postilionref17_ID.calls 5000 own (isId own) W (rid own (by omega) (by omega))).mono ?_
    rintro e w6 ⟨rfl, ⟨q, rfl⟩⟩
    rw [hid.out]
    replace h : Hid (Strs (W.drewN q) a len xs) := h
    replace hmi : Hid (Strs (W.drewN q) am len xs) := hmi
    replace HB1 : Hid (Below w.heap.size w (W.drewN q)) := Lib.hid (below_drewN HB1.out q)
    generalize W.drewN q = W2 at *
    go_wp2_with fail
    refine (may_any hmi.out hm).mono ?_
    rintro e w6 ⟨rfl, rfl⟩
    rw [hmy.out]
    go_wp2_with fail
    refine (rmay_any h.out h20 hcap hg.out.2).mono ?_
    rintro e w6 ⟨rfl, q, rfl⟩
    rw [hmy.out]
    replace h : Hid (Strs (W2.drewN q) a len xs) := h
    replace hmi : Hid (Strs (W2.drewN q) am len xs) := hmi
    replace HB1 : Hid (Below w.heap.size w (W2.drewN q)) := Lib.hid (below_drewN HB1.out q)
    generalize W2.drewN q = W3 at *
    go_wp2_with fail
    refine (check_any hmi.out hm own most).mono ?_
    rintro e w6 ⟨rfl, rfl⟩
    rw [hck.out]
    go_wp2_with fail
    refine (rcheck_any h.out h20 hcap hg.out.2 own most).mono ?_
    rintro e w6 ⟨rfl, q, rfl⟩
    rw [hck.out]
    replace h : Hid (Strs (W3.drewN q) a len xs) := h
    replace hmi : Hid (Strs (W3.drewN q) am len xs) := hmi
    replace HB1 : Hid (Below w.heap.size w (W3.drewN q)) := Lib.hid (below_drewN HB1.out q)
    generalize W3.drewN q = W4 at *
    clear hid hmy hck hps
    have hcm2 : (len : Int) ≤ (cm : Int) := by omega
    go_wp2_with fail
    refine (next_row hmi.out (by omega) own how).mono ?_
    rintro e w7 ⟨v7, rfl, hr7, hB⟩
    have hsx : ∀ x ∈ xs ++ [own], x.size ≤ 9223372036854775807 := by
      intro y hy
      simp at hy
      rcases hy with hy | rfl
      · exact h.out.2.1 y hy
      · exact how
    obtain ⟨a7, c7, rfl⟩ := row_shape hr7
    obtain ⟨g, rfl, hg7, hR⟩ := rm_of_row hr7 (by omega)
    have hn7 := strs_of_row hr7 hsx
    have hgw : W4.heap.size ≤ g := hg7
    have HB4 : Hid (Below W4.heap.size W4 w7) := Lib.hid hB
    replace hR := Lib.hid hR
    replace hn7 := Lib.hid hn7
    replace hsx := Lib.hid hsx
    clear hr7 hB
    go_wp2_with fail
    refine (rnext_any (h.out.below HB4.out) h20 hcap own how).mono ?_
    rintro e w8 ⟨a8, c8, rfl, hn8, hB⟩
    replace hn7 := Lib.hid (hn7.out.below hB)
    replace hR := Lib.hid (hR.out.below hB)
    replace HB4 := Lib.hid (HB4.out.trans (hB.mono HB4.out.size))
    replace hn8 := Lib.hid hn8
    clear hB
    go_wp2_with fail
    refine (same_any hn7.out hn8.out (by omega) (by omega) true (by rw [decide_eq_true rfl])).mono ?_
    rintro e w9 ⟨rfl, q, rfl⟩
    clear hn7 hn8
    replace hR : Hid (Rm (w8.drewN q) g (len + 1)) := hR
    replace HB4 : Hid (Below W4.heap.size W4 (w8.drewN q)) := Lib.hid (below_drewN HB4.out q)
    generalize w8.drewN q = W5 at *
    clear w8
    go_wp2_with fail
    go_loopw [22] (fun i wr => ∃ k : Nat, k ≤ len + 1 ∧ i = .int .i64 k ∧ Hid (Rm wr g (len + 1)) ∧ Hid (Below W4.heap.size W4 wr)) (fun i _ => len + 1 - (intOf i).toNat)
    case atStart => exact ⟨0, Nat.zero_le _, rfl, hR, HB4⟩
    case round =>
      obtain ⟨k, hk, rfl, hRr, hBr⟩ := hrel
      by_cases hlt : k < len + 1
      · obtain ⟨u, hu⟩ := hRr.out.cell hlt
        have hf := hRr.out.frozen k
        go_wp2_with fail
        go_roundw
        case rel => exact ⟨k + 1, by omega, by go_num, Lib.hid (hRr.out.set k _), Lib.hid (hBr.out.setCell (p := ⟨g, k, none⟩) hgw _)⟩
        case measure => simp [intOf]; omega
      · have HO := Aside0.mk (row_none wr wr.heap.size (Nat.le_refl _))
        have hk9 : Hid ((⟨#[107, 101, 112, 116]⟩ : ByteArray).size ≤ 9223372036854775807) := Lib.hid (by decide)
        have HBz := Aside0.mk ((Below.refl wr.heap.size wr).alloc (Nat.le_refl _) (.cells #[] 9))
        have HL := Aside0.mk (((h.out.below hBr.out).below HBz.out).toC hm)
        go_wp2_with (first | ((with_reducible refine gate_builtin (b := .append) (xs := #[.tmp 129, .tmp 130]) rfl ?_); at_builtin; refine Kd.R_append_rows Kd.string (w0 := wr) wr.heap.size rfl (.tmp 129) (.tmp 130) 22 9 (.string ⟨#[]⟩) 16 rfl Tryd.underlying22 info9 rfl (by decide) (by omega) (.slice (some ⟨wr.heap.size, 0, none⟩) 0 0) ([] : List ByteArray) xs _ _ _ (fun _ => True) (fun _ => False) rfl rfl HO.out HL.out (fun _ _ h => h) (fun _ h => h.elim) (fun _ _ => trivial) HBz.out (by simp) (by simp; omega) ?_; intro v1 w1 ho hb hg hat; rw [List.nil_append] at ho; have HO1 := Aside0.mk ho; have HBy := Aside0.mk hb; clear ho hb hg hat) | ((with_reducible refine gate_builtin (b := .append) (xs := #[.tmp 131, .tmp 132]) rfl ?_); at_builtin; refine Kd.R_append Kd.string (w0 := wr) wr.heap.size rfl (.tmp 131) (.tmp 132) 22 9 (.string ⟨#[]⟩) 16 rfl Tryd.underlying22 info9 rfl (by decide) (by omega) v1 xs ⟨#[107, 101, 112, 116]⟩ [.string ⟨#[107, 101, 112, 116]⟩] (fun _ => True) (fun _ => False) rfl rfl rfl (fun _ hk => hk.elim) (fun _ _ => trivial) HO1.out HBy.out HBy.out.size (by rw [h.out.1]; omega) ?_; intro v2 w2 ho hb hg hat; (obtain ⟨a9, c9, hv9, h9, hc9⟩ := kept_row ho h.out.1 h.out.2.1 hk9.out; subst hv9; have h9 := Aside0.mk h9; have HBx := Aside0.mk hb; have hc90 : (len : Int) ≤ (c9 : Int) := Int.ofNat_le.2 (Nat.le_of_succ_le hc9); clear ho hb hg hat)))

        clear HO HBz HL HO1 HBy
        have hn9 : Hid (Strs w2 a9 len xs) := Lib.hid (strs_prefix h9.out h.out.1)
        refine (next_any hn9.out (by omega) own how).mono ?_
        rintro e w3 ⟨a10, c10, rfl, _, _, hB⟩
        have HB5 : Hid (Below W4.heap.size W4 w3) := Lib.hid ((hBr.out.trans (HBx.out.mono hBr.out.size)).trans (hB.mono (by have := HBx.out.size; have := hBr.out.size; omega)))
        replace h9 := Lib.hid (h9.out.below hB)
        replace h := Lib.hid (h.out.below HB5.out)
        replace hmi := Lib.hid (hmi.out.below HB5.out)
        replace HB5 : Hid (Below w.heap.size w w3) := Lib.hid (HB1.out.trans (HB5.out.mono HB1.out.size))
        obtain ⟨b11, off11, x11, hx11, _, rfl, _, hc11⟩ := h9.out.at (i := len) (by omega)
        obtain rfl : x11 = ⟨#[107, 101, 112, 116]⟩ := by
          rw [← h.out.1] at hx11
          simpa using hx11.symm
        have hl0 : (0 : Int) ≤ (len : Int) := by omega
        have hl1 : (len : Int) < (len : Int) + 1 := by omega
        clear hB hn9 hx11 HBx hBr hRr
        go_wp2_with fail
        refine (same_any hmi.out h.out hm hm true (by rw [decide_eq_true rfl])).mono ?_
        rintro e w4 ⟨rfl, q, rfl⟩
        replace hc11 : (w3.drewN q).cell? ⟨b11, off11 + len, none⟩ = some (.string ⟨#[107, 101, 112, 116]⟩) := hc11
        replace HB5 : Hid (Below w.heap.size w (w3.drewN q)) := Lib.hid (below_drewN HB5.out q)
        clear h hmi h9
        generalize w3.drewN q = W6 at *
        go_wp2_with fail
        go_ret
        exact ⟨rfl, HB5.out⟩

theorem tokenTells.walk {H : Type} {enc : TypeId × Value → H} {spare : Nat → Bool} {d : DataW H} {ps : List MemPlace} (a0 : ByteArray) (a1 : Option Addr) (len1 cap1 : Nat) (a2 : ByteArray) (a3 a4 : Int) (w : World)
    (h0 : a0.size ≤ maxLen) (k : DataW.Trod enc Tryd.prog w 0 spare true 22 (.slice a1 len1 cap1) d ps) (h2 : a2.size ≤ maxLen) (h3 : (Lit.int .u8 a3).wf = true) (_ : (Lit.int .i64 a4).wf = true) :
    Calls Tryd.prog 5 #[.string a0, .slice a1 len1 cap1, .string a2, .int .u8 a3, .int .i64 a4] w (TruePost w) := by
  obtain ⟨xs, hs, hc, hm⟩ := strs_opened k
  obtain ⟨c, rfl⟩ := byte_of h3
  exact tokenTells_core a0 hs (by unfold maxLen at hm; omega) hc a2 c a4 (by unfold maxLen at h0; omega) (by unfold maxLen at h2; omega)

end Go.Proofs.YtmddbnfhbnofgaaDoor
