/-
  The walk of TokenOn.
-/
import Derived.Test.YtmddbnfhbnofgaaDoorTokA
import Derived.SliceStrings
namespace Go.Proofs.YtmddbnfhbnofgaaDoor
open Go.RowKit Go.BigFrame Go.ChangeShapes

theorem strs_of_trod {H : Type} {enc : TypeId × Value → H} {w : World} {spare : Nat → Bool} {a : Option Addr} {len cap : Nat} {d : DataW H} {ps : List MemPlace}
    (h : DataW.Trod enc Tryd.prog w 0 spare true 22 (.slice a len cap) d ps) : ∃ xs, Strs w a len xs ∧ len ≤ maxLen := by
  obtain ⟨fuel, h⟩ := h
  have e0 : (Value.slice a len cap).cells.toList = [.slice a len cap] := rfl
  rw [e0] at h
  have hc9 : Tryd.prog.cellsOf 9 = 1 := by kernel_rfl
  rcases open_strings Tryd.underlying22 Tryd.underlying9 hc9 h with ⟨hn, _⟩ | ⟨x, l, c, ss, hcs, _, hl, hm, hz, _, hcell, hsz⟩
  · simp at hn
    obtain ⟨rfl, rfl, rfl⟩ := hn
    exact ⟨[], strs_nil _ _, by unfold maxLen; omega⟩
  · simp only [List.cons.injEq, Value.slice.injEq, and_true] at hcs
    obtain ⟨rfl, rfl, rfl⟩ := hcs
    have hls : len ≤ ss.length := by rw [hz]; split <;> omega
    refine ⟨ss.take len, ⟨by simp; omega, fun s hs => ?_, ?_⟩, Nat.le_trans hl hm⟩
    · have := hsz s (List.mem_of_mem_take hs)
      unfold maxLen at this; omega
    · rcases Nat.eq_zero_or_pos len with h0 | h0
      · exact .inl h0
      right
      have c0 := hcell 0 (by omega)
      have hs := World.cell?_spot c0
      obtain ⟨xb, xo, xs⟩ := x
      simp [Addr.add] at hs
      subst hs
      have key : ∀ i, ((⟨xb, xo, none⟩ : Addr).add i) = ⟨xb, xo + i, none⟩ := by
        intro i
        unfold Addr.add
        split <;> simp_all
      refine ⟨xb, xo, rfl, World.block_lt_of_cell? _ _ (by rw [key] at c0; exact c0), fun i y hy => ?_⟩
      rw [List.getElem?_take] at hy
      split at hy
      · have := hcell i (by omega)
        rw [key] at this
        rw [this]
        simp [List.getD, hy]
      · cases hy

theorem chk_good {own : ByteArray} {xs : List ByteArray} {most : Int} (hm : may xs = true) : chk own xs most = if Lib.containsS xs own = false ∧ (xs.length : Int) < most then 0 else 170 := by
  unfold chk
  simp [hm]

/-- B tells whether x is among some. -/
def Is (B : Bool) (x : ByteArray) (l : List ByteArray) : Prop := B = true ↔ x ∈ l

theorem mem_step {x y : ByteArray} {ys : List ByteArray} {m : Nat} {B B' : Bool} (h : Is B x (ys.take m)) (hy : ys[m]? = some y) (hB : B' = true ↔ B = true ∨ x = y) : Is B' x (ys.take (m + 1)) := by
  unfold Is at h ⊢
  rw [take_snoc _ hy, List.mem_append, List.mem_singleton, hB, h]

theorem strs_prefix {w : World} {a : Option Addr} {n m : Nat} {xs ys : List ByteArray} (h : Strs w a (n + m) (xs ++ ys)) (hn : xs.length = n := by rfl) : Strs w a n xs := by
  obtain ⟨h1, h2, h3⟩ := h
  refine ⟨hn, fun x hx => h2 x (by simp [hx]), ?_⟩
  rcases h3 with h3 | ⟨b, off, rfl, hlt, hc⟩
  · exact .inl (by omega)
  · exact .inr ⟨b, off, rfl, hlt, fun i x hx => hc i x (by rw [List.getElem?_append_left (List.getElem?_eq_some_iff.1 hx).1]; exact hx)⟩

set_option maxRecDepth 100000 in
set_option maxHeartbeats 2000000 in
theorem tokenOn_core {w : World} {a : Option Addr} {len cap : Nat} {xs : List ByteArray} (h : Strs w a len xs) (hm : len ≤ 9223372036854775807) (most : Int) :
    Calls Tryd.prog 3 #[.slice a len cap, .int .i64 most] w (TruePost w) := by
  replace h := Lib.hid h
  go_enter Tryd.func3, Tryd.ntmps3
  go_wp2_with fail
  refine (awake_any w).mono ?_
  rintro e w1 ⟨rfl, hB1⟩
  replace h := Lib.hid (h.out.below hB1)
  replace hB1 := Lib.hid hB1
  go_wp2_with fail
  refine (great_any h.out hm).mono ?_
  rintro e w1' ⟨r, rfl, hg, rfl⟩
  cases r with
  | true =>
    clear hg
    go_wp2_with fail
    go_ret
    exact ⟨rfl, hB1.out⟩
  | false =>
    replace hg := Lib.hid (hg rfl)
    have h20 : len ≤ 20 := by rw [← h.out.1]; exact hg.out.1
    go_wp2_with fail
    go_loopw [5, 6] (fun v i wr => ∃ (k : Nat) (ys : List ByteArray) (a2 : Option Addr) (c2 : Nat), k ≤ len ∧ i = .int .i64 k ∧ v = .slice a2 ys.length c2 ∧ ys.length ≤ 8 ∧ Hid (Strs wr a2 ys.length ys) ∧ Hid (may ys = true) ∧ Hid (Below w1.heap.size w1 wr)) (fun _ i _ => len - (intOf i).toNat)
    case atStart => exact ⟨0, [], none, 0, Nat.zero_le _, rfl, rfl, Nat.zero_le _, Lib.hid (strs_nil _ _), Lib.hid rfl, Lib.hid (Below.refl _ _)⟩
    case round =>
      obtain ⟨k, ys, a2, c2, hk, rfl, rfl, hy8, hst, hmay, hB⟩ := hrel
      by_cases hlt : k < len
      · obtain ⟨b, off, x, hx, hxm, rfl, hb1, hc1'⟩ := h.out.at hlt
        have hc := (hB.out.cell (p := ⟨b, off + k, none⟩) hb1).trans hc1'
        replace hc1' := Lib.hid hc1'
        have hx100 : x.size ≤ 100 := hg.out.2 x (List.mem_of_getElem? hx)
        clear hx
        cases hid : isId x with
        | false =>
          replace hid := Lib.hid hid
          go_wp2_with (go_at_call 8; refine (id_any x hxm _).mono ?_; rintro e w' ⟨rfl, rfl⟩; rw [hid.out])
          go_roundw
          case rel => exact ⟨k + 1, ys, a2, c2, by omega, by go_num, rfl, hy8, hst, hmay, hB⟩
          case measure => simp [intOf]; omega
        | true =>
          replace hid := Lib.hid hid
          go_wp2_with (go_at_call 8; refine (id_any x hxm _).mono ?_; rintro e w' ⟨rfl, rfl⟩; rw [hid.out])
          go_loopw [7, 8] (fun kn j wx => ∃ (m : Nat) (B : Bool), m ≤ ys.length ∧ j = .int .i64 m ∧ kn = .bool B ∧ Hid (Is B x (ys.take m)) ∧ ∃ q, wx = wr.drewN q) (fun _ j _ => ys.length - (intOf j).toNat)
          case atStart => exact ⟨0, false, by omega, rfl, rfl, Lib.hid (by simp [Is]), 0, rfl⟩
          case round =>
            obtain ⟨m, B, hm2, rfl, rfl, hB2, q, rfl⟩ := hrel
            have d1 : (wr.drewN q).cell? ⟨b, off + k, none⟩ = some (.string x) := hc
            have dst : Hid (Strs (wr.drewN q) a2 ys.length ys) := hst
            have hk0 : (0 : Int) ≤ (k : Int) := by omega
            have hk1 : (k : Int) < (len : Int) := by omega
            by_cases hl : m < ys.length
            · obtain ⟨b2, off2, y, hy, _, rfl, _, hc2⟩ := dst.out.at hl
              replace hy := Lib.hid hy
              have hm0 : (0 : Int) ≤ (m : Int) := by omega
              have hm1 : (m : Int) < (ys.length : Int) := by omega
              clear hc hst dst
              generalize hW : wr.drewN q = W at d1 hc2
              cases B with
              | true =>
                go_wp2_with fail
                go_quiet (fail)
                go_wp2_with fail
                subst hW
                go_roundw
                case rel => exact ⟨m + 1, true, by omega, by go_num, rfl, Lib.hid (mem_step hB2.out hy.out (by simp)), _, World.drewN_drewN ..⟩
                case measure => simp [intOf]; omega
              | false =>
                by_cases hxy : y = x
                · subst hxy
                  go_wp2_with fail
                  go_quiet (fail)
                  go_wp2_with fail
                  subst hW
                  go_roundw
                  case rel => exact ⟨m + 1, true, by omega, by go_num, rfl, Lib.hid (mem_step hB2.out hy.out (by simp)), _, World.drewN_drewN ..⟩
                  case measure => simp [intOf]; omega
                · have hne := toList_ne hxy
                  go_wp2_with fail
                  go_quiet (fail)
                  go_wp2_with fail
                  subst hW
                  go_roundw
                  case rel => exact ⟨m + 1, false, by omega, by go_num, rfl, Lib.hid (mem_step hB2.out hy.out (by simp; exact fun e => hxy e.symm)), _, World.drewN_drewN ..⟩
                  case measure => simp [intOf]; omega
            · obtain rfl : m = ys.length := by omega
              have hB3 : Hid (Is B x ys) := Lib.hid (by have := hB2.out; rwa [List.take_length] at this)
              have hBW : Hid (Below w1.heap.size w1 (wr.drewN q)) := Lib.hid (below_drewN hB.out q)
              clear hB2 hB hst hc
              generalize wr.drewN q = W at *
              go_wp2_with fail
              refine (check_any dst.out (by omega) x most).mono ?_
              rintro e w2 ⟨rfl, rfl⟩
              have hcon : Hid (Lib.containsS ys x = B) := Lib.hid (by
                rw [Bool.eq_iff_iff, Lib.containsS_iff]; exact hB3.out.symm)
              cases B with
              | true =>
                rw [show chk x ys most = 170 by rw [chk_good hmay.out, hcon.out]; simp]
                go_wp2_with fail
                go_roundw
                case rel => exact ⟨k + 1, ys, a2, c2, by omega, by go_num, rfl, hy8, dst, hmay, hBW⟩
                case measure => simp [intOf]; omega
              | false =>
                by_cases hmost : (ys.length : Int) < most
                · rw [show chk x ys most = 0 by rw [chk_good hmay.out, hcon.out]; simp [hmost]]
                  go_wp2_with fail
                  refine (next_any dst.out (by omega) x (by omega)).mono ?_
                  rintro e w3 ⟨a3, c3, rfl, hst3, hcap, hB4⟩
                  have hst3' : Hid (Strs w3 a2 ys.length ys) := Lib.hid (dst.out.below hB4)
                  have hst4 : Hid (Strs w3 a3 ys.length ys) := Lib.hid (strs_prefix hst3)
                  have hBW3 : Hid (Below w1.heap.size w1 w3) := Lib.hid (hBW.out.trans (hB4.mono hBW.out.size))
                  obtain ⟨b3, off3, z, hz, _, rfl, _, hcz⟩ := hst3.at (i := ys.length) (by omega)
                  obtain rfl : z = x := by simpa using hz.symm
                  replace hst3 := Lib.hid hst3
                  clear hB4 hz
                  have hx' : w3.cell? ⟨b, off + k, none⟩ = some (.string z) := by
                    have h1 := hBW3.out.cell (p := ⟨b, off + k, none⟩) hb1
                    exact h1.trans hc1'.out
                  have hy0 : (0 : Int) ≤ (ys.length : Int) := by omega
                  have hy1 : (ys.length : Int) < (ys.length : Int) + 1 := by omega
                  have hw1 : IntKind.i64.wrap ((ys.length : Int) + 1) = (ys.length : Int) + 1 := IntWalk.i64_in _ (by omega)
                  have hnn : (((ys.length : Int) + 1) != ((ys.length : Int) + 1)) = false := by simp
                  have hcp : (ys.length : Int) ≤ (c3 : Int) := by omega
                  have hcp2 : ys.length ≤ c3 := by omega
                  go_wp2_with fail
                  go_quiet ((go_at_call 11; exact Calls.quiet_of (same_any (w := w3.drewN _) hst4.out hst3'.out (by omega) (by omega) true (by rw [decide_eq_true rfl]))))
                  replace hst3 : Hid (Strs (w3.drewN nq) (some ⟨b3, off3, none⟩) (ys.length + 1) (ys ++ [z])) := hst3
                  replace hBW3 : Hid (Below w1.heap.size w1 (w3.drewN nq)) := Lib.hid (below_drewN hBW3.out nq)
                  generalize w3.drewN nq = W3 at *
                  have hmy : Hid (may (ys ++ [z]) = decide (ys.length + 1 ≤ 8)) := Lib.hid (by
                    by_cases h8 : ys.length + 1 ≤ 8
                    · rw [decide_eq_true h8]; exact may_snoc hmay.out hid.out h8
                    · rw [decide_eq_false h8]; exact may_long (by simp; omega))
                  go_wp2_with fail
                  refine (may_any hst3.out (by omega)).mono ?_
                  rintro e w4 ⟨rfl, rfl⟩
                  rw [hmy.out]
                  by_cases h8 : ys.length + 1 ≤ 8
                  · rw [decide_eq_true h8] at hmy ⊢
                    go_wp2_with fail
                    go_roundw
                    case rel => exact ⟨k + 1, ys ++ [z], some ⟨b3, off3, none⟩, c3, by omega, by go_num, by simp, by simp; omega, by simpa using hst3, hmy, hBW3⟩
                    case measure => simp [intOf]; omega
                  · rw [decide_eq_false h8] at hmy ⊢
                    have hck : Hid (chk ⟨#[120]⟩ (ys ++ [z]) most = 170) := Lib.hid (by unfold chk; rw [hmy.out]; simp)
                    have h9 : 8 < (ys.length : Int) + 1 := by omega
                    go_wp2_with fail
                    refine (check_any hst3.out (by omega) ⟨#[120]⟩ most).mono ?_
                    rintro e w4 ⟨rfl, rfl⟩
                    rw [hck.out]
                    go_wp2_with fail
                    go_ret
                    exact ⟨by simp [h9], hB1.out.trans (hBW3.out.mono hB1.out.size)⟩
                · rw [show chk x ys most = 170 by rw [chk_good hmay.out, hcon.out]; simp [hmost]]
                  go_wp2_with fail
                  go_roundw
                  case rel => exact ⟨k + 1, ys, a2, c2, by omega, by go_num, rfl, hy8, dst, hmay, hBW⟩
                  case measure => simp [intOf]; omega
      · obtain rfl : k = len := by omega
        go_wp2_with fail
        go_loop [11] (fun i => ∃ m : Nat, m ≤ ys.length ∧ i = .int .i64 m) (fun i => ys.length - (intOf i).toNat)
        case atStart => exact ⟨0, Nat.zero_le _, rfl⟩
        case round =>
          obtain ⟨m, hm2, rfl⟩ := hrel
          by_cases hl : m < ys.length
          · obtain ⟨b2, off2, y, hy, _, rfl, _, hc2⟩ := hst.out.at hl
            have hck : Hid (chk y ys 1099511627776 = 170) := Lib.hid (by
              rw [chk_good hmay.out, (Lib.containsS_iff ys y).2 (List.mem_of_getElem? hy)]; simp)
            clear hy
            go_wp2_with fail
            refine (check_any hst.out (by omega) y 1099511627776).mono ?_
            rintro e w2 ⟨rfl, rfl⟩
            rw [hck.out]
            go_wp2_with fail
            go_round
            case rel => exact ⟨m + 1, by omega, by go_num⟩
            case measure => simp [intOf]; omega
          · go_wp2_with fail
            go_ret
            exact ⟨rfl, hB1.out.trans (hB.out.mono hB1.out.size)⟩

theorem tokenOn.walk {H : Type} {enc : TypeId × Value → H} {spare : Nat → Bool} {d : DataW H} {ps : List MemPlace} (a0 : Option Addr) (len0 cap0 : Nat) (a1 : Int) (w : World)
    (k : DataW.Trod enc Tryd.prog w 0 spare true 22 (.slice a0 len0 cap0) d ps) (_ : (Lit.int .i64 a1).wf = true) :
    Calls Tryd.prog 3 #[.slice a0 len0 cap0, .int .i64 a1] w (TruePost w) := by
  obtain ⟨xs, hs, hm⟩ := strs_of_trod k
  exact tokenOn_core hs (by unfold maxLen at hm; omega) a1

end Go.Proofs.YtmddbnfhbnofgaaDoor
