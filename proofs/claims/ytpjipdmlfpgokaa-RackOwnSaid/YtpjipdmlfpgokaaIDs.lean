/-
  The rack's ids: an iterator over its table, collected.
-/
import Derived.Test.YtpjipdmlfpgokaaRackB
import Derived.RangeFuncBox
import Derived.RangeFuncLeaves
import Derived.RangeFuncBound
import Derived.RangeFuncNested
import Derived.Shelf.Abstract
import Derived.OwnWalkIn
import Derived.TacticsInMore
import Derived.LoopNIn
import Derived.LoopIn
import Derived.Maps.AppendAt
namespace Go.Proofs.Ytpjipdmlfpgokaa
open Go.RowKit RP Go.Shelf
attribute [local go_sem] Oper.semAt_some

set_option maxHeartbeats 1000000 in
theorem all_in (F : Fence) (n : Nat) (h26 : F.fn 26) (hro : F.round = none) (p : Option Addr) (w : World) :
    CallsIn F n Try.prog 26 #[.pointer p] w fun e w' => e = .returned (.func (.func 32) #[] #[.pointer (some ⟨w.heap.size, 0, none⟩)]) ∧ w' = w.alloc (.cells #[.pointer p] 69) := by
  refine callsIn_of_wp Try.func26 rfl h26 ?_ hro
  simp only [Try.ntmps26, List.size_toArray, List.length_cons, List.length_nil, Nat.reduceAdd, Nat.reduceSub, Array.replicate_succ, Array.replicate_zero, List.push_toArray, List.append_toArray, List.nil_append, List.cons_append]
  gi_wp2
  go_ret
  exact ⟨rfl, rfl⟩

/-- What a round keeps: whatever lay below n₀, and the box of the table's address. -/
def Keep (n₀ Bs : Nat) (W W' : World) : Prop := Below n₀ W W' ∧ W'.heap[Bs]? = W.heap[Bs]?

/-- A table's rows, in blocks below n₀. -/
def Rows2 (n₀ : Nat) (W : World) (b : Nat) (t : KV) : Prop :=
  b < n₀ ∧ ∃ kv vv, W.cell? ⟨b, 0, none⟩ = some kv ∧ W.cell? ⟨b, 1, none⟩ = some vv ∧ Ints W 0 kv (ks t) ∧ Ints W 0 vv (vs t) ∧ (∀ k, kv.ownBlock = some k → k < n₀) ∧ (∀ k, vv.ownBlock = some k → k < n₀)

theorem Rows2.below {n₀ : Nat} {W W' : World} {b : Nat} {t : KV} (h : Rows2 n₀ W b t) (hb : Below n₀ W W') : Rows2 n₀ W' b t := by
  obtain ⟨h0, kv, vv, h1, h2, h3, h4, h5, h6⟩ := h
  exact ⟨h0, kv, vv, (hb.cell (p := ⟨b, 0, none⟩) h0).trans h1, (hb.cell (p := ⟨b, 1, none⟩) h0).trans h2, h3.same (fun k hk => hb.block k (h5 k hk)), h4.same (fun k hk => hb.block k (h6 k hk)), h5, h6⟩

theorem upto_take {α : Type} (t : List α) {k : Nat} {x : α} (h : t[k]? = some x) : t.take (k + 1) = t.take k ++ [x] := by
  rw [List.take_add_one, h]; rfl

set_option maxRecDepth 100000 in
set_option maxHeartbeats 2000000 in
theorem all1_in (F : Fence) (n : Nat) (h32 : F.fn 32) (hro : F.round = none) (hn : 1 ≤ n) (l Bs n₀ b : Nat) (t : KV) (h64 : t.length ≤ 64) (J Jx : List (Int × Int) → World → Prop)
    (hY : ∀ pre x W, J pre W → pre.length < t.length → YieldAt F (n - 1) Try.prog l #[.int .i64 x.1, .int .i64 x.2] W fun e W' =>
      (e = .returned (.bool true) ∧ J (pre ++ [x]) W' ∧ Keep n₀ Bs W W') ∨ (e = .returned (.bool false) ∧ Jx (pre ++ [x]) W'))
    (W : World) (hBs : Boxed W Bs 69 (.pointer (some ⟨b, 0, none⟩))) (hR : Rows2 n₀ W b t) (h0 : J [] W) :
    CallsIn F n Try.prog 32 #[.func (.yield l) #[] #[], .pointer (some ⟨Bs, 0, none⟩)] W fun e W' => (∃ v, e = .returned v) ∧
      ((∃ ys, ys = t ∧ J ys W') ∨ (∃ pre, (∃ k, k ≤ t.length ∧ pre = t.take k) ∧ Jx pre W')) := by
  have hc := hBs.cell
  have hB := Lib.hid hBs
  have HR := Lib.hid hR
  obtain ⟨_, kv, vv, c0, _, i0, _, _, _⟩ := hR
  obtain ⟨a, c, rfl⟩ := i0.shape
  rw [ks_length] at c0
  clear hBs i0
  refine callsIn_of_wp Try.func32 rfl h32 ?_ hro
  simp only [Try.ntmps32, List.size_toArray, List.length_cons, List.length_nil, Nat.reduceAdd, Nat.reduceSub, Array.replicate_succ, Array.replicate_zero, List.push_toArray, List.append_toArray, List.nil_append, List.cons_append]
  gi_wp2
  gi_loopw [10] (fun i wr => ∃ k : Nat, k ≤ t.length ∧ i = .int .i64 k ∧ Hid (J (t.take k) wr) ∧ Hid (Below n₀ W wr) ∧ Hid (Boxed wr Bs 69 (.pointer (some ⟨b, 0, none⟩))))
    (fun i _ => t.length - (intOf i).toNat)
  case atStart => exact ⟨0, Nat.zero_le _, rfl, by simpa using Lib.hid h0, Below.refl _ _, hB⟩
  case round =>
    obtain ⟨k, hk, rfl, hJs, hnx, hBx⟩ := hrel
    by_cases hlt : k < t.length
    · obtain ⟨x, hx⟩ : ∃ x, t[k]? = some x := ⟨_, List.getElem?_eq_getElem hlt⟩
      obtain ⟨fn, tmps, assign, body, hy, hRd⟩ := hY (t.take k) x wr hJs.out (by simp; omega)
      obtain ⟨hbn, kv', vv', e0, e1, i0, i1, l0, l1⟩ := HR.out.below hnx.out
      have ek : Value.slice a t.length c = kv' := by
        have := (hnx.out.cell (p := ⟨b, 0, none⟩) hbn).trans c0
        rw [e0] at this; exact (Option.some.inj this).symm
      subst ek
      have hkx : (ks t)[k]? = some x.1 := by simp [ks, hx]
      have hvx : (vs t)[k]? = some x.2 := by simp [vs, hx]
      rcases i0.cases with ⟨hh, hnil⟩ | ⟨g, cap, cur, hh, _, hg, _, _, _, ht⟩
      · rw [hnil] at hkx; simp at hkx
      rcases i1.cases with ⟨hh', hnil⟩ | ⟨g', cap', cur', rfl, _, hg', _, _, _, ht'⟩
      · rw [hnil] at hvx; simp at hvx
      simp only [Value.slice.injEq] at hh
      obtain ⟨rfl, hq1, rfl⟩ := hh
      clear hq1
      have d0 : wr.cell? ⟨g, k, none⟩ = some (.int .i64 x.1) := by rw [block_cell hg]; exact take_at ht hkx
      have d1 : wr.cell? ⟨g', k, none⟩ = some (.int .i64 x.2) := by rw [block_cell hg']; exact take_at ht' hvx
      have d2 := hBx.out.cell
      rw [vs_length] at e1
      have htk := Lib.hid (upto_take t hx)
      clear i0 i1 hg hg' ht ht' hkx hvx e0 c0 l0 l1 hc hx
      gi_wp2
      refine hRd.mono ?_
      rintro e W3 (⟨rfl, hJ3, hk3⟩ | ⟨rfl, hJx3⟩)
      · have hJ4 : Hid (J (t.take (k + 1)) W3) := Lib.hid (by rw [htk.out]; exact hJ3)
        have hB4 : Hid (Below n₀ W W3) := Lib.hid (hnx.out.trans hk3.1)
        have hX4 : Hid (Boxed W3 Bs 69 (.pointer (some ⟨b, 0, none⟩))) := Lib.hid (hk3.2.trans hBx.out)
        clear hJ3 hk3
        gi_wp2
        go_roundw
        case rel => exact ⟨k + 1, by omega, by simp, hJ4, hB4, hX4⟩
        case measure => simp [intOf]; omega
      · have hJ4 := Lib.hid hJx3
        clear hJx3
        gi_wp2
        refine bodyPost_ret (results_none rfl _ _ _) rfl ?_
        exact ⟨⟨_, rfl⟩, .inr ⟨_, ⟨k + 1, by omega, htk.out.symm⟩, hJ4.out⟩⟩
    · obtain rfl : k = t.length := by omega
      gi_wp2
      go_end0
      exact ⟨⟨_, rfl⟩, .inl ⟨_, List.take_length, hJs.out⟩⟩

theorem keep_t {n₀ Bs : Nat} {A B C : World} (h : Keep n₀ Bs A B) (k : Keep n₀ Bs B C) : Keep n₀ Bs A C := ⟨h.1.trans k.1, k.2.trans h.2⟩
theorem keep_b {n₀ Bs B : Nat} (hn : n₀ ≤ B) (hB : Bs < B) (W : World) (l : Nat) (o o' : Obj) (hl : B ≤ l) (ho : W.heap[l]? = some o) (hc : o.isCells = false) (hw : o.isWalk = false) : Keep n₀ Bs W (W.putObj l o') :=
  ⟨(Below.refl n₀ W).grown (grownBy_putObj' W l o') (by have := (Array.getElem?_eq_some_iff.1 ho).1; omega) (fun k e => by cases e; omega), World.putObj_heap_other (by omega)⟩

theorem all_stops (F : Fence) (n : Nat) (h32 : F.fn 32) (hro : F.round = none) (hn : 1 ≤ n) (Bs n₀ b : Nat) (t : KV) (h64 : t.length ≤ 64) (w : World) (hBs : Boxed w Bs 69 (.pointer (some ⟨b, 0, none⟩))) (hn₀ : n₀ ≤ w.heap.size) (hR : Rows2 n₀ w b t) :
    SeqStopsK F n Try.prog 32 #[.pointer (some ⟨Bs, 0, none⟩)] (fun x : Int × Int => #[.int .i64 x.1, .int .i64 x.2]) (Keep n₀ Bs) (fun ys => ys = t) (fun pre => ∃ k, k ≤ t.length ∧ pre = t.take k) t.length w := fun l J Jx W hW _ _ hY h0 =>
  all1_in F n h32 hro hn l Bs n₀ b t h64 J Jx hY W ((hW.block Bs hBs.lt).trans hBs) (hR.below (hW.mono hn₀)) h0

theorem info3 : (Try.prog.info? 3).map (fun i => (i.zero, i.size, i.bytes)) = some (some (.int .i64 0), 1, 8) := by kernel_rfl

set_option maxRecDepth 100000 in
set_option maxHeartbeats 2000000 in
theorem ids_in (F : Fence) (n : Nat) (h10 : F.fn 10) (h25 : F.fn 25) (h26 : F.fn 26) (h32 : F.fn 32) (hro : F.round = none) (hn : 3 ≤ n) {w : World} {base b : Nat} {K : List Nat} {t : KV} {size next step : Int} (h : RackAt w base b K t size next step)
    (N : CallsIn F (n - 1) Try.prog 25 #[.pointer (some ⟨b, 0, none⟩)] w fun e w' => e = .returned (.bool false) ∧ w = w') (h64 : t.length ≤ 64) :
    CallsIn F n Try.prog 10 #[.pointer (some ⟨b, 0, none⟩)] w fun e W' => ∃ v, e = .returned v ∧ W'.ownsRow w.heap.size 3 1 v t.length (ri (ks t)) ∧ Below w.heap.size w W' := by
  have h1 : 1 ≤ n := by omega
  obtain ⟨i0, hi, hz0, hz1, hz2⟩ := info_parts info3
  have HR := Lib.hid h
  have HN := Lib.hid N
  clear h N
  refine callsIn_of_wp_marks Try.func10 rfl h10 ?_ hro
  simp only [Try.ntmps10, List.size_toArray, List.length_cons, List.length_nil, Nat.reduceAdd, Nat.reduceSub, Array.replicate_succ, Array.replicate_zero, List.push_toArray, List.append_toArray, List.nil_append, List.cons_append]
  gi_wp2_with (first | (gi_at_call 25; refine HN.out.mono ?_; rintro e w' ⟨rfl, rfl⟩) | (gi_at_call 26; refine (all_in F (n - 1) h26 hro _ _).mono ?_; rintro e w' ⟨rfl, rfl⟩))
  have bO := Boxed.new w 32 (.slice none 0 0)
  have bN := Boxed.new (w.alloc (.cells #[.slice none 0 0] 32)) 69 (.pointer (some ⟨b, 0, none⟩))
  rw [World.size_alloc] at bN
  have hB0 : Below w.heap.size w ((w.alloc (.cells #[.slice none 0 0] 32)).alloc (.cells #[.pointer (some ⟨b, 0, none⟩)] 69)) := ((Below.refl _ w).alloc (Nat.le_refl _) _).alloc (by simp) _
  have hRows : Rows2 w.heap.size w b t := by
    obtain ⟨kv, vv, e1, e2, e3, e4, e5, e6, e7⟩ := HR.out
    refine ⟨block_lt e1, kv, vv, by rw [block_cell e1]; rfl, by rw [block_cell e1]; rfl, ?_, ?_, fun k hk => owns_lt e2 hk, fun k hk => owns_lt e3 hk⟩
    · exact ⟨e2.1, e2.2.imp id (fun ⟨g, cap, cur, hv, _, r⟩ => ⟨g, cap, cur, hv, Nat.zero_le _, r⟩)⟩
    · exact ⟨e3.1, e3.2.imp id (fun ⟨g, cap, cur, hv, _, r⟩ => ⟨g, cap, cur, hv, Nat.zero_le _, r⟩)⟩
  refine wpIn_rangeFunc_ownG hro h1 (gf := 32) (lb := #[.pointer (some ⟨w.heap.size + 1, 0, none⟩)]) rfl h32 (enters_of Try.func32 (by kernel_rfl) rfl)
    (all_stops F (n - 1) h32 hro (by omega) (w.heap.size + 1) w.heap.size b t h64 _ bN (by simp; omega) (hRows.below hB0)) keep_t (keep_b (by simp; omega) (by simp)) (Below.refl _ _) (fun _ => rfl)
    (fun pre W => ((∃ v, Boxed W w.heap.size 32 v ∧ W.ownsRow w.heap.size 3 1 v pre.length (ri (ks pre)) ∧ True) ∧ Boxed W (w.heap.size + 1) 69 (.pointer (some ⟨b, 0, none⟩))) ∧ Below w.heap.size w W)
    (fun _ _ _ => False)
    (OwnFrom.and (OwnFrom.and (Own.from (holdsRow_own w.heap.size w.heap.size 32 3 1 (fun pre : KV => pre.length) (fun pre => ri (ks pre)) (fun _ _ => True)) _) (Own.from (boxed_own _ _ (fun _ => .pointer (some ⟨b, 0, none⟩))) _)) (ownFrom_below (Nat.le_refl _) (by simp; omega)))
    (fun _ _ _ _ _ hs _ _ => hs)
    ⟨⟨⟨_, bO.alloc _, World.ownsRow_nil _ _ _ _, trivial⟩, bN⟩, hB0⟩
    (fun x => { tmps := #[.pointer (some ⟨b, 0, none⟩), undef, .slice none 0 0, .pointer (some ⟨w.heap.size, 0, none⟩), .int .i64 x.1, .pointer (some ⟨b, 0, none⟩), .bool false, .pointer (some ⟨b, 0, none⟩), .pointer (some ⟨b, 0, none⟩), .pointer (some ⟨b, 0, none⟩), .func (.func 32) #[] #[.pointer (some ⟨w.heap.size + 1, 0, none⟩)], .int .i64 x.1, .int .i64 x.2, undef, undef, undef, undef, undef], defers := [] }) ?assign ?body ?done ?stop
  case assign =>
    intro l x W K hK
    gi_wp2
    exact hK
  case body =>
    rintro l pre x W ⟨⟨⟨v, hv, hrow, _⟩, hbx⟩, hB⟩ hlt
    have hc := hv.cell
    have hBX := Lib.hid hbx
    clear hbx
    gi_wp2_with (gi_at_builtin; refine wpListIn_append_own _ rfl _ _ 32 rfl w.heap.size 3 i0 (.int .i64 0) 1 8 Try.underlying32 hi hz0 hz1 hz2 rfl (by decide) _ _ _ rfl (hrow.alloc _) ⟨W.heap.size, 0, none⟩ 1 1 [.int .i64 x.1] rfl rfl (cell_one_new _ _ _) (by simp [Value.oneCell']) (by unfold maxLen; omega) (by omega) (by have := hB.size; simp; omega) ?_; intro v' w1 hown' hgrow _; obtain ⟨g', cap', rfl⟩ := ownsRow_succ hown'; obtain ⟨hv1, hv2, hr2, hk2, hb2⟩ := hv.appended (by decide) hrow hB.size (Nat.le_refl _) hown' hgrow; have hc1 := hv1.cell; have hf1 := hv1.frozen)
    have hx1 : Boxed w1 (w.heap.size + 1) 69 (.pointer (some ⟨b, 0, none⟩)) := (hBX.out.alloc _).kept hgrow (hBX.out.not_row (by decide) hrow)
    have hx2 := hx1.other (B' := w.heap.size) (by omega) (.slice (some ⟨g', 0, none⟩) (pre.length + 1) cap')
    refine ⟨hk2.from _, ⟨hb2, hx2.trans hBX.out.symm⟩, ⟨⟨_, hv2, ?_, trivial⟩, hx2⟩, hB.trans hb2⟩
    have e1 : (pre ++ [x]).length = pre.length + 1 := by simp
    have e2 : ri (ks (pre ++ [x])) = ri (ks pre) ++ [.int .i64 x.1] := by simp [ri, ks]
    rw [e1, e2]; exact hr2
  case done =>
    rintro D ys W hD rfl ⟨⟨⟨v, hv, hrow, _⟩, hbx⟩, hB⟩ hK
    have hc := hv.cell
    gi_wp2
    refine ⟨by simp, .inl ⟨_, _, rfl, run_takeDeferred hK, ?_⟩⟩
    exact ⟨_, results_tmp rfl _ _ _, v, rfl, ownsRow_putObj hrow _ hK rfl, hB.trans (belowK_b (w := w) (Nat.le_refl _) W D _ _ (by simp at hD; omega) hK rfl rfl)⟩
  case stop =>
    rintro D c pre W _ _ h _
    exact h.elim

/-- The rack's ids: a slice of the call's own that holds the table's keys; nothing that was there has turned. -/
theorem rids {w : World} {base b : Nat} {F : List Nat} {t : KV} {size next step : Int} (h : RackAt w base b F t size next step) (hs : (size == 0) = false) (h64 : t.length ≤ 64) :
    Calls Try.prog 10 #[.pointer (some ⟨b, 0, none⟩)] w fun e W' => ∃ v, e = .returned v ∧ Ints W' w.heap.size v (ks t) ∧ Below w.heap.size w W' := by
  obtain ⟨a, c, c0, c2, c3, c4, fz⟩ := h.at
  refine (callsIn_wide (n := 3)).1 ((ids_in Fence.wide 3 trivial trivial trivial trivial rfl (by omega) h (callsIn_wide.2 (none_made c2 hs)) h64).mono ?_)
  rintro e W' ⟨v, rfl, hr, hb⟩
  exact ⟨v, rfl, by unfold Ints; rw [ks_length]; exact hr, hb⟩

end Go.Proofs.Ytpjipdmlfpgokaa
