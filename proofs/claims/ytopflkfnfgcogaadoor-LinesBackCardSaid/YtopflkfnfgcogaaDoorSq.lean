/-
  Split of a text that may be one: its contract.
-/
import Derived.Test.YtopflkfnfgcogaaDoorSp
namespace Go.Proofs.YtopflkfnfgcogaaDoor
open Go.RowKit Go.Shelf Go
attribute [local go_sem] Oper.semAt_some

theorem info39 : (Tryd.prog.info? 39).map (fun i => (i.zero, i.size, i.bytes)) = some (some (.slice none 0 0), 1, 24) := by kernel_rfl

/-- The lines of what has come. -/
def linesOf (pre : List ByteArray) : List (List ByteArray) := ((pre.map (fun x => counts x.data.toList)).filter some0).map (·.map toB)

theorem linesOf_snoc (pre : List ByteArray) (x : ByteArray) : linesOf (pre ++ [x]) = linesOf pre ++ (if counts x.data.toList = [] then [] else [(counts x.data.toList).map toB]) := by
  unfold linesOf
  rw [List.map_append, List.filter_append, List.map_append]
  congr 1
  rw [List.map_cons, List.map_nil, some0_one]
  split <;> simp

theorem linesOf_all {s : ByteArray} {ys : List ByteArray} (h : ys.map (·.data.toList) = parts 10 s.data.toList) : linesOf ys = (splitL s.data.toList).map (·.map toB) := by
  unfold linesOf splitL
  rw [← h, List.map_map]
  rfl

theorem linesOf_len (pre : List ByteArray) : (linesOf pre).length ≤ pre.length := by
  unfold linesOf
  rw [List.length_map]
  have := List.length_filter_le some0 (pre.map (fun x => counts x.data.toList))
  simpa using this

/-- Between two rounds: out's row. -/
def LI (w : World) (pre : List ByteArray) (W : World) : Prop :=
  (∃ v, Boxed W (w.heap.size + 1) 22 v ∧ LL W (w.heap.size + 5) v (linesOf pre)) ∧ w.heap.size + 5 ≤ W.heap.size ∧ Below w.heap.size w W

theorem LI_own (w : World) : OwnFrom (w.heap.size + 5) (LI w) := by
  rintro s A B row ⟨⟨v, hv, hl⟩, hs, hb⟩ hg hrow
  refine ⟨⟨v, hv.kept hg (fun e' => ?_), hl.kept hg (fun r e => .inr fun cur t ht => ?_)⟩, Nat.le_trans hs hg.size, hb.grown hg (by omega) (fun k e => by have := (hrow k e).1; omega)⟩
  · obtain ⟨_, o, ho, hc⟩ := hrow _ e'.symm
    rw [show A.heap[_]? = _ from hv] at ho
    cases ho; cases hc
  · obtain ⟨_, o, ho, hc⟩ := hrow r e
    rw [ht] at ho
    cases ho; cases hc

theorem LI_turn {w : World} {s : List ByteArray} {A B : World} (h : LI w s A) (ht : TurnS (w.heap.size + 2) A B) : LI w s B := by
  obtain ⟨u, rfl⟩ := ht
  obtain ⟨⟨v, hv, hl⟩, hs, hb⟩ := h
  exact ⟨⟨v, hv.other (by omega) _, hl.kept (grownBy_setCell' _ _ _) (fun r e => .inl (by cases e; omega))⟩, by simpa using hs, hb.setCell (p := ⟨_, 0, none⟩) (by simp) _⟩

theorem keepS_t {n₀ Bp Bs Bv : Nat} {A B C : World} (h : KeepS n₀ Bp Bs Bv A B) (k : KeepS n₀ Bp Bs Bv B C) : KeepS n₀ Bp Bs Bv A C := ⟨h.1.trans k.1, fun i hi => (k.2 i hi).trans (h.2 i hi)⟩
theorem keepS_b {n₀ Bp Bs Bv m : Nat} (hn : n₀ ≤ m) (hp : Bp < m) (hs : Bs < m) (hv : Bv < m) (W : World) (l : Nat) (o o' : Obj) (hl : m ≤ l) (ho : W.heap[l]? = some o) (_ : o.isCells = false) (_ : o.isWalk = false) : KeepS n₀ Bp Bs Bv W (W.putObj l o') :=
  ⟨(Below.refl n₀ W).grown (grownBy_putObj' W l o') (by have := (Array.getElem?_eq_some_iff.1 ho).1; omega) (fun k e => by cases e; omega), fun k hk => World.putObj_heap_other (by omega)⟩

theorem line_bytes {s x : ByteArray} (hg : s.data.toList.all good = true) (hx : x.data.toList ∈ parts 10 s.data.toList) : ∀ c ∈ x.data.toList, lb c := fun c hc => by
  obtain ⟨h1, h2⟩ := mem_parts hx c hc
  have := good_cases (List.all_eq_true.1 hg c h2)
  rcases this with h | h
  · exfalso
    apply h1
    have : c = UInt8.ofNat c.toNat := by simp
    rw [this, h]; rfl
  · exact h

theorem len_parts_le (c : UInt8) (l : List UInt8) : (parts c l).length ≤ l.length + 1 := by
  have h := len_parts c l
  have : ∀ xs : List (List UInt8), xs.length ≤ (xs.map (fun p => p.length + 1)).sum := fun xs => by
    induction xs with
    | nil => simp
    | cons x r ih => simp at ih ⊢; omega
  have := this (parts c l)
  omega

theorem LL.put {A : World} {base l : Nat} {v : Value} {xss : List (List ByteArray)} {o : Obj} (h : LL A base v xss) (o' : Obj) (hl : A.heap[l]? = some o) (ho : o.isCells = false) : LL (A.putObj l o') base v xss :=
  h.kept (grownBy_putObj' A l o') (fun r e => .inr fun cur t ht => by cases e; rw [hl] at ht; cases ht; cases ho)

theorem LL.lower {A : World} {base base' : Nat} {v : Value} {xss : List (List ByteArray)} (h : LL A base v xss) (hb : base' ≤ base) : LL A base' v xss := by
  have lo : ∀ {e : TypeId} {n : Nat} {u : Value} {ys : List Value}, A.ownsRow base e 1 u n ys → A.ownsRow base' e 1 u n ys := fun h =>
    ⟨h.1, h.2.imp id (fun ⟨g, cap, cur, a, b, c⟩ => ⟨g, cap, cur, a, by omega, c⟩)⟩
  obtain ⟨cells, h1, h2⟩ := h
  exact ⟨cells, lo h1, fun i xs c hi hc => lo (h2 i xs c hi hc)⟩

theorem own_shape {W : World} {base n : Nat} {e : TypeId} {v : Value} {xs : List Value} (h : W.ownsRow base e 1 v n xs) : ∃ a c, v = .slice a n c := by
  rcases h.2 with ⟨h1, h2⟩ | ⟨g, cap, cur, hv, _⟩
  · exact ⟨none, 0, by rw [h1, h2]⟩
  · exact ⟨_, _, hv⟩

theorem keepsFrom_below {A B : World} {m : Nat} (h : Below A.heap.size A B) : KeepsFrom m A B :=
  ⟨h.size, fun i o _ hi _ => (h.block i (Array.getElem?_eq_some_iff.1 hi).1).trans hi⟩

set_option maxRecDepth 100000 in
set_option maxHeartbeats 4000000 in
theorem splitg_in (F : Fence) (n : Nat) (h6 : F.fn 6) (h13 : F.fn 13) (h14 : F.fn 14) (h27 : F.fn 27) (h29 : F.fn 29) (hro : F.round = none) (hn : 4 ≤ n) (s : ByteArray) (hs : ¬ 4096 < s.size) (hg : s.data.toList.all good = true) (w : World) (hT : Tab w) (hz : 0 < w.heap.size)
    (I13 : ∀ (x y : ByteArray) (w : World), CallsIn F (n - 1) Tryd.prog 13 #[.string x, .string y] w fun e w' => e = .returned (seqFunc w) ∧ seqWorld x y w = w')
    (I29 : ∀ (t : ByteArray) (w : World), CallsIn F (n - 1 - 1) Tryd.prog 29 #[.string t, .string ⟨#[10]⟩] w fun e w' => e = .returned (.int .i64 (Lib.indexByte t.data.toList 10)) ∧ w = w')
    (I14 : ∀ (l : Nat) (t : ByteArray), t.size ≤ 100000 → (∀ c ∈ t.data.toList, lb c) → ∀ (w : World), Tab w → 0 < w.heap.size → CallsIn (F.inRound l) (n - 1 - 1 - 1) Tryd.prog 14 #[.string t] w (CountsPost t w)) :
    CallsIn F n Tryd.prog 6 #[.string s] w (SplitPost s w) := by
  have h1 : 1 ≤ n := by omega
  obtain ⟨i0, hi, hz0, hz1, hz2⟩ := info_parts info39
  have hp : Hid (split s.data.toList = (splitL s.data.toList, 0)) := Lib.hid (by unfold split; rw [if_neg (by rw [data_len]; exact hs), if_pos hg])
  replace hT := Lib.hid hT
  replace hg := Lib.hid hg
  refine callsIn_of_wp_marks Tryd.func6 rfl h6 ?_ hro
  simp only [Tryd.ntmps6, List.size_toArray, List.length_cons, List.length_nil, Nat.reduceAdd, Nat.reduceSub, Array.replicate_succ, Array.replicate_zero, List.push_toArray, List.append_toArray, List.nil_append, List.cons_append]
  gi_wp2
  gi_loopw [5] (fun _ wr => ∃ k : Nat, k ≤ s.size ∧ wr = w.iter s k) (fun _ wr => s.size - wr.iterPos w.heap.size)
  case atStart => exact ⟨0, Nat.zero_le _, rfl⟩
  case round =>
    obtain ⟨k, hk, rfl⟩ := hrel
    by_cases hlt : k < s.size
    · have hc : good (s[k]'hlt) = true := List.all_eq_true.1 hg.out _ (List.mem_of_getElem? (data_at s hlt))
      have h1 := good_cases hc
      have ha : (s[k]'hlt).toNat < 128 := by omega
      have hnx : ∀ ty, (Instr.next (.pointer (some ⟨w.heap.size, 0, none⟩)) true ty).run Tryd.prog (w.iter s k) = _ := fun ty => run_next_ascii w s k ty hlt ha
      clear hc
      rcases h1 with h1 | ⟨h1, h2⟩
      · have hx : ((s[k]'hlt).toNat : Int) = 10 := by omega
        clear ha
        gi_wp2
        go_roundw
        case rel => exact ⟨k + 1, by omega, rfl⟩
        case measure => simp; omega
      · have hx1 : (32 : Int) ≤ ((s[k]'hlt).toNat : Int) := by omega
        have hx2 : ((s[k]'hlt).toNat : Int) ≤ 126 := by omega
        have hx3 : (((s[k]'hlt).toNat : Int) != 10) = true := by simp; omega
        clear ha
        gi_wp2
        go_roundw
        case rel => exact ⟨k + 1, by omega, rfl⟩
        case measure => simp; omega
    · obtain rfl : k = s.size := by omega
      have hnx : ∀ ty, (Instr.next (.pointer (some ⟨w.heap.size, 0, none⟩)) true ty).run Tryd.prog (w.iter s s.size) = _ := fun ty => run_next_end w s s.size ty (by omega)
      gi_wp2_with (gi_at_call 13; refine (I13 _ _ _).mono ?_; rintro e w' ⟨rfl, rfl⟩)
      have hit : (w.iter s s.size).heap.size = w.heap.size + 1 := by simp [World.iter]
      have hsf : seqFunc ((w.iter s s.size).alloc (.cells #[.slice none 0 0] 22)) = .func (.func 27) #[] #[.pointer (some ⟨w.heap.size + 3, 0, none⟩), .pointer (some ⟨w.heap.size + 2, 0, none⟩), .pointer (some ⟨w.heap.size + 4, 0, none⟩)] := by simp [seqFunc, hit]
      rw [hsf, hit]
      clear hsf hnx
      have b0 := Boxed.new (w.iter s s.size) 22 (.slice none 0 0)
      have hB0 : Below w.heap.size w ((w.iter s s.size).alloc (.cells #[.slice none 0 0] 22)) := (below_iter w s _).alloc (by omega) _
      rw [hit] at b0
      obtain ⟨V, hV⟩ : ∃ V, (w.iter s s.size).alloc (.cells #[.slice none 0 0] 22) = V := ⟨_, rfl⟩
      have hVs : V.heap.size = w.heap.size + 2 := by rw [← hV]; simp [hit]
      rw [hV] at b0 hB0 ⊢
      clear hV hit
      have c4 := Boxed.new V 9 (.string s)
      have c5 := Boxed.new (V.alloc (.cells #[.string s] 9)) 9 (.string ⟨#[10]⟩)
      have c6 := Boxed.new ((V.alloc (.cells #[.string s] 9)).alloc (.cells #[.string ⟨#[10]⟩] 9)) 3 (.int .i64 0)
      replace c4 := (c4.alloc (.cells #[.string ⟨#[10]⟩] 9)).alloc (.cells #[.int .i64 0] 3)
      replace c5 := c5.alloc (.cells #[.int .i64 0] 3)
      replace b0 := ((b0.alloc (.cells #[.string s] 9)).alloc (.cells #[.string ⟨#[10]⟩] 9)).alloc (.cells #[.int .i64 0] 3)
      replace hB0 := ((hB0.alloc (by omega) (.cells #[.string s] 9)).alloc (by simp; omega) (.cells #[.string ⟨#[10]⟩] 9)).alloc (by simp; omega) (.cells #[.int .i64 0] 3)
      have hWs : (seqWorld s ⟨#[10]⟩ V).heap.size = w.heap.size + 5 := by simp [seqWorld, hVs]
      simp only [World.size_alloc, hVs] at c4 c5 c6
      obtain ⟨W0, hW0⟩ : ∃ W0, seqWorld s ⟨#[10]⟩ V = W0 := ⟨_, rfl⟩
      rw [show ((V.alloc (.cells #[.string s] 9)).alloc (.cells #[.string ⟨#[10]⟩] 9)).alloc (.cells #[.int .i64 0] 3) = W0 from hW0] at b0 c4 c5 c6 hB0
      rw [hW0] at hWs ⊢
      clear hW0 hVs
      have hIo : OwnFrom W0.heap.size (LI w) := by rw [hWs]; exact LI_own w
      have hNl : (parts 10 s.data.toList).length ≤ 4097 := by
        have := len_parts_le 10 s.data.toList
        rw [data_len] at this
        omega
      refine wpIn_rangeFunc_turns hro h1 (gf := 27) (lb := #[.pointer (some ⟨w.heap.size + 3, 0, none⟩), .pointer (some ⟨w.heap.size + 2, 0, none⟩), .pointer (some ⟨w.heap.size + 4, 0, none⟩)]) rfl h27 (enters_of Tryd.func27 (by kernel_rfl) rfl)
        (split_stops F (n - 1) h27 h29 hro (by omega) w.heap.size (w.heap.size + 3) (w.heap.size + 2) (w.heap.size + 4) 10 s (by omega) I29 (by omega) (by omega) W0 c5 c4 c6) keepS_t (keepS_b (by omega) (by omega) (by omega) (by omega)) (Below.refl _ _) (fun _ => rfl)
        (fun A B ht k hk => by obtain ⟨u, rfl⟩ := ht; exact Below.heap_setCell _ _ _ k (by show k ≠ w.heap.size + 2; omega))
        (LI w) (fun _ _ _ => False) hIo (fun _ _ _ _ _ hs _ _ => hs) (fun s A B hs ht => LI_turn hs ht)
        ⟨⟨_, b0, LL.nil _ _⟩, by omega, hB0⟩
        (fun x => { tmps := #[.string s, undef, u2, u3, undef, u5, .pointer (some ⟨w.heap.size + 1, 0, none⟩), .string x, undef, .string s, .int .i64 s.size, .bool (decide (4096 < (s.size : Int))), .string s, .pointer (some ⟨w.heap.size, 0, none⟩), .tuple #[.bool false], .bool false, u16, u17, u18, u19, u20, u21, u22, u23, u24, u25, u26, .string s, .func (.func 27) #[] #[.pointer (some ⟨w.heap.size + 3, 0, none⟩), .pointer (some ⟨w.heap.size + 2, 0, none⟩), .pointer (some ⟨w.heap.size + 4, 0, none⟩)], .string x, undef, undef, undef, undef, undef, undef, undef, undef, undef, undef], defers := [] }) ?assign ?body ?done ?stop
      case assign =>
        intro l x W K hK
        gi_wp2
        exact hK
      case body =>
        rintro l pre x W ⟨⟨v, hv, hl⟩, hsz, hB⟩ hlt ⟨hv1, hv2⟩
        have hpl : (linesOf pre).length ≤ 4097 := by have := linesOf_len pre; omega
        have h11 : F.depth.isSome = true → 1 ≤ n - 1 - 1 := fun _ => by omega
        have hlb := Lib.hid (line_bytes hg.out hv2)
        have hTW : Hid (Tab W) := Lib.hid (hT.out.below hz hB)
        have hzW : 0 < W.heap.size := by omega
        clear b0 c4 c5 c6 hlt hNl hv2
        replace hv := Lib.hid hv
        replace hl := Lib.hid hl
        have hcr := Lib.hid (linesOf_snoc pre x)
        by_cases hcnt : counts x.data.toList = []
        · have hn0 : (counts x.data.toList).length = 0 := by rw [hcnt]; rfl
          replace hcnt := Lib.hid hcnt
          gi_wp2_with (refine ⟨h11, ?_⟩; refine (I14 l x (by omega) hlb.out _ hTW.out hzW).mono ?_; rintro e W1 ⟨u, rfl, hu, hBu⟩; obtain ⟨a1, k1, rfl⟩ := own_shape hu; rw [hn0]; clear hu)
          have hBu2 := hBu
          refine ⟨?_, ⟨hBu2.mono (by omega), fun k hk => hBu2.block k (by omega)⟩, ⟨⟨v, (hBu2.block _ hv.out.lt).trans hv.out, ?_⟩, Nat.le_trans hsz hBu2.size, hB.trans (hBu2.mono (by omega))⟩⟩
          · exact keepsFrom_below hBu2
          · rw [hcr.out, if_pos hcnt.out, List.append_nil]; exact hl.out.below hBu2
        · have hn0 : 0 < (counts x.data.toList).length := List.length_pos_iff.2 hcnt
          replace hcnt := Lib.hid hcnt
          gi_wp2_with (first | (refine ⟨h11, ?_⟩; refine (I14 l x (by omega) hlb.out _ hTW.out hzW).mono ?_; rintro e W1 ⟨u, rfl, hu, hBu⟩; obtain ⟨a1, k1, rfl⟩ := own_shape hu; have hb1 : Boxed W1 (w.heap.size + 1) 22 v := (hBu.block _ hv.out.lt).trans hv.out; have hbc := hb1.cell; obtain ⟨cells, hrow, hinn⟩ := hl.out.below hBu; replace hinn := Lib.hid hinn; replace hu := Lib.hid hu; have hsz1 : w.heap.size + 5 ≤ W1.heap.size := Nat.le_trans hsz hBu.size) | (gi_at_builtin; refine wpListIn_append_own _ rfl _ _ 22 rfl (w.heap.size + 5) 39 i0 (.slice none 0 0) 1 24 Tryd.underlying22 hi hz0 hz1 hz2 rfl (by decide) _ _ _ rfl (hrow.alloc _) ⟨W1.heap.size, 0, none⟩ 1 1 [.slice a1 (counts x.data.toList).length k1] rfl rfl (cell_one_new _ _ _) (by simp [Value.oneCell']) (by unfold maxLen; omega) (by omega) (by simp; omega) ?_; intro v' w1 hown' hgrow _; obtain ⟨g', cap', rfl⟩ := ownsRow_succ hown'; obtain ⟨hv1, hv2, hr2, hk2, hb2, hj2⟩ := appended2 (n₀ := w.heap.size) hb1 (by decide) hrow hsz1 (by omega) (by omega) hown' hgrow; have hc1 := hv1.cell; have hf1 := hv1.frozen; have hc2 := hv2.cell))
          have hu2 : W1.ownsRow W.heap.size 9 1 (.slice a1 (counts x.data.toList).length k1) ((counts x.data.toList).map toB).length (((counts x.data.toList).map toB).map Value.string) := by
            rw [List.length_map, List.map_map]; exact hu.out
          have hl2 := LL.snoc hrow hinn.out hu2 hsz hown' hgrow
          have hl3 := hl2.kept (grownBy_setCell' w1 (w.heap.size + 1) (.slice (some ⟨g', 0, none⟩) ((linesOf pre).length + 1) cap')) (fun r e => .inr fun cur t ht => by
            cases e
            rw [show w1.heap[w.heap.size + 1]? = _ from hv1] at ht
            cases ht
            decide)
          have hsz2 := hb2.size
          have hBu2 : Below W.heap.size W W1 := hBu
          refine ⟨(keepsFrom_below hBu2).trans (hk2.from _), ⟨(hBu2.mono (by omega)).trans hb2, fun k hk => (hj2 k (by omega) (by omega)).trans (hBu2.block k (by omega))⟩, ⟨⟨_, hv2, ?_⟩, Nat.le_trans hsz1 hsz2, (hB.trans (hBu2.mono (by omega))).trans hb2⟩⟩
          rw [hcr.out, if_neg hcnt.out]
          exact hl3
      case done =>
        rintro D ys W hD hS ⟨⟨v, hv, hl⟩, hsz, hB⟩ hK
        rw [linesOf_all hS] at hl
        have hc := hv.cell
        replace hl := Lib.hid hl
        clear hS b0 c4 c5 c6
        gi_wp2
        refine ⟨by simp, .inl ⟨_, _, rfl, run_takeDeferred hK, ?_⟩⟩
        refine ⟨.tuple #[v, .int .i64 0], ?_, v, by rw [hp.out], by rw [hp.out]; exact (hl.out.put _ hK rfl).lower (by omega), hB.trans (belowK_b (w := w) (Nat.le_refl _) W D _ _ (by omega) hK rfl rfl)⟩
        simp [results, Tryd.f6, go_sem]
      case stop =>
        rintro D c pre W _ _ h _
        exact h.elim

theorem split_any (s : ByteArray) (w : World) (hT : Tab w) (hz : 0 < w.heap.size) : Calls Tryd.prog 6 #[.string s] w (SplitPost s w) := by
  by_cases hs : 4096 < s.size
  · exact split_long hs w
  · cases hg : s.data.toList.all good with
    | false => exact split_bad hs hg w
    | true =>
      refine (callsIn_wide (n := 4)).1 (splitg_in Fence.wide 4 trivial trivial trivial trivial trivial rfl (by omega) s hs hg w hT hz ?_ ?_ ?_)
      · exact fun x y w => callsIn_wide.2 (seq_any x y w)
      · intro t w
        refine callsIn_wide.2 ((Tryd.strings_Index_one t 10 w).mono ?_)
        rintro e w' ⟨rfl, rfl⟩
        exact ⟨rfl, rfl⟩
      · exact fun l t h1 h2 w h3 h4 => CallsIn.inRound l (callsIn_wide.2 (counts_any t h1 h2 w h3 h4))
end Go.Proofs.YtopflkfnfgcogaaDoor
