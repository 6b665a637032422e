/-
  The words of a line that count: counts.
-/
import Derived.Test.YtopflkfnfgcogaaDoorFields
import Derived.Test.YtopflkfnfgcogaaDoorPure2
import Derived.Maps.AppendAt
namespace Go.Proofs.YtopflkfnfgcogaaDoor
open Go.RowKit Go.Shelf Go
attribute [local go_sem] Oper.semAt_some

def toB (l : List UInt8) : ByteArray := ⟨l.toArray⟩
theorem toB_list (l : List UInt8) : (toB l).data.toList = l := rfl
theorem toB_of (s : ByteArray) : toB s.data.toList = s := rfl
theorem map_toB (xs : List ByteArray) : (xs.map (·.data.toList)).map toB = xs := by
  rw [List.map_map]
  have : (toB ∘ fun x : ByteArray => x.data.toList) = id := by funext y; rfl
  rw [this, List.map_id]

theorem info9 : (Tryd.prog.info? 9).map (fun i => (i.zero, i.size, i.bytes)) = some (some (.string ⟨#[]⟩), 1, 16) := by kernel_rfl

/-- Does a word begin a remark? -/
def markB (x : ByteArray) : Bool := mark x.data.toList

/-- Between two rounds: l's row. -/
def CI (w : World) (pre : List ByteArray) (W : World) : Prop :=
  (∃ v, Boxed W w.heap.size 39 v ∧ W.ownsRow (w.heap.size + 2) 9 1 v pre.length (pre.map Value.string)) ∧ (∀ x ∈ pre, markB x = false) ∧ w.heap.size + 2 ≤ W.heap.size ∧ Below w.heap.size w W
/-- Left at a word that begins a remark. -/
def CX (w : World) (pre : List ByteArray) (W : World) : Prop :=
  ∃ r x, pre = r ++ [x] ∧ markB x = true ∧ CI w r W

theorem CI_own (w : World) : OwnFrom (w.heap.size + 2) (CI w) := by
  rintro s A B row ⟨⟨v, hv, hr⟩, hm, hs, hb⟩ hg hrow
  refine ⟨⟨v, hv.kept hg (fun e' => ?_), hr.kept hg ?_⟩, hm, Nat.le_trans hs hg.size, hb.grown hg (by omega) (fun k e => by have := (hrow k e).1; omega)⟩
  · obtain ⟨_, o, ho, hc⟩ := hrow _ e'.symm
    rw [show A.heap[w.heap.size]? = _ from hv] at ho
    cases ho; cases hc
  rcases hr.2 with ⟨rfl, _⟩ | ⟨g, cap, cur, rfl, _, hgb, _⟩
  · exact .inl rfl
  · refine .inr fun e' => ?_
    obtain ⟨_, o, ho, hc⟩ := hrow g (by rw [← e']; rfl)
    rw [hgb] at ho
    cases ho; cases hc
theorem CX_own (w : World) : OwnFrom (w.heap.size + 2) (CX w) := by
  rintro s A B row ⟨r, x, e, hx, h⟩ hg hrow
  exact ⟨r, x, e, hx, CI_own w r A B row h hg hrow⟩

theorem counts_all {ys : List ByteArray} {l : List UInt8} (h : ys.map (·.data.toList) = fld [] l) (hm : ∀ x ∈ ys, markB x = false) : ys = (counts l).map toB := by
  unfold counts
  rw [← h, take_all, map_toB]
  intro x hx
  obtain ⟨y, hy, rfl⟩ := List.mem_map.1 hx
  have := hm y hy
  unfold markB at this
  rw [this]; rfl

theorem take_upto {α : Type} {p : α → Bool} : ∀ {r : List α} {x : α} {t : List α}, (∀ y ∈ r, p y = true) → p x = false → (r ++ x :: t).takeWhile p = r
  | [], x, t, _, hx => by simp [hx]
  | y :: r, x, t, h, hx => by
    rw [List.cons_append, List.takeWhile_cons, if_pos (h y (by simp)), take_upto (fun z hz => h z (by simp [hz])) hx]

theorem counts_upto {r : List ByteArray} {x : ByteArray} {l : List UInt8} (h : (r ++ [x]).map (·.data.toList) <+: fld [] l) (hm : ∀ y ∈ r, markB y = false) (hx : markB x = true) : r = (counts l).map toB := by
  obtain ⟨t, e⟩ := h
  unfold counts
  rw [← e, List.map_append, List.append_assoc]
  have : ([x].map (·.data.toList)) ++ t = x.data.toList :: t := rfl
  rw [this, take_upto, map_toB]
  · intro y hy
    obtain ⟨z, hz, rfl⟩ := List.mem_map.1 hy
    have := hm z hz
    unfold markB at this
    rw [this]; rfl
  · unfold markB at hx
    rw [hx]; rfl

/-- 'l = append(l, x)', l in a box: what was made ahead of the row stays. -/
theorem appended2 {W w1 : World} {n₀ R B : Nat} {t e : TypeId} {size : Nat} {v v' : Value} {k m : Nat} {xs ys : List Value} {tmp : Obj}
    (hv : Boxed W B t v) (hte : t ≠ e) (hrow : W.ownsRow R e size v k xs) (hn₀ : R ≤ W.heap.size) (hR : n₀ ≤ R) (hB : n₀ ≤ B)
    (hown' : w1.ownsRow R e size v' m ys) (hgrow : (W.alloc tmp).grownBy w1 v.ownBlock) :
    Boxed w1 B t v ∧ Boxed (w1.setCell ⟨B, 0, none⟩ v') B t v' ∧ (w1.setCell ⟨B, 0, none⟩ v').ownsRow R e size v' m ys ∧ KeepsOthers W (w1.setCell ⟨B, 0, none⟩ v') ∧ Below n₀ W (w1.setCell ⟨B, 0, none⟩ v') ∧ (∀ j, j < R → j ≠ B → (w1.setCell ⟨B, 0, none⟩ v').heap[j]? = W.heap[j]?) := by
  have weak : ∀ {X : World} {u : Value} {i : Nat} {zs : List Value}, X.ownsRow R e size u i zs → X.ownsRow n₀ e size u i zs := fun h =>
    ⟨h.1, h.2.imp id (fun ⟨g, cap, cur, a, b, c⟩ => ⟨g, cap, cur, a, by omega, c⟩)⟩
  obtain ⟨a1, a2, a3, a4, a5⟩ := hv.appended hte (weak hrow) (by omega) hB (weak hown') hgrow
  refine ⟨a1, a2, hown'.kept (grownBy_setCell' w1 B v') (.inr (a1.not_row hte hown').symm), a4, a5, fun j hj hjB => ?_⟩
  have hj' : j < (W.alloc tmp).heap.size := by simp; omega
  refine (Below.heap_setCell _ _ _ j hjB).trans ((hgrow.block j hj' ?_).trans (Below.heap_alloc W _ j (by omega)))
  rcases hrow.2 with ⟨rfl, _⟩ | ⟨g, cap, cur, rfl, hg, _, _⟩
  · simp [Value.ownBlock]
  · intro e'
    have : j = g := by simpa [Value.ownBlock] using e'
    omega

theorem len_fld (l w : List UInt8) : (fld w l).length ≤ w.length + l.length + 1 := by
  have h := wt_fld l w
  have : ∀ xs : List (List UInt8), xs.length ≤ wt xs := fun xs => by
    induction xs with
    | nil => simp
    | cons x r ih => simp [wt] at ih ⊢; omega
  have := this (fld w l)
  omega

def CountsPost (s : ByteArray) (w : World) (e : Ending) (W : World) : Prop :=
  ∃ v, e = .returned v ∧ W.ownsRow w.heap.size 9 1 v (counts s.data.toList).length ((counts s.data.toList).map (fun l => Value.string (toB l))) ∧ Below w.heap.size w W

theorem counts_row {W : World} {base base' : Nat} {v : Value} {xs : List (List UInt8)} (h : W.ownsRow base 9 1 v (xs.map toB).length ((xs.map toB).map Value.string)) (hb : base' ≤ base) : W.ownsRow base' 9 1 v xs.length (xs.map (fun l => Value.string (toB l))) := by
  rw [List.length_map, List.map_map] at h
  exact ⟨h.1, h.2.imp id (fun ⟨g, cap, cur, a, b, c⟩ => ⟨g, cap, cur, a, by omega, c⟩)⟩

set_option maxRecDepth 100000 in
set_option maxHeartbeats 4000000 in
theorem counts_in (F : Fence) (n : Nat) (h14 : F.fn 14) (h23 : F.fn 23) (h24 : F.fn 24) (h30 : F.fn 30) (hro : F.round = none) (hn : 3 ≤ n) (s : ByteArray) (hm : s.size ≤ 100000) (hlb : ∀ c ∈ s.data.toList, lb c) (w : World) (hT : Tab w) (hz : 0 < w.heap.size)
    (I23 : ∀ (x : ByteArray) (w : World), CallsIn F (n - 1) Tryd.prog 23 #[.string x] w fun e w' => e = .returned (.func (.func 30) #[] #[.pointer (some ⟨w.heap.size, 0, none⟩)]) ∧ w.alloc (.cells #[.string x] 9) = w')
    (I24 : ∀ (l : Nat) (t : ByteArray) (w : World), CallsIn (F.inRound l) (n - 1 - 1 - 1) Tryd.prog 24 #[.string t, .string ⟨#[35]⟩] w fun e w' => e = .returned (.bool (markB t)) ∧ w = w') :
    CallsIn F n Tryd.prog 14 #[.string s] w (CountsPost s w) := by
  have h1 : 1 ≤ n := by omega
  obtain ⟨i0, hi, hz0, hz1, hz2⟩ := info_parts info9
  replace hT := Lib.hid hT
  refine callsIn_of_wp_marks Tryd.func14 rfl h14 ?_ hro
  simp only [Tryd.ntmps14, List.size_toArray, List.length_cons, List.length_nil, Nat.reduceAdd, Nat.reduceSub, Array.replicate_succ, Array.replicate_zero, List.push_toArray, List.append_toArray, List.nil_append, List.cons_append]
  gi_wp2_with (gi_at_call 23; refine (I23 _ _).mono ?_; rintro e w' ⟨rfl, rfl⟩)
  have b0 := (Boxed.new w 39 (.slice none 0 0)).alloc (.cells #[.string s] 9)
  have b1 := Boxed.new (w.alloc (.cells #[.slice none 0 0] 39)) 9 (.string s)
  rw [World.size_alloc] at b1
  have hB0 : Below w.heap.size w ((w.alloc (.cells #[.slice none 0 0] 39)).alloc (.cells #[.string s] 9)) := ((Below.refl _ w).alloc (Nat.le_refl _) _).alloc (by simp) _
  have hWs : ((w.alloc (.cells #[.slice none 0 0] 39)).alloc (.cells #[.string s] 9)).heap.size = w.heap.size + 2 := by simp
  obtain ⟨W0, hW0⟩ : ∃ W0, (w.alloc (.cells #[.slice none 0 0] 39)).alloc (.cells #[.string s] 9) = W0 := ⟨_, rfl⟩
  rw [hW0] at b0 b1 hB0 hWs ⊢
  clear hW0
  have hIo : OwnFrom W0.heap.size (CI w) := by rw [hWs]; exact CI_own w
  have hXo : ∀ c, OwnFrom W0.heap.size (fun pre W => c = Code.exit 0 ∧ CX w pre W) := fun c s A B row hs hg hr => ⟨hs.1, by have := CX_own w; rw [← hWs] at this; exact this s A B row hs.2 hg hr⟩
  have hln : (fld [] s.data.toList).length ≤ 100001 := by
    have := len_fld s.data.toList []
    rw [data_len] at this
    simp at this
    omega
  refine wpIn_rangeFunc_ownG hro h1 (gf := 30) (lb := #[.pointer (some ⟨w.heap.size + 1, 0, none⟩)]) rfl h30 (enters_of Tryd.func30 (by kernel_rfl) rfl)
    (fields_stops F (n - 1) h30 hro (by omega) (w.heap.size + 1) w.heap.size hz s (by omega) hlb W0 b1 (hT.out.below hz hB0) (by omega)) keepF_t (keepF_b (by omega) (by omega)) (Below.refl _ _) (fun _ => rfl)
    (CI w) (fun c pre W => c = Code.exit 0 ∧ CX w pre W) hIo hXo
    ⟨⟨_, b0, World.ownsRow_nil _ _ _ _⟩, by simp, by omega, hB0⟩
    (fun x => { tmps := #[.string s, undef, .slice none 0 0, .pointer (some ⟨w.heap.size, 0, none⟩), .string x, .string s, .func (.func 30) #[] #[.pointer (some ⟨w.heap.size + 1, 0, none⟩)], .string x, undef, undef, undef, undef, undef, undef, undef], defers := [] }) ?assign ?body ?done ?stop
  case assign =>
    intro l x W K hK
    gi_wp2
    exact hK
  case body =>
    rintro l pre x W ⟨⟨v, hv, hrow⟩, hmk, hsz, hB⟩ hlt
    have hpl : pre.length < 100001 := by omega
    have hc := hv.cell
    have h11 : F.depth.isSome = true → 1 ≤ n - 1 - 1 := fun _ => by omega
    replace hmk := Lib.hid hmk
    have e1 : (pre ++ [x]).length = pre.length + 1 := by simp
    have e2 : (pre ++ [x]).map Value.string = pre.map Value.string ++ [.string x] := by simp
    replace e1 := Lib.hid e1
    replace e2 := Lib.hid e2
    clear b0 b1 hlt hln
    cases hx : markB x with
    | true =>
      replace hx := Lib.hid hx
      gi_wp2_with (refine ⟨h11, ?_⟩; refine (I24 l _ _).mono ?_; rintro e w' ⟨rfl, rfl⟩; rw [hx.out])
      exact ⟨KeepsFrom.refl _ _, rfl, pre, x, rfl, hx.out, ⟨_, hv, hrow⟩, hmk.out, hsz, hB⟩
    | false =>
      replace hx := Lib.hid hx
      gi_wp2_with (first | (gi_at_builtin; refine wpListIn_append_own _ rfl _ _ 39 rfl (w.heap.size + 2) 9 i0 (.string ⟨#[]⟩) 1 16 Tryd.underlying39 hi hz0 hz1 hz2 rfl (by decide) _ _ _ rfl (hrow.alloc _) ⟨W.heap.size, 0, none⟩ 1 1 [.string x] rfl rfl (cell_one_new _ _ _) (by simp [Value.oneCell']) (by unfold maxLen; omega) (by omega) (by simp; omega) ?_; intro v' w1 hown' hgrow _; obtain ⟨g', cap', rfl⟩ := ownsRow_succ hown'; obtain ⟨hv1, hv2, hr2, hk2, hb2, hj2⟩ := appended2 (n₀ := w.heap.size) hv (by decide) hrow hsz (by omega) (Nat.le_refl _) hown' hgrow; have hc1 := hv1.cell; have hf1 := hv1.frozen; have hc2 := hv2.cell) | (refine ⟨h11, ?_⟩; refine (I24 l _ _).mono ?_; rintro e w' ⟨rfl, rfl⟩; rw [hx.out]))
      have hs2 := hb2.size
      refine ⟨hk2.from _, ⟨hb2, hj2 _ (by omega) (by omega)⟩, ⟨_, hv2, ?_⟩, fun y hy => ?_, Nat.le_trans hsz hs2, hB.trans hb2⟩
      · rw [e1.out, e2.out]; exact hr2
      · simp at hy
        rcases hy with hy | rfl
        · exact hmk.out y hy
        · exact hx.out
  case done =>
    rintro D ys W hD hS ⟨⟨v, hv, hrow⟩, hmk, hsz, hB⟩ hK
    obtain rfl := counts_all hS hmk
    have hc := hv.cell
    replace hrow := Lib.hid hrow
    clear hmk hS b0 b1
    gi_wp2
    refine ⟨by simp, .inl ⟨_, _, rfl, run_takeDeferred hK, ?_⟩⟩
    refine ⟨_, results_tmp rfl _ _ _, v, rfl, ?_, hB.trans (belowK_b (w := w) (Nat.le_refl _) W D _ _ (by omega) hK rfl rfl)⟩
    exact counts_row (ownsRow_putObj hrow.out _ hK rfl) (by omega)
  case stop =>
    rintro D c pre W hD hS ⟨rfl, r, x, rfl, hx, ⟨v, hv, hrow⟩, hmk, hsz, hB⟩ hK
    obtain rfl := counts_upto hS hmk hx
    have hc := hv.cell
    replace hrow := Lib.hid hrow
    clear hmk hS b0 b1
    gi_wp2
    refine ⟨by simp, .inl ⟨_, _, rfl, run_takeDeferred hK, ?_⟩⟩
    refine ⟨_, results_tmp rfl _ _ _, v, rfl, ?_, hB.trans (belowK_b (w := w) (Nat.le_refl _) W D _ _ (by omega) hK rfl rfl)⟩
    exact counts_row (ownsRow_putObj hrow.out _ hK rfl) (by omega)

theorem hasPrefix_any (t : ByteArray) (w : World) : Calls Tryd.prog 24 #[.string t, .string ⟨#[35]⟩] w fun e w' => e = .returned (.bool (markB t)) ∧ w = w' := by
  refine (Tryd.strings_HasPrefix t ⟨#[35]⟩ w).mono ?_
  rintro e w' ⟨rfl, rfl⟩
  refine ⟨?_, rfl⟩
  have : Lib.hasPrefix t.data.toList [35] = markB t := by
    unfold markB mark
    cases t.data.toList with
    | nil => rfl
    | cons c r =>
      by_cases h : c = 35
      · subst h; simp [Lib.hasPrefix]
      · have h' : ¬ (35 : UInt8) = c := fun e => h e.symm
        simp only [Lib.hasPrefix, List.isPrefixOf, List.head?_cons]
        rw [Bool.and_true, Bool.eq_iff_iff]
        simp [h, h']
  exact congrArg (fun b => Ending.returned (.bool b)) this

theorem counts_any (s : ByteArray) (hm : s.size ≤ 100000) (hlb : ∀ c ∈ s.data.toList, lb c) (w : World) (hT : Tab w) (hz : 0 < w.heap.size) : Calls Tryd.prog 14 #[.string s] w (CountsPost s w) := by
  refine (callsIn_wide (n := 3)).1 (counts_in Fence.wide 3 trivial trivial trivial trivial rfl (by omega) s hm hlb w hT hz ?_ ?_)
  · intro x w
    refine callsIn_wide.2 ((fields_any x w).mono ?_)
    rintro e w' ⟨rfl, rfl⟩
    exact ⟨rfl, rfl⟩
  · exact fun l t w => CallsIn.inRound l (callsIn_wide.2 (hasPrefix_any t w))
end Go.Proofs.YtopflkfnfgcogaaDoor
