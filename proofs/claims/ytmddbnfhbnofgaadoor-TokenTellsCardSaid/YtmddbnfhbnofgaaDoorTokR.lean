/-
  Parse: its contract.
-/
import Derived.Test.YtmddbnfhbnofgaaDoorTokQ
namespace Go.Proofs.YtmddbnfhbnofgaaDoor
open Go.RowKit Go.Shelf Go
attribute [local go_sem] Oper.semAt_some

def ParsePost (c : UInt8) (s : ByteArray) (w : World) (e : Ending) (W : World) : Prop :=
  ∃ a k, e = .returned (.tuple #[.slice a (prs c s).1.length k, .int .i64 (prs c s).2]) ∧ Strs W a (prs c s).1.length (prs c s).1 ∧ Below w.heap.size w W ∧ (prs c s).1.length ≤ k

theorem row_cap0 {w : World} {base n c : Nat} {a : Option Addr} {xs : List Value} (h : w.ownsRow base 9 1 (.slice a n c) n xs) : n ≤ c := by
  rcases h.2 with ⟨_, h2⟩ | ⟨g, cap, cur, hv, _, _, hc, _⟩
  · omega
  · cases hv; exact hc

theorem strs_nil (w : World) (a : Option Addr) : Strs w a 0 [] := ⟨rfl, by simp, .inl rfl⟩

theorem parse_bad {c : UInt8} {s : ByteArray} {w W : World} {e : Int} (h : prs c s = ([], e)) (hB : Below w.heap.size w W) : ParsePost c s w (.returned (.tuple #[.slice none 0 0, .int .i64 e])) W := by
  refine ⟨none, 0, ?_, ?_, hB, ?_⟩
  · rw [h]; rfl
  · rw [h]; exact strs_nil _ _
  · rw [h]; exact Nat.le_refl _

theorem may_long {xs : List ByteArray} (h : 8 < xs.length) : may xs = false := by
  unfold may
  rw [decide_eq_false (by omega), Bool.false_and]
theorem may_badid {xs : List ByteArray} {x : ByteArray} (h : isId x = false) : may (xs ++ [x]) = false := by
  unfold may
  simp [h]
theorem may_snoc {xs : List ByteArray} {x : ByteArray} (hm : may xs = true) (h : isId x = true) (hl : xs.length + 1 ≤ 8) : may (xs ++ [x]) = true := by
  refine may_mk (by simp; omega) (fun y hy => ?_)
  simp at hy
  rcases hy with hy | rfl
  · exact (may_all hm).2 y hy
  · exact h

/-- A text of one byte. -/
theorem conv_one (c : UInt8) (W : World) (b : Nat) (h : W.cell? ⟨b, 0, none⟩ = some (.int .u8 c.toNat)) : (convert 48 9 (.slice (some ⟨b, 0, none⟩) 1 1)).run Tryd.prog W = .ok (.string ⟨#[c]⟩) W :=
  run_convert_bytes_back W 48 9 5 ⟨b, 0, none⟩ 1 [c] Tryd.underlying48 Tryd.underlying5 Tryd.underlying9 (fun j hj => by
    obtain rfl : j = 0 := by simp at hj; omega
    exact h)

set_option maxRecDepth 100000 in
set_option maxHeartbeats 2000000 in
theorem parse_in (F : Fence) (n : Nat) (h14 : F.fn 14) (h22 : F.fn 22) (h28 : F.fn 28) (h38 : F.fn 38) (h40 : F.fn 40) (h8 : F.fn 8) (hro : F.round = none) (hn : 4 ≤ n) (c : UInt8) (s : ByteArray) (w : World) (hm : s.size ≤ 9223372036854775806) (hc : lett c.toNat = false) (hz : ¬ s.size = 0)
    (I22 : ∀ (w : World), CallsIn F (n - 1) Tryd.prog 22 #[.int .u8 c.toNat] w fun e w' => e = .returned (.bool false) ∧ w = w')
    (I28 : ∀ (x y : ByteArray) (w : World), CallsIn F (n - 1) Tryd.prog 28 #[.string x, .string y] w fun e w' => e = .returned (seqFunc w) ∧ seqWorld x y w = w')
    (I40 : ∀ (t : ByteArray) (w : World), CallsIn F (n - 1 - 1) Tryd.prog 40 #[.string t, .string ⟨#[c]⟩] w fun e w' => e = .returned (.int .i64 (Lib.indexByte t.data.toList c)) ∧ w = w')
    (I8 : ∀ (l : Nat) (t : ByteArray), t.size ≤ s.size → ∀ (w : World), CallsIn (F.inRound l) (n - 1 - 1 - 1) Tryd.prog 8 #[.string t] w fun e w' => e = .returned (.bool (isId t)) ∧ w = w') :
    CallsIn F n Tryd.prog 14 #[.string s, .int .u8 c.toNat] w (ParsePost c s w) := by
  have h1 : 1 ≤ n := by omega
  obtain ⟨i0, hi, hz0, hz1, hz2⟩ := info_parts info9
  have h0 : ¬ s.toList = [] := by
    rw [ByteArray.toList_eq]
    intro h
    exact hz (by have := congrArg List.length h; simpa using this)
  have h0' : s.toList.isEmpty = false := by simpa using h0
  have hcv := conv_one c
  refine callsIn_of_wp_marks Tryd.func14 rfl h14 ?_ hro
  simp only [Tryd.ntmps14, List.size_toArray, List.length_cons, List.length_nil, Nat.reduceAdd, Nat.reduceSub, Array.replicate_succ, Array.replicate_zero, List.push_toArray, List.append_toArray, List.nil_append, List.cons_append]
  gi_wp2_with (first | (gi_at_call 22; refine (I22 _).mono ?_; rintro e w' ⟨rfl, rfl⟩) | (gi_at_call 28; refine (I28 _ _ _).mono ?_; rintro e w' ⟨rfl, rfl⟩))
  have hsf : seqFunc ((((w.alloc (Obj.cells #[Value.slice none 0 0] 22)).alloc (Obj.cells #[Value.int IntKind.i64 0] 26)).alloc (Obj.cells #[Value.slice none 0 0] 22)).alloc (Obj.cells #[Value.int IntKind.u8 ↑c.toNat] 5)) =
      .func (.func 38) #[] #[.pointer (some ⟨w.heap.size + 5, 0, none⟩), .pointer (some ⟨w.heap.size + 4, 0, none⟩), .pointer (some ⟨w.heap.size + 6, 0, none⟩)] := by simp [seqFunc]
  rw [hsf]
  clear hsf hcv
  have b0 := Boxed.new w 22 (.slice none 0 0)
  have b1 := Boxed.new (w.alloc (.cells #[.slice none 0 0] 22)) 26 (.int .i64 0)
  have b2 := Boxed.new ((w.alloc (.cells #[.slice none 0 0] 22)).alloc (.cells #[.int .i64 0] 26)) 22 (.slice none 0 0)
  have hB0 : Below w.heap.size w ((((w.alloc (Obj.cells #[Value.slice none 0 0] 22)).alloc (Obj.cells #[Value.int IntKind.i64 0] 26)).alloc (Obj.cells #[Value.slice none 0 0] 22)).alloc (Obj.cells #[Value.int IntKind.u8 ↑c.toNat] 5)) :=
    ((((Below.refl _ w).alloc (Nat.le_refl _) _).alloc (by simp) _).alloc (by simp; omega) _).alloc (by simp; omega) _
  replace b0 := ((b0.alloc (.cells #[.int .i64 0] 26)).alloc (.cells #[.slice none 0 0] 22)).alloc (.cells #[.int .u8 c.toNat] 5)
  replace b1 := (b1.alloc (.cells #[.slice none 0 0] 22)).alloc (.cells #[.int .u8 c.toNat] 5)
  replace b2 := b2.alloc (.cells #[.int .u8 c.toNat] 5)
  simp only [World.size_alloc] at b1 b2
  obtain ⟨V, hV⟩ : ∃ V, (((w.alloc (Obj.cells #[Value.slice none 0 0] 22)).alloc (Obj.cells #[Value.int IntKind.i64 0] 26)).alloc (Obj.cells #[Value.slice none 0 0] 22)).alloc (Obj.cells #[Value.int IntKind.u8 ↑c.toNat] 5) = V := ⟨_, rfl⟩
  have hVs : V.heap.size = w.heap.size + 4 := by rw [← hV]; simp
  rw [hV] at b0 b1 b2 hB0 ⊢
  clear hV
  have c4 := Boxed.new V 9 (.string s)
  have c5 := Boxed.new (V.alloc (.cells #[.string s] 9)) 9 (.string ⟨#[c]⟩)
  have c6 := Boxed.new ((V.alloc (.cells #[.string s] 9)).alloc (.cells #[.string ⟨#[c]⟩] 9)) 3 (.int .i64 0)
  replace c4 := (c4.alloc (.cells #[.string ⟨#[c]⟩] 9)).alloc (.cells #[.int .i64 0] 3)
  replace c5 := c5.alloc (.cells #[.int .i64 0] 3)
  replace b0 := ((b0.alloc (.cells #[.string s] 9)).alloc (.cells #[.string ⟨#[c]⟩] 9)).alloc (.cells #[.int .i64 0] 3)
  replace b1 := ((b1.alloc (.cells #[.string s] 9)).alloc (.cells #[.string ⟨#[c]⟩] 9)).alloc (.cells #[.int .i64 0] 3)
  replace b2 := ((b2.alloc (.cells #[.string s] 9)).alloc (.cells #[.string ⟨#[c]⟩] 9)).alloc (.cells #[.int .i64 0] 3)
  replace hB0 := ((hB0.alloc (by omega) (.cells #[.string s] 9)).alloc (by simp; omega) (.cells #[.string ⟨#[c]⟩] 9)).alloc (by simp; omega) (.cells #[.int .i64 0] 3)
  have hWs : (seqWorld s ⟨#[c]⟩ V).heap.size = w.heap.size + 7 := by simp [seqWorld, hVs]
  simp only [World.size_alloc, hVs] at c4 c5 c6
  obtain ⟨W0, hW0⟩ : ∃ W0, seqWorld s ⟨#[c]⟩ V = W0 := ⟨_, rfl⟩
  rw [show ((V.alloc (.cells #[.string s] 9)).alloc (.cells #[.string ⟨#[c]⟩] 9)).alloc (.cells #[.int .i64 0] 3) = W0 from hW0] at b0 b1 b2 c4 c5 c6 hB0
  rw [hW0] at hWs ⊢
  clear hW0 hVs
  have hIo : OwnFrom W0.heap.size (PI w) := by rw [hWs]; exact PI_own w
  have hXo : ∀ c, OwnFrom W0.heap.size (PX w c) := fun c => by rw [hWs]; exact PX_own w c
  refine wpIn_rangeFunc_turns hro h1 (gf := 38) (lb := #[.pointer (some ⟨w.heap.size + 5, 0, none⟩), .pointer (some ⟨w.heap.size + 4, 0, none⟩), .pointer (some ⟨w.heap.size + 6, 0, none⟩)]) rfl h38 (enters_of Tryd.func38 (by kernel_rfl) rfl)
    (split_stops F (n - 1) h38 h40 hro (by omega) w.heap.size (w.heap.size + 5) (w.heap.size + 4) (w.heap.size + 6) c s hm I40 (by omega) (by omega) W0 c5 c4 c6) keepS_t (keepS_b (by omega) (by omega) (by omega) (by omega)) (Below.refl _ _) (fun _ => rfl)
    (fun A B ht k hk => by obtain ⟨u, rfl⟩ := ht; exact Below.heap_setCell _ _ _ k (by show k ≠ w.heap.size + 4; omega))
    (PI w) (PX w) hIo hXo (fun s A B hs ht => PI_turn hs ht)
    ⟨⟨_, b2, World.ownsRow_nil _ _ _ _⟩, b0, b1, rfl, by omega, hB0⟩
    (fun x => { tmps := #[.string s, .int .u8 c.toNat, undef, undef, .pointer (some ⟨w.heap.size, 0, none⟩), .pointer (some ⟨w.heap.size + 1, 0, none⟩), .pointer (some ⟨w.heap.size + 1 + 1, 0, none⟩), .string x, .bool false, .int .u8 c.toNat, .bool false, .bool false, .string s, .bool false, .string s, .int .u8 c.toNat, .slice (some ⟨w.heap.size + 1 + 1 + 1, 0, none⟩) 1 1, .string ⟨#[c]⟩, .func (.func 38) #[] #[.pointer (some ⟨w.heap.size + 5, 0, none⟩), .pointer (some ⟨w.heap.size + 4, 0, none⟩), .pointer (some ⟨w.heap.size + 6, 0, none⟩)], .string x, undef, undef, undef, undef, undef, undef, undef, undef, undef, undef, undef, undef, undef], defers := [] }) ?assign ?body ?done ?stop
  case assign =>
    intro l x W K hK
    gi_wp2
    exact hK
  case body =>
    rintro l pre x W ⟨⟨v, hv, hrow⟩, h0, h1', hmay, hsz, hB⟩ hlt hvx
    have hpl := (may_all hmay).1
    have hc := hv.cell
    replace h0 := Lib.hid h0
    replace h1' := Lib.hid h1'
    replace hmay := Lib.hid hmay
    clear b0 b1 b2 c4 c5 c6
    have h11 : F.depth.isSome = true → 1 ≤ n - 1 - 1 := fun _ => by omega
    have e1 : (pre ++ [x]).length = pre.length + 1 := by simp
    have e2 : (pre ++ [x]).map Value.string = pre.map Value.string ++ [.string x] := by simp
    replace e1 := Lib.hid e1
    replace e2 := Lib.hid e2
    cases hid : isId x with
    | true =>
      replace hid := Lib.hid hid
      gi_wp2_with (first | (gi_at_builtin; refine wpListIn_append_own _ rfl _ _ 22 rfl (w.heap.size + 7) 9 i0 (.string ⟨#[]⟩) 1 16 Tryd.underlying22 hi hz0 hz1 hz2 rfl (by decide) _ _ _ rfl (hrow.alloc _) ⟨W.heap.size, 0, none⟩ 1 1 [.string x] rfl rfl (cell_one_new _ _ _) (by simp [Value.oneCell']) (by unfold maxLen; omega) (by omega) (by simp; omega) ?_; intro v' w1 hown' hgrow _; obtain ⟨g', cap', rfl⟩ := ownsRow_succ hown'; obtain ⟨hv1, hv2, hr2, hk2, hb2, hj2⟩ := appended2 (n₀ := w.heap.size) hv (by decide) hrow hsz (by omega) (by omega) hown' hgrow; have hc1 := hv1.cell; have hf1 := hv1.frozen; have hc2 := hv2.cell; have f0 := (h0.out.alloc (.cells #[.string x] 9)).kept hgrow (h0.out.not_row (by decide) hrow); have f1 := (h1'.out.alloc (.cells #[.string x] 9)).kept hgrow (h1'.out.not_row (by decide) hrow); have f0c := f0.cell; have f0f := f0.frozen; have f1c := f1.cell; have f1f := f1.frozen; replace f0 := Lib.hid f0; replace f1 := Lib.hid f1) | (refine ⟨h11, ?_⟩; refine (I8 l _ hvx _).mono ?_; rintro e w' ⟨rfl, rfl⟩; rw [hid.out]))
      · have h9 : 8 < (pre.length : Int) + 1 := by assumption
        have hs2 := hb2.size
        refine ⟨((hk2.trans (KeepsOthers.setCell _ _ _)).trans (KeepsOthers.setCell _ _ _)).from _, rfl, ((f0.out.other (by omega) _).set _).other (by omega) _, ((f1.out.other (by omega) _).other (by omega) _).set _, may_long (by rw [e1.out]; omega), by simp at hs2 ⊢; omega, ((hB.trans hb2).setCell (p := ⟨_, 0, none⟩) (Nat.le_refl _) _).setCell (p := ⟨_, 0, none⟩) (by simp) _⟩
      · have h9 : (pre.length : Int) + 1 ≤ 8 := by assumption
        have hs2 := hb2.size
        refine ⟨hk2.from _, ⟨hb2, fun k hk => hj2 k (by omega) (by omega)⟩, ⟨_, hv2, ?_⟩, f0.out.other (by omega) _, f1.out.other (by omega) _, may_snoc hmay.out hid.out (by omega), Nat.le_trans hsz hs2, hB.trans hb2⟩
        rw [e1.out, e2.out]; exact hr2
    | false =>
      replace hid := Lib.hid hid
      gi_wp2_with (first | (gi_at_builtin; refine wpListIn_append_own _ rfl _ _ 22 rfl (w.heap.size + 7) 9 i0 (.string ⟨#[]⟩) 1 16 Tryd.underlying22 hi hz0 hz1 hz2 rfl (by decide) _ _ _ rfl (hrow.alloc _) ⟨W.heap.size, 0, none⟩ 1 1 [.string x] rfl rfl (cell_one_new _ _ _) (by simp [Value.oneCell']) (by unfold maxLen; omega) (by omega) (by simp; omega) ?_; intro v' w1 hown' hgrow _; obtain ⟨g', cap', rfl⟩ := ownsRow_succ hown'; obtain ⟨hv1, hv2, hr2, hk2, hb2, hj2⟩ := appended2 (n₀ := w.heap.size) hv (by decide) hrow hsz (by omega) (by omega) hown' hgrow; have hc1 := hv1.cell; have hf1 := hv1.frozen; have hc2 := hv2.cell; have f0 := (h0.out.alloc (.cells #[.string x] 9)).kept hgrow (h0.out.not_row (by decide) hrow); have f1 := (h1'.out.alloc (.cells #[.string x] 9)).kept hgrow (h1'.out.not_row (by decide) hrow); have f0c := f0.cell; have f0f := f0.frozen; have f1c := f1.cell; have f1f := f1.frozen; replace f0 := Lib.hid f0; replace f1 := Lib.hid f1) | (refine ⟨h11, ?_⟩; refine (I8 l _ hvx _).mono ?_; rintro e w' ⟨rfl, rfl⟩; rw [hid.out]))
      have hs2 := hb2.size
      refine ⟨((hk2.trans (KeepsOthers.setCell _ _ _)).trans (KeepsOthers.setCell _ _ _)).from _, rfl, ((f0.out.other (by omega) _).set _).other (by omega) _, ((f1.out.other (by omega) _).other (by omega) _).set _, may_badid hid.out, by simp at hs2 ⊢; omega, ((hB.trans hb2).setCell (p := ⟨_, 0, none⟩) (Nat.le_refl _) _).setCell (p := ⟨_, 0, none⟩) (by simp) _⟩
  case done =>
    rintro D ys W hD hS ⟨⟨v, hv, hrow⟩, h0, h1', hmay, hsz, hB⟩ hK
    obtain rfl := cut_of hS
    have hp : Hid (prs c s = (cut c s, 0)) := Lib.hid (by unfold prs; rw [if_neg (by rw [hc]; simp), if_neg hz, if_pos hmay])
    obtain ⟨a2, k2, rfl⟩ := row_shape hrow
    have hst : Hid (∀ W', W'.ownsRow (w.heap.size + 7) 9 1 (.slice a2 (cut c s).length k2) (cut c s).length ((cut c s).map Value.string) → Strs W' a2 (cut c s).length (cut c s)) :=
      Lib.hid (fun W' h => strs_of_row h (fun x hx => by have := (id_size ((may_all hmay).2 x hx)).2; omega))
    have c2 := hv.cell
    have d0 := h0.cell
    have d0f := h0.frozen
    have d1 := h1'.cell
    have d1f := h1'.frozen
    replace h0 := Lib.hid h0
    replace h1' := Lib.hid h1'
    replace hrow := Lib.hid hrow
    replace hv := Lib.hid hv
    clear hmay hS b0 b1 b2 c4 c5 c6
    gi_wp2
    have hK' := ((KeepsOthers.setCell W ⟨w.heap.size, 0, none⟩ (.slice a2 (cut c s).length k2)).trans (KeepsOthers.setCell _ ⟨w.heap.size + 1, 0, none⟩ (.int .i64 0))).same D _ hK rfl
    refine ⟨by simp, .inl ⟨_, _, rfl, run_takeDeferred hK', ?_⟩⟩
    have q0 : Boxed (((W.setCell ⟨w.heap.size, 0, none⟩ (.slice a2 (cut c s).length k2)).setCell ⟨w.heap.size + 1, 0, none⟩ (.int .i64 0)).putObj D (.deferred none)) w.heap.size 22 (.slice a2 (cut c s).length k2) :=
      ((h0.out.set _).other (by omega) _).kept (grownBy_putObj' _ D _) (by simp; omega)
    have q1 : Boxed (((W.setCell ⟨w.heap.size, 0, none⟩ (.slice a2 (cut c s).length k2)).setCell ⟨w.heap.size + 1, 0, none⟩ (.int .i64 0)).putObj D (.deferred none)) (w.heap.size + 1) 26 (.int .i64 0) :=
      ((h1'.out.other (by omega) _).set _).kept (grownBy_putObj' _ D _) (by simp; omega)
    have hr1 := hrow.out.kept (grownBy_setCell' W w.heap.size (.slice a2 (cut c s).length k2)) (.inr (h0.out.not_row (by decide) hrow.out).symm)
    have hr2 := hr1.kept (grownBy_setCell' _ (w.heap.size + 1) (.int .i64 0)) (.inr ((h1'.out.other (B' := w.heap.size) (by omega) (.slice a2 (cut c s).length k2)).not_row (by decide) hr1).symm)
    have hr3 := ownsRow_putObj hr2 (.deferred none) hK' rfl
    have hB3 := ((hB.setCell (p := ⟨w.heap.size, 0, none⟩) (Nat.le_refl _) (.slice a2 (cut c s).length k2)).setCell (p := ⟨w.heap.size + 1, 0, none⟩) (by simp) (.int .i64 0)).trans (belowK_b (w := w) (Nat.le_refl _) _ D _ (.deferred none) (by omega) hK' rfl rfl)
    have r0 := q0.cell
    have r1 := q1.cell
    refine ⟨.tuple #[.slice a2 (cut c s).length k2, .int .i64 0], ?_, a2, k2, by rw [hp.out], by rw [hp.out]; exact hst.out _ hr3, hB3, by rw [hp.out]; exact row_cap0 hr3⟩
    simp [results, Tryd.f14, go_sem, r0, r1]
  case stop =>
    rintro D c2 pre W hD hS ⟨rfl, h0, h1', hmay, hsz, hB⟩ hK
    have hp : Hid (prs c s = ([], 6)) := Lib.hid (by unfold prs; rw [if_neg (by rw [hc]; simp), if_neg hz, if_neg (by rw [cut_bad hS hmay]; simp)])
    replace h0 := Lib.hid h0
    replace h1' := Lib.hid h1'
    clear hmay hS b0 b1 b2 c4 c5 c6
    gi_wp2
    refine ⟨by simp, .inl ⟨_, _, rfl, run_takeDeferred hK, ?_⟩⟩
    have r0 := (h0.out.kept (grownBy_putObj' W D (.deferred none)) (by simp; omega)).cell
    have r1 := (h1'.out.kept (grownBy_putObj' W D (.deferred none)) (by simp; omega)).cell
    refine ⟨.tuple #[.slice none 0 0, .int .i64 6], ?_, parse_bad hp.out (hB.trans (belowK_b (w := w) (Nat.le_refl _) _ D _ (.deferred none) (by omega) hK rfl rfl))⟩
    simp [results, Tryd.f14, go_sem, r0, r1]

set_option maxHeartbeats 1000000 in
theorem parse_any (s : ByteArray) (c : UInt8) (hm : s.size ≤ 9223372036854775806) (w : World) : Calls Tryd.prog 14 #[.string s, .int .u8 c.toNat] w (ParsePost c s w) := by
  cases hc : lett c.toNat with
  | true =>
    have hp : Hid (prs c s = ([], 2)) := Lib.hid (by unfold prs; rw [if_pos hc])
    replace hc := Lib.hid hc
    go_enter Tryd.func14, Tryd.ntmps14
    go_wp2_with (go_at_call 22; refine (letter_any _ _).mono ?_; rintro e w' ⟨rfl, rfl⟩; rw [hc.out])
    exact bodyPost_ret (v := .tuple #[.slice none 0 0, .int .i64 2]) (by simp [results, Tryd.f14, go_sem]) rfl (parse_bad hp.out (((Below.refl _ _).alloc (Nat.le_refl _) _).alloc (by simp) _))
  | false =>
    by_cases hz : s.size = 0
    · have hp : Hid (prs c s = ([], 0)) := Lib.hid (by unfold prs; rw [if_neg (by rw [hc]; simp), if_pos hz])
      have hE : s.toList = [] := by rw [ByteArray.toList_eq]; exact List.eq_nil_of_length_eq_zero (by simpa using hz)
      have hE2 : s.toList.isEmpty = true := by simp [hE]
      replace hc := Lib.hid hc
      go_enter Tryd.func14, Tryd.ntmps14
      go_wp2_with (go_at_call 22; refine (letter_any _ _).mono ?_; rintro e w' ⟨rfl, rfl⟩; rw [hc.out])
      exact bodyPost_ret (v := .tuple #[.slice none 0 0, .int .i64 0]) (by simp [results, Tryd.f14, go_sem]) rfl (parse_bad hp.out (((Below.refl _ _).alloc (Nat.le_refl _) _).alloc (by simp) _))
    · refine (callsIn_wide (n := 4)).1 (parse_in Fence.wide 4 trivial trivial trivial trivial trivial trivial rfl (by omega) c s w hm hc hz ?_ ?_ ?_ ?_)
      · intro w
        refine callsIn_wide.2 ((letter_any _ w).mono ?_)
        rintro e w' ⟨rfl, rfl⟩
        exact ⟨by rw [hc], rfl⟩
      · exact fun x y w => callsIn_wide.2 (seq_any x y w)
      · intro t w
        refine callsIn_wide.2 ((Tryd.strings_Index_one t c w).mono ?_)
        rintro e w' ⟨rfl, rfl⟩
        exact ⟨rfl, rfl⟩
      · exact fun l t ht w => CallsIn.inRound l (callsIn_wide.2 (id_any t (by omega) w))
end Go.Proofs.YtmddbnfhbnofgaaDoor
