/-
  Print: a builder's writes; lines that come in.
-/
import Derived.Test.YtopflkfnfgcogaaDoorMay
import Derived.Test.YtopflkfnfgcogaaDoorShelf
import Derived.SliceStrings
namespace Go.Proofs.YtopflkfnfgcogaaDoor
open Go.RowKit Go Go.BigFrame Go.ChangeShapes Go.Proofs.YtopflkfnfgcogaaDoorW.PrintWords

def ren166 : Go.Shelf.Ren := ⟨fun | 166 => 16 | 240 => 25 | 276 => 33 | n => n, fun | 31 => 39 | 9 => 9 | 3 => 3 | 4 => 4 | 0 => 0 | 20 => 20 | 72 => 45 | 76 => 48 | 70 => 42 | 37 => 43 | 75 => 47 | 127 => 57 | 164 => 63 | 5 => 5 | 80 => 53 | n => n, fun | n => n⟩
theorem lays166 : Go.Proofs.Lays.n166 Tryd.prog ren166 := {
  mixed := by kernel_rfl
  f166 := Tryd.func16.trans (congrArg some (by kernel_rfl))
  f240 := Tryd.func25.trans (congrArg some (by kernel_rfl))
  f276 := Tryd.func33.trans (congrArg some (by kernel_rfl))
  t0 := Tryd.underlying0
  a0 := Tryd.isAgg0
  z0 := Tryd.sizeOf0
  v0 := Tryd.zeroValue0
  t3 := Tryd.underlying3
  a3 := Tryd.isAgg3
  z3 := Tryd.sizeOf3
  v3 := Tryd.zeroValue3
  t4 := Tryd.underlying4
  a4 := Tryd.isAgg4
  z4 := Tryd.sizeOf4
  v4 := Tryd.zeroValue4
  t9 := Tryd.underlying9
  a9 := Tryd.isAgg9
  z9 := Tryd.sizeOf9
  v9 := Tryd.zeroValue9
  t20 := Tryd.underlying20
  a20 := Tryd.isAgg20
  z20 := Tryd.sizeOf20
  v20 := Tryd.zeroValue20
  t37 := Tryd.underlying43
  a37 := Tryd.isAgg43
  z37 := Tryd.sizeOf43
  v37 := Tryd.zeroValue43
  t70 := Tryd.underlying42
  a70 := Tryd.isAgg42
  z70 := Tryd.sizeOf42
  v70 := Tryd.zeroValue42
  t72 := Tryd.underlying45
  a72 := Tryd.isAgg45
  z72 := Tryd.sizeOf45
  v72 := Tryd.zeroValue45
  t75 := Tryd.underlying47
  a75 := Tryd.isAgg47
  z75 := Tryd.sizeOf47
  v75 := Tryd.zeroValue47
  t164 := Tryd.underlying63
  a164 := Tryd.isAgg63
  z164 := Tryd.sizeOf63
  v164 := Tryd.zeroValue63 }
theorem extra166 : Builder.Extra Tryd.prog ren166 := {
  sizeBuilder := by kernel_rfl
  liesBuilder := by kernel_rfl
  t5 := Tryd.underlying5
  a5 := Tryd.isAgg5
  z5 := Tryd.sizeOf5
  v5 := Tryd.zeroValue5
  infoByte := by kernel_rfl
  cellsByte := by kernel_rfl
  sizeByte := by kernel_rfl
  neB5 := by decide }
def ren167 : Go.Shelf.Ren := ⟨fun | 167 => 18 | 240 => 25 | 276 => 33 | n => n, fun | 31 => 39 | 9 => 9 | 3 => 3 | 4 => 4 | 0 => 0 | 20 => 20 | 72 => 45 | 76 => 48 | 70 => 42 | 37 => 43 | 75 => 47 | 127 => 57 | 164 => 63 | 5 => 5 | 80 => 53 | n => n, fun | n => n⟩
theorem lays167 : Go.Proofs.Lays.n167 Tryd.prog ren167 := {
  mixed := by kernel_rfl
  f167 := Tryd.func18.trans (congrArg some (by kernel_rfl))
  f240 := Tryd.func25.trans (congrArg some (by kernel_rfl))
  f276 := Tryd.func33.trans (congrArg some (by kernel_rfl))
  t0 := Tryd.underlying0
  a0 := Tryd.isAgg0
  z0 := Tryd.sizeOf0
  v0 := Tryd.zeroValue0
  t4 := Tryd.underlying4
  a4 := Tryd.isAgg4
  z4 := Tryd.sizeOf4
  v4 := Tryd.zeroValue4
  t5 := Tryd.underlying5
  a5 := Tryd.isAgg5
  z5 := Tryd.sizeOf5
  v5 := Tryd.zeroValue5
  t9 := Tryd.underlying9
  a9 := Tryd.isAgg9
  z9 := Tryd.sizeOf9
  v9 := Tryd.zeroValue9
  t20 := Tryd.underlying20
  a20 := Tryd.isAgg20
  z20 := Tryd.sizeOf20
  v20 := Tryd.zeroValue20
  t37 := Tryd.underlying43
  a37 := Tryd.isAgg43
  z37 := Tryd.sizeOf43
  v37 := Tryd.zeroValue43
  t70 := Tryd.underlying42
  a70 := Tryd.isAgg42
  z70 := Tryd.sizeOf42
  v70 := Tryd.zeroValue42
  t72 := Tryd.underlying45
  a72 := Tryd.isAgg45
  z72 := Tryd.sizeOf45
  v72 := Tryd.zeroValue45
  t75 := Tryd.underlying47
  a75 := Tryd.isAgg47
  z75 := Tryd.sizeOf47
  v75 := Tryd.zeroValue47
  t164 := Tryd.underlying63
  a164 := Tryd.isAgg63
  z164 := Tryd.sizeOf63
  v164 := Tryd.zeroValue63 }
theorem extra167 : Builder.Extra Tryd.prog ren167 := {
  sizeBuilder := by kernel_rfl
  liesBuilder := by kernel_rfl
  t5 := Tryd.underlying5
  a5 := Tryd.isAgg5
  z5 := Tryd.sizeOf5
  v5 := Tryd.zeroValue5
  infoByte := by kernel_rfl
  cellsByte := by kernel_rfl
  sizeByte := by kernel_rfl
  neB5 := by decide }

theorem ws_any (B b : Nat) (bs : List Value) (s : ByteArray) (w : World) (h : Lib.IsBuilder 45 5 B b bs w) (hlen : bs.length + s.size ≤ 140737488355328) (hBw : B ≤ w.heap.size) :
    Calls Tryd.prog 16 #[.pointer (some ⟨b, 0, none⟩), .string s] w fun e w' => e = .returned (.tuple #[.int .i64 s.size, .nilIface]) ∧ Lib.IsBuilder 45 5 B b (bs ++ Lib.strCells s) w' ∧ Below B w w' := by
  refine (Any.Builder_WriteString lays166 extra166 B b bs s w h hlen hBw).mono ?_
  rintro e w' ⟨he, hb, hB⟩
  exact ⟨he, .inr hb, hB⟩

theorem wb_any (B b : Nat) (bs : List Value) (c : Int) (w : World) (h : Lib.IsBuilder 45 5 B b bs w) (hlen : bs.length + 1 ≤ 140737488355328) (hBw : B ≤ w.heap.size) :
    Calls Tryd.prog 18 #[.pointer (some ⟨b, 0, none⟩), .int .u8 c] w fun e w' => e = .returned .nilIface ∧ Lib.IsBuilder 45 5 B b (bs ++ [.int .u8 c]) w' ∧ Below B w w' := by
  refine (Any.Builder_WriteByte lays167 extra167 B b bs c w h hlen hBw).mono ?_
  rintro e w' ⟨he, hb, hB⟩
  exact ⟨he, .inr hb, hB⟩

theorem builderAt_below {B b : Nat} {p : Value} {bs : List Value} {A W : World} (h : Lib.BuilderAt 45 5 B b p bs A) (hb : Below A.heap.size A W) : Lib.BuilderAt 45 5 B b p bs W := by
  have hlt := h.lt
  obtain ⟨h1, v, h2, h3, h4⟩ := h
  exact ⟨h1, v, (hb.block b hlt).trans h2, own_below h3 hb, h4⟩
theorem builder_below {B b : Nat} {bs : List Value} {A W : World} (h : Lib.IsBuilder 45 5 B b bs A) (hb : Below A.heap.size A W) : Lib.IsBuilder 45 5 B b bs W :=
  h.imp (fun h => builderAt_below h hb) (fun h => builderAt_below h hb)

/-- A line that lies in a row of lines. -/
theorem LR.at {w : World} {a : Option Addr} {n c : Nat} {xss : List (List ByteArray)} (h : LR w a n c xss) {k : Nat} (hk : k < xss.length) :
    ∃ g o a2 c2, a = some ⟨g, o, none⟩ ∧ w.cell? ⟨g, o + k, none⟩ = some (.slice a2 xss[k].length c2) ∧ xss[k].length ≤ c2 ∧ Kd.C Kd.string w a2 xss[k].length xss[k] := by
  obtain ⟨h1, h2, h3⟩ := h
  obtain ⟨_, hm, hr⟩ := h3
  obtain ⟨x, rfl, hx⟩ := hr (by omega)
  have key : ∀ (j : Nat) (hj : j < xss.length), ∃ a2 c2, w.cell? (x.add j) = some (.slice a2 xss[j].length c2) ∧ xss[j].length ≤ c2 ∧ Kd.C Kd.string w a2 xss[j].length xss[j] := fun j hj => by
    obtain ⟨cells, hl, ⟨a2, c2, hcs, k1, k2⟩, hc⟩ := hx j xss[j] (List.getElem?_eq_getElem hj)
    subst hcs
    have hce := hc 0 _ rfl
    have e : j * (Kd.slice 9 Kd.string).sz + 0 = j := by show j * 1 + 0 = j; omega
    rw [e] at hce
    exact ⟨a2, c2, hce, k1, k2⟩
  obtain ⟨_, _, c0, _⟩ := key 0 (by omega)
  obtain ⟨a2, c2, hce, k1, k2⟩ := key k hk
  have hs := World.cell?_spot c0
  obtain ⟨xb, xo, xs⟩ := x
  simp [Addr.add] at hs
  subst hs
  rw [addr_add] at hce
  exact ⟨xb, xo, a2, c2, rfl, hce, k1, k2⟩

theorem row_cells {w : World} {a : Option Addr} {xs : List ByteArray} (h : Kd.C Kd.string w a xs.length xs) (h0 : 0 < xs.length) :
    ∃ g o, a = some ⟨g, o, none⟩ ∧ g < w.heap.size ∧ ∀ (j : Nat) x, xs[j]? = some x → w.cell? ⟨g, o + j, none⟩ = some (.string x) := by
  obtain ⟨_, hm, hr⟩ := h
  obtain ⟨x, rfl, hx⟩ := hr h0
  have key : ∀ (j : Nat) p, xs[j]? = some p → w.cell? (x.add j) = some (.string p) := fun j p hj => by
    obtain ⟨cells, hl, hcs, hc⟩ := hx j p hj
    subst hcs
    have hce := hc 0 _ rfl
    have e : j * Kd.string.sz + 0 = j := by show j * 1 + 0 = j; omega
    rwa [e] at hce
  have c0 := key 0 _ (List.getElem?_eq_getElem h0)
  have hs := World.cell?_spot c0
  obtain ⟨xb, xo, xs⟩ := x
  simp [Addr.add] at hs
  subst hs
  refine ⟨xb, xo, rfl, World.block_lt_of_cell? _ _ (by rw [addr_add] at c0; exact c0), fun j p hj => ?_⟩
  rw [← addr_add]
  exact key j p hj

theorem rawL_take_succ {xss : List (List ByteArray)} {k : Nat} (h : k < xss.length) : textOf (rawL (xss.take (k + 1))) = textOf (rawL (xss.take k)) ++ Lib.join (raws xss[k]) [32] ++ [10] := by
  rw [take_snoc' xss (List.getElem?_eq_getElem h)]
  have : rawL (xss.take k ++ [xss[k]]) = rawL (xss.take k) ++ [raws xss[k]] := by unfold rawL; rw [List.map_append]; rfl
  rw [this]
  unfold textOf
  rw [List.map_append, List.flatten_append, List.append_assoc]
  congr 1
  show [lineText _].flatten = _
  simp [lineText]
theorem weightL_split (xss : List (List ByteArray)) (k : Nat) : weightL xss = weightL (xss.take k) + weightL (xss.drop k) := by
  conv => lhs; rw [← List.take_append_drop k xss]
  unfold weightL
  rw [List.map_append, List.sum_append]

def PrintPost (xss : List (List ByteArray)) (w : World) (e : Ending) (W : World) : Prop :=
  e = .returned (.tuple #[.string (toB (print (rawL xss)).1), .int .i64 (print (rawL xss)).2]) ∧ Below w.heap.size w W

theorem cells_add (l : List UInt8) (m : List UInt8) : Lib.byteCells l ++ Lib.strCells ⟨m.toArray⟩ = Lib.byteCells (l ++ m) := by
  unfold Lib.byteCells Lib.strCells
  rw [List.map_append]
theorem cells_add1 (l : List UInt8) : Lib.byteCells l ++ [.int .u8 10] = Lib.byteCells (l ++ [10]) := by
  unfold Lib.byteCells
  rw [List.map_append]; rfl

set_option maxRecDepth 100000 in
set_option maxHeartbeats 4000000 in
theorem print_any {w : World} {a : Option Addr} {n c : Nat} {xss : List (List ByteArray)} (h : LR w a n c xss) (hw : weightL xss ≤ 100000) (h0 : 0 < w.heap.size) :
    Calls Tryd.prog 11 #[.slice a n c] w (PrintPost xss w) := by
  obtain ⟨hwl, hws⟩ := lines_of_weight hw
  have hn : xss.length = n := h.1
  have hmay := may_any h (M := 100000) (by omega) hwl hws
  have hp : Hid (print (rawL xss) = if mayL (rawL xss) = true then (if 4096 < (textOf (rawL xss)).length then ([], 3) else (textOf (rawL xss), 0)) else ([], 2)) := Lib.hid rfl
  have hT := text_le xss
  replace hmay := Lib.hid hmay
  replace hws := Lib.hid hws
  replace h := Lib.hid h
  replace hT := Lib.hid hT
  go_enter Tryd.func11, Tryd.ntmps11
  go_wp2_with fail
  refine hmay.out.mono ?_
  rintro e w1 ⟨rfl, q, rfl⟩
  clear hmay
  cases hm : mayL (rawL xss) with
  | false =>
    go_wp2_with fail
    go_ret2
    exact ⟨by rw [hp.out, if_neg (by rw [hm]; simp)]; rfl, below_drewN (Below.refl _ _) q⟩
  | true =>
    have hline : Hid (∀ (k : Nat) (hk : k < xss.length), 0 < xss[k].length) := Lib.hid (fun k hk => by
      unfold mayL at hm
      have := (List.all_eq_true.1 hm) (raws xss[k]) (List.mem_map.2 ⟨_, List.getElem_mem hk, rfl⟩)
      have h2 := (lineOk_iff.1 this).1
      rcases Nat.eq_zero_or_pos xss[k].length with h0 | h0
      · exact absurd (by rw [List.eq_nil_of_length_eq_zero h0]; rfl) h2
      · exact h0)
    rw [hm, if_pos rfl] at hp
    have hm' := Lib.hid hm
    clear hm
    go_wp2_with fail
    have hfr := Lib.hid (Lib.fresh_isBuilder 45 5 (w.drewN q))
    have hbl := Lib.hid ((below_drewN (Below.refl w.heap.size w) q).alloc (Nat.le_refl _) (.cells #[.pointer none, .slice none 0 0] 45))
    go_loopw [6, 12] (fun _ i wr => ∃ k : Nat, k ≤ xss.length ∧ i = .int .i64 k ∧ Hid (Lib.IsBuilder 45 5 w.heap.size w.heap.size (Lib.byteCells (textOf (rawL (xss.take k)))) wr) ∧ Hid (Below w.heap.size w wr)) (fun _ i _ => xss.length - (intOf i).toNat)
    case atStart => exact ⟨0, Nat.zero_le _, rfl, hfr, hbl⟩
    case round =>
      obtain ⟨k, hk, rfl, hI, hB⟩ := hrel
      have hbs := hB.out.size
      by_cases hlt : k < xss.length
      · have hkn : k < n := by omega
        obtain ⟨g, o, a2, c2, rfl, hcell, hl2, hrow⟩ := (h.out.below hB.out).at hlt
        have hpos := hline.out k hlt
        obtain ⟨g2, o2, rfl, hg2, hcs⟩ := row_cells hrow hpos
        have hline2 := (hws.out _ (List.getElem_mem hlt)).1
        have htx : (textOf (rawL (xss.take k))).length + (Lib.join (raws xss[k]) [32]).length + 1 ≤ 100000 := by
          have h1 := text_le (xss.take (k + 1))
          have h2 := weightL_split xss (k + 1)
          rw [rawL_take_succ hlt, List.length_append, List.length_append, List.length_singleton] at h1
          omega
        have hnx := Lib.hid (rawL_take_succ hlt)
        have hcs' := Lib.hid hcs
        replace htx := Lib.hid htx
        clear hrow hcs
        generalize xss[k] = xs at *
        go_wp2_with fail
        refine (Tryd.strings_Join g2 o2 c2 xs ⟨#[32]⟩ wr hcs'.out hg2 (by omega) hl2 (by show (Lib.join (raws xs) [32]).length ≤ _; have := htx.out; omega)).mono ?_
        rintro e w3 ⟨rfl, hB3⟩
        have hI3 := Lib.hid (builder_below hI.out hB3)
        have hB4 := Lib.hid (hB.out.trans (hB3.mono hbs))
        have hbs3 := hB4.out.size
        go_wp2_with fail
        refine (ws_any w.heap.size w.heap.size _ _ w3 hI3.out (by rw [Lib.byteCells_length]; show _ + (Lib.join (raws xs) [32]).length ≤ _; have := htx.out; omega) hbs3).mono ?_
        rintro e w4 ⟨rfl, hI4, hB5⟩
        rw [cells_add] at hI4
        replace hI4 := Lib.hid hI4
        have hB6 := Lib.hid (hB4.out.trans hB5)
        have hbs4 := hB6.out.size
        go_wp2_with fail
        refine (wb_any w.heap.size w.heap.size _ _ w4 hI4.out (by rw [Lib.byteCells_length, List.length_append]; show _ + (Lib.join (raws xs) [32]).length + 1 ≤ _; have := htx.out; omega) hbs4).mono ?_
        rintro e w5 ⟨rfl, hI5, hB7⟩
        rw [cells_add1] at hI5
        replace hI5 := Lib.hid hI5
        have hB8 := Lib.hid (hB6.out.trans hB7)
        go_wp2_with fail
        go_roundw
        case rel => exact ⟨k + 1, by omega, rfl, Lib.hid (by rw [hnx.out]; exact hI5.out), hB8⟩
        case measure => first | (go_num; omega) | (simp [intOf]; omega) | omega | (trace_state; sorry)
      · have hk' : k = xss.length := by omega
        subst hk'
        rw [List.take_length] at hI
        go_wp2_with fail
        refine (Tryd.Builder_Len w.heap.size w.heap.size _ wr hI.out).mono ?_
        rintro e w3 ⟨rfl, rfl⟩
        rw [Lib.byteCells_length]
        by_cases hbig : 4096 < (textOf (rawL xss)).length
        · rw [if_pos hbig] at hp
          go_wp2_with fail
          go_ret2
          exact ⟨by rw [hp.out]; rfl, hB.out⟩
        · rw [if_neg hbig] at hp
          go_wp2_with fail
          refine (Tryd.Builder_String_any w.heap.size w.heap.size (textOf (rawL xss)) _ hI.out hbs).mono ?_
          rintro e w4 ⟨rfl, hB4⟩
          have hB5 := Lib.hid (hB.out.trans hB4)
          go_wp2_with fail
          go_ret2
          exact ⟨by rw [hp.out]; rfl, hB5.out⟩
end Go.Proofs.YtopflkfnfgcogaaDoor
