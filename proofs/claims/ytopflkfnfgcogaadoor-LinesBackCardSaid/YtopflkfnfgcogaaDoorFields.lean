/-
  strings.FieldsSeq at a line of visible bytes and blanks: its iterator.
-/
import Derived.Test.YtopflkfnfgcogaaDoorSeqMade
import Derived.RangeFuncBox
namespace Go.Proofs.YtopflkfnfgcogaaDoor
open Go.RowKit Go.Shelf Go
attribute [local go_sem] Oper.semAt_some

/-- The table of blanks, as far as it is asked here. -/
def Tab (w : World) : Prop := ∀ b : Nat, 32 ≤ b → b ≤ 126 → w.cell? ⟨0, b, none⟩ = some (.int .u8 (if b = 32 then 1 else 0))

theorem Tab.below {n₀ : Nat} {w w' : World} (h : Tab w) (h0 : 0 < n₀) (hb : Below n₀ w w') : Tab w' := fun b h1 h2 => (hb.cell (p := ⟨0, b, none⟩) h0).trans (h b h1 h2)

/-- What a round keeps: whatever lay below n₀, and the box of the text. -/
def KeepF (n₀ Bs : Nat) (W W' : World) : Prop := Below n₀ W W' ∧ W'.heap[Bs]? = W.heap[Bs]?

/-- Where a word has begun, and what has come of it. -/
def Begun (s : ByteArray) (k : Nat) (st : Value) (cur : List UInt8) : Prop :=
  (st = .int .i64 (-1) ∧ cur = []) ∨ ∃ a : Nat, a < k ∧ st = .int .i64 a ∧ cur = (s.extract a k).data.toList

theorem extract_list (s : ByteArray) (a k : Nat) : (s.extract a k).data.toList = (s.data.toList.drop a).take (k - a) := by
  rw [ByteArray.data_extract, Array.toList_extract, List.extract_eq_take_drop]

theorem data_len (s : ByteArray) : s.data.toList.length = s.size := by rw [Array.length_toList]; rfl

theorem drop_at (s : ByteArray) {i : Nat} (h : i < s.size) : s.data.toList.drop i = (s[i]'h) :: s.data.toList.drop (i + 1) := by
  rw [List.drop_eq_getElem_cons (by rw [data_len]; exact h)]
  rfl

theorem extract_snoc (s : ByteArray) {a k : Nat} (ha : a ≤ k) (h : k < s.size) : (s.extract a (k + 1)).data.toList = (s.extract a k).data.toList ++ [s[k]'h] := by
  rw [extract_list, extract_list]
  have e : k + 1 - a = (k - a) + 1 := by omega
  rw [e, List.take_add_one]
  congr 1
  rw [List.getElem?_drop]
  have e2 : a + (k - a) = k := by omega
  rw [e2, List.getElem?_eq_getElem (by rw [data_len]; exact h)]
  rfl

theorem extract_ne (s : ByteArray) {a k : Nat} (ha : a < k) (h : k ≤ s.size) : (s.extract a k).data.toList ≠ [] := by
  intro e
  have := congrArg List.length e
  rw [extract_list] at this
  simp only [List.length_take, List.length_drop, data_len, List.length_nil] at this
  omega

theorem begun_grow {s : ByteArray} {a k : Nat} {cur : List UInt8} (h : k < s.size) (ha : a < k) (hc : cur = (s.extract a k).data.toList) : Begun s (k + 1) (.int .i64 a) (cur ++ [s[k]'h]) :=
  .inr ⟨a, by omega, rfl, by rw [hc, extract_snoc s (by omega) h]⟩
theorem begun_new {s : ByteArray} {k : Nat} (h : k < s.size) : Begun s (k + 1) (.int .i64 k) ([] ++ [s[k]'h]) :=
  .inr ⟨k, by omega, rfl, by rw [extract_snoc s (Nat.le_refl _) h]; simp⟩

/-- A line's byte: visible, or a blank. -/
def lb (c : UInt8) : Prop := 32 ≤ c.toNat ∧ c.toNat ≤ 126

theorem u8_32 {c : UInt8} : c = 32 ↔ c.toNat = 32 := by
  constructor
  · rintro rfl; rfl
  · intro h
    have : c = UInt8.ofNat c.toNat := by simp
    rw [this, h]; rfl

theorem fld_skip {r cur : List UInt8} {c : UInt8} (h : c.toNat = 32) (h0 : cur = []) : fld cur (c :: r) = fld [] r := by simp [fld, u8_32.2 h, h0]
theorem fld_cut {r cur : List UInt8} {c : UInt8} (h : c.toNat = 32) (h0 : cur ≠ []) : fld cur (c :: r) = cur :: fld [] r := by simp [fld, u8_32.2 h, h0]
theorem fld_go {r cur : List UInt8} {c : UInt8} (h : ¬ c.toNat = 32) : fld cur (c :: r) = fld (cur ++ [c]) r := by
  have : ¬ c = 32 := fun e => h (u8_32.1 e)
  simp [fld, this]

set_option maxRecDepth 100000 in
set_option maxHeartbeats 4000000 in
theorem fields1_in (F : Fence) (n : Nat) (h30 : F.fn 30) (hro : F.round = none) (hn : 1 ≤ n) (l Bs n₀ : Nat) (h0n : 0 < n₀) (s : ByteArray) (hm : s.size ≤ 9223372036854775806) (hlb : ∀ c ∈ s.data.toList, lb c) (J Jx : List ByteArray → World → Prop)
    (hY : ∀ pre x W, J pre W → pre.length < (fld [] s.data.toList).length → YieldAt F (n - 1) Tryd.prog l #[.string x] W fun e W' =>
      (e = .returned (.bool true) ∧ J (pre ++ [x]) W' ∧ KeepF n₀ Bs W W') ∨ (e = .returned (.bool false) ∧ Jx (pre ++ [x]) W'))
    (W : World) (hBs : Boxed W Bs 9 (.string s)) (hT : Tab W) (h0 : J [] W) :
    CallsIn F n Tryd.prog 30 #[.func (.yield l) #[] #[], .pointer (some ⟨Bs, 0, none⟩)] W fun e W' => (∃ v, e = .returned v) ∧
      ((∃ ys, ys.map (·.data.toList) = fld [] s.data.toList ∧ J ys W') ∨ (∃ pre, (pre.map (·.data.toList)) <+: fld [] s.data.toList ∧ Jx pre W')) := by
  have d2 := hBs.cell
  have h1 : 1 ≤ n := hn
  refine callsIn_of_wp Tryd.func30 rfl h30 ?_ hro
  simp only [Tryd.ntmps30, List.size_toArray, List.length_cons, List.length_nil, Nat.reduceAdd, Nat.reduceSub, Array.replicate_succ, Array.replicate_zero, List.push_toArray, List.append_toArray, List.nil_append, List.cons_append]
  gi_wp2
  gi_loopw [3, 4] (fun st i wr => ∃ (k : Nat) (pre : List ByteArray) (cur : List UInt8), k ≤ s.size ∧ i = .int .i64 k ∧ Begun s k st cur ∧ Hid (Boxed wr Bs 9 (.string s)) ∧ Hid (Tab wr) ∧ Hid (pre.map (·.data.toList) ++ fld cur (s.data.toList.drop k) = fld [] s.data.toList) ∧ Hid (J pre wr))
    (fun _ i _ => s.size - (intOf i).toNat)
  case atStart => exact ⟨0, [], [], Nat.zero_le _, rfl, .inl ⟨rfl, rfl⟩, Lib.hid hBs, Lib.hid hT, Lib.hid (by simp), Lib.hid h0⟩
  case round =>
    obtain ⟨k, pre, cur, hk, rfl, hbg, hbs, htab, hp, hJ⟩ := hrel
    have e2 := hbs.out.cell
    by_cases hlt : k < s.size
    · have hmem : s[k]'hlt ∈ s.data.toList := List.mem_of_getElem? (i := k) (by rw [List.getElem?_eq_getElem (by rw [data_len]; exact hlt)]; rfl)
      obtain ⟨b1, b2⟩ := hlb _ hmem
      have hrest := drop_at s hlt
      have hlt2 : k < s.data.size := hlt
      have hi1 : (32 : Int) ≤ ((s[k]'hlt).toNat : Int) := by omega
      have hi2 : ((s[k]'hlt).toNat : Int) ≤ 126 := by omega
      have htc := htab.out (s[k]'hlt).toNat b1 b2
      rw [hrest] at hp
      clear hmem hrest
      rcases hbg with ⟨rfl, rfl⟩ | ⟨a, ha, rfl, hcur⟩
      · by_cases h32 : (s[k]'hlt).toNat = 32
        · have htc0 := htab.out 32 (Nat.le_refl _) (by decide)
          rw [if_pos rfl] at htc0
          have hp2 := hp.out
          rw [fld_skip h32 rfl] at hp2
          replace hp2 := Lib.hid hp2
          clear hp htc
          gi_wp2
          go_roundw
          case rel => exact ⟨k + 1, pre, [], by omega, by go_num, .inl ⟨rfl, rfl⟩, hbs, htab, hp2, hJ⟩
          case measure => simp [intOf]; omega
        · rw [if_neg h32] at htc
          have hp2 := hp.out
          rw [fld_go h32] at hp2
          replace hp2 := Lib.hid hp2
          have hbg2 := Lib.hid (begun_new hlt)
          clear hp h32
          gi_wp2
          go_roundw
          case rel => exact ⟨k + 1, pre, _, by omega, by go_num, hbg2.out, hbs, htab, hp2, hJ⟩
          case measure => simp [intOf]; omega
      · have ha0 : (0 : Int) ≤ (a : Int) := by omega
        have hne := Lib.hid (extract_ne s ha hk)
        by_cases h32 : (s[k]'hlt).toNat = 32
        · have htc0 := htab.out 32 (Nat.le_refl _) (by decide)
          rw [if_pos rfl] at htc0
          have hp2 := hp.out
          rw [fld_cut h32 (by rw [hcur]; exact hne.out), hcur] at hp2
          have hlen : pre.length < (fld [] s.data.toList).length := by
            rw [← hp2]; simp
          replace hp2 := Lib.hid hp2
          clear hp htc hcur
          obtain ⟨fn, tmps, assign, body, hy, hRd⟩ := hY pre (s.extract a k) wr hJ.out hlen
          clear hlen
          gi_wp2
          refine hRd.mono ?_
          rintro e W3 (⟨rfl, hJ3, hk3⟩ | ⟨rfl, hJx3⟩)
          · have hb3 : Hid (Boxed W3 Bs 9 (.string s)) := Lib.hid (hk3.2.trans hbs.out)
            have ht3 : Hid (Tab W3) := Lib.hid (htab.out.below h0n hk3.1)
            have hJ4 : Hid (J (pre ++ [s.extract a k]) W3) := Lib.hid hJ3
            clear hJ3 hk3
            gi_wp2
            go_roundw
            case rel => exact ⟨k + 1, pre ++ [s.extract a k], [], by omega, by go_num, .inl ⟨rfl, rfl⟩, hb3, ht3, Lib.hid (by have := hp2.out; simpa using this), hJ4⟩
            case measure => simp [intOf]; omega
          · have hJ4 : Hid (Jx (pre ++ [s.extract a k]) W3) := Lib.hid hJx3
            clear hJx3
            gi_wp2
            refine bodyPost_ret (results_none rfl _ _ _) rfl ?_
            exact ⟨⟨_, rfl⟩, .inr ⟨_, ⟨fld [] (s.data.toList.drop (k + 1)), by have := hp2.out; simpa using this⟩, hJ4.out⟩⟩
        · rw [if_neg h32] at htc
          have hp2 := hp.out
          rw [fld_go h32] at hp2
          replace hp2 := Lib.hid hp2
          have hbg2 := Lib.hid (begun_grow hlt ha hcur)
          clear hp h32 hcur
          gi_wp2
          go_roundw
          case rel => exact ⟨k + 1, pre, _, by omega, by go_num, hbg2.out, hbs, htab, hp2, hJ⟩
          case measure => simp [intOf]; omega
    · obtain rfl : k = s.size := by omega
      have hp2 := hp.out
      rw [List.drop_eq_nil_of_le (by rw [data_len]; exact Nat.le_refl _)] at hp2
      rcases hbg with ⟨rfl, rfl⟩ | ⟨a, ha, rfl, hcur⟩
      · replace hp2 := Lib.hid hp2
        clear hp
        gi_wp2
        go_end0
        exact ⟨⟨_, rfl⟩, .inl ⟨pre, by have := hp2.out; simpa [fld] using this, hJ.out⟩⟩
      · have ha0 : (0 : Int) ≤ (a : Int) := by omega
        have hne := extract_ne s ha hk
        have hp3 : pre.map (·.data.toList) ++ [(s.extract a s.size).data.toList] = fld [] s.data.toList := by
          rw [← hp2, hcur]; simp only [fld, if_neg hne]
        have hlen : pre.length < (fld [] s.data.toList).length := by
          rw [← hp3]; simp
        replace hp3 := Lib.hid hp3
        clear hp hp2 hcur hne
        obtain ⟨fn, tmps, assign, body, hy, hRd⟩ := hY pre (s.extract a s.size) wr hJ.out hlen
        clear hlen
        gi_wp2
        refine hRd.mono ?_
        rintro e W3 (⟨rfl, hJ3, hk3⟩ | ⟨rfl, hJx3⟩)
        · replace hJ3 := Lib.hid hJ3
          clear hk3
          gi_wp2
          go_end0
          exact ⟨⟨_, rfl⟩, .inl ⟨_, by have := hp3.out; simpa using this, hJ3.out⟩⟩
        · replace hJx3 := Lib.hid hJx3
          gi_wp2
          go_end0
          exact ⟨⟨_, rfl⟩, .inr ⟨_, ⟨[], by have := hp3.out; simpa using this⟩, hJx3.out⟩⟩

theorem keepF_t {n₀ Bs : Nat} {A B C : World} (h : KeepF n₀ Bs A B) (k : KeepF n₀ Bs B C) : KeepF n₀ Bs A C := ⟨h.1.trans k.1, k.2.trans h.2⟩
theorem keepF_b {n₀ Bs B : Nat} (hn : n₀ ≤ B) (hB : Bs < B) (W : World) (l : Nat) (o o' : Obj) (hl : B ≤ l) (ho : W.heap[l]? = some o) (hc : o.isCells = false) (hw : o.isWalk = false) : KeepF n₀ Bs W (W.putObj l o') :=
  ⟨(Below.refl n₀ W).grown (grownBy_putObj' W l o') (by have := (Array.getElem?_eq_some_iff.1 ho).1; omega) (fun k e => by cases e; omega), World.putObj_heap_other (by omega)⟩

theorem fields_stops (F : Fence) (n : Nat) (h30 : F.fn 30) (hro : F.round = none) (hn : 1 ≤ n) (Bs n₀ : Nat) (h0n : 0 < n₀) (s : ByteArray) (hm : s.size ≤ 9223372036854775806) (hlb : ∀ c ∈ s.data.toList, lb c) (w : World) (hBs : Boxed w Bs 9 (.string s)) (hT : Tab w) (hz : 0 < w.heap.size) :
    SeqStopsK F n Tryd.prog 30 #[.pointer (some ⟨Bs, 0, none⟩)] (fun x : ByteArray => #[.string x]) (KeepF n₀ Bs) (fun ys => ys.map (·.data.toList) = fld [] s.data.toList) (fun pre => (pre.map (·.data.toList)) <+: fld [] s.data.toList) (fld [] s.data.toList).length w := fun l J Jx W hW _ _ hY h0 =>
  fields1_in F n h30 hro hn l Bs n₀ h0n s hm hlb J Jx hY W ((hW.block Bs hBs.lt).trans hBs) (hT.below hz hW) h0

theorem fields_any (s : ByteArray) (w : World) : Calls Tryd.prog 23 #[.string s] w fun e w' => e = .returned (.func (.func 30) #[] #[.pointer (some ⟨w.heap.size, 0, none⟩)]) ∧ w' = w.alloc (.cells #[.string s] 9) := by
  go_enter Tryd.func23, Tryd.ntmps23
  go_wp2
  go_ret
  exact ⟨rfl, rfl⟩
end Go.Proofs.YtopflkfnfgcogaaDoor
