/-
  strings.SplitSeq at one byte: the iterator.
-/
import Derived.Test.YtopflkfnfgcogaaDoorSeq
import Derived.Test.YtopflkfnfgcogaaDoorPure
import Derived.Test.YtopflkfnfgcogaaDoorShelf
import Derived.RangeFuncNested
import Derived.RangeFuncBound
import Derived.RangeFuncCalls
import Derived.RangeFuncLeaves
import Derived.Shelf.Abstract
import Derived.Shelf.RegionOpen
import Derived.WalkKit
import Derived.OwnWalkIn
import Derived.TacticsInMore
import Derived.LoopNIn
import Derived.LoopIn
import Derived.Lib.Hide
import Derived.IntWalk
namespace Go.Proofs.YtopflkfnfgcogaaDoor
open Go.RowKit Go.Shelf Go
attribute [local go_sem] Oper.semAt_some

theorem index_cases (l : List UInt8) (c : UInt8) : (Lib.indexByte l c = -1 ∧ c ∉ l) ∨ ∃ a b, l = a ++ c :: b ∧ c ∉ a ∧ Lib.indexByte l c = a.length := by
  induction l with
  | nil => exact .inl ⟨rfl, by simp⟩
  | cons x r ih =>
    by_cases hx : x = c
    · subst hx
      exact .inr ⟨[], r, rfl, by simp, by simp [Lib.indexByte]⟩
    · have hx' : (x == c) = false := by simpa using hx
      rcases ih with ⟨h1, h2⟩ | ⟨a, b, rfl, h2, h3⟩
      · refine .inl ⟨by simp [Lib.indexByte, hx', h1], ?_⟩
        simp
        exact ⟨fun e => hx e.symm, h2⟩
      · refine .inr ⟨x :: a, b, rfl, ?_, ?_⟩
        · simp
          exact ⟨fun e => hx e.symm, h2⟩
        · have hne : ¬ ((a.length : Int) == -1) = true := by simp
          simp only [Lib.indexByte, hx', h3]
          simp [hne]

/-- What is left, in bytes. -/
def leftAt (Bs : Nat) (w : World) : Nat := match w.cell? ⟨Bs, 0, none⟩ with | some (.string t) => t.size | _ => 0

theorem cut_head {r : ByteArray} {x y : List UInt8} {c : UInt8} (h : r.data.toList = x ++ c :: y) : (r.extract 0 x.length).data.toList = x := by
  rw [ByteArray.data_extract, Array.toList_extract, h]
  simp [List.extract]

theorem cut_tail {r : ByteArray} {x y : List UInt8} {c : UInt8} (h : r.data.toList = x ++ c :: y) : (r.extract (x.length + 1) r.size).data.toList = y := by
  have hs : r.size = x.length + 1 + y.length := by
    have := congrArg List.length h
    simp at this
    omega
  rw [ByteArray.data_extract, Array.toList_extract, h, hs]
  simp [List.extract, List.drop_append]
  rw [List.drop_eq_nil_of_le (by omega)]
  simp

set_option maxHeartbeats 2000000 in
theorem split1_in (F : Fence) (n : Nat) (h27 : F.fn 27) (h29 : F.fn 29) (hro : F.round = none) (hn : 2 ≤ n) (l Bp Bs Bv : Nat) (c : UInt8) (s : ByteArray) (hm : s.size ≤ 9223372036854775806) (J Jx : List ByteArray → World → Prop)
    (I29 : ∀ (t : ByteArray) (w : World), CallsIn F (n - 1) Tryd.prog 29 #[.string t, .string ⟨#[c]⟩] w fun e w' => e = .returned (.int .i64 (Lib.indexByte t.data.toList c)) ∧ w = w')
    (hY : ∀ pre x W, J pre W → pre.length < (parts c s.data.toList).length → (x.size ≤ s.size ∧ x.data.toList ∈ parts c s.data.toList) → YieldAt F (n - 1) Tryd.prog l #[.string x] W fun e W' =>
      (e = .returned (.bool true) ∧ J (pre ++ [x]) W' ∧ (∀ k, k = Bp ∨ k = Bs ∨ k = Bv → W'.heap[k]? = W.heap[k]?)) ∨ (e = .returned (.bool false) ∧ Jx (pre ++ [x]) W'))
    (hT : ∀ pre W v, J pre W → J pre (W.setCell ⟨Bs, 0, none⟩ v))
    (hps : Bp ≠ Bs) (hvs : Bv ≠ Bs) (W : World) (hBp : Boxed W Bp 9 (.string ⟨#[c]⟩)) (hBs : Boxed W Bs 9 (.string s)) (hBv : Boxed W Bv 3 (.int .i64 0)) (h0 : J [] W) :
    CallsIn F n Tryd.prog 27 #[.func (.yield l) #[] #[], .pointer (some ⟨Bp, 0, none⟩), .pointer (some ⟨Bs, 0, none⟩), .pointer (some ⟨Bv, 0, none⟩)] W fun e W' => (∃ v, e = .returned v) ∧
      ((∃ ys, ys.map (·.data.toList) = parts c s.data.toList ∧ J ys W') ∨ (∃ pre, (pre.map (·.data.toList)) <+: parts c s.data.toList ∧ Jx pre W')) := by
  have h1 : 1 ≤ n := by omega
  have d1 := hBp.cell
  have d2 := hBs.cell
  have d3 := hBv.cell
  refine callsIn_of_wp Tryd.func27 rfl h27 ?_ hro
  simp only [Tryd.ntmps27, List.size_toArray, List.length_cons, List.length_nil, Nat.reduceAdd, Nat.reduceSub, Array.replicate_succ, Array.replicate_zero, List.push_toArray, List.append_toArray, List.nil_append, List.cons_append]
  gi_wp2
  gi_loopw [7] (fun _ wr => ∃ (pre : List ByteArray) (rest : ByteArray), rest.size ≤ s.size ∧ Boxed wr Bp 9 (.string ⟨#[c]⟩) ∧ Boxed wr Bs 9 (.string rest) ∧ Boxed wr Bv 3 (.int .i64 0) ∧ Hid (pre.map (·.data.toList) ++ parts c rest.data.toList = parts c s.data.toList) ∧ Hid (J pre wr))
    (fun _ wr => leftAt Bs wr)
  case atStart => exact ⟨[], s, Nat.le_refl _, hBp, hBs, hBv, Lib.hid (by simp), Lib.hid h0⟩
  case round =>
    obtain ⟨pre, rest, hle, bp, bs, bv, hp, hJ⟩ := hrel
    have hlen : pre.length < (parts c s.data.toList).length := by
      rw [← hp.out]
      have := List.length_pos_iff.2 (parts_ne c rest.data.toList)
      simp
      omega
    have e1 := bp.cell
    have e2 := bs.cell
    have e3 := bv.cell
    rcases index_cases rest.data.toList c with ⟨hx, hno⟩ | ⟨x, y, hxy, hno, hx⟩
    · have hpn := Lib.hid (parts_none hno)
      obtain ⟨fn, tmps, assign, body, hy, hRd⟩ := hY pre rest wr hJ.out hlen ⟨hle, by rw [← hp.out, hpn.out]; simp⟩
      clear hno
      gi_wp2_with (gi_at_call 29; refine (I29 _ _).mono ?_; rintro e w' ⟨rfl, rfl⟩; rw [hx])
      refine hRd.mono ?_
      rintro e W3 (⟨rfl, hJ3, hk3⟩ | ⟨rfl, hJx3⟩)
      · replace hJ3 := Lib.hid hJ3
        clear hk3
        gi_wp2
        go_end0
        exact ⟨⟨_, rfl⟩, .inl ⟨pre ++ [rest], by rw [← hp.out, hpn.out]; simp, hJ3.out⟩⟩
      · replace hJx3 := Lib.hid hJx3
        gi_wp2
        go_end0
        exact ⟨⟨_, rfl⟩, .inr ⟨pre ++ [rest], ⟨[], by rw [← hp.out, hpn.out]; simp⟩, hJx3.out⟩⟩
    · have hpn := Lib.hid (parts_at (b := y) hno)
      have hsz : rest.size = x.length + 1 + y.length := by
        have := congrArg List.length hxy
        simp at this
        omega
      have t1 := Lib.hid (cut_head hxy)
      have t2 : Hid ((rest.extract (x.length + 1) (x.length + 1 + y.length)).data.toList = y) := Lib.hid (by have := cut_tail hxy; rw [hsz] at this; exact this)
      have hw1 : IntKind.i64.wrap ((x.length : Int) + 1) = (x.length : Int) + 1 := IntWalk.i64_in _ (by omega)
      replace hxy := Lib.hid hxy
      clear hno
      obtain ⟨fn, tmps, assign, body, hy, hRd⟩ := hY pre (rest.extract 0 x.length) wr hJ.out hlen ⟨by have := congrArg List.length t1.out; simp at this; simp; omega, by rw [t1.out, ← hp.out, hxy.out, hpn.out]; simp⟩
      gi_wp2_with (gi_at_call 29; refine (I29 _ _).mono ?_; rintro e w' ⟨rfl, rfl⟩; rw [hx])
      refine hRd.mono ?_
      rintro e W3 (⟨rfl, hJ3, hk3⟩ | ⟨rfl, hJx3⟩)
      · have bp3 : Boxed W3 Bp 9 (.string ⟨#[c]⟩) := (hk3 Bp (.inl rfl)).trans bp
        have bs3 : Boxed W3 Bs 9 (.string rest) := (hk3 Bs (.inr (.inl rfl))).trans bs
        have bv3 : Boxed W3 Bv 3 (.int .i64 0) := (hk3 Bv (.inr (.inr rfl))).trans bv
        have g1 := bp3.cell
        have g2 := bs3.cell
        have g3 := bs3.frozen
        have fin : ∀ v, leftAt Bs (W3.setCell ⟨Bs, 0, none⟩ (.string v)) = v.size := fun v => by unfold leftAt; rw [(bs3.set (.string v)).cell]
        have fin2 : leftAt Bs wr = rest.size := by unfold leftAt; rw [bs.cell]
        replace hJ3 := Lib.hid hJ3
        replace bp3 := Lib.hid bp3
        replace bs3 := Lib.hid bs3
        replace bv3 := Lib.hid bv3
        clear hk3
        gi_wp2
        go_roundw
        case rel =>
          refine ⟨pre ++ [rest.extract 0 x.length], rest.extract (x.length + 1) (x.length + 1 + y.length), ?_, bp3.out.other hps _, bs3.out.set _, bv3.out.other hvs _, Lib.hid ?_, Lib.hid (hT _ _ _ hJ3.out)⟩
          · have := congrArg List.length t2.out
            simp at this
            simp
            omega
          · rw [← hp.out, hxy.out, hpn.out]
            simp only [List.map_append, List.map_cons, List.map_nil, t1.out, t2.out, List.append_assoc, List.cons_append, List.nil_append]
        case measure =>
          rw [fin, fin2]
          have := congrArg List.length t2.out
          simp at this
          simp
          omega
      · replace hJx3 := Lib.hid hJx3
        gi_wp2
        refine bodyPost_ret (results_none rfl _ _ _) rfl ?_
        exact ⟨⟨_, rfl⟩, .inr ⟨pre ++ [rest.extract 0 x.length], ⟨parts c y, by rw [← hp.out, hxy.out, hpn.out]; simp only [List.map_append, List.map_cons, List.map_nil, t1.out, List.append_assoc, List.cons_append, List.nil_append]⟩, hJx3.out⟩⟩
/-- What a round that goes on keeps: what lay below, and the iterator's three cells. -/
def KeepS (n₀ Bp Bs Bv : Nat) (A B : World) : Prop := Below n₀ A B ∧ ∀ k, k = Bp ∨ k = Bs ∨ k = Bv → B.heap[k]? = A.heap[k]?

/-- What the iterator itself turns: the cell of what is left. -/
def TurnS (Bs : Nat) (A B : World) : Prop := ∃ v, B = A.setCell ⟨Bs, 0, none⟩ v

theorem split_stops (F : Fence) (n : Nat) (h27 : F.fn 27) (h29 : F.fn 29) (hro : F.round = none) (hn : 2 ≤ n) (n₀ Bp Bs Bv : Nat) (c : UInt8) (s : ByteArray) (hm : s.size ≤ 9223372036854775806)
    (I29 : ∀ (t : ByteArray) (w : World), CallsIn F (n - 1) Tryd.prog 29 #[.string t, .string ⟨#[c]⟩] w fun e w' => e = .returned (.int .i64 (Lib.indexByte t.data.toList c)) ∧ w = w')
    (hps : Bp ≠ Bs) (hvs : Bv ≠ Bs) (w : World) (hBp : Boxed w Bp 9 (.string ⟨#[c]⟩)) (hBs : Boxed w Bs 9 (.string s)) (hBv : Boxed w Bv 3 (.int .i64 0)) :
    SeqStopsT F n Tryd.prog 27 #[.pointer (some ⟨Bp, 0, none⟩), .pointer (some ⟨Bs, 0, none⟩), .pointer (some ⟨Bv, 0, none⟩)] (fun x : ByteArray => #[.string x]) (KeepS n₀ Bp Bs Bv) (TurnS Bs) (fun x => x.size ≤ s.size ∧ x.data.toList ∈ parts c s.data.toList)
      (fun ys => ys.map (·.data.toList) = parts c s.data.toList) (fun pre => (pre.map (·.data.toList)) <+: parts c s.data.toList) (parts c s.data.toList).length w := fun l J Jx W hW _ _ hT hY h0 =>
  split1_in F n h27 h29 hro hn l Bp Bs Bv c s hm J Jx I29 (fun pre x W hJ hl hv => YieldAt.mono (hY pre x W hJ hl hv) (by
    rintro e W' (⟨rfl, h1, h2⟩ | h)
    · exact .inl ⟨rfl, h1, h2.2⟩
    · exact .inr h)) (fun pre W v hJ => hT _ _ _ hJ ⟨v, rfl⟩) hps hvs W ((hW.block Bp hBp.lt).trans hBp) ((hW.block Bs hBs.lt).trans hBs) ((hW.block Bv hBv.lt).trans hBv) h0

end Go.Proofs.YtopflkfnfgcogaaDoor
