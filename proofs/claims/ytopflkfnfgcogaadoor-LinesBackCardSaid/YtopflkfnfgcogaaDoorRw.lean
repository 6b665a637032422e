/-
  The document's Split: its walk.
-/
import Derived.Test.YtopflkfnfgcogaaDoorRs
namespace Go.Proofs.YtopflkfnfgcogaaDoor
open Go.RowKit Go

/-- Behind the last round. -/
def RD (s : ByteArray) (w W : World) (vo : Value) : Prop := ∃ out, refM s.data.toList [] [] [] false = some out ∧ LL W w.heap.size vo (out.map (·.map toB)) ∧ Below w.heap.size w W

theorem wd_empty {wd : ByteArray} (h : wd.data.toList = []) : wd = ⟨#[]⟩ := by
  have : wd.data = #[] := Array.toList_inj.1 (by simpa using h)
  cases wd; simp at this; subst this; rfl
theorem wd_full {wd : ByteArray} (h : ¬ wd.data.toList = []) : ¬ wd.toList = [] ∧ wd.toList.isEmpty = false := by
  rw [ByteArray.toList_eq]
  exact ⟨h, by simpa using h⟩

theorem line_alloc {W : World} {m n : Nat} {vl : Value} {xs : List Value} (h : W.ownsRow m 9 1 vl n xs) : ∃ a c, vl = .slice a n c := own_shape h

theorem below_append {W w1 w : World} {base m n : Nat} {e : TypeId} {v x : Value} {xs : List Value} {t : TypeId} (h : W.ownsRow m e 1 v n xs) (hm : base ≤ m) (hg : (W.alloc (.cells #[x] t)).grownBy w1 v.ownBlock) (hB : Below base w W) (hz : base ≤ W.heap.size) : Below base w w1 :=
  (hB.alloc hz _).grown hg (by simp; omega) (fun k e => by have := (own_at h e).1; omega)

theorem toB_data (wd : ByteArray) : toB wd.data.toList = wd := rfl

theorem RS.line1 {s wd : ByteArray} {w W w1 : World} {k m : Nat} {vo vl v1 : Value} {rem : Bool} {out : List (List (List UInt8))} {line : List (List UInt8)} (hR : RS s w W k vo vl wd rem out line m)
    (hown : w1.ownsRow m 9 1 v1 (line.length + 1) (line.map (fun l => Value.string (toB l)) ++ [.string wd])) (hgrow : (W.alloc (.cells #[.string wd] 9)).grownBy w1 vl.ownBlock) :
    L2 w1 w.heap.size m vo (out.map (·.map toB)) ∧ w1.ownsRow m 9 1 v1 (line ++ [wd.data.toList]).length ((line ++ [wd.data.toList]).map (fun l => .string (toB l))) ∧ m ≤ w1.heap.size ∧ Below w.heap.size w w1 := by
  have hB := below_append hR.row hR.hb hgrow hR.below (by have := hR.hm; have := hR.hb; omega)
  refine ⟨hR.lines.line hR.row hgrow, ?_, ?_, hB⟩
  · rw [texts_snoc, toB_data]; simpa using hown
  · have := hgrow.size
    have := hR.hm
    simp at *
    omega

theorem out1 {w W w2 : World} {m : Nat} {vo u v2 : Value} {out : List (List (List UInt8))} {line : List (List UInt8)} {cells : List Value}
    (hc : W.ownsRow w.heap.size 39 1 vo out.length cells) (h : ∀ (i : Nat) xs c, (out.map (·.map toB))[i]? = some xs → cells[i]? = some c → W.ownsRow w.heap.size 9 1 c xs.length (xs.map Value.string) ∧ ∀ k, c.ownBlock = some k → k < m)
    (hu : W.ownsRow m 9 1 u line.length (line.map (fun l => .string (toB l)))) (hb : w.heap.size ≤ m) (hm : m ≤ W.heap.size) (hB : Below w.heap.size w W)
    (hown : w2.ownsRow w.heap.size 39 1 v2 (out.length + 1) (cells ++ [u])) (hgrow : (W.alloc (.cells #[u] 39)).grownBy w2 vo.ownBlock) :
    L2 w2 w.heap.size w2.heap.size v2 ((out ++ [line]).map (·.map toB)) ∧ Below w.heap.size w w2 ∧ w.heap.size ≤ w2.heap.size := by
  have hB2 := below_append hc (Nat.le_refl _) hgrow hB (by omega)
  refine ⟨?_, hB2, ?_⟩
  · have := L2.snoc (xss := out.map (·.map toB)) (ys := line.map toB) (by rw [List.length_map]; exact hc) h (by rw [List.length_map, List.map_map]; exact hu) hb (by rw [List.length_map]; exact hown) hgrow
    rw [List.map_append]
    exact this
  · have := hgrow.size
    simp at this
    omega

theorem u8_35 {c : UInt8} : c = 35 ↔ c.toNat = 35 := by
  constructor
  · rintro rfl; rfl
  · intro h
    have : c = UInt8.ofNat c.toNat := by simp
    rw [this, h]; rfl

theorem refM_done {s : ByteArray} {k : Nat} {out : List (List (List UInt8))} {line : List (List UInt8)} {word : List UInt8} {rem : Bool} (hk : k = s.size) (h : refM (s.data.toList.drop k) out line word rem = refM s.data.toList [] [] [] false) :
    refM s.data.toList [] [] [] false = some (endOut out line word) := by
  rw [← h, List.drop_eq_nil_of_le (by rw [data_len]; omega), refM_end]

theorem split_some {s : ByteArray} (hs : ¬ 4096 < s.size) {out : List (List (List UInt8))} (h : refM s.data.toList [] [] [] false = some out) : split s.data.toList = (out, 0) := by
  rw [refM_split] at h
  by_cases hg : s.data.toList.all good = true
  · rw [if_pos hg] at h
    obtain rfl := Option.some.inj h
    unfold split
    rw [if_neg (by rw [data_len]; exact hs), if_pos hg]
  · rw [if_neg hg] at h; cases h
theorem split_none {s : ByteArray} (hs : ¬ 4096 < s.size) (h : refM s.data.toList [] [] [] false = none) : split s.data.toList = ([], 180) := by
  rw [refM_split] at h
  by_cases hg : s.data.toList.all good = true
  · rw [if_pos hg] at h; cases h
  · unfold split
    rw [if_neg (by rw [data_len]; exact hs), if_neg hg]

set_option maxRecDepth 100000 in
set_option maxHeartbeats 8000000 in
theorem rsplit_short {s : ByteArray} (hs : ¬ 4096 < s.size) (w : World) : Calls Tryd.prog 7 #[.string s] w (SplitPost s w) := by
  have hp : Hid (∀ out, refM s.data.toList [] [] [] false = some out → split s.data.toList = (out, 0)) := Lib.hid (fun out h => split_some hs h)
  have hq : Hid (refM s.data.toList [] [] [] false = none → split s.data.toList = ([], 180)) := Lib.hid (fun h => split_none hs h)
  obtain ⟨i9, p1, p2, p3, p4⟩ := info_parts info9
  obtain ⟨i39, q1, q2, q3, q4⟩ := info_parts info39
  go_enter Tryd.func7, Tryd.ntmps7
  go_wp2
  go_loopw [4, 5, 6, 7, 8] (fun vo vl vw vr vi wr => (∃ (k : Nat) (wd : ByteArray) (rem : Bool) (out : List (List (List UInt8))) (line : List (List UInt8)) (m : Nat), vi = .int .i64 k ∧ vw = .string wd ∧ vr = .bool rem ∧ k ≤ s.size ∧ Hid (RS s w wr k vo vl wd rem out line m)) ∨ (vi = .int .i64 ((s.size + 1 : Nat) : Int) ∧ Hid (RD s w wr vo))) (fun _ _ _ _ i _ => s.size + 1 - (intOf i).toNat)
  case atStart => exact .inl ⟨0, ⟨#[]⟩, false, [], [], w.heap.size, rfl, rfl, rfl, Nat.zero_le _, Lib.hid ⟨L2.nil _ _ _, World.ownsRow_nil _ _ _ _, Nat.le_refl _, Nat.le_refl _, Below.refl _ _, by simp, by simp, by simp [ByteArray.size], by simp⟩⟩
  case round =>
    rcases hrel with ⟨k, wd, rem, out, line, m, rfl, rfl, rfl, hk, hR⟩ | ⟨rfl, hD⟩
    · have hrow := hR.out.row
      obtain ⟨al, cl, rfl⟩ := own_shape hrow
      have hm := hR.out.hm
      have hl2 := hR.out.l2
      have hl1 := hR.out.l1
      have hl3 := hR.out.l3
      replace hrow := Lib.hid hrow
      by_cases hlt : k < s.size
      · have hne : ((k : Int) == (s.size : Int)) = false := by simp; omega
        have hne2 : decide ((k : Int) = (s.size : Int)) = false := by simp; omega
        have hpure := hR.out.pure
        rw [drop_at s hlt] at hpure
        cases hc : good (s[k]'hlt) with
        | false =>
          rw [refM_bad1 hc] at hpure
          have hsp := Lib.hid (hq.out hpure.symm)
          obtain ⟨h1, h2⟩ := bad_cases hc
          have hb10 : (((s[k]'hlt).toNat : Int) == 10) = false := by simp; omega
          clear hc hpure
          rcases h2 with h2 | h2
          · have hx1 : ((s[k]'hlt).toNat : Int) < 32 := by omega
            clear h1 h2
            go_wp2
            go_ret2
            exact split_nil hsp.out hR.out.below
          · have hx1 : (126 : Int) < ((s[k]'hlt).toNat : Int) := by omega
            have hx2 : (32 : Int) ≤ ((s[k]'hlt).toNat : Int) := by omega
            clear h1 h2
            go_wp2
            go_ret2
            exact split_nil hsp.out hR.out.below
        | true =>
        have hcs := good_cases hc
        by_cases h10 : (s[k]'hlt).toNat = 10
        · have hb10 : (((s[k]'hlt).toNat : Int) == 10) = true := by simp; omega
          have hpure := hpure
          rw [refM_10 h10] at hpure
          clear hc hcs h10
          by_cases hw : wd.data.toList = []
          · obtain rfl := wd_empty hw
            by_cases hl0 : line = []
            · subst hl0
              rw [endOut_0 hw rfl] at hpure
              clear hw
              replace hpure := Lib.hid hpure
              go_wp2
              go_roundw
              case rel => exact .inl ⟨k + 1, ⟨#[]⟩, false, out, [], m, by go_num, rfl, rfl, by omega, Lib.hid ⟨hR.out.lines, World.ownsRow_nil _ _ _ _, hm, hR.out.hb, hR.out.below, by omega, by simp, by simp [ByteArray.size], hpure.out⟩⟩
              case measure => simp [intOf] <;> omega
            · have hl00 : 0 < line.length := List.length_pos_iff.2 hl0
              rw [endOut_l hw hl0] at hpure
              replace hpure := Lib.hid hpure
              obtain ⟨cells, hcells, hinn⟩ := hR.out.lines
              rw [List.length_map] at hcells
              replace hcells := Lib.hid hcells
              replace hinn := Lib.hid hinn
              have hbb := hR.out.hb
              clear hl0 hw
              go_wp2_with (at_builtin; refine wpList_append_own _ rfl _ _ 22 rfl w.heap.size 39 i39 (.slice none 0 0) 1 24 Tryd.underlying22 q1 q2 q3 q4 rfl (by decide) _ _ _ rfl (hcells.out.alloc _) ⟨wr.heap.size, 0, none⟩ 1 1 [.slice al line.length cl] rfl rfl (cell_one_new _ _ _) (by simp [Value.oneCell']) (by unfold maxLen; omega) (by omega) (by simp; omega) ?_; intro v2 w2 hown2 hgrow2 _; obtain ⟨g2, cap2, rfl⟩ := ownsRow_succ hown2; replace hown2 := Lib.hid hown2; replace hgrow2 := Lib.hid hgrow2)
              have ⟨o1, o2, o3⟩ := out1 hcells.out hinn.out hrow.out hR.out.hb hm hR.out.below hown2.out hgrow2.out
              go_roundw
              case rel => exact .inl ⟨k + 1, ⟨#[]⟩, false, _, [], _, by go_num, rfl, rfl, by omega, Lib.hid ⟨o1, World.ownsRow_nil _ _ _ _, Nat.le_refl _, o3, o2, by simp; omega, by simp, by simp [ByteArray.size], hpure.out⟩⟩
              case measure => simp [intOf] <;> omega
          · obtain ⟨hw1, hw2⟩ := wd_full hw
            rw [endOut_w hw] at hpure
            replace hpure := Lib.hid hpure
            have hbb := hR.out.hb
            clear hw
            go_wp2_with (first | (at_builtin; refine wpList_append_own _ rfl _ _ 39 rfl m 9 i9 (.string ⟨#[]⟩) 1 16 Tryd.underlying39 p1 p2 p3 p4 rfl (by decide) _ _ _ rfl (hrow.out.alloc _) ⟨wr.heap.size, 0, none⟩ 1 1 [.string wd] rfl rfl (cell_one_new _ _ _) (by simp [Value.oneCell']) (by unfold maxLen; omega) (by omega) (by simp; omega) ?_; intro v1 w1 hown1 hgrow1 _; obtain ⟨g1, cap1, rfl⟩ := ownsRow_succ hown1; obtain ⟨r1, r2, r3, r4⟩ := hR.out.line1 hown1 hgrow1; have hm1 := r3; obtain ⟨cells, hcells, hinn⟩ := r1; rw [List.length_map] at hcells; replace r2 := Lib.hid r2; replace r4 := Lib.hid r4; replace hcells := Lib.hid hcells; replace hinn := Lib.hid hinn; clear hown1 hgrow1 r3) | (at_builtin; refine wpList_append_own _ rfl _ _ 22 rfl w.heap.size 39 i39 (.slice none 0 0) 1 24 Tryd.underlying22 q1 q2 q3 q4 rfl (by decide) _ _ _ rfl (hcells.out.alloc _) ⟨w1.heap.size, 0, none⟩ 1 1 [.slice (some ⟨g1, 0, none⟩) (line.length + 1) cap1] rfl rfl (cell_one_new _ _ _) (by simp [Value.oneCell']) (by unfold maxLen; omega) (by omega) (by simp; omega) ?_; intro v2 w2 hown2 hgrow2 _; obtain ⟨g2, cap2, rfl⟩ := ownsRow_succ hown2; replace hown2 := Lib.hid hown2; replace hgrow2 := Lib.hid hgrow2))
            have ⟨o1, o2, o3⟩ := out1 (line := line ++ [wd.data.toList]) hcells.out hinn.out r2.out hR.out.hb hm1 r4.out hown2.out hgrow2.out
            go_roundw
            case rel => exact .inl ⟨k + 1, ⟨#[]⟩, false, _, [], _, by go_num, rfl, rfl, by omega, Lib.hid ⟨o1, World.ownsRow_nil _ _ _ _, Nat.le_refl _, o3, o2, by simp; omega, by simp, by simp [ByteArray.size], hpure.out⟩⟩
            case measure => simp [intOf] <;> omega
        · have hb10 : (((s[k]'hlt).toNat : Int) == 10) = false := by simp; omega
          have hx1 : (32 : Int) ≤ ((s[k]'hlt).toNat : Int) := by omega
          have hx2 : ((s[k]'hlt).toNat : Int) ≤ 126 := by omega
          by_cases h32 : (s[k]'hlt).toNat = 32
          · rw [refM_32 h32] at hpure
            by_cases hw : wd.data.toList = []
            · obtain rfl := wd_empty hw
              rw [if_pos hw] at hpure
              replace hpure := Lib.hid hpure
              clear hc hcs hw
              go_wp2
              go_roundw
              case rel => exact .inl ⟨k + 1, ⟨#[]⟩, rem, out, line, m, by go_num, rfl, rfl, by omega, Lib.hid ⟨hR.out.lines, hrow.out, hm, hR.out.hb, hR.out.below, by omega, by omega, by simp [ByteArray.size], hpure.out⟩⟩
              case measure => simp [intOf] <;> omega
            · obtain ⟨hw1, hw2⟩ := wd_full hw
              rw [if_neg hw] at hpure
              replace hpure := Lib.hid hpure
              clear hc hcs hw
              go_wp2_with (at_builtin; refine wpList_append_own _ rfl _ _ 39 rfl m 9 i9 (.string ⟨#[]⟩) 1 16 Tryd.underlying39 p1 p2 p3 p4 rfl (by decide) _ _ _ rfl (hrow.out.alloc _) ⟨wr.heap.size, 0, none⟩ 1 1 [.string wd] rfl rfl (cell_one_new _ _ _) (by simp [Value.oneCell']) (by unfold maxLen; omega) (by omega) (by simp; omega) ?_; intro v1 w1 hown1 hgrow1 _; obtain ⟨g1, cap1, rfl⟩ := ownsRow_succ hown1; obtain ⟨r1, r2, r3, r4⟩ := hR.out.line1 hown1 hgrow1; have hm1 := r3; replace r1 := Lib.hid r1; replace r2 := Lib.hid r2; replace r4 := Lib.hid r4; clear hown1 hgrow1 r3)
              go_roundw
              case rel => exact .inl ⟨k + 1, ⟨#[]⟩, rem, out, line ++ [wd.data.toList], m, by go_num, rfl, rfl, by omega, Lib.hid ⟨r1.out, by simpa using r2.out, hm1, hR.out.hb, r4.out, by omega, by simp; omega, by simp [ByteArray.size], hpure.out⟩⟩
              case measure => simp [intOf] <;> omega
          · have hb32 : (((s[k]'hlt).toNat : Int) != 32) = true := by simp; omega
            rw [refM_go h10 h32 hc] at hpure
            have hw65 : IntKind.i64.wrap ((k : Int) + 1) = (k : Int) + 1 := IntWalk.i64_in _ (by omega)
            have hex : Hid ((wd ++ s.extract k (k + 1)).data.toList = wd.data.toList ++ [s[k]'hlt]) := Lib.hid (by
              rw [ByteArray.data_append, Array.toList_append, extract_snoc s (Nat.le_refl _) hlt]
              simp)
            have hes : (s.extract k (k + 1)).size = 1 := by
              have h5 := congrArg List.length (extract_snoc s (Nat.le_refl _) hlt)
              rw [data_len, extract_list] at h5
              simpa using h5
            have hk1 : (k : Int) + 1 ≤ (s.size : Int) := by omega
            have hsum : wd.size + (s.extract k (k + 1)).size ≤ 9223372036854775807 := by omega
            have hsz2 : (wd ++ s.extract k (k + 1)).size = wd.size + 1 := by rw [ByteArray.size_append, hes]
            replace hes := Lib.hid hes
            replace hsz2 := Lib.hid hsz2
            cases rem with
            | true =>
              rw [Bool.true_or, if_pos rfl] at hpure
              replace hpure := Lib.hid hpure
              clear hc hcs
              by_cases hw : wd.data.toList = []
              · obtain rfl := wd_empty hw
                clear hw
                by_cases h35 : (s[k]'hlt).toNat = 35
                · have hb35 : (((s[k]'hlt).toNat : Int) == 35) = true := by simp; omega
                  go_wp2
                  go_roundw
                  case rel => exact .inl ⟨k + 1, ⟨#[]⟩, true, out, line, m, by go_num, rfl, rfl, by omega, Lib.hid ⟨hR.out.lines, hrow.out, hm, hR.out.hb, hR.out.below, by omega, by omega, by simp [ByteArray.size], hpure.out⟩⟩
                  case measure => simp [intOf] <;> omega
                · have hb35 : (((s[k]'hlt).toNat : Int) == 35) = false := by simp; omega
                  go_wp2
                  go_roundw
                  case rel => exact .inl ⟨k + 1, ⟨#[]⟩, true, out, line, m, by go_num, rfl, rfl, by omega, Lib.hid ⟨hR.out.lines, hrow.out, hm, hR.out.hb, hR.out.below, by omega, by omega, by simp [ByteArray.size], hpure.out⟩⟩
                  case measure => simp [intOf] <;> omega
              · obtain ⟨hw1, hw2⟩ := wd_full hw
                clear hw
                go_wp2
                go_roundw
                case rel => exact .inl ⟨k + 1, wd, true, out, line, m, by go_num, rfl, rfl, by omega, Lib.hid ⟨hR.out.lines, hrow.out, hm, hR.out.hb, hR.out.below, by omega, by omega, by omega, hpure.out⟩⟩
                case measure => simp [intOf] <;> omega
            | false =>
              rw [Bool.false_or] at hpure
              by_cases hw : wd.data.toList = []
              · obtain rfl := wd_empty hw
                by_cases h35 : (s[k]'hlt).toNat = 35
                · have hb35 : (((s[k]'hlt).toNat : Int) == 35) = true := by simp; omega
                  have hd36 : decide (s[k]'hlt = 35) = true := decide_eq_true (u8_35.2 h35)
                  rw [decide_eq_true hw, hd36, Bool.and_true, if_pos rfl] at hpure
                  replace hpure := Lib.hid hpure
                  clear hc hcs hw hd36
                  go_wp2
                  go_roundw
                  case rel => exact .inl ⟨k + 1, ⟨#[]⟩, true, out, line, m, by go_num, rfl, rfl, by omega, Lib.hid ⟨hR.out.lines, hrow.out, hm, hR.out.hb, hR.out.below, by omega, by omega, by simp [ByteArray.size], hpure.out⟩⟩
                  case measure => simp [intOf] <;> omega
                · have hb35 : (((s[k]'hlt).toNat : Int) == 35) = false := by simp; omega
                  have hd36 : decide (s[k]'hlt = 35) = false := decide_eq_false (fun e => h35 (u8_35.1 e))
                  rw [hd36, Bool.and_false, if_neg (by simp)] at hpure
                  replace hpure := Lib.hid hpure
                  clear hc hcs hw hd36
                  go_wp2
                  go_roundw
                  case rel => exact .inl ⟨k + 1, _, false, out, line, m, by go_num, rfl, rfl, by omega, Lib.hid ⟨hR.out.lines, hrow.out, hm, hR.out.hb, hR.out.below, by omega, by omega, by rw [hsz2.out]; omega, by rw [hex.out]; exact hpure.out⟩⟩
                  case measure => simp [intOf] <;> omega
              · obtain ⟨hw1, hw2⟩ := wd_full hw
                rw [decide_eq_false hw, Bool.false_and, if_neg (by simp)] at hpure
                replace hpure := Lib.hid hpure
                clear hc hcs hw
                go_wp2
                go_roundw
                case rel => exact .inl ⟨k + 1, _, false, out, line, m, by go_num, rfl, rfl, by omega, Lib.hid ⟨hR.out.lines, hrow.out, hm, hR.out.hb, hR.out.below, by omega, by omega, by rw [hsz2.out]; omega, by rw [hex.out]; exact hpure.out⟩⟩
                case measure => simp [intOf] <;> omega
      · obtain rfl : k = s.size := by omega
        have hne : ((s.size : Int) == (s.size : Int)) = true := by simp
        have hpure := refM_done rfl hR.out.pure
        by_cases hw : wd.data.toList = []
        · obtain rfl := wd_empty hw
          by_cases hl0 : line = []
          · subst hl0
            rw [endOut_0 hw rfl] at hpure
            clear hw
            replace hpure := Lib.hid hpure
            go_wp2
            go_roundw
            case rel => exact .inr ⟨by go_num, Lib.hid ⟨_, hpure.out, hR.out.lines.ll, hR.out.below⟩⟩
            case measure => simp [intOf] <;> omega
          · have hl00 : 0 < line.length := List.length_pos_iff.2 hl0
            rw [endOut_l hw hl0] at hpure
            replace hpure := Lib.hid hpure
            obtain ⟨cells, hcells, hinn⟩ := hR.out.lines
            rw [List.length_map] at hcells
            replace hcells := Lib.hid hcells
            replace hinn := Lib.hid hinn
            have hbb := hR.out.hb
            clear hl0 hw
            go_wp2_with (at_builtin; refine wpList_append_own _ rfl _ _ 22 rfl w.heap.size 39 i39 (.slice none 0 0) 1 24 Tryd.underlying22 q1 q2 q3 q4 rfl (by decide) _ _ _ rfl (hcells.out.alloc _) ⟨wr.heap.size, 0, none⟩ 1 1 [.slice al line.length cl] rfl rfl (cell_one_new _ _ _) (by simp [Value.oneCell']) (by unfold maxLen; omega) (by omega) (by simp; omega) ?_; intro v2 w2 hown2 hgrow2 _; obtain ⟨g2, cap2, rfl⟩ := ownsRow_succ hown2; replace hown2 := Lib.hid hown2; replace hgrow2 := Lib.hid hgrow2)
            have ⟨o1, o2, o3⟩ := out1 hcells.out hinn.out hrow.out hR.out.hb hm hR.out.below hown2.out hgrow2.out
            go_roundw
            case rel => exact .inr ⟨by go_num, Lib.hid ⟨_, hpure.out, o1.ll, o2⟩⟩
            case measure => simp [intOf] <;> omega
        · obtain ⟨hw1, hw2⟩ := wd_full hw
          rw [endOut_w hw] at hpure
          replace hpure := Lib.hid hpure
          have hbb := hR.out.hb
          clear hw
          go_wp2_with (first | (at_builtin; refine wpList_append_own _ rfl _ _ 39 rfl m 9 i9 (.string ⟨#[]⟩) 1 16 Tryd.underlying39 p1 p2 p3 p4 rfl (by decide) _ _ _ rfl (hrow.out.alloc _) ⟨wr.heap.size, 0, none⟩ 1 1 [.string wd] rfl rfl (cell_one_new _ _ _) (by simp [Value.oneCell']) (by unfold maxLen; omega) (by omega) (by simp; omega) ?_; intro v1 w1 hown1 hgrow1 _; obtain ⟨g1, cap1, rfl⟩ := ownsRow_succ hown1; obtain ⟨r1, r2, r3, r4⟩ := hR.out.line1 hown1 hgrow1; have hm1 := r3; obtain ⟨cells, hcells, hinn⟩ := r1; rw [List.length_map] at hcells; replace r2 := Lib.hid r2; replace r4 := Lib.hid r4; replace hcells := Lib.hid hcells; replace hinn := Lib.hid hinn; clear hown1 hgrow1 r3) | (at_builtin; refine wpList_append_own _ rfl _ _ 22 rfl w.heap.size 39 i39 (.slice none 0 0) 1 24 Tryd.underlying22 q1 q2 q3 q4 rfl (by decide) _ _ _ rfl (hcells.out.alloc _) ⟨w1.heap.size, 0, none⟩ 1 1 [.slice (some ⟨g1, 0, none⟩) (line.length + 1) cap1] rfl rfl (cell_one_new _ _ _) (by simp [Value.oneCell']) (by unfold maxLen; omega) (by omega) (by simp; omega) ?_; intro v2 w2 hown2 hgrow2 _; obtain ⟨g2, cap2, rfl⟩ := ownsRow_succ hown2; replace hown2 := Lib.hid hown2; replace hgrow2 := Lib.hid hgrow2))
          have ⟨o1, o2, o3⟩ := out1 (line := line ++ [wd.data.toList]) hcells.out hinn.out r2.out hR.out.hb hm1 r4.out hown2.out hgrow2.out
          go_roundw
          case rel => exact .inr ⟨by go_num, Lib.hid ⟨_, hpure.out, o1.ll, o2⟩⟩
          case measure => simp [intOf] <;> omega
    · have hgt : (s.size : Int) < (s.size : Int) + 1 := by omega
      obtain ⟨out, r1, r2, r3⟩ := hD.out
      have hout := Lib.hid (hp.out out r1)
      replace r2 := Lib.hid r2
      replace r3 := Lib.hid r3
      clear r1
      go_wp2
      go_ret2
      refine ⟨u4, ?_, ?_, r3.out⟩
      · rw [hout.out]; rfl
      · rw [hout.out]; exact r2.out

theorem rsplit_long {s : ByteArray} (hs : 4096 < s.size) (w : World) : Calls Tryd.prog 7 #[.string s] w (SplitPost s w) := by
  have hp : Hid (split s.data.toList = ([], 3)) := Lib.hid (by unfold split; rw [if_pos (by rw [data_len]; exact hs)])
  go_enter Tryd.func7, Tryd.ntmps7
  go_wp2
  go_ret2
  exact split_nil hp.out (Below.refl _ _)

theorem rsplit_any (s : ByteArray) (w : World) : Calls Tryd.prog 7 #[.string s] w (SplitPost s w) := by
  by_cases hs : 4096 < s.size
  · exact rsplit_long hs w
  · exact rsplit_short hs w
end Go.Proofs.YtopflkfnfgcogaaDoor
