/-
  The document's rack: its ids in order; lists compared.
-/
import Derived.Test.YtpjipdmlfpgokaaRefE
namespace Go.Proofs.Ytpjipdmlfpgokaa
open Go.RowKit RP

def lstep (last a id : Int) : Int := if last < id ∧ (a = 0 ∨ id < a) then id else a
/-- The least above last; 0: there is none. -/
def lst (l : List Int) (last : Int) : Int := l.foldl (lstep last) 0
def outs (l : List Int) : Nat → List Int × Int
  | 0 => ([], 0)
  | j + 1 => ((outs l j).1 ++ [lst l (outs l j).2], lst l (outs l j).2)
theorem outs_length (l : List Int) (j : Nat) : (outs l j).1.length = j := by
  induction j with
  | zero => rfl
  | succ j ih => simp [outs, ih]

set_option maxHeartbeats 2000000 in
theorem ref_ids {w : World} {base mb : Nat} {F : List Nat} {rows : KV} {size next step : Int} (h : MAt w base mb F rows size next step) (hn : rows.length ≤ 64) :
    Calls Try.prog 24 #[.pointer (some ⟨mb, 0, none⟩)] w fun e w' => ∃ a c, e = .returned (.slice a rows.length c) ∧ Ints w' w.heap.size (.slice a rows.length c) (outs (ks rows) rows.length).1 ∧ Below w.heap.size w w' := by
  obtain ⟨i0, hi, hz0, hz1, hz2⟩ := info_parts info3
  obtain ⟨a, c, c0, c1, c2, c3, hp, fz, hF⟩ := h.cells
  replace hp := Lib.hid hp
  have hmb : mb < w.heap.size := (h.lt mb (by rw [hF]; simp)).2
  clear h hF c0 c1 c2 fz
  go_enter Try.func24, Try.ntmps24
  go_wp2_with fail
  go_loopw [3, 4, 5] (fun ov lv nv wr => ∃ (j : Nat) (a' : Option Addr) (c' : Nat), j ≤ rows.length ∧ nv = .int .i64 j ∧ lv = .int .i64 (outs (ks rows) j).2 ∧ ov = .slice a' j c' ∧ Hid (Ints wr w.heap.size (.slice a' j c') (outs (ks rows) j).1) ∧ Hid (Below w.heap.size w wr)) (fun _ _ nv _ => rows.length - (intOf nv).toNat)
  case atStart => exact ⟨0, none, 0, Nat.zero_le _, rfl, rfl, rfl, Ints.nil _ _, Below.refl _ _⟩
  case round =>
    obtain ⟨j, a', c', hj, rfl, rfl, rfl, hrow, hbl⟩ := hrel
    have d3 : wr.cell? ⟨mb, 3, none⟩ = some (.slice a rows.length c) := (hbl.out.cell (p := ⟨mb, 3, none⟩) hmb).trans c3
    clear c3
    by_cases hjl : j < rows.length
    · generalize hlast : (outs (ks rows) j).2 = last at *
      have Hlast := Lib.hid hlast
      clear hlast
      go_wp2_with fail
      go_loop [6, 7] (fun lv iv => ∃ k : Nat, k ≤ rows.length ∧ iv = .int .i64 k ∧ lv = .int .i64 (lst ((ks rows).take k) last)) (fun _ iv => rows.length - (intOf iv).toNat)
      case atStart => exact ⟨0, Nat.zero_le _, rfl, by simp [lst]⟩
      case round =>
        obtain ⟨k, hk, rfl, rfl⟩ := hrel
        by_cases hkl : k < rows.length
        · obtain ⟨x, hx⟩ : ∃ x, rows[k]? = some x := ⟨_, List.getElem?_eq_getElem hkl⟩
          obtain ⟨g, rfl, e0, e1, _⟩ := hp.out.at hx
          have hgl : g < w.heap.size := World.block_lt_of_cell? _ _ e0
          have d0 : wr.cell? ⟨g, k * 2, none⟩ = some (.int .i64 x.1) := (hbl.out.cell (p := ⟨g, k * 2, none⟩) hgl).trans e0
          have hstep : Hid (lst ((ks rows).take (k + 1)) last = lstep last (lst ((ks rows).take k) last) x.1) := by
            show _ = _
            rw [List.take_add_one, show (ks rows)[k]? = some x.1 from by simp [ks, hx]]
            simp [lst]
          clear e0 e1 hx
          generalize lst ((ks rows).take k) last = least at *
          by_cases t1 : last < x.1
          · by_cases t2 : least = 0
            · have t2' : (least == 0) = true := by simpa using t2
              have hres : Hid (lst ((ks rows).take (k + 1)) last = x.1) := by
                show _ = _; rw [hstep.out]; simp [lstep, t1, t2]
              clear t2
              go_wp2_with fail
              go_round
              case rel => exact ⟨k + 1, by omega, by go_num, by rw [hres.out]⟩
              case measure => simp [intOf]; omega
            · have t2' : (least == 0) = false := by simpa using t2
              by_cases t3 : x.1 < least
              · have hres : Hid (lst ((ks rows).take (k + 1)) last = x.1) := by
                  show _ = _; rw [hstep.out]; simp [lstep, t1, t3]
                clear t2
                go_wp2_with fail
                go_round
                case rel => exact ⟨k + 1, by omega, by go_num, by rw [hres.out]⟩
                case measure => simp [intOf]; omega
              · have hres : Hid (lst ((ks rows).take (k + 1)) last = least) := by
                  show _ = _; rw [hstep.out]; simp [lstep, t2, t3]
                clear t2
                go_wp2_with fail
                go_round
                case rel => exact ⟨k + 1, by omega, by go_num, by rw [hres.out]⟩
                case measure => simp [intOf]; omega
          · have hres : Hid (lst ((ks rows).take (k + 1)) last = least) := by
              show _ = _; rw [hstep.out]; simp [lstep, t1]
            go_wp2_with fail
            go_round
            case rel => exact ⟨k + 1, by omega, by go_num, by rw [hres.out]⟩
            case measure => simp [intOf]; omega
        · have hkk : k = rows.length := by omega
          have hl2 : Hid (lst ((ks rows).take k) last = (outs (ks rows) (j + 1)).2 ∧ (outs (ks rows) (j + 1)).1 = (outs (ks rows) j).1 ++ [lst ((ks rows).take k) last]) := by
            show _ ∧ _
            rw [List.take_of_length_le (by rw [ks_length]; omega), outs, Hlast.out]
            exact ⟨rfl, rfl⟩
          clear hkk
          have hbs := hbl.out.size
          generalize lst ((ks rows).take k) last = least at *
          have hro : wr.ownsRow w.heap.size 3 1 (.slice a' j c') j (ri (outs (ks rows) j).1) := by
            have := hrow.out; unfold Ints at this; rwa [outs_length] at this
          go_wp2_with (at_builtin; refine wpList_append_own _ rfl _ _ 32 rfl w.heap.size 3 i0 (.int .i64 0) 1 8 Try.underlying32 hi hz0 hz1 hz2 rfl (by decide) _ _ _ rfl (World.ownsRow.alloc hro _) ⟨wr.heap.size, 0, none⟩ 1 1 [.int .i64 least] rfl rfl (cell_one_new _ _ _) (by simp [Value.oneCell']) (by unfold maxLen; omega) (by omega) (by simp; omega) ?_; intro v' w1 hown hgrow hnil; obtain ⟨g', cap', rfl⟩ := ownsRow_succ hown; have hb1 : Hid (Below w.heap.size w w1) := Lib.hid ((hbl.out.alloc hbs _).grown hgrow (by simp; omega) (fun k hk => (hro.lt k hk).1)); replace hown := Lib.hid hown; clear hgrow hnil)
          go_roundw
          case rel =>
            refine ⟨j + 1, some ⟨g', 0, none⟩, cap', by omega, by go_num, by rw [hl2.out.1], rfl, Lib.hid ?_, hb1⟩
            unfold Ints
            rw [outs_length, hl2.out.2]
            have := hown.out
            simpa [ri] using this
          case measure => simp [intOf]; omega
    · obtain rfl : j = rows.length := by omega
      go_wp2_with fail
      go_ret
      exact ⟨_, _, rfl, hrow.out, hbl.out⟩

theorem Ints.at' {w : World} {base : Nat} {a : Option Addr} {n c : Nat} {xs : List Int} (h : Ints w base (.slice a n c) xs) {j : Nat} {x : Int} (hx : xs[j]? = some x) :
    ∃ g, a = some ⟨g, 0, none⟩ ∧ w.cell? ⟨g, j, none⟩ = some (.int .i64 x) := by
  rcases h.cases with ⟨_, hn⟩ | ⟨g, cap, cur, hv, _, hg, _, _, _, ht⟩
  · rw [hn] at hx; simp at hx
  · simp only [Value.slice.injEq] at hv
    exact ⟨g, hv.1, by rw [block_cell hg]; exact take_at ht hx⟩

set_option maxHeartbeats 1000000 in
theorem ref_ints {w : World} {base base' : Nat} {a a' : Option Addr} {n n' c c' : Nat} {xs ys : List Int} (h : Ints w base (.slice a n c) xs) (h' : Ints w base' (.slice a' n' c') ys) (hl : xs.length = n) (hl' : ys.length = n') (heq : xs = ys) (hn : n ≤ 64) :
    Calls Try.prog 23 #[.slice a n c, .slice a' n' c'] w fun e w' => e = .returned (.bool true) ∧ ∃ q, w' = w.drewN q := by
  subst heq
  have hnn : n = n' := by omega
  subst hnn
  replace h := Lib.hid h
  replace h' := Lib.hid h'
  replace hl := Lib.hid hl
  have hne : ((n : Int) != (n : Int)) = false := by simp
  clear hl'
  go_enter Try.func23, Try.ntmps23
  go_wp2_with fail
  go_loopw [5] (fun i wr => ∃ k : Nat, k ≤ n ∧ i = .int .i64 k ∧ ∃ q, wr = w.drewN q) (fun i _ => n - (intOf i).toNat)
  case atStart => exact ⟨0, Nat.zero_le _, rfl, 0, rfl⟩
  case round =>
    obtain ⟨k, hk, rfl, q, rfl⟩ := hrel
    by_cases hlt : k < n
    · obtain ⟨x, hx⟩ : ∃ x, xs[k]? = some x := ⟨_, List.getElem?_eq_getElem (by rw [hl.out]; exact hlt)⟩
      obtain ⟨g, rfl, d0⟩ := h.out.at' hx
      obtain ⟨g', rfl, d1⟩ := h'.out.at' hx
      have hb : (x != x) = false := by simp
      clear hx
      go_wp2_with fail
      go_quiet (fail)
      go_wp2_with fail
      go_roundw
      case rel => exact ⟨k + 1, by omega, by go_num, _, rfl⟩
      case measure => simp [intOf]; omega
    · go_wp2_with fail
      go_ret
      exact ⟨rfl, _, rfl⟩

def MadeM (w : World) (size next step : Int) : World := w.alloc (.cells #[.int .i64 size, .int .i64 next, .int .i64 step, .slice none 0 0] 55)

set_option maxHeartbeats 1000000 in
theorem ref_new_ok {size first step : Int} (h : GoodArgs size first step) (w : World) :
    Calls Try.prog 17 #[.int .i64 size, .int .i64 first, .int .i64 step] w fun e w' => ∃ mb, e = .returned (.tuple #[.pointer (some ⟨mb, 0, none⟩), .int .i64 0]) ∧ (∃ F, MAt w' w.heap.size mb F [] size first step) ∧ Below w.heap.size w w' := by
  obtain ⟨h1, h2, h3, h4, h5, h6⟩ := h
  go_enter Try.func17, Try.ntmps17
  go_wp2
  go_ret2
  refine ⟨_, rfl, ⟨[w.heap.size], .slice none 0 0, block_new w _, World.ownsRow_nil _ _ _ _, rfl, by simp, Nat.le_refl _⟩, (Below.refl _ w).alloc (Nat.le_refl _) _⟩

set_option maxHeartbeats 1000000 in
theorem ref_new_bad {size first step : Int} (h : ¬ GoodArgs size first step) (w : World) :
    Calls Try.prog 17 #[.int .i64 size, .int .i64 first, .int .i64 step] w fun e w' => e = .returned (.tuple #[.pointer none, .int .i64 2]) ∧ w = w' := by
  by_cases a1 : size < 1
  · clear h
    go_enter Try.func17, Try.ntmps17
    go_wp2
    go_ret2
    exact ⟨rfl, rfl⟩
  by_cases a2 : 64 < size
  · clear h
    go_enter Try.func17, Try.ntmps17
    go_wp2
    go_ret2
    exact ⟨rfl, rfl⟩
  by_cases a3 : first < 1
  · clear h
    go_enter Try.func17, Try.ntmps17
    go_wp2
    go_ret2
    exact ⟨rfl, rfl⟩
  by_cases a4 : 1000 < first
  · clear h
    go_enter Try.func17, Try.ntmps17
    go_wp2
    go_ret2
    exact ⟨rfl, rfl⟩
  by_cases a5 : step < 1
  · clear h
    go_enter Try.func17, Try.ntmps17
    go_wp2
    go_ret2
    exact ⟨rfl, rfl⟩
  by_cases a6 : 1000 < step
  · clear h
    go_enter Try.func17, Try.ntmps17
    go_wp2
    go_ret2
    exact ⟨rfl, rfl⟩
  exact absurd ⟨by omega, by omega, by omega, by omega, by omega, by omega⟩ h

end Go.Proofs.Ytpjipdmlfpgokaa
