/-
  The walk of RackTwice.
-/
import Derived.Test.YtpjipdmlfpgokaaAwake
import Derived.Test.YtpjipdmlfpgokaaOpen
namespace Go.Proofs.Ytpjipdmlfpgokaa
open Go.RowKit RP

/-- 1 + int(uint64(size) % 64). -/
def sz (size : Int) : Int := wrap64 (1 + wrap64 ((IntKind.u64.wrap size).tmod 64))
theorem sz_bounds (size : Int) : 1 ≤ sz size ∧ sz size ≤ 64 := by
  have h1 : 0 ≤ IntKind.u64.wrap size := by simp [IntKind.wrap, IntKind.signed, IntKind.bits]; omega
  have h2 : (IntKind.u64.wrap size).tmod 64 = (IntKind.u64.wrap size) % 64 := Int.tmod_eq_emod_of_nonneg h1
  unfold sz
  rw [h2]
  generalize IntKind.u64.wrap size = u at *
  have h3 : 0 ≤ u % 64 ∧ u % 64 < 64 := by omega
  generalize u % 64 = x at *
  unfold wrap64
  omega

theorem mem_ins {t : KV} {k v : Int} {p : Int × Int} (h : p ∈ ins t k v) : p = (k, v) ∨ p ∈ t := by
  unfold ins at h
  simp at h
  rcases h with h | h | h
  · exact .inr (List.mem_of_mem_take h)
  · exact .inl h
  · exact .inr (List.mem_of_mem_drop h)
theorem mem_del {t : KV} {k : Int} {p : Int × Int} (h : p ∈ del t k) : p ∈ t := by
  unfold del at h
  simp at h
  rcases h with h | h
  · exact List.mem_of_mem_take h
  · exact List.mem_of_mem_drop h

/-- What holds of a rack at the head of round k: its next id rises by steps, the last one told lies below it, what is there lies below it or came in. -/
def Tw (first step : Int) (k : Nat) (t : KV) (next last : Int) : Prop :=
  first ≤ next ∧ next ≤ 1400 + 1000 * k ∧ last < next ∧ 0 ≤ last ∧ (next - first) % step = 0 ∧ ∀ p ∈ t, p.1 ≤ 400 ∨ p.1 < next

theorem Tw.skip {first step : Int} {k : Nat} {t : KV} {next last : Int} (h : Tw first step k t next last) (hs : 1 ≤ step) (hs2 : step ≤ 1000) {m : Nat} (hm : Skipped t next step m) :
    next ≤ next + m * step ∧ next + m * step ≤ 1400 + 1000 * k ∧ (next + m * step - first) % step = 0 := by
  obtain ⟨h1, h2, h3, h4, h5, h6⟩ := h
  have hnn : 0 ≤ (m : Int) * step := Int.mul_nonneg (by omega) (by omega)
  refine ⟨by omega, ?_, ?_⟩
  · rcases Nat.eq_zero_or_pos m with rfl | hp
    · simp; omega
    · have hk := (hm (m - 1) (by omega)).2
      obtain ⟨u, hu⟩ := Option.isSome_iff_exists.1 hk
      have hmem := lk_some_mem hu
      have e : (m : Int) * step = ((m - 1 : Nat) : Int) * step + step := by
        rw [show (m : Int) = ((m - 1 : Nat) : Int) + 1 from by omega, Int.add_mul, Int.one_mul]
      have hnn' : 0 ≤ ((m - 1 : Nat) : Int) * step := Int.mul_nonneg (by omega) (by omega)
      rcases h6 _ hmem with h | h
      · simp at h; omega
      · simp at h; omega
  · rw [show next + (m : Int) * step - first = (next - first) + m * step from by omega, Int.add_mul_emod_self_right]
    exact h5

theorem Tw.give {first step : Int} {k : Nat} {t : KV} {next last : Int} (h : Tw first step k t next last) (hf : 1 ≤ first) (hs : 1 ≤ step) (hs2 : step ≤ 1000) {m : Nat} (hm : Skipped t next step m) (v : Int) :
    Tw first step (k + 1) (ins t (next + m * step) v) (next + m * step + step) (next + m * step) := by
  obtain ⟨g1, g2, g3⟩ := h.skip hs hs2 hm
  obtain ⟨h1, h2, h3, h4, h5, h6⟩ := h
  refine ⟨by omega, by omega, by omega, by omega, ?_, fun p hp => ?_⟩
  · rw [show next + (m : Int) * step + step - first = (next + m * step - first) + step from by omega, Int.add_emod_right]
    exact g3
  · rcases mem_ins hp with rfl | hp
    · right; simp; omega
    · rcases h6 p hp with h | h
      · exact .inl h
      · right; omega

theorem Tw.full {first step : Int} {k : Nat} {t : KV} {next last : Int} (h : Tw first step k t next last) : Tw first step (k + 1) t next last := by
  obtain ⟨h1, h2, h3, h4, h5, h6⟩ := h
  exact ⟨h1, by omega, h3, h4, h5, h6⟩

theorem Tw.hold {first step : Int} {k : Nat} {t : KV} {next last id : Int} (h : Tw first step k t next last) (hi : id ≤ 400) (v : Int) : Tw first step (k + 1) (ins t id v) next last := by
  obtain ⟨h1, h2, h3, h4, h5, h6⟩ := h
  refine ⟨h1, by omega, h3, h4, h5, fun p hp => ?_⟩
  rcases mem_ins hp with rfl | hp
  · exact .inl hi
  · exact h6 p hp

theorem Tw.drop {first step : Int} {k : Nat} {t : KV} {next last : Int} (h : Tw first step k t next last) (id : Int) : Tw first step (k + 1) (del t id) next last := by
  obtain ⟨h1, h2, h3, h4, h5, h6⟩ := h
  exact ⟨h1, by omega, h3, h4, h5, fun p hp => h6 p (mem_del hp)⟩

/-- A cell of a row of whole numbers. -/
theorem Ints.at {w : World} {base : Nat} {a : Option Addr} {n c : Nat} {xs : List Int} (h : Ints w base (.slice a n c) xs) {j : Nat} {x : Int} (hx : xs[j]? = some x) :
    ∃ g, a = some ⟨g, 0, none⟩ ∧ w.cell? ⟨g, j, none⟩ = some (.int .i64 x) := by
  rcases h.cases with ⟨_, hn⟩ | ⟨g, cap, cur, hv, _, hg, _, _, _, ht⟩
  · rw [hn] at hx; simp at hx
  · simp only [Value.slice.injEq] at hv
    exact ⟨g, hv.1, by rw [block_cell hg]; exact take_at ht hx⟩

set_option maxRecDepth 100000 in
set_option maxHeartbeats 2000000 in
theorem twice_core {size first step : Int} {a : Option Addr} {len cap : Nat} {l : List A3} {w : World} (hA : Acts w a len l) (hm : len ≤ 9223372036854775807) :
    Calls Try.prog 3 #[.int .i64 size, .int .i64 first, .int .i64 step, .slice a len cap] w fun e w' => e = .returned (.bool true) ∧ Below w.heap.size w w' := by
  have HA := Lib.hid hA
  clear hA
  go_enter Try.func3, Try.ntmps3
  go_wp2_with fail
  refine (awake_any w).mono ?_
  rintro e w1 ⟨rfl, hb⟩
  have hB1 := Lib.hid hb
  clear hb
  go_wp2_with fail
  obtain ⟨s1, s2⟩ := sz_bounds size
  unfold sz at s1 s2
  generalize wrap64 (1 + wrap64 ((IntKind.u64.wrap size).tmod 64)) = S at *
  have HA1 : Hid (Acts w1 a len l) := Lib.hid (HA.out.below hB1.out)
  by_cases hg : GoodArgs S first step
  · refine (st_new hg w1).mono ?_
    rintro e w2 ⟨b, rfl, F, h2⟩
    have H2 := Lib.hid h2
    clear h2
    obtain ⟨_, _, f1, f2, p1, p2⟩ := hg
    have HA2 : Hid (Acts w2 a len l) := Lib.hid (HA1.out.below H2.out.2.1)
    go_wp2_with fail
    refine (near_any HA2.out hm).mono ?_
    rintro e w3 ⟨r, rfl, hr, rfl⟩
    cases r with
    | false =>
      go_wp2_with fail
      go_ret
      exact ⟨rfl, hB1.out.trans (H2.out.2.1.mono hB1.out.size)⟩
    | true =>
      have HN := Lib.hid (hr rfl)
      clear hr
      go_wp2_with fail
      go_loopw [11, 12] (fun la i wr => ∃ (k : Nat) (t : KV) (next last : Int) (F : List Nat), k ≤ len ∧ la = .int .i64 last ∧ i = .int .i64 k ∧ Hid (St w1.heap.size w1 wr b F t S next step) ∧ (t.length : Int) ≤ S ∧ Hid (Tw first step k t next last)) (fun _ i _ => len - (intOf i).toNat)
      case atStart => exact ⟨0, [], first, 0, F, Nat.zero_le _, rfl, rfl, H2, by simp; omega, ⟨by omega, by omega, by omega, by omega, by simp, by simp⟩⟩
      case round =>
        obtain ⟨k, t, next, last, F', hk, rfl, rfl, hst, htl, htw⟩ := hrel
        by_cases hlt : k < len
        · obtain ⟨x, hx⟩ : ∃ x, l[k]? = some x := ⟨_, List.getElem?_eq_getElem (by rw [HA.out.1]; exact hlt)⟩
          obtain ⟨ab, aoff, rfl, hab, c0, c1, c2⟩ := (HA1.out.below hst.out.2.1).at hx
          have hx0 := HA.out.2.1 x (List.mem_of_getElem? hx)
          obtain ⟨kd, id, val⟩ := x
          simp only at c0 c1 c2 hx0
          have hx := Lib.hid hx
          obtain ⟨hx1, hx2⟩ := hx0
          have hId : 0 ≤ id ∧ id ≤ 400 := HN.out.2 _ (List.mem_of_getElem? hx.out)
          have hk150 : k < 150 := by have := HN.out.1; rw [HA.out.1] at this; omega
          have hsa : Hid (St w1.heap.size w1 (wr.alloc (.cells #[.int .u8 kd, .int .i64 id, .int .i64 val] 31)) b F' t S next step) := Lib.hid (hst.out.alloc _)
          have htw1 := htw.out.1
          have htw2 := htw.out.2.1
          go_wp2_with fail
          rotate_left 2
          ·
            refine (st_hold hsa.out s1 s2 htl id val).mono ?_
            rintro e w5 (⟨_, rfl, F5, hs5, _, _⟩ | ⟨_, _, _, _, rfl, F5, hs5, _, _⟩ | ⟨_, _, _, hroom, rfl, F5, hs5, _, _⟩)
            · have hs5 := Lib.hid hs5
              go_wp2_with fail
              go_roundw
              case rel => exact ⟨k + 1, t, next, last, F5, by omega, rfl, by go_num, hs5, htl, Lib.hid htw.out.full⟩
              case measure => simp [intOf]; omega
            · have hs5 := Lib.hid hs5
              go_wp2_with fail
              go_roundw
              case rel => exact ⟨k + 1, t, next, last, F5, by omega, rfl, by go_num, hs5, htl, Lib.hid htw.out.full⟩
              case measure => simp [intOf]; omega
            · have hs5 := Lib.hid hs5
              go_wp2_with fail
              go_roundw
              case rel => exact ⟨k + 1, ins t id val, next, last, F5, by omega, rfl, by go_num, hs5, by rw [length_ins]; omega, Lib.hid (htw.out.hold hId.2 val)⟩
              case measure => simp [intOf]; omega
          ·
            refine (st_drop hsa.out s1 (by omega) id).mono ?_
            rintro e w5 (⟨_, rfl, F5, hs5, _, _⟩ | ⟨u, hu, rfl, F5, hs5, _, _⟩)
            · have hs5 := Lib.hid hs5
              go_wp2_with fail
              go_roundw
              case rel => exact ⟨k + 1, t, next, last, F5, by omega, rfl, by go_num, hs5, htl, Lib.hid htw.out.full⟩
              case measure => simp [intOf]; omega
            · have hs5 := Lib.hid hs5
              have hdl := length_del hst.out.rise hu
              clear hu
              have hdl' : ((del t id).length : Int) ≤ S := by omega
              clear hdl
              go_wp2_with fail
              go_roundw
              case rel => exact ⟨k + 1, del t id, next, last, F5, by omega, rfl, by go_num, hs5, hdl', Lib.hid (htw.out.drop id)⟩
              case measure => simp [intOf]; omega
          all_goals
            refine (st_ids hsa.out s1 (by omega)).mono ?_
            rintro e w4 ⟨ia, ic, rfl, hI, hbl, hs4⟩
            have cV : w4.cell? ⟨wr.heap.size, 2, none⟩ = some (.int .i64 val) := (hbl.cell (p := ⟨wr.heap.size, 2, none⟩) (by simp)).trans (by go_simp)
            have hI := Lib.hid hI
            have hbl := Lib.hid hbl
            have hs4 := Lib.hid hs4
            go_wp2_with fail
            refine (st_give hs4.out s1 s2 (by omega) (by omega) p1 p2 val).mono ?_
            rintro e w5 (⟨hfull, rfl, F5, hs5, _, _⟩ | ⟨hroom, m, hskip, (⟨hmax, _⟩ | ⟨hle, hnone, rfl, F5, hs5, hm5, _⟩)⟩)
            · have hs5 := Lib.hid hs5
              have heq : ((t.length : Int) != S) = false := by rw [bne_eq_false_iff_eq]; omega
              go_wp2_with fail
              go_roundw
              case rel => exact ⟨k + 1, t, next, last, F5, by omega, rfl, by go_num, hs5, htl, Lib.hid htw.out.full⟩
              case measure => simp [intOf]; omega
            · exfalso
              have := (htw.out.skip p1 p2 hskip).2.1
              omega
            · obtain ⟨q1, q2, q3⟩ := htw.out.skip p1 p2 hskip
              have q4 := htw.out.2.2.1
              have hnew := Lib.hid (htw.out.give f1 p1 p2 hskip val)
              clear hskip
              generalize hnid : next + (m : Int) * step = nid at *
              have hnid := Lib.hid hnid
              have r1 : ¬ nid ≤ last := by omega
              have r2 : ¬ nid < first := by omega
              have r3 : ((nid - first) % step != 0) = false := by rw [q3]; rfl
              have hs5 := Lib.hid hs5
              have hnone := Lib.hid hnone
              have hI5 : Hid (Ints w5 _ (.slice ia t.length ic) (ks t)) := Lib.hid (hI.out.moved hm5 (fun x hx hF => by
                have h1 := hI.out.lt x hx
                have h2 := hsa.out.lt x hF
                omega))
              clear hm5 q3
              go_wp2_with fail
              go_loop [17] (fun i => ∃ j : Nat, j ≤ t.length ∧ i = .int .i64 j) (fun i => t.length - (intOf i).toNat)
              case atStart => exact ⟨0, Nat.zero_le _, rfl⟩
              case round =>
                obtain ⟨j, hj, rfl⟩ := hrel
                by_cases hjl : j < t.length
                · obtain ⟨y, hy⟩ : ∃ y, (ks t)[j]? = some y := ⟨_, List.getElem?_eq_getElem (by rw [ks_length]; exact hjl)⟩
                  obtain ⟨g, rfl, cy⟩ := hI5.out.at hy
                  have hne : (y == nid) = false := by
                    rw [beq_eq_false_iff_ne]
                    rintro rfl
                    exact lk_none.1 hnone.out (List.mem_of_getElem? hy)
                  clear hy
                  go_wp2_with fail
                  go_round
                  case rel => exact ⟨j + 1, by omega, by go_num⟩
                  case measure => simp [intOf]; omega
                · go_wp2_with fail
                  go_roundw
                  case rel => exact ⟨k + 1, _, _, _, F5, by omega, rfl, by go_num, hs5, by rw [length_ins]; omega, hnew⟩
                  case measure => simp [intOf]; omega
        · obtain rfl : k = len := by omega
          go_wp2_with fail
          refine (st_ids hst.out s1 (by omega)).mono ?_
          rintro e w4 ⟨ia, ic, rfl, hI, hbl, hs4⟩
          have hI := Lib.hid hI
          have hs4 := Lib.hid hs4
          have hrise := Lib.hid (rise_keys.1 hst.out.rise)
          clear hbl
          go_wp2_with fail
          go_loopw [19] (fun i wx => ∃ j : Nat, 1 ≤ j ∧ (j ≤ t.length ∨ j = 1) ∧ i = .int .i64 j ∧ ∃ q, wx = w4.drewN q) (fun i _ => t.length + 1 - (intOf i).toNat)
          case atStart => exact ⟨1, by omega, .inr rfl, rfl, 0, rfl⟩
          case round =>
            obtain ⟨j, hj, hj2, rfl, q, rfl⟩ := hrel
            by_cases hjl : j < t.length
            · obtain ⟨y, hy⟩ : ∃ y, (ks t)[j]? = some y := ⟨_, List.getElem?_eq_getElem (by rw [ks_length]; exact hjl)⟩
              obtain ⟨z, hz⟩ : ∃ z, (ks t)[j - 1]? = some z := ⟨_, List.getElem?_eq_getElem (by rw [ks_length]; omega)⟩
              have hzy : z < y := by
                obtain ⟨h1, rfl⟩ := List.getElem?_eq_some_iff.1 hy
                obtain ⟨h2, rfl⟩ := List.getElem?_eq_some_iff.1 hz
                exact List.pairwise_iff_getElem.1 hrise.out _ _ _ _ (by omega)
              obtain ⟨g, rfl, cy⟩ := hI.out.at hy
              obtain ⟨g', hg', cz⟩ := hI.out.at hz
              cases hg'
              clear hy hz
              go_wp2_with fail
              go_quiet (fail)
              go_wp2_with fail
              go_roundw
              case rel => exact ⟨j + 1, by omega, by omega, by go_num, _, rfl⟩
              case measure => simp [intOf]; omega
            · go_wp2_with fail
              go_ret
              refine ⟨by simp [htl], hB1.out.trans ((hs4.out.drewN q).2.1.mono hB1.out.size)⟩
  · refine (new_bad hg w1).mono ?_
    rintro e w2 ⟨rfl, rfl⟩
    go_wp2_with fail
    go_ret
    exact ⟨rfl, hB1.out⟩

theorem rackTwice.walk {H : Type} {enc : TypeId × Value → H} {spare : Nat → Bool} {d : DataW H} {ps : List MemPlace} (a0 a1 a2 : Int) (a3 : Option Addr) (len3 cap3 : Nat) (w : World) (_ : (Lit.int .i64 a0).wf = true) (_ : (Lit.int .i64 a1).wf = true) (_ : (Lit.int .i64 a2).wf = true)
    (k : DataW.Trod enc Try.prog w 0 spare true 22 (.slice a3 len3 cap3) d ps) :
    Calls Try.prog 3 #[.int .i64 a0, .int .i64 a1, .int .i64 a2, .slice a3 len3 cap3] w fun e w' => e = .returned (.bool true) ∧ Below w.heap.size w w' := by
  obtain ⟨l, hA, hm⟩ := acts_of_trod k
  exact twice_core hA (by unfold maxLen at hm; omega)

end Go.Proofs.Ytpjipdmlfpgokaa
