/-
  The walk of RackPlays.
-/
import Derived.Test.YtpjipdmlfpgokaaQs
import Derived.Test.YtpjipdmlfpgokaaOpen
import Derived.Deep.RegionHeld3
import Derived.Deep.DeepCutAuto
import Derived.Deep.CutBlock
import Derived.Deep.RegionWith
namespace Go.Proofs.Ytpjipdmlfpgokaa
open Go.RowKit RP

theorem Pl.jt {B : Nat} {w0 w : World} {b mb : Nat} {F G : List Nat} {t rows : KV} {S n step : Int} (h : Jt B w0 w b F t mb G rows S n n step) (hr : Rel t rows) (hl : (t.length : Int) ≤ S) (h1 : 1 ≤ n) (h2 : n ≤ 1099511628775) : Pl B w0 w b mb S step := ⟨F, t, G, rows, n, h, hr, hl, h1, h2⟩

theorem Ints.set {w : World} {base g n c : Nat} {xs : List Int} (h : Ints w base (.slice (some ⟨g, 0, none⟩) n c) xs) (j : Nat) (y : Int) :
    Ints (w.setCell ⟨g, j, none⟩ (.int .i64 y)) base (.slice (some ⟨g, 0, none⟩) n c) (xs.set j y) := by
  rcases h.2 with ⟨hh, _⟩ | ⟨g', cap, cur, hv, hb, hgg, hl, hc, hs, ht⟩
  · cases hh
  · simp only [Value.slice.injEq, Option.some.injEq, Addr.mk.injEq, and_true] at hv
    obtain ⟨rfl, rfl, rfl⟩ := hv
    have B := block_setCell (i := j) (v := Value.int .i64 y) hgg
    refine ⟨by simp [ri], .inr ⟨_, _, _, by simp, hb, B, by simpa using hl, hc, by simpa using hs, ?_⟩⟩
    have ht' : cur.toList.take xs.length = ri xs := by simpa using ht
    rw [Array.toList_setIfInBounds, take_set, List.length_set]
    simp only [Nat.mul_one]
    rw [ht']
    simp [ri, List.map_set]

theorem Ints.frozen {w : World} {base g n c : Nat} {xs : List Int} (h : Ints w base (.slice (some ⟨g, 0, none⟩) n c) xs) (j : Nat) : w.frozen? ⟨g, j, none⟩ = false := by
  rcases h.2 with ⟨hh, _⟩ | ⟨g', cap, cur, hv, hb, hgg, _⟩
  · cases hh
  · simp only [Value.slice.injEq, Option.some.injEq, Addr.mk.injEq, and_true] at hv
    obtain ⟨rfl, _, _⟩ := hv
    exact block_frozen hgg j

set_option maxRecDepth 100000 in
set_option maxHeartbeats 4000000 in
theorem plays_core {size first step : Int} {a : Option Addr} {len cap : Nat} {l : List A3} {w : World} (hA : Acts w a len l) (hm : len ≤ 9223372036854775807) :
    Calls Try.prog 5 #[.int .i64 size, .int .i64 first, .int .i64 step, .slice a len cap] w fun e w' => e = .returned (.bool true) ∧ Below w.heap.size w w' := by
  by_cases hbig : 150 < len
  · clear hA
    go_enter Try.func5, Try.ntmps5
    go_wp2_with fail
    go_ret
    exact ⟨rfl, Below.refl _ _⟩
  replace hA := Lib.hid hA
  by_cases hg : GoodArgs size first step
  · go_enter Try.func5, Try.ntmps5
    go_wp2_with fail
    refine (st_new hg w).mono ?_
    rintro e w2 ⟨b, rfl, F, h2⟩
    replace h2 := Lib.hid h2
    go_wp2_with fail
    refine (ref_new_ok hg w2).mono ?_
    rintro e w3 ⟨mb, rfl, ⟨G, h3⟩, hb3⟩
    have hj : Hid (Pl w.heap.size w w3 b mb size step) := Lib.hid ⟨F, [], G, [], first, ⟨h2.out.below hb3, by
        obtain ⟨rv, q1, q2, q3, q4, q5⟩ := h3
        exact ⟨rv, q1, ⟨q2.1, q2.2.imp id (fun ⟨g, cap, cur, hv, hg, r⟩ => ⟨g, cap, cur, hv, Nat.le_trans h2.out.2.2 hg, r⟩)⟩, q3, q4, Nat.le_trans h2.out.2.2 q5⟩, fun x hx hgx => by
        have e1 := (h2.out.lt x hx).2
        have e2 := (h3.lt x hgx).1
        omega⟩, Rel.nil, by simp; have := hg.1; omega, hg.2.2.1, by have := hg.2.2.2.1; omega⟩
    obtain ⟨s1, s2, f1, f2, p1, p2⟩ := hg
    clear h3 hb3 h2
    go_wp2_with fail
    go_loopw [13] (fun i wr => ∃ k : Nat, k ≤ len ∧ i = .int .i64 k ∧ Hid (Pl w.heap.size w wr b mb size step)) (fun i _ => len - (intOf i).toNat)
    case atStart => exact ⟨0, Nat.zero_le _, rfl, hj⟩
    case round =>
      obtain ⟨k, hk, rfl, hpl⟩ := hrel
      clear hj
      by_cases hlt : k < len
      · obtain ⟨x, hx⟩ : ∃ x, l[k]? = some x := ⟨_, List.getElem?_eq_getElem (by rw [hA.out.1]; exact hlt)⟩
        have hbw : Below w.heap.size w wr := by obtain ⟨_, _, _, _, _, hj, _⟩ := hpl.out; exact hj.1.2.1
        obtain ⟨ab, aoff, rfl, hab, c0, c1, c2⟩ := (hA.out.below hbw).at hx
        have hx0 := hA.out.2.1 x (List.mem_of_getElem? hx)
        obtain ⟨kd, id, val⟩ := x
        simp only at c0 c1 c2 hx0
        obtain ⟨hx1, hx2⟩ := hx0
        clear hx hbw
        obtain ⟨F, t, G, rows, n, hJ, hR, hl, hn1, hn2⟩ := hpl.out
        have hA0 : wr.heap.size ∉ F ∧ wr.heap.size ∉ G ∧ w.heap.size ≤ wr.heap.size := ⟨fun hx => by have := (hJ.1.lt _ hx).2; omega, fun hx => by have := (hJ.2.1.lt _ hx).2; omega, hJ.1.2.2⟩
        have hQ0 : ∀ t' rows' n2, Hid (Qs w.heap.size w b mb size step wr.heap.size id val t t' rows rows' n n2 false false (wr.alloc (.cells #[.int .u8 kd, .int .i64 id, .int .i64 val] 31))) := fun t' rows' n2 =>
          Lib.hid ⟨⟨F, G, hJ.alloc _, hA0.1, hA0.2.1⟩, hA0.2.2, by simp, by go_simp, by go_simp⟩
        go_upto_block 2 with (fail)
        go_cut [] (fun wx => Hid (Pl w.heap.size w wx b mb size step ∧ wx.cell? ⟨wr.heap.size, 1, none⟩ = some (.int .i64 id)))
        case first =>
          have hJa := Lib.hid (hJ.alloc (.cells #[.int .u8 kd, .int .i64 id, .int .i64 val] 31))
          have hltA : wr.heap.size < (wr.alloc (.cells #[.int .u8 kd, .int .i64 id, .int .i64 val] 31)).heap.size := by simp
          have d1 := (hQ0 t rows n).out.2.2.2.1
          have d2 := (hQ0 t rows n).out.2.2.2.2
          have d0 : (wr.alloc (.cells #[.int .u8 kd, .int .i64 id, .int .i64 val] 31)).cell? ⟨wr.heap.size, 0, none⟩ = some (.int .u8 kd) := by go_simp
          generalize hWa : wr.alloc (.cells #[.int .u8 kd, .int .i64 id, .int .i64 val] 31) = Wa at *
          clear hWa c0 c1 c2
          replace hR := Lib.hid hR
          replace hJ := Lib.hid hJ
          go_wp2_with fail
          rotate_left 2
          ·
            obtain ⟨t', rows', c, RH, MH, hR', hl'⟩ := both_hold (B := w.heap.size) (b := b) (mb := mb) (w0 := w) (step := step) (A := wr.heap.size) (id := id) (val := val) (n := n) hR.out s1 s2 hl
            have Q0 := Lib.hid (hQ0 t' rows' n).out.drew
            replace RH := Lib.hid RH
            replace MH := Lib.hid MH
            replace hR' := Lib.hid hR'
            clear hQ0
            go_region_held3 (fun w' => w'.cell? ⟨wr.heap.size, 1, none⟩ = some (.int .i64 id) ∧ w'.cell? ⟨wr.heap.size, 2, none⟩ = some (.int .i64 val)) (first | exact ⟨e1, e2⟩ | exact ⟨d1, d2⟩) (first | (go_at_call 12; refine (RH.out _ _ (by first | exact hq.out | exact Q0.out)).mono ?_; rintro e w1 ⟨rfl, hq⟩; have e1 := hq.2.2.2.1; have e2 := hq.2.2.2.2; replace hq := Lib.hid hq) | (go_at_call 19; refine (MH.out _ _ (by first | exact hq.out | exact Q0.out)).mono ?_; rintro e w1 ⟨rfl, hq⟩; have e1 := hq.2.2.2.1; have e2 := hq.2.2.2.2; replace hq := Lib.hid hq))
            all_goals (go_wp2_with fail)
            all_goals (go_meet; refine Lib.hid ⟨?_, hq.out.2.2.2.1⟩; obtain ⟨⟨F', G', hJ', _, _⟩, _⟩ := hq.out; exact Pl.jt hJ' hR'.out hl' hn1 hn2)
          ·
            obtain ⟨t', rows', c, RH, MH, hR', hl'⟩ := both_set (B := w.heap.size) (b := b) (mb := mb) (w0 := w) (step := step) (A := wr.heap.size) (id := id) (val := val) (n := n) hR.out s1 s2 hl
            have Q0 := Lib.hid (hQ0 t' rows' n).out.drew
            replace RH := Lib.hid RH
            replace MH := Lib.hid MH
            replace hR' := Lib.hid hR'
            clear hQ0
            go_region_held3 (fun w' => w'.cell? ⟨wr.heap.size, 1, none⟩ = some (.int .i64 id) ∧ w'.cell? ⟨wr.heap.size, 2, none⟩ = some (.int .i64 val)) (first | exact ⟨e1, e2⟩ | exact ⟨d1, d2⟩) (first | (go_at_call 15; refine (RH.out _ _ (by first | exact hq.out | exact Q0.out)).mono ?_; rintro e w1 ⟨rfl, hq⟩; have e1 := hq.2.2.2.1; have e2 := hq.2.2.2.2; replace hq := Lib.hid hq) | (go_at_call 20; refine (MH.out _ _ (by first | exact hq.out | exact Q0.out)).mono ?_; rintro e w1 ⟨rfl, hq⟩; have e1 := hq.2.2.2.1; have e2 := hq.2.2.2.2; replace hq := Lib.hid hq))
            all_goals (go_wp2_with fail)
            all_goals (go_meet; refine Lib.hid ⟨?_, hq.out.2.2.2.1⟩; obtain ⟨⟨F', G', hJ', _, _⟩, _⟩ := hq.out; exact Pl.jt hJ' hR'.out hl' hn1 hn2)
          ·
            obtain ⟨t', rows', c, RH, MH, hR', hl'⟩ := both_drop (B := w.heap.size) (b := b) (mb := mb) (w0 := w) (step := step) (A := wr.heap.size) (id := id) (val := val) (n := n) hR.out s1 s2 hl
            have Q0 := Lib.hid (hQ0 t' rows' n).out.drew
            replace RH := Lib.hid RH
            replace MH := Lib.hid MH
            replace hR' := Lib.hid hR'
            clear hQ0
            go_region_held3 (fun w' => w'.cell? ⟨wr.heap.size, 1, none⟩ = some (.int .i64 id) ∧ w'.cell? ⟨wr.heap.size, 2, none⟩ = some (.int .i64 val)) (first | exact ⟨e1, e2⟩ | exact ⟨d1, d2⟩) (first | (go_at_call 13; refine (RH.out _ _ (by first | exact hq.out | exact Q0.out)).mono ?_; rintro e w1 ⟨rfl, hq⟩; have e1 := hq.2.2.2.1; have e2 := hq.2.2.2.2; replace hq := Lib.hid hq) | (go_at_call 21; refine (MH.out _ _ (by first | exact hq.out | exact Q0.out)).mono ?_; rintro e w1 ⟨rfl, hq⟩; have e1 := hq.2.2.2.1; have e2 := hq.2.2.2.2; replace hq := Lib.hid hq))
            all_goals (go_wp2_with fail)
            all_goals (go_meet; refine Lib.hid ⟨?_, hq.out.2.2.2.1⟩; obtain ⟨⟨F', G', hJ', _, _⟩, _⟩ := hq.out; exact Pl.jt hJ' hR'.out hl' hn1 hn2)
          all_goals
            have hlr : rows.length ≤ 64 := by have := hR.out.2.1; omega
            clear hQ0
            refine (st_give hJa.out.1 s1 s2 hn1 (by omega) p1 p2 val).mono ?_
            rintro e w5 (⟨hfull, rfl, hs⟩ | ⟨hroom, m, hskip, (⟨hmax, rfl, hs⟩ | ⟨hle, hnone, rfl, hs⟩)⟩)
            · obtain ⟨F5, hJ5, hk5, _, hF5, hsz5⟩ := hJa.out.r hs
              have hact := actAt_same (W := Wa) (W' := w5) (A := wr.heap.size) ⟨d1, d2⟩ (hk5 _ hltA hA0.2.2 hA0.1)
              replace hJ5 := Lib.hid hJ5
              obtain ⟨g1, g2⟩ := hact
              have hbe : ((rows.length : Int) == size) = true := by rw [beq_iff_eq, hR.out.2.1]; omega
              clear hs hk5 hF5 hsz5
              go_wp2_with fail
              refine (ref_give_full hJ5.out.2.1 hlr val hbe).mono ?_
              rintro e w6 ⟨rfl, q, rfl⟩
              go_wp2_with fail
              go_meet
              exact Lib.hid ⟨Pl.jt (hJ5.out.drewN q) hR.out hl hn1 hn2, g1⟩
            · obtain ⟨F5, hJ5, hk5, _, hF5, hsz5⟩ := hJa.out.r hs
              have hact := actAt_same (W := Wa) (W' := w5) (A := wr.heap.size) ⟨d1, d2⟩ (hk5 _ hltA hA0.2.2 hA0.1)
              have hbd := hskip.bound hn2 p1 p2
              replace hJ5 := Lib.hid hJ5
              replace hskip := Lib.hid hskip
              obtain ⟨g1, g2⟩ := hact
              have hbe : ((rows.length : Int) == size) = false := by rw [beq_eq_false_iff_ne, hR.out.2.1]; omega
              have hr64 : rows.length < 64 := by have := hR.out.2.1; omega
              clear hs hk5 hF5 hsz5
              go_wp2_with fail
              refine (ref_give_room hJ5.out.2.1 hr64 hJ5.out.1.2.2 val hbe hn1 (by omega) p1 p2).mono ?_
              rintro e w6 ⟨m', hskip', (⟨hmax', rfl, hm6⟩ | ⟨hle', hnone', _⟩)⟩
              · obtain rfl := skip_unique hR.out.1 hskip.out hskip' (.inl hmax) (.inl hmax')
                obtain ⟨G6, hJ6, hk6, _, _, _⟩ := hJ5.out.m hm6
                have hact := actAt_same (W := w5) (W' := w6) (A := wr.heap.size) ⟨g1, g2⟩ (hk6 _ (by have := World.block_lt_of_cell? _ _ g1; exact this) hA0.2.2 hA0.2.1)
                replace hJ6 := Lib.hid hJ6
                replace hact := Lib.hid hact
                clear hskip' hm6 hk6
                go_wp2_with fail
                go_meet
                exact Lib.hid ⟨Pl.jt hJ6.out hR.out hl (by omega) (by omega), hact.out.1⟩
              · exfalso
                obtain rfl := skip_unique hR.out.1 hskip.out hskip' (.inl hmax) (.inr hnone')
                omega
            · obtain ⟨F5, hJ5, hk5, _, hF5, hsz5⟩ := hJa.out.r hs
              have hact := actAt_same (W := Wa) (W' := w5) (A := wr.heap.size) ⟨d1, d2⟩ (hk5 _ hltA hA0.2.2 hA0.1)
              have hbd := hskip.bound hn2 p1 p2
              replace hJ5 := Lib.hid hJ5
              replace hskip := Lib.hid hskip
              replace hnone := Lib.hid hnone
              obtain ⟨g1, g2⟩ := hact
              have hbe : ((rows.length : Int) == size) = false := by rw [beq_eq_false_iff_ne, hR.out.2.1]; omega
              have hr64 : rows.length < 64 := by have := hR.out.2.1; omega
              clear hs hk5 hF5 hsz5
              go_wp2_with fail
              refine (ref_give_room hJ5.out.2.1 hr64 hJ5.out.1.2.2 val hbe hn1 (by omega) p1 p2).mono ?_
              rintro e w6 ⟨m', hskip', (⟨hmax', _⟩ | ⟨hle', hnone', rfl, hm6⟩)⟩
              · exfalso
                obtain rfl := skip_unique hR.out.1 hskip.out hskip' (.inr hnone.out) (.inl hmax')
                omega
              · obtain rfl := skip_unique hR.out.1 hskip.out hskip' (.inr hnone.out) (.inr hnone')
                obtain ⟨G6, hJ6, hk6, _, _, _⟩ := hJ5.out.m hm6
                have hact := actAt_same (W := w5) (W' := w6) (A := wr.heap.size) ⟨g1, g2⟩ (hk6 _ (by have := World.block_lt_of_cell? _ _ g1; exact this) hA0.2.2 hA0.2.1)
                replace hJ6 := Lib.hid hJ6
                replace hact := Lib.hid hact
                have hR6 := Lib.hid (hR.out.ins val hnone.out (by omega))
                have hne : ((n + (m : Int) * step) != (n + (m : Int) * step)) = false := by simp
                clear hskip' hm6 hk6 hnone'
                go_wp2_with fail
                go_meet
                exact Lib.hid ⟨Pl.jt hJ6.out hR6.out (by rw [length_ins]; omega) (by omega) (by omega), hact.out.1⟩
        case rest =>
          obtain ⟨hp2, g1⟩ := hcut.out
          clear hcut hQ0 hpl hJ hR hl hn1 hn2 hA0 c0 c1 c2
          obtain ⟨F2, t2, G2, rows2, n2, hJ2, hR2, hl2, hn21, hn22⟩ := hp2
          have hJ0 : Hid (w.heap.size ≤ wc.heap.size) := Lib.hid hJ2.1.2.2
          replace hJ2 := Lib.hid hJ2
          have hlen := Lib.hid hR2.2.1
          have ht64 : t2.length ≤ 64 := by omega
          have hr64 : rows2.length ≤ 64 := by rw [hlen.out]; exact ht64
          replace hR2 := Lib.hid hR2
          go_wp2_with fail
          refine (st_get hJ2.out.1 s1 ht64 id).mono ?_
          rintro e wd ⟨⟨q, rfl⟩, hres⟩
          have hJ3 := Lib.hid (hJ2.out.drewN q)
          obtain ⟨v0, e0, rfl, hM⟩ : ∃ v0 e0, e = .returned (.tuple #[.int .i64 v0, .int .i64 e0]) ∧ Hid (Calls Try.prog 22 #[.pointer (some ⟨mb, 0, none⟩), .int .i64 id] (wc.drewN q) fun e w' => e = .returned (.tuple #[.int .i64 v0, .int .i64 e0]) ∧ wc.drewN q = w') := by
            rcases hres with ⟨hk, rfl⟩ | ⟨u, hk, rfl⟩
            · exact ⟨_, _, rfl, Lib.hid (ref_get_none hJ3.out.2.1 hr64 (by rw [← hR2.out.1]; exact hk))⟩
            · exact ⟨_, _, rfl, Lib.hid (ref_get_some hJ3.out.2.1 hr64 (by rw [← hR2.out.1]; exact hk))⟩
          clear hres
          have x1 : (v0 != v0) = false := by simp
          have x2 : (e0 != e0) = false := by simp
          go_wp2_with fail
          refine hM.out.mono ?_
          rintro e w' ⟨rfl, rfl⟩
          clear hM
          go_wp2_with fail
          refine (st_ids hJ3.out.1 s1 ht64).mono ?_
          rintro e w7 ⟨ia, ic, rfl, hI, hbl, _⟩
          have hJ7 := Lib.hid ((hJ3.out.below hbl).drewN 1)
          have hfar : Hid ((wc.drewN q).heap.size ≤ w7.heap.size) := Lib.hid hbl.size
          have hF2 : Hid (∀ x, x ∈ F2 ∨ x ∈ G2 → x < wc.heap.size) := Lib.hid (fun x hx => by
            rcases hx with hx | hx
            · exact (hJ2.out.1.lt x hx).2
            · exact (hJ2.out.2.1.lt x hx).2)
          replace hI := Lib.hid hI
          have RI : Hid (Calls Try.prog 24 #[.pointer (some ⟨mb, 0, none⟩)] w7.drew fun e w' => ∃ a c, e = .returned (.slice a t2.length c) ∧ Ints w' w7.heap.size (.slice a t2.length c) (ks t2) ∧ Below w7.heap.size w7.drew w') := Lib.hid ((ref_ids hJ7.out.2.1 hr64).mono (by
            rintro e w' ⟨a, c, rfl, h1, h2⟩
            rw [hR2.out.ids] at h1
            rw [hlen.out] at h1 ⊢
            exact ⟨a, c, rfl, h1, h2⟩))
          obtain ⟨ra, rc, m0, m1, m2, m3, _, _, _⟩ := hJ7.out.2.1.cells
          rw [hlen.out] at m3
          have m3' : w7.cell? ⟨mb, 3, none⟩ = some (.slice ra t2.length rc) := m3
          have hmb : mb < w7.heap.size := World.block_lt_of_cell? _ _ m3'
          clear hbl g1 m0 m1 m2 m3
          have x3 : ((t2.length : Int) != (t2.length : Int)) = false := by simp
          go_wp2_with fail
          go_region_held3 (fun w' => w'.cell? ⟨mb, 3, none⟩ = some (.slice ra t2.length rc)) (first | exact m4 | exact m3') (first | (go_at_call 16; refine (st_len hJ7.out.1 s1).mono ?_; rintro e w' ⟨rfl, rfl⟩) | (go_at_call 24; refine RI.out.mono ?_; rintro e w8 ⟨ma, mc, rfl, hIm, hb8⟩; have m4 := (hb8.cell (p := ⟨mb, 3, none⟩) hmb).trans m3'; replace hIm := Lib.hid hIm; replace hb8 := Lib.hid hb8) | (go_at_call 23; refine (ref_ints (hI.out.same (fun k hk => hb8.out.block k (owns_lt hI.out hk))) hIm.out (ks_length _) (ks_length _) rfl ht64).mono ?_; rintro e w9 ⟨rfl, q9, rfl⟩))
          all_goals (go_wp2_with fail)
          have hJ8 := Lib.hid ((hJ7.out.below hb8.out).drewN q9)
          have hI8 : Hid (Ints (w8.drewN q9) (wc.drewN q).heap.size (.slice ia t2.length ic) (ks t2)) := Lib.hid (hI.out.same (fun k hk => hb8.out.block k (owns_lt hI.out hk)))
          clear hb8 hIm m4 m3' RI hI hJ7 hfar hJ3 hJ2 x1 x2 x3
          go_loopw [24] (fun kv wx => ∃ (j : Nat) (xs : List Int), j ≤ t2.length ∧ kv = .int .i64 j ∧ Hid (Jt w.heap.size w wx b F2 t2 mb G2 rows2 size n2 n2 step) ∧ Hid (Ints wx (wc.drewN q).heap.size (.slice ia t2.length ic) xs) ∧ Hid (∀ i, j ≤ i → xs[i]? = (ks t2)[i]?)) (fun kv _ => t2.length - (intOf kv).toNat)
          case atStart => exact ⟨0, ks t2, Nat.zero_le _, rfl, hJ8, hI8, fun i _ => rfl⟩
          case round =>
            obtain ⟨j, xs, hj, rfl, hJ9, hI9, hxs⟩ := hrel
            clear hJ8 hI8
            by_cases hjl : j < t2.length
            · obtain ⟨y, hy⟩ : ∃ y, (ks t2)[j]? = some y := ⟨_, List.getElem?_eq_getElem (by rw [ks_length]; exact hjl)⟩
              obtain ⟨g, rfl, cy⟩ := hI9.out.at' (by rw [hxs.out j (Nat.le_refl _)]; exact hy)
              obtain ⟨u, hu⟩ : ∃ u, lk t2 y = some u := by
                cases hh : lk t2 y with
                | none => exact absurd (List.mem_of_getElem? hy) (lk_none.1 hh)
                | some u => exact ⟨u, rfl⟩
              have hu' : lk rows2 y = some u := by rw [← hR2.out.1]; exact hu
              replace hu := Lib.hid hu
              replace hu' := Lib.hid hu'
              have cf := hI9.out.frozen j
              have hge : (wc.drewN q).heap.size ≤ g := (hI9.out.lt g rfl).1
              have hne : (u != u) = false := by simp
              clear hy
              go_wp2_with fail
              refine (st_get hJ9.out.1 s1 ht64 y).mono ?_
              rintro e wd ⟨⟨q2, rfl⟩, hres⟩
              obtain rfl : e = .returned (.tuple #[.int .i64 u, .int .i64 0]) := by
                rcases hres with ⟨hk, _⟩ | ⟨u', hk, he⟩
                · rw [hu.out] at hk; cases hk
                · rw [hu.out] at hk; cases hk; exact he
              clear hres
              go_wp2_with fail
              refine (ref_get_some (hJ9.out.drewN q2).2.1 hr64 hu'.out).mono ?_
              rintro e w' ⟨rfl, rfl⟩
              have hfin : Hid (Jt w.heap.size w ((wr.drewN q2).setCell ⟨g, j, none⟩ (.int .i64 (-5))) b F2 t2 mb G2 rows2 size n2 n2 step) := Lib.hid (by
                have hJx := hJ9.out.drewN q2
                have hw : (wc.drewN q).heap.size = wc.heap.size := rfl
                have hm : Moved [g] (wr.drewN q2) ((wr.drewN q2).setCell ⟨g, j, none⟩ (.int .i64 (-5))) := (Moved.refl _ _).setCell (p := ⟨g, j, none⟩) (.inl (by simp)) _
                refine ⟨hJx.1.moved hm (fun x hx => ?_), hJx.2.1.moved hm (fun x hx hxg => ?_), hJx.2.2⟩
                · simp at hx; subst hx
                  refine ⟨?_, fun hxF => ?_⟩
                  · have := hJ0.out; omega
                  · have := hF2.out x (.inl hxF); omega
                · simp at hxg; subst hxg
                  have := hF2.out x (.inr hx); omega)
              have hfI : Hid (Ints ((wr.drewN q2).setCell ⟨g, j, none⟩ (.int .i64 (-5))) (wc.drewN q).heap.size (.slice (some ⟨g, 0, none⟩) t2.length ic) (xs.set j (-5))) := Lib.hid (Ints.set (w := wr.drewN q2) hI9.out j (-5))
              go_wp2_with fail
              go_roundw
              case rel =>
                refine ⟨j + 1, xs.set j (-5), by omega, by go_num, hfin, hfI, Lib.hid (fun i hi => ?_)⟩
                rw [List.getElem?_set_ne (by omega)]
                exact hxs.out i (by omega)
              case measure => simp [intOf]; omega
            · go_wp2_with fail
              go_roundw
              case rel => exact ⟨k + 1, by omega, by go_num, Lib.hid (Pl.jt hJ9.out hR2.out hl2 hn21 hn22)⟩
              case measure => simp [intOf]; omega
      · obtain rfl : k = len := by omega
        go_wp2_with fail
        go_ret
        exact ⟨rfl, by obtain ⟨_, _, _, _, _, hj, _⟩ := hpl.out; exact hj.1.2.1⟩
  · go_enter Try.func5, Try.ntmps5
    go_wp2_with fail
    refine (new_bad hg w).mono ?_
    rintro e w2 ⟨rfl, rfl⟩
    go_wp2_with fail
    refine (ref_new_bad hg w).mono ?_
    rintro e w2 ⟨rfl, rfl⟩
    go_wp2_with fail
    go_ret
    exact ⟨rfl, Below.refl _ _⟩

theorem rackPlays.walk {H : Type} {enc : TypeId × Value → H} {spare : Nat → Bool} {d : DataW H} {ps : List MemPlace} (a0 a1 a2 : Int) (a3 : Option Addr) (len3 cap3 : Nat) (w : World) (_ : (Lit.int .i64 a0).wf = true) (_ : (Lit.int .i64 a1).wf = true) (_ : (Lit.int .i64 a2).wf = true)
    (k : DataW.Trod enc Try.prog w 0 spare true 22 (.slice a3 len3 cap3) d ps) :
    Calls Try.prog 5 #[.int .i64 a0, .int .i64 a1, .int .i64 a2, .slice a3 len3 cap3] w fun e w' => e = .returned (.bool true) ∧ Below w.heap.size w w' := by
  obtain ⟨l, hA, hm⟩ := acts_of_trod k
  exact plays_core hA (by unfold maxLen at hm; omega)

end Go.Proofs.Ytpjipdmlfpgokaa
