/-
  The walk of RackOwn.
-/
import Derived.Test.YtpjipdmlfpgokaaOwnRel
import Derived.Test.YtpjipdmlfpgokaaRackTwiceW
import Derived.Deep.DeepCutAuto
import Derived.Deep.CutBlock
import Derived.Deep.RegionHeld3
import Derived.Deep.RegionWith
namespace Go.Proofs.Ytpjipdmlfpgokaa
open Go.RowKit RP

/-- A thousand truths, a thousand numbers. -/
def Z57 : Array Value := Array.replicate 1000 (Value.bool false)
def Z58 : Array Value := Array.replicate 1000 (Value.int .i64 0)
theorem z57_ne : ¬ Z57 = #[] := by intro h; have := congrArg Array.size h; simp [Z57] at this
theorem z58_ne : ¬ Z58 = #[] := by intro h; have := congrArg Array.size h; simp [Z58] at this
theorem zero57 (w : World) : (zeroValue 57).run Try.prog w = .ok (.agg Z57) w := by kernel_rfl
theorem zero58 (w : World) : (zeroValue 58).run Try.prog w = .ok (.agg Z58) w := by kernel_rfl

theorem cellSame {w w' : World} {A i : Nat} {v : Value} (h : w'.heap[A]? = w.heap[A]?) (hc : w.cell? ⟨A, i, none⟩ = some v) : w'.cell? ⟨A, i, none⟩ = some v := by
  rw [← hc]; simp only [World.cell?, h]

section
variable {B b TB VB : Nat} {w0 w : World} {F : List Nat} {t : KV} {S next step : Int} {th : List Bool} {va : List Int}

/-- A step that leaves all but the rack's own blocks as they were. -/
def Stept (B : Nat) (w0 w : World) (b TB VB : Nat) (F : List Nat) (t' : KV) (S next' step : Int) (th : List Bool) (va : List Int) (w' : World) : Prop :=
  ∃ F', Os B w0 w' b TB VB F' t' S next' step th va ∧ (∀ k, k < w.heap.size → k ∉ F → w'.heap[k]? = w.heap[k]?)

theorem os_set_none (h : Os B w0 w b TB VB F t S next step th va) (hs : 1 ≤ S) (hl : t.length ≤ 64) {k : Int} (hk : lk t k = none) (v : Int) :
    Calls Try.prog 15 #[.pointer (some ⟨b, 0, none⟩), .int .i64 k, .int .i64 v] w fun e w' => e = .returned (.int .i64 30) ∧ Stept B w0 w b TB VB F t S next step th va w' := by
  refine (st_set h.1 hs hl k v).mono ?_
  rintro e w' (⟨_, rfl, h1⟩ | ⟨u, hu, _⟩)
  · exact ⟨rfl, h.stepped h1⟩
  · rw [hk] at hu; cases hu
theorem os_set_some (h : Os B w0 w b TB VB F t S next step th va) (hs : 1 ≤ S) (hl : t.length ≤ 64) {k u : Int} (hk : lk t k = some u) (v : Int) :
    Calls Try.prog 15 #[.pointer (some ⟨b, 0, none⟩), .int .i64 k, .int .i64 v] w fun e w' => e = .returned (.int .i64 0) ∧ Stept B w0 w b TB VB F (upd t k v) S next step th va w' := by
  refine (st_set h.1 hs hl k v).mono ?_
  rintro e w' (⟨hu, _⟩ | ⟨u, hu, rfl, h1⟩)
  · rw [hk] at hu; cases hu
  · exact ⟨rfl, h.stepped h1⟩
theorem os_drop_none (h : Os B w0 w b TB VB F t S next step th va) (hs : 1 ≤ S) (hl : t.length ≤ 64) {k : Int} (hk : lk t k = none) :
    Calls Try.prog 13 #[.pointer (some ⟨b, 0, none⟩), .int .i64 k] w fun e w' => e = .returned (.int .i64 30) ∧ Stept B w0 w b TB VB F t S next step th va w' := by
  refine (st_drop h.1 hs hl k).mono ?_
  rintro e w' (⟨_, rfl, h1⟩ | ⟨u, hu, _⟩)
  · exact ⟨rfl, h.stepped h1⟩
  · rw [hk] at hu; cases hu
theorem os_drop_some (h : Os B w0 w b TB VB F t S next step th va) (hs : 1 ≤ S) (hl : t.length ≤ 64) {k u : Int} (hk : lk t k = some u) :
    Calls Try.prog 13 #[.pointer (some ⟨b, 0, none⟩), .int .i64 k] w fun e w' => e = .returned (.int .i64 0) ∧ Stept B w0 w b TB VB F (del t k) S next step th va w' := by
  refine (st_drop h.1 hs hl k).mono ?_
  rintro e w' (⟨hu, _⟩ | ⟨u, hu, rfl, h1⟩)
  · rw [hk] at hu; cases hu
  · exact ⟨rfl, h.stepped h1⟩
end

/-- What holds at the head of round k. -/
def Ow (B : Nat) (w0 : World) (b TB VB : Nat) (S step : Int) (k n : Nat) (wx : World) : Prop :=
  ∃ F t next th va, n = t.length ∧ Os B w0 wx b TB VB F t S next step th va ∧ (t.length : Int) ≤ S ∧ OwnRel t th va ∧ OwnBd k t next

theorem own_start {B b : Nat} {w0 w : World} {F : List Nat} {S step : Int} (h : St B w0 w b F [] S 1 step) (hs : 0 ≤ S) :
    Ow B w0 b w.heap.size (w.heap.size + 1) S step 0 0 ((w.alloc (.cells Z57 57)).alloc (.cells Z58 58)) := by
  have hz1 : Z57 = ((List.replicate 1000 false).map Value.bool).toArray := by unfold Z57; rw [List.map_replicate, List.toArray_replicate]
  have hz2 : Z58 = ((List.replicate 1000 (0 : Int)).map (Value.int .i64)).toArray := by unfold Z58; rw [List.map_replicate, List.toArray_replicate]
  refine ⟨F, [], 1, _, _, rfl, ⟨(h.alloc _).alloc _, ?_, ?_, ?_, ?_, by omega, h.2.2, by have := h.2.2; omega⟩, by simpa using hs, OwnRel.nil, by omega, by omega, by simp⟩
  · unfold ThAt; rw [← hz1]; exact block_alloc _ (block_new _ _)
  · unfold VaAt; rw [← hz2]
    have := block_new (w.alloc (.cells Z57 57)) (.cells Z58 58)
    simpa using this
  · intro hx; have := (h.lt _ hx).2; omega
  · intro hx; have := (h.lt _ hx).2; omega

set_option maxRecDepth 100000 in
set_option maxHeartbeats 4000000 in
theorem own_core {size : Int} {two : Bool} {a : Option Addr} {len cap : Nat} {l : List A3} {w : World} (hA : Acts w a len l) (hm : len ≤ 9223372036854775807) :
    Calls Try.prog 6 #[.int .i64 size, .bool two, .slice a len cap] w fun e w' => e = .returned (.bool true) ∧ Below w.heap.size w w' := by
  have HA := Lib.hid hA
  clear hA
  have zz1 := zero57
  have zz2 := zero58
  have zn1 := z57_ne
  have zn2 := z58_ne
  go_enter Try.func6, Try.ntmps6
  go_wp2_with fail
  refine (awake_any w).mono ?_
  rintro e w1 ⟨rfl, hb⟩
  have hB1 := Lib.hid hb
  clear hb
  go_upto_if 28 with (fail)
  obtain ⟨s1, s2⟩ := sz_bounds size
  unfold sz at s1 s2
  generalize wrap64 (1 + wrap64 ((IntKind.u64.wrap size).tmod 64)) = S at *
  have HA1 : Hid (Acts w1 a len l) := Lib.hid (HA.out.below hB1.out)
  go_cut [0, 7] (fun x y wx => ∃ step : Int, 1 ≤ step ∧ step ≤ 2 ∧ x = .int .i64 S ∧ y = .int .i64 step ∧ wx = w1)
  case first =>
    go_wp2_with fail
    · go_meet
      exact ⟨2, by omega, by omega, rfl, rfl, rfl⟩
    · go_meet
      exact ⟨1, by omega, by omega, rfl, rfl, rfl⟩
  case rest =>
    obtain ⟨step, p1, p2, rfl, rfl, rfl⟩ := hcut
    go_wp2_with fail
    refine (st_new (by unfold GoodArgs; omega) wc).mono ?_
    rintro e w2 ⟨b, rfl, F, h2⟩
    replace h2 := Lib.hid h2
    have HA2 : Hid (Acts w2 a len l) := Lib.hid (HA1.out.below h2.out.2.1)
    go_wp2_with fail
    refine (near_any HA2.out hm).mono ?_
    rintro e w3 ⟨r, rfl, hr, rfl⟩
    cases r with
    | false =>
      go_wp2_with fail
      go_ret
      exact ⟨rfl, hB1.out.trans (h2.out.2.1.mono hB1.out.size)⟩
    | true =>
      have HN := Lib.hid (hr rfl)
      clear hr
      go_wp2_with fail
      have hst := Lib.hid (own_start h2.out (by omega))
      have hTV : Hid (w2.heap.size + 1 ≠ w2.heap.size) := Lib.hid (by omega)
      have hsz : Hid (w2.heap.size + 1 < ((w2.alloc (.cells Z57 57)).alloc (.cells Z58 58)).heap.size) := Lib.hid (by simp)
      replace hB1 : Hid (Below w.heap.size w wc) := hB1
      generalize hW3 : (w2.alloc (.cells Z57 57)).alloc (.cells Z58 58) = w3 at *
      generalize hVB : w2.heap.size + 1 = VB at *
      generalize hTB : w2.heap.size = TB at *
      clear hW3 hVB hTB h2 HA2 zz1 zz2 zn1 zn2
      go_loopw [12, 13] (fun mv i wr => ∃ k n : Nat, k ≤ len ∧ mv = .int .i64 n ∧ i = .int .i64 k ∧ Hid (Ow wc.heap.size wc b TB VB S step k n wr)) (fun _ i _ => len - (intOf i).toNat)
      case atStart => exact ⟨0, 0, Nat.zero_le _, rfl, rfl, hst⟩
      case round =>
        clear hst hsz
        obtain ⟨k, n, hk, rfl, rfl, how⟩ := hrel
        by_cases hlt : k < len
        · obtain ⟨x, hx⟩ : ∃ x, l[k]? = some x := ⟨_, List.getElem?_eq_getElem (by rw [HA.out.1]; exact hlt)⟩
          have hbw : Below wc.heap.size wc wr := by obtain ⟨_, _, _, _, _, _, hj, _⟩ := how.out; exact hj.1.2.1
          obtain ⟨ab, aoff, rfl, hab, c0, c1, c2⟩ := (HA1.out.below hbw).at hx
          have hx0 := HA.out.2.1 x (List.mem_of_getElem? hx)
          obtain ⟨kd, id, val⟩ := x
          simp only at c0 c1 c2 hx0
          obtain ⟨hx1, hx2⟩ := hx0
          have hId : 0 ≤ id ∧ id ≤ 400 := HN.out.2 _ (List.mem_of_getElem? hx)
          have hk150 : k < 150 := by have := HN.out.1; rw [HA.out.1] at this; omega
          clear hx hbw
          obtain ⟨I, rfl⟩ := Int.eq_ofNat_of_zero_le hId.1
          have hI := hId.2
          clear hId
          have hI1 : (0 : Int) ≤ (I : Int) := by omega
          have hI2 : (I : Int) < 1000 := by omega
          have hI3 : (I : Int).toNat = I := rfl
          go_upto_block 2 with (fail)
          go_cut [12] (fun mv wx => ∃ n' : Nat, mv = .int .i64 n' ∧ Hid (Ow wc.heap.size wc b TB VB S step (k + 1) n' wx))
          case first =>
            obtain ⟨F, t, next, th, va, rfl, hO, hl, hr, hbd⟩ := how.out
            have hrise := hO.1.rise
            have hAF : wr.heap.size ∉ F := fun hx => by have := (hO.1.lt _ hx).2; omega
            have hTA : TB ≠ wr.heap.size := by have := block_lt hO.2.1; omega
            have hVA : VB ≠ wr.heap.size := by have := block_lt hO.2.2.1; omega
            have hTV' := hTV.out
            have hOa := Lib.hid (hO.alloc (.cells #[.int .u8 kd, .int .i64 I, .int .i64 val] 31))
            have hltA : wr.heap.size < (wr.alloc (.cells #[.int .u8 kd, .int .i64 I, .int .i64 val] 31)).heap.size := by simp
            have d0 : (wr.alloc (.cells #[.int .u8 kd, .int .i64 I, .int .i64 val] 31)).cell? ⟨wr.heap.size, 0, none⟩ = some (.int .u8 kd) := by go_simp
            have d1 : (wr.alloc (.cells #[.int .u8 kd, .int .i64 I, .int .i64 val] 31)).cell? ⟨wr.heap.size, 1, none⟩ = some (.int .i64 I) := by go_simp
            have d2 : (wr.alloc (.cells #[.int .u8 kd, .int .i64 I, .int .i64 val] 31)).cell? ⟨wr.heap.size, 2, none⟩ = some (.int .i64 val) := by go_simp
            generalize hWa : wr.alloc (.cells #[.int .u8 kd, .int .i64 I, .int .i64 val] 31) = Wa at *
            generalize hA : wr.heap.size = A at *
            clear hWa hA c0 c1 c2
            replace hr := Lib.hid hr
            replace hO := Lib.hid hO
            replace hrise := Lib.hid hrise
            replace hltA := Lib.hid hltA
            replace hbd := Lib.hid hbd
            have hn1 : 1 ≤ next := hbd.out.1
            have hn2 : next ≤ 402 + 2 * k := hbd.out.2.1
            go_wp2_with fail
            rotate_left 2
            · as_aux_lemma =>
              refine (st_hold hOa.out.1 s1 s2 hl I val).mono ?_
              rintro e w5 hres
              rcases hres with ⟨harg, rfl, hs⟩ | ⟨hnone, g1, g2, hfull, rfl, hs⟩ | ⟨hnone, g1, g2, hroom, rfl, hs⟩
              · obtain ⟨F5, hO5, hk5⟩ := hOa.out.stepped hs
                have e1 := cellSame (hk5 _ hltA.out hAF) d1
                have e2 := cellSame (hk5 _ hltA.out hAF) d2
                have cT := hO5.2.1.cell (hr.out.2.2.1 I (by omega))
                have hx : 0 < (I : Int) → (lk t (I : Int)).isSome = true := fun h => by
                  rcases harg with h1 | h1 | h1
                  · exact h1
                  · omega
                  · omega
                replace hO5 := Lib.hid hO5
                clear hs hk5 harg
                by_cases hI0 : 0 < (I : Int)
                · rw [hx hI0] at cT
                  clear hx
                  go_wp2_with fail
                  go_meet
                  exact ⟨_, rfl, Lib.hid ⟨F5, t, next, th, va, rfl, hO5.out, hl, hr.out, hbd.out.mono⟩⟩
                · clear hx
                  go_wp2_with fail
                  go_meet
                  exact ⟨_, rfl, Lib.hid ⟨F5, t, next, th, va, rfl, hO5.out, hl, hr.out, hbd.out.mono⟩⟩
              · obtain ⟨F5, hO5, hk5⟩ := hOa.out.stepped hs
                have e1 := cellSame (hk5 _ hltA.out hAF) d1
                have e2 := cellSame (hk5 _ hltA.out hAF) d2
                have cT := hO5.2.1.cell (hr.out.2.2.1 I (by omega))
                rw [hnone] at cT
                change _ = some (Value.bool false) at cT
                have hnl : ¬ (t.length : Int) < S := by omega
                have hI0 : 0 < (I : Int) := by omega
                replace hO5 := Lib.hid hO5
                clear hs hk5 hnone g1 g2 hfull
                go_wp2_with fail
                go_meet
                exact ⟨_, rfl, Lib.hid ⟨F5, t, next, th, va, rfl, hO5.out, hl, hr.out, hbd.out.mono⟩⟩
              · obtain ⟨F5, hO5, hk5⟩ := hOa.out.stepped hs
                have e1 := cellSame (hk5 _ hltA.out hAF) d1
                have e2 := cellSame (hk5 _ hltA.out hAF) d2
                have cT := hO5.2.1.cell (hr.out.2.2.1 I (by omega))
                rw [hnone] at cT
                change _ = some (Value.bool false) at cT
                have hI0 : 0 < (I : Int) := by omega
                have hfin := Lib.hid ((hO5.setTh I true).setVa I val)
                have hr' := Lib.hid (hr.out.of_ins hrise.out (show I < 1000 by omega) val)
                have hbd' := Lib.hid (hbd.out.hold (id := I) (by omega) (by omega) val)
                have cf1 := block_frozen hO5.2.1 I
                have cf2 := block_frozen hO5.2.2.1 I
                obtain ⟨vx, hvx⟩ : ∃ x, va[I]? = some x := ⟨_, List.getElem?_eq_getElem (by rw [hr.out.2.1]; omega)⟩
                have cV := hO5.2.2.1.cell hvx
                clear hvx
                replace hO5 := Lib.hid hO5
                clear hs hk5 hnone g1 g2
                go_wp2_with fail
                go_meet
                exact ⟨_, rfl, Lib.hid ⟨F5, ins t I val, next, _, _, by rw [length_ins], hfin.out, by rw [length_ins]; omega, hr'.out, hbd'.out⟩⟩
            · as_aux_lemma =>
              have hltT := Lib.hid (block_lt hOa.out.2.1)
              have hTF := hOa.out.2.2.2.1
              have ht64 : t.length ≤ 64 := by omega
              have d3 := hOa.out.2.1.cell (hr.out.2.2.1 I (by omega))
              obtain ⟨vx, hvx⟩ : ∃ x, va[I]? = some x := ⟨_, List.getElem?_eq_getElem (by rw [hr.out.2.1]; omega)⟩
              cases hlk : lk t (I : Int) with
              | none =>
                have SC := Lib.hid (os_set_none (hOa.out.drewN 1) s1 ht64 hlk val)
                rw [hlk] at d3
                change _ = some (Value.bool false) at d3
                replace hvx := Lib.hid hvx
                go_region_held3 (fun w' => w'.cell? ⟨A, 1, none⟩ = some (.int .i64 I) ∧ w'.cell? ⟨A, 2, none⟩ = some (.int .i64 val) ∧ w'.cell? ⟨TB, I, none⟩ = some (.bool false)) (first | exact ⟨e1, e2, e3⟩ | exact ⟨d1, d2, d3⟩) (first | (go_at_call 15; refine SC.out.mono ?_; rintro e w5 ⟨rfl, F5, hO5, hk5⟩; have e1 := cellSame (hk5 _ hltA.out hAF) d1; have e2 := cellSame (hk5 _ hltA.out hAF) d2; have e3 := cellSame (hk5 _ hltT.out hTF) d3; have cf1 := block_frozen hO5.2.1 I; have cf2 := block_frozen hO5.2.2.1 I; have cV := hO5.2.2.1.cell hvx.out; replace hO5 := Lib.hid hO5))
                all_goals (go_wp2_with fail)
                all_goals (go_meet; exact ⟨_, rfl, Lib.hid ⟨F5, t, next, th, va, rfl, hO5.out, hl, hr.out, hbd.out.mono⟩⟩)
              | some u =>
                have SC := Lib.hid (os_set_some (hOa.out.drewN 1) s1 ht64 hlk val)
                rw [hlk] at d3
                change _ = some (Value.bool true) at d3
                have hr' := Lib.hid (hr.out.of_upd hrise.out (show I < 1000 by omega) val hlk)
                have hbd' := Lib.hid (hbd.out.of_upd hrise.out val hlk)
                replace hlk := Lib.hid hlk
                replace hvx := Lib.hid hvx
                go_region_held3 (fun w' => w'.cell? ⟨A, 1, none⟩ = some (.int .i64 I) ∧ w'.cell? ⟨A, 2, none⟩ = some (.int .i64 val) ∧ w'.cell? ⟨TB, I, none⟩ = some (.bool true)) (first | exact ⟨e1, e2, e3⟩ | exact ⟨d1, d2, d3⟩) (first | (go_at_call 15; refine SC.out.mono ?_; rintro e w5 ⟨rfl, F5, hO5, hk5⟩; have e1 := cellSame (hk5 _ hltA.out hAF) d1; have e2 := cellSame (hk5 _ hltA.out hAF) d2; have e3 := cellSame (hk5 _ hltT.out hTF) d3; have cf1 := block_frozen hO5.2.1 I; have cf2 := block_frozen hO5.2.2.1 I; have cV := hO5.2.2.1.cell hvx.out; replace hO5 := Lib.hid hO5))
                all_goals (go_wp2_with fail)
                all_goals (go_meet; exact ⟨_, rfl, Lib.hid ⟨F5, upd t I val, next, th, _, by rw [length_upd], hO5.out.setVa I val, by rw [length_upd]; exact hl, hr'.out, hbd'.out⟩⟩)
            · as_aux_lemma =>
              have hltT := Lib.hid (block_lt hOa.out.2.1)
              have hTF := hOa.out.2.2.2.1
              have ht64 : t.length ≤ 64 := by omega
              have d3 := hOa.out.2.1.cell (hr.out.2.2.1 I (by omega))
              obtain ⟨vx, hvx⟩ : ∃ x, va[I]? = some x := ⟨_, List.getElem?_eq_getElem (by rw [hr.out.2.1]; omega)⟩
              cases hlk : lk t (I : Int) with
              | none =>
                have SC := Lib.hid (os_drop_none (hOa.out.drewN 1) s1 ht64 hlk)
                rw [hlk] at d3
                change _ = some (Value.bool false) at d3
                replace hvx := Lib.hid hvx
                go_region_held3 (fun w' => w'.cell? ⟨A, 1, none⟩ = some (.int .i64 I) ∧ w'.cell? ⟨A, 2, none⟩ = some (.int .i64 val) ∧ w'.cell? ⟨TB, I, none⟩ = some (.bool false)) (first | exact ⟨e1, e2, e3⟩ | exact ⟨d1, d2, d3⟩) (first | (go_at_call 13; refine SC.out.mono ?_; rintro e w5 ⟨rfl, F5, hO5, hk5⟩; have e1 := cellSame (hk5 _ hltA.out hAF) d1; have e2 := cellSame (hk5 _ hltA.out hAF) d2; have e3 := cellSame (hk5 _ hltT.out hTF) d3; have cf1 := block_frozen hO5.2.1 I; have cf2 := block_frozen hO5.2.2.1 I; have cV := hO5.2.2.1.cell hvx.out; replace hO5 := Lib.hid hO5))
                all_goals (go_wp2_with fail)
                all_goals (go_meet; exact ⟨_, rfl, Lib.hid ⟨F5, t, next, th, va, rfl, hO5.out, hl, hr.out, hbd.out.mono⟩⟩)
              | some u =>
                have SC := Lib.hid (os_drop_some (hOa.out.drewN 1) s1 ht64 hlk)
                rw [hlk] at d3
                change _ = some (Value.bool true) at d3
                have hr' := Lib.hid (hr.out.of_del hrise.out (show I < 1000 by omega) hlk)
                have hbd' := Lib.hid (hbd.out.of_drop (I : Int))
                have hdl := length_del hrise.out hlk
                replace hlk := Lib.hid hlk
                replace hvx := Lib.hid hvx
                go_region_held3 (fun w' => w'.cell? ⟨A, 1, none⟩ = some (.int .i64 I) ∧ w'.cell? ⟨A, 2, none⟩ = some (.int .i64 val) ∧ w'.cell? ⟨TB, I, none⟩ = some (.bool true)) (first | exact ⟨e1, e2, e3⟩ | exact ⟨d1, d2, d3⟩) (first | (go_at_call 13; refine SC.out.mono ?_; rintro e w5 ⟨rfl, F5, hO5, hk5⟩; have e1 := cellSame (hk5 _ hltA.out hAF) d1; have e2 := cellSame (hk5 _ hltA.out hAF) d2; have e3 := cellSame (hk5 _ hltT.out hTF) d3; have cf1 := block_frozen hO5.2.1 I; have cf2 := block_frozen hO5.2.2.1 I; have cV := hO5.2.2.1.cell hvx.out; replace hO5 := Lib.hid hO5))
                all_goals (go_wp2_with fail)
                all_goals (go_meet; exact ⟨(del t I).length, by rw [← hdl]; simp, Lib.hid ⟨F5, del t I, next, _, va, rfl, hO5.out.setTh I false, by omega, hr'.out, hbd'.out⟩⟩)
            all_goals
              as_aux_lemma =>
                refine (st_give hOa.out.1 s1 s2 hn1 (by omega) p1 (by omega) val).mono ?_
                rintro e w5 (⟨hfull, rfl, hs⟩ | ⟨hroom, m, hskip, (⟨hmax, _, _⟩ | ⟨hle, hnone, rfl, hs⟩)⟩)
                · obtain ⟨F5, hO5, hk5⟩ := hOa.out.stepped hs
                  have hnl : ¬ (t.length : Int) < S := by omega
                  replace hO5 := Lib.hid hO5
                  clear hs hk5 hfull
                  go_wp2_with fail
                  go_meet
                  exact ⟨_, rfl, Lib.hid ⟨F5, t, next, th, va, rfl, hO5.out, hl, hr.out, hbd.out.mono⟩⟩
                · exfalso
                  have := (hbd.out.skip p1 p2 hskip).2
                  omega
                · obtain ⟨q1, q2⟩ := hbd.out.skip p1 p2 hskip
                  have hbd' := Lib.hid (hbd.out.give p1 p2 hskip val)
                  clear hskip hle
                  generalize hnid : next + (m : Int) * step = nid at *
                  clear hnid
                  obtain ⟨N, rfl⟩ := Int.eq_ofNat_of_zero_le (show 0 ≤ nid by omega)
                  obtain ⟨F5, hO5, hk5⟩ := hOa.out.stepped hs
                  have e2 := cellSame (hk5 _ hltA.out hAF) d2
                  have cT := hO5.2.1.cell (hr.out.2.2.1 N (by omega))
                  rw [hnone] at cT
                  change _ = some (Value.bool false) at cT
                  obtain ⟨vx, hvx⟩ : ∃ x, va[N]? = some x := ⟨_, List.getElem?_eq_getElem (by rw [hr.out.2.1]; omega)⟩
                  have cV := hO5.2.2.1.cell hvx
                  have cf1 := block_frozen hO5.2.1 N
                  have cf2 := block_frozen hO5.2.2.1 N
                  have hN1 : ¬ (N : Int) < 1 := by omega
                  have hN8 : ¬ 800 < (N : Int) := by omega
                  have hfin := Lib.hid ((hO5.setTh N true).setVa N val)
                  have hr' := Lib.hid (hr.out.of_ins hrise.out (show N < 1000 by omega) val)
                  replace hO5 := Lib.hid hO5
                  clear hs hk5 hnone hvx
                  go_wp2_with fail
                  go_meet
                  exact ⟨_, rfl, Lib.hid ⟨F5, ins t N val, _, _, _, by rw [length_ins], hfin.out, by rw [length_ins]; omega, hr'.out, hbd'.out⟩⟩
          case rest =>
            as_aux_lemma =>
              obtain ⟨n', rfl, how'⟩ := hcut
              clear how c0 c1 c2
              obtain ⟨F, t, next, th, va, rfl, hO, hl, hr, hbd⟩ := how'.out
              have hne : ((t.length : Int) != (t.length : Int)) = false := by simp
              replace hO := Lib.hid hO
              replace hbd := Lib.hid hbd
              replace hr := Lib.hid hr
              go_wp2_with fail
              refine (st_len hO.out.1 s1).mono ?_
              rintro e w6 ⟨rfl, rfl⟩
              go_wp2_with fail
              go_roundw
              case rel => exact ⟨k + 1, t.length, by omega, rfl, by go_num, how'⟩
              case measure => simp [intOf]; omega
        · as_aux_lemma =>
          obtain rfl : k = len := by omega
          obtain ⟨F, t, next, th, va, rfl, hO, hl, hr, hbd⟩ := how.out
          replace hO := Lib.hid hO
          replace hbd := Lib.hid hbd
          replace hr := Lib.hid hr
          have ht64 : t.length ≤ 64 := by omega
          go_wp2_with fail
          go_loopw [18] (fun i wx => ∃ j : Nat, j ≤ 1000 ∧ i = .int .i64 j ∧ ∃ q, wx = wr.drewN q) (fun i _ => 1000 - (intOf i).toNat)
          case atStart => exact ⟨0, by omega, rfl, 0, rfl⟩
          case round =>
            obtain ⟨j, hj, rfl, q, rfl⟩ := hrel
            by_cases hjl : j < 1000
            · have cT := hO.out.2.1.cell (hr.out.2.2.1 j hjl)
              obtain ⟨vx, hvx⟩ : ∃ x, va[j]? = some x := ⟨_, List.getElem?_eq_getElem (by rw [hr.out.2.1]; omega)⟩
              have cV := hO.out.2.2.1.cell hvx
              go_wp2_with fail
              refine (st_get (hO.out.drewN q).1 s1 ht64 j).mono ?_
              rintro e wd ⟨⟨q2, rfl⟩, ⟨hlk, rfl⟩ | ⟨u, hlk, rfl⟩⟩
              · rw [hlk] at cT
                change _ = some (Value.bool false) at cT
                replace hlk := Lib.hid hlk
                go_wp2_with fail
                go_roundw
                case rel => exact ⟨j + 1, by omega, by go_num, _, rfl⟩
                case measure => simp [intOf]; omega
              · have hvu := hr.out.2.2.2 j u hjl hlk
                rw [hlk] at cT
                change _ = some (Value.bool true) at cT
                rw [hvx] at hvu
                cases hvu
                have hne : (vx != vx) = false := by simp
                replace hlk := Lib.hid hlk
                go_wp2_with fail
                go_roundw
                case rel => exact ⟨j + 1, by omega, by go_num, _, rfl⟩
                case measure => simp [intOf]; omega
            · obtain rfl : j = 1000 := by omega
              go_wp2_with fail
              go_ret
              exact ⟨rfl, hB1.out.trans ((hO.out.drewN q).1.2.1.mono hB1.out.size)⟩

theorem rackOwn.walk {H : Type} {enc : TypeId × Value → H} {spare : Nat → Bool} {d : DataW H} {ps : List MemPlace} (a0 : Int) (a1 : Bool) (a2 : Option Addr) (len2 cap2 : Nat) (w : World) (_ : (Lit.int .i64 a0).wf = true)
    (k : DataW.Trod enc Try.prog w 0 spare true 22 (.slice a2 len2 cap2) d ps) :
    Calls Try.prog 6 #[.int .i64 a0, .bool a1, .slice a2 len2 cap2] w fun e w' => e = .returned (.bool true) ∧ Below w.heap.size w w' := by
  obtain ⟨l, hA, hm⟩ := acts_of_trod k
  exact own_core hA (by unfold maxLen at hm; omega)

end Go.Proofs.Ytpjipdmlfpgokaa
