/-
  Ids and tokens: contracts.
-/
import Derived.Test.YtmddbnfhbnofgaaDoorShelf
import Derived.WalkKit
import Derived.WalkSpells
import Derived.WalkLawsBesides
import Derived.Lib.Hide
import Derived.Below
import Derived.BigQuiet
import Derived.WalkMore
import Derived.Deep.LoopGhost
namespace Go.Proofs.YtmddbnfhbnofgaaDoor
open Go.RowKit Go.BigFrame

/-- A byte that may be in an id. -/
def lett (c : Int) : Bool := (decide (97 ≤ c) && decide (c ≤ 122)) || (decide (48 ≤ c) && decide (c ≤ 57))

set_option maxHeartbeats 1000000 in
theorem letter_any (c : Int) (w : World) : Calls Tryd.prog 22 #[.int .u8 c] w fun e w' => e = .returned (.bool (lett c)) ∧ w = w' := by
  by_cases h1 : 97 ≤ c
  · by_cases h2 : c ≤ 122
    · have e0 : lett c = true := by simp [lett, h1, h2]
      rw [e0]
      clear e0
      go_enter Tryd.func22, Tryd.ntmps22
      go_wp2
      go_ret
      exact ⟨rfl, rfl⟩
    · have h3 : ¬ c ≤ 57 := by omega
      have h4 : 48 ≤ c := by omega
      have e0 : lett c = false := by simp [lett, h1, h2, h3, h4]
      rw [e0]
      clear e0
      go_enter Tryd.func22, Tryd.ntmps22
      go_wp2
      go_ret
      exact ⟨rfl, rfl⟩
  · by_cases h4 : 48 ≤ c
    · by_cases h3 : c ≤ 57
      · have e0 : lett c = true := by simp [lett, h1, h3, h4]
        rw [e0]
        clear e0
        go_enter Tryd.func22, Tryd.ntmps22
        go_wp2
        go_ret
        exact ⟨rfl, rfl⟩
      · have e0 : lett c = false := by simp [lett, h1, h3, h4]
        rw [e0]
        clear e0
        go_enter Tryd.func22, Tryd.ntmps22
        go_wp2
        go_ret
        exact ⟨rfl, rfl⟩
    · have e0 : lett c = false := by simp [lett, h1, h4]
      rw [e0]
      clear e0
      go_enter Tryd.func22, Tryd.ntmps22
      go_wp2
      go_ret
      exact ⟨rfl, rfl⟩

/-- An id. -/
def isId (s : ByteArray) : Bool := decide (1 ≤ s.size) && decide (s.size ≤ 8) && s.data.toList.all (fun c => lett c.toNat)

theorem take_snoc {α : Type} (t : List α) {k : Nat} {x : α} (h : t[k]? = some x) : t.take (k + 1) = t.take k ++ [x] := by
  rw [List.take_add_one, h]; rfl

theorem getElem_toList {s : ByteArray} {k : Nat} (h : k < s.size) : s.data.toList[k]? = some (s[k]'h) := by
  rw [List.getElem?_eq_getElem (by simpa using h)]; rfl

theorem isId_bad {s : ByteArray} {k : Nat} (h : k < s.size) (hb : lett (s[k]'h).toNat = false) : isId s = false := by
  have : s.data.toList.all (fun c => lett c.toNat) = false := by
    rw [List.all_eq_false]
    exact ⟨_, List.mem_of_getElem? (getElem_toList h), by simp [hb]⟩
  unfold isId
  rw [this, Bool.and_false]

theorem isId_end {s : ByteArray} (h0 : ¬ s.size = 0) (h : s.data.toList.all (fun c => lett c.toNat) = true) : isId s = decide ((s.size : Int) ≤ 8) := by
  unfold isId
  rw [h, Bool.and_true]
  have : decide (1 ≤ s.size) = true := by simp; omega
  rw [this, Bool.true_and]
  exact decide_eq_decide.2 (by omega)

set_option maxHeartbeats 1000000 in
theorem id_any (s : ByteArray) (hm : s.size ≤ 9223372036854775807) (w : World) : Calls Tryd.prog 8 #[.string s] w fun e w' => e = .returned (.bool (isId s)) ∧ w = w' := by
  by_cases h0 : s.size = 0
  · have hs : isId s = false := by unfold isId; rw [h0]; rfl
    rw [hs]
    clear hs
    have hE : s.toList = [] := by rw [ByteArray.toList_eq]; exact List.eq_nil_of_length_eq_zero (by simpa using h0)
    have hE2 : s.toList.isEmpty = true := by simp [hE]
    go_enter Tryd.func8, Tryd.ntmps8
    go_wp2
    go_step3
    go_wp2
    go_step3
    go_wp2
    go_loop [3, 14] (fun g i => g = .bool false ∧ i = .int .i64 0) (fun _ _ => 0)
    case atStart => exact ⟨rfl, rfl⟩
    case round =>
      obtain ⟨rfl, rfl⟩ := hrel
      go_wp2
      try rw [Exit.noGoto_ret]
      go_ret
      exact ⟨rfl, rfl⟩
  have hE : ¬ s.toList = [] := by
    rw [ByteArray.toList_eq]
    intro h
    exact h0 (by have := congrArg List.length h; simpa using this)
  have hE2 : s.toList.isEmpty = false := by simpa using hE
  go_enter Tryd.func8, Tryd.ntmps8
  go_wp2
  go_step3
  go_wp2
  go_step3
  go_wp2
  go_loop [3, 14] (fun g i => ∃ k : Nat, k ≤ s.size ∧ g = .bool (decide ((s.size : Int) ≤ 8)) ∧ i = .int .i64 k ∧ Hid ((s.data.toList.take k).all (fun c => lett c.toNat) = true)) (fun _ i => s.size - (intOf i).toNat)
  case atStart => exact ⟨0, by omega, rfl, rfl, Lib.hid (by simp)⟩
  case round =>
    obtain ⟨k, hk, rfl, rfl, hall⟩ := hrel
    by_cases hlt : k < s.size
    · cases hb : lett (s[k]'hlt).toNat with
      | true =>
        have hb' := Lib.hid hb
        clear hb
        go_wp2_with (go_at_call 22; refine (letter_any _ _).mono ?_; rintro e w' ⟨rfl, rfl⟩; rw [hb'.out])
        go_round
        case rel =>
          refine ⟨k + 1, by omega, rfl, by go_num, Lib.hid ?_⟩
          rw [take_snoc _ (getElem_toList hlt), List.all_append, hall.out]
          simpa using hb'.out
        case measure => simp [intOf]; omega
      | false =>
        have hi := Lib.hid (isId_bad hlt hb)
        have hb' := Lib.hid hb
        clear hb
        go_wp2_with (go_at_call 22; refine (letter_any _ _).mono ?_; rintro e w' ⟨rfl, rfl⟩; rw [hb'.out])
        try rw [Exit.noGoto_ret]
        go_ret
        exact ⟨by rw [hi.out]; rfl, rfl⟩
    · obtain rfl : k = s.size := by omega
      have hi := Lib.hid (isId_end h0 (by rw [← List.take_of_length_le (l := s.data.toList) (i := s.size) (by simp)]; exact hall.out))
      go_wp2
      try rw [Exit.noGoto_ret]
      go_ret
      exact ⟨by rw [hi.out]; rfl, rfl⟩

/-- A slice of texts. -/
def Strs (w : World) (a : Option Addr) (len : Nat) (xs : List ByteArray) : Prop :=
  xs.length = len ∧ (∀ x ∈ xs, x.size ≤ 9223372036854775807) ∧ (len = 0 ∨ ∃ b off, a = some ⟨b, off, none⟩ ∧ b < w.heap.size ∧ ∀ i x, xs[i]? = some x → w.cell? ⟨b, off + i, none⟩ = some (.string x))

theorem Strs.below {w w' : World} {a : Option Addr} {len : Nat} {xs : List ByteArray} (h : Strs w a len xs) (hb : Below w.heap.size w w') : Strs w' a len xs := by
  obtain ⟨h1, h2, h3⟩ := h
  refine ⟨h1, h2, h3.imp id ?_⟩
  rintro ⟨b, off, rfl, hlt, hc⟩
  exact ⟨b, off, rfl, Nat.lt_of_lt_of_le hlt hb.size, fun i x hx => (hb.cell (p := ⟨b, _, none⟩) hlt).trans (hc i x hx)⟩

theorem Strs.at {w : World} {a : Option Addr} {len : Nat} {xs : List ByteArray} (h : Strs w a len xs) {i : Nat} (hi : i < len) :
    ∃ b off x, xs[i]? = some x ∧ x.size ≤ 9223372036854775807 ∧ a = some ⟨b, off, none⟩ ∧ b < w.heap.size ∧ w.cell? ⟨b, off + i, none⟩ = some (.string x) := by
  obtain ⟨h1, h2, h3⟩ := h
  rcases h3 with h3 | ⟨b, off, rfl, hlt, hc⟩
  · omega
  · have hx : xs[i]? = some xs[i] := List.getElem?_eq_getElem (by omega)
    exact ⟨b, off, _, hx, h2 _ (List.mem_of_getElem? hx), rfl, hlt, hc i _ hx⟩

/-- May's own function. -/
theorem notId_any (s : ByteArray) (hm : s.size ≤ 9223372036854775807) (w : World) : Calls Tryd.prog 26 #[.string s] w fun e w' => e = .returned (.bool (!isId s)) ∧ w = w' := by
  go_enter Tryd.func26, Tryd.ntmps26
  go_wp2_with (go_at_call 8; refine (id_any s hm w).mono ?_; rintro e w' ⟨rfl, rfl⟩)
  go_ret
  exact ⟨rfl, rfl⟩

/-- The first text that is no id. -/
def firstBad (xs : List ByteArray) : Int := match xs.findIdx? (fun s => !isId s) with | some i => i | none => -1

theorem firstBad_at {xs : List ByteArray} {k : Nat} {x : ByteArray} (hx : xs[k]? = some x) (hb : isId x = false) (hall : ∀ y ∈ xs.take k, isId y = true) : firstBad xs = k := by
  have : xs.findIdx? (fun s => !isId s) = some k := by
    obtain ⟨hk, rfl⟩ := List.getElem?_eq_some_iff.1 hx
    rw [List.findIdx?_eq_some_iff_getElem]
    refine ⟨hk, by simp [hb], fun j hj => ?_⟩
    have := hall xs[j] (List.mem_of_getElem? (i := j) (by rw [List.getElem?_take, if_pos hj, List.getElem?_eq_getElem (by omega)]))
    simp [this]
  simp [firstBad, this]

theorem firstBad_none {xs : List ByteArray} (hall : ∀ y ∈ xs, isId y = true) : firstBad xs = -1 := by
  have : xs.findIdx? (fun s => !isId s) = none := by
    rw [List.findIdx?_eq_none_iff]
    intro x hx
    simp [hall x hx]
  simp [firstBad, this]

set_option maxHeartbeats 1000000 in
theorem index_any {w : World} {a : Option Addr} {len cap : Nat} {xs : List ByteArray} (h : Strs w a len xs) (hm : len ≤ 9223372036854775807) :
    Calls Tryd.prog 31 #[.slice a len cap, .func (.func 26) #[] #[]] w fun e w' => e = .returned (.int .i64 (firstBad xs)) ∧ w = w' := by
  replace h := Lib.hid h
  go_enter Tryd.func31, Tryd.ntmps31
  go_wp2
  go_loop [8] (fun i => ∃ k : Nat, k ≤ len ∧ i = .int .i64 k ∧ Hid (∀ y ∈ xs.take k, isId y = true)) (fun i => len - (intOf i).toNat)
  case atStart => exact ⟨0, Nat.zero_le _, rfl, Lib.hid (by simp)⟩
  case round =>
    obtain ⟨k, hk, rfl, hall⟩ := hrel
    by_cases hlt : k < len
    · obtain ⟨b, off, x, hx, hxm, rfl, hb, hc⟩ := h.out.at hlt
      cases hid : isId x with
      | true =>
        have hid' := Lib.hid hid
        replace hx := Lib.hid hx
        clear hid
        go_wp2_with (go_at_call 26; refine (notId_any x hxm _).mono ?_; rintro e w' ⟨rfl, rfl⟩; rw [hid'.out])
        go_round
        case rel =>
          refine ⟨k + 1, by omega, by go_num, Lib.hid ?_⟩
          rw [take_snoc _ hx.out]
          intro y hy
          simp at hy
          rcases hy with hy | rfl
          · exact hall.out y hy
          · exact hid'.out
        case measure => simp [intOf]; omega
      | false =>
        have hf := Lib.hid (firstBad_at hx hid hall.out)
        have hid' := Lib.hid hid
        replace hx := Lib.hid hx
        clear hid
        go_wp2_with (go_at_call 26; refine (notId_any x hxm _).mono ?_; rintro e w' ⟨rfl, rfl⟩; rw [hid'.out])
        go_ret
        exact ⟨by rw [hf.out]; rfl, rfl⟩
    · obtain rfl : k = len := by omega
      have hf := Lib.hid (firstBad_none (xs := xs) (by have := hall.out; rw [List.take_of_length_le (by rw [h.out.1]; exact Nat.le_refl _)] at this; exact this))
      go_wp2
      go_ret
      exact ⟨by rw [hf.out]; rfl, rfl⟩

/-- Is one of them no id? -/
theorem firstBad_ge (xs : List ByteArray) : decide (firstBad xs ≥ 0) = !(xs.all isId) := by
  unfold firstBad
  cases h : xs.findIdx? (fun s => !isId s) with
  | none =>
    rw [List.findIdx?_eq_none_iff] at h
    have : xs.all isId = true := by rw [List.all_eq_true]; intro x hx; simpa using h x hx
    rw [this]; rfl
  | some i =>
    have hi := List.findIdx?_eq_some_iff_getElem.1 h
    obtain ⟨hl, hb, _⟩ := hi
    have : xs.all isId = false := by rw [List.all_eq_false]; exact ⟨_, List.getElem_mem hl, by simpa using hb⟩
    rw [this]; simp

set_option maxHeartbeats 1000000 in
theorem anyBad {w : World} {a : Option Addr} {len cap : Nat} {xs : List ByteArray} (h : Strs w a len xs) (hm : len ≤ 9223372036854775807) :
    Calls Tryd.prog 25 #[.slice a len cap, .func (.func 26) #[] #[]] w fun e w' => e = .returned (.bool (!(xs.all isId))) ∧ w = w' := by
  replace h := Lib.hid h
  have hg := Lib.hid (firstBad_ge xs)
  go_enter Tryd.func25, Tryd.ntmps25
  go_wp2_with (go_at_call 31; refine (index_any h.out hm).mono ?_; rintro e w' ⟨rfl, rfl⟩)
  go_ret
  exact ⟨by rw [← hg.out]; rfl, rfl⟩

def may (xs : List ByteArray) : Bool := decide (xs.length ≤ 8) && xs.all isId

set_option maxHeartbeats 1000000 in
theorem may_any {w : World} {a : Option Addr} {len cap : Nat} {xs : List ByteArray} (h : Strs w a len xs) (hm : len ≤ 9223372036854775807) :
    Calls Tryd.prog 12 #[.slice a len cap] w fun e w' => e = .returned (.bool (may xs)) ∧ w = w' := by
  have hl := h.1
  replace h := Lib.hid h
  by_cases h8 : len ≤ 8
  · have hy : Hid (may xs = xs.all isId) := Lib.hid (by unfold may; rw [hl, decide_eq_true h8, Bool.true_and])
    clear hl
    cases hall : xs.all isId with
    | true =>
      have ha := Lib.hid hall
      clear hall
      go_enter Tryd.func12, Tryd.ntmps12
      go_wp2_with (go_at_call 25; refine (anyBad h.out hm).mono ?_; rintro e w' ⟨rfl, rfl⟩; rw [ha.out])
      go_ret
      exact ⟨by rw [hy.out, ha.out]; rfl, rfl⟩
    | false =>
      have ha := Lib.hid hall
      clear hall
      go_enter Tryd.func12, Tryd.ntmps12
      go_wp2_with (go_at_call 25; refine (anyBad h.out hm).mono ?_; rintro e w' ⟨rfl, rfl⟩; rw [ha.out])
      go_ret
      exact ⟨by rw [hy.out, ha.out]; rfl, rfl⟩
  · have hy : Hid (may xs = false) := Lib.hid (by unfold may; rw [hl, decide_eq_false h8, Bool.false_and])
    clear hl
    go_enter Tryd.func12, Tryd.ntmps12
    go_wp2_with fail
    go_ret
    exact ⟨by rw [hy.out]; rfl, rfl⟩

end Go.Proofs.YtmddbnfhbnofgaaDoor
