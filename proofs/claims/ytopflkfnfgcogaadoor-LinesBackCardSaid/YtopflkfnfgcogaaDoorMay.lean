/-
  May, great and word, as the printed laws have them.
-/
import Derived.Test.YtopflkfnfgcogaaDoorAwake
import Derived.Test.YtopflkfnfgcogaaDoorPure2
namespace Go.Proofs.YtopflkfnfgcogaaDoor
open Go.RowKit Go Go.Proofs.YtopflkfnfgcogaaDoorW.PrintWords PLinesBack

def raws (xs : List ByteArray) : List (List UInt8) := xs.map (·.data.toList)
def rawL (xss : List (List ByteArray)) : List (List (List UInt8)) := xss.map raws

def inW (c : UInt8) : Bool := decide (33 ≤ c.toNat) && decide (c.toNat ≤ 126)

theorem bt_list {a : ByteArray} {i : Nat} (h : i < a.size) : bt a i = ((a.data.toList[i]'(by rw [data_len]; exact h)).toNat : Int) := by
  have : a.data.toList[i]'(by rw [data_len]; exact h) = a[i]'h := rfl
  rw [this]
  simp [bt, h]

theorem prefix_mark (a : ByteArray) : strings_HasPrefix.f a ⟨#[35]⟩ = some (mark a.data.toList) := by
  have h1 : ((⟨#[35]⟩ : ByteArray).size : Int) = 1 := rfl
  unfold strings_HasPrefix.f stringslite_HasPrefix.f
  rw [h1]
  by_cases h : 1 ≤ a.size
  · rw [if_pos (by omega), if_pos (by omega), if_pos (by omega), Option.bind_some]
    congr 1
    have e1 : (a.extract 0 ((1 : Int)).toNat).toList = a.data.toList.take 1 := by
      rw [ByteArray.toList_eq, ByteArray.data_extract]
      simp
    have e2 : (⟨#[35]⟩ : ByteArray).toList = [35] := by rw [ByteArray.toList_eq]
    rw [e1, e2]
    cases hl : a.data.toList with
    | nil => have := data_len a; rw [hl] at this; simp at this; omega
    | cons x r => simp [mark]
  · rw [if_neg (by omega), Option.bind_some]
    congr 1
    have := data_len a
    have : a.data.toList = [] := List.eq_nil_of_length_eq_zero (by omega)
    rw [this]; rfl

theorem word_l (a : ByteArray) (hs : a.size ≤ 9223372036854775806) : ∀ k i, i ≤ a.size → a.size - i + 1 ≤ k →
    lines_word.l0 k a a.size i = some (((a.data.toList.drop i).all inW) && (!a.data.toList.isEmpty && !mark a.data.toList))
  | 0, i, h, hk => by omega
  | k + 1, i, h, hk => by
    unfold lines_word.l0
    by_cases hlt : i < a.size
    · have hl : i < a.data.toList.length := by rw [data_len]; exact hlt
      rw [if_pos (by omega), if_pos (by omega), if_pos (by omega), bt_list hlt, List.drop_eq_getElem_cons hl, List.all_cons]
      generalize a.data.toList[i] = c
      by_cases h1 : c.toNat ≤ 32
      · rw [if_pos (by omega)]
        have : inW c = false := by unfold inW; simp; omega
        rw [this]; rfl
      · rw [if_neg (by omega)]
        by_cases h2 : 126 < c.toNat
        · rw [if_pos (by omega)]
          have : inW c = false := by unfold inW; simp; omega
          rw [this]; rfl
        · rw [if_neg (by omega), w64 (by omega), word_l a hs k (i + 1) (by omega) (by omega)]
          have : inW c = true := by unfold inW; simp; omega
          rw [this, Bool.true_and]
    · rw [if_neg (by omega), List.drop_of_length_le (by rw [data_len]; omega), ByteArray.toList_eq, prefix_mark, Option.bind_some, List.all_nil, Bool.true_and]
      cases hl : a.data.toList with
      | nil => rfl
      | cons x r => rw [if_neg (by simp)]; simp

theorem word_f {a : ByteArray} (hs : a.size ≤ 9223372036854775806) {k : Nat} (hk : a.size + 1 ≤ k) : lines_word.f k a = some (wordOk a.data.toList) := by
  unfold lines_word.f
  rw [show (0 : Int) = ((0 : Nat) : Int) from rfl, word_l a hs k 0 (Nat.zero_le _) (by omega), List.drop_zero]
  congr 1
  unfold wordOk
  show (_ && _) = (_ && a.data.toList.all inW)
  rw [Bool.and_comm]

theorem may_l (xss : List (List ByteArray)) (M : Nat) (hM : M ≤ 9223372036854775806) (hl : xss.length ≤ M) (hs : ∀ xs ∈ xss, xs.length ≤ M ∧ ∀ x ∈ xs, x.size ≤ M) : ∀ k,
    (∀ i : Nat, i ≤ xss.length → need (xss.drop i) + M ≤ k → lines_May.l0 k xss xss.length i = some (mayL (rawL (xss.drop i)))) ∧
    (∀ (i j : Nat) (h : i < xss.length), j ≤ xss[i].length → (xss[i].length - j) + 1 + need (xss.drop (i + 1)) + M ≤ k →
      lines_May.l1 k xss[i] xss xss.length i xss[i] xss[i].length j = some (((raws (xss[i].drop j)).all wordOk && some0 (raws xss[i])) && mayL (rawL (xss.drop (i + 1)))))
  | 0 => ⟨fun i _ h => by unfold need at h; omega, fun i j _ _ h => by omega⟩
  | k + 1 => by
    obtain ⟨ih0, ih1⟩ := may_l xss M hM hl hs k
    refine ⟨fun i hi hk => ?_, fun i j hi hj hk => ?_⟩
    · unfold lines_May.l0
      by_cases hlt : i < xss.length
      · rw [need_at hlt] at hk
        rw [if_pos (by omega), if_pos (by omega), if_pos (by omega), rd_at hlt]
        have := ih1 i 0 hlt (Nat.zero_le _) (by omega)
        rw [show ((0 : Nat) : Int) = 0 from rfl] at this
        rw [this, List.drop_zero, List.drop_eq_getElem_cons hlt]
        congr 1
        show _ = (mayL (raws xss[i] :: rawL (xss.drop (i + 1))))
        unfold mayL
        rw [List.all_cons]
        congr 1
        unfold lineOk
        rw [Bool.and_comm]
      · rw [if_neg (by omega), List.drop_of_length_le (by omega)]
        rfl
    · have hx := hs xss[i] (List.getElem_mem hi)
      unfold lines_May.l1
      by_cases hlt : j < xss[i].length
      · have hw := hx.2 _ (List.getElem_mem hlt)
        have hr : rdOf ByteArray.empty xss[i] j = xss[i][j] := by simp [rdOf, hlt]
        rw [if_pos (by omega), if_pos (by omega), if_pos (by omega), hr, word_f (by omega) (by omega), Option.bind_some]
        have e : raws (xss[i].drop j) = xss[i][j].data.toList :: raws (xss[i].drop (j + 1)) := by rw [List.drop_eq_getElem_cons hlt]; rfl
        rw [e, List.all_cons]
        cases hc : wordOk xss[i][j].data.toList with
        | true =>
          rw [if_pos rfl, w64 (by omega), ih1 i (j + 1) hi (by omega) (by omega), Bool.true_and]
        | false =>
          rw [if_neg (by simp)]; rfl
      · rw [if_neg (by omega), List.drop_of_length_le (by omega)]
        by_cases h0 : xss[i].length = 0
        · rw [if_pos (by omega)]
          have : xss[i] = [] := List.eq_nil_of_length_eq_zero h0
          rw [this]; rfl
        · rw [if_neg (by omega), w64 (by omega), ih0 (i + 1) (by omega) (by omega)]
          have : some0 (raws xss[i]) = true := by
            cases hh : xss[i] with
            | nil => rw [hh] at h0; simp at h0
            | cons x r => rfl
          rw [this]; rfl

theorem may_any {w : World} {a : Option Addr} {n c : Nat} {xss : List (List ByteArray)} (h : LR w a n c xss) {M : Nat} (hM : M ≤ 9223372036854775806) (hl : xss.length ≤ M) (hs : ∀ xs ∈ xss, xs.length ≤ M ∧ ∀ x ∈ xs, x.size ≤ M) :
    Calls Tryd.prog 12 #[.slice a n c] w fun e w' => e = .returned (.bool (mayL (rawL xss))) ∧ ∃ q, w' = w.drewN q := by
  obtain ⟨rfl, hc, hr⟩ := h
  have hf : lines_May.f (need xss + M) xss = some (mayL (rawL xss)) := by
    have := (may_l xss M hM hl hs (need xss + M)).1 0 (Nat.zero_le _) (by rw [List.drop_zero]; exact Nat.le_refl _)
    rwa [List.drop_zero] at this
  exact (lines_May.calls (need xss + M) a c xss _ w hr hc hf).mono fun e w' ⟨he, ⟨hw⟩⟩ => ⟨he, hw⟩

/-- The bytes of these, each with one behind it. -/
def weight (xs : List ByteArray) : Nat := (xs.map (fun x => x.size + 1)).sum
def weightL (xss : List (List ByteArray)) : Nat := (xss.map (fun xs => weight xs + 1)).sum

theorem weightL_at {xss : List (List ByteArray)} {i : Nat} (h : i < xss.length) : weightL (xss.drop i) = weight xss[i] + 1 + weightL (xss.drop (i + 1)) := by
  rw [List.drop_eq_getElem_cons h]; rfl
theorem weight_at {xs : List ByteArray} {j : Nat} (h : j < xs.length) : weight (xs.drop j) = xs[j].size + 1 + weight (xs.drop (j + 1)) := by
  rw [List.drop_eq_getElem_cons h]; rfl

theorem great_l (xss : List (List ByteArray)) (hl : xss.length ≤ 200) (hs : ∀ xs ∈ xss, xs.length ≤ 9223372036854775807) : ∀ k,
    (∀ (i : Nat) (x : Int), i ≤ xss.length → -(i : Int) ≤ x → x ≤ 9000 → need (xss.drop i) ≤ k → ∃ r, postilionlaw18_great.l0 k xss x i = some r ∧ (r = false → (weightL (xss.drop i) : Int) ≤ x)) ∧
    (∀ (i j : Nat) (x : Int) (h : i < xss.length), j ≤ xss[i].length → -(i : Int) - 1 ≤ x → x ≤ 9000 → (xss[i].length - j) + 1 + need (xss.drop (i + 1)) ≤ k →
      ∃ r, postilionlaw18_great.l1 k xss x i j = some r ∧ (r = false → (weight (xss[i].drop j) : Int) + weightL (xss.drop (i + 1)) ≤ x))
  | 0 => ⟨fun i _ _ _ _ h => by unfold need at h; omega, fun i j _ _ _ _ _ h => by omega⟩
  | k + 1 => by
    obtain ⟨ih0, ih1⟩ := great_l xss hl hs k
    refine ⟨fun i x hi hx hx2 hk => ?_, fun i j x hi hj hx hx2 hk => ?_⟩
    · unfold postilionlaw18_great.l0
      by_cases hlt : i < xss.length
      · rw [need_at hlt] at hk
        have hw : wrap64 (x - 1) = x - 1 := by unfold wrap64; omega
        rw [if_pos (by omega), hw]
        obtain ⟨r, h1, h2⟩ := ih1 i 0 (x - 1) hlt (Nat.zero_le _) (by omega) (by omega) (by omega)
        refine ⟨r, h1, fun hr => ?_⟩
        have := h2 hr
        rw [List.drop_zero] at this
        rw [weightL_at hlt]; omega
      · rw [if_neg (by omega), List.drop_of_length_le (by omega)]
        refine ⟨_, rfl, fun h => ?_⟩
        have : ¬ x < 0 := by simpa using h
        show (0 : Int) ≤ x
        omega
    · have hn := hs xss[i] (List.getElem_mem hi)
      unfold postilionlaw18_great.l1
      rw [if_pos (by omega), if_pos (by omega), rd_at hi]
      by_cases hlt : j < xss[i].length
      · have hr : rdOf ByteArray.empty xss[i] j = xss[i][j] := by simp [rdOf, hlt]
        rw [if_pos (by omega), if_pos (by omega), hr]
        by_cases hg : (xss[i][j].size : Int) ≥ x
        · rw [if_pos hg]
          exact ⟨true, rfl, fun h => by simp at h⟩
        · have hw1 : wrap64 (x - xss[i][j].size) = x - xss[i][j].size := by unfold wrap64; omega
          have hw2 : wrap64 (x - xss[i][j].size - 1) = x - xss[i][j].size - 1 := by unfold wrap64; omega
          rw [if_neg hg, hw1, hw2, w64 (by omega)]
          obtain ⟨r, h1, h2⟩ := ih1 i (j + 1) (x - xss[i][j].size - 1) hi (by omega) (by omega) (by omega) (by omega)
          refine ⟨r, h1, fun hr => ?_⟩
          have := h2 hr
          rw [weight_at hlt]; omega
      · rw [if_neg (by omega), w64 (by omega)]
        by_cases hx0 : -((i + 1 : Nat) : Int) ≤ x
        · obtain ⟨r, h1, h2⟩ := ih0 (i + 1) x (by omega) hx0 hx2 (by omega)
          refine ⟨r, h1, fun hr => ?_⟩
          have := h2 hr
          rw [List.drop_of_length_le (by omega)]
          show ((0 : Nat) : Int) + _ ≤ x
          omega
        · omega

theorem great_any {w : World} {a : Option Addr} {n c : Nat} {xss : List (List ByteArray)} (h : LR w a n c xss) (hs : ∀ xs ∈ xss, xs.length ≤ 9223372036854775807) :
    ∃ r : Bool, (r = false → xss.length ≤ 200 ∧ weightL xss ≤ 9000) ∧ Calls Tryd.prog 10 #[.slice a n c] w fun e w' => e = .returned (.bool r) ∧ ∃ q, w' = w.drewN q := by
  obtain ⟨rfl, hc, hr⟩ := h
  have hf : ∃ r, postilionlaw18_great.f (need xss) xss = some r ∧ (r = false → xss.length ≤ 200 ∧ weightL xss ≤ 9000) := by
    unfold postilionlaw18_great.f
    by_cases hl : xss.length ≤ 200
    · rw [if_neg (by omega)]
      obtain ⟨r, h1, h2⟩ := (great_l xss hl hs (need xss)).1 0 9000 (Nat.zero_le _) (by omega) (by omega) (by rw [List.drop_zero]; exact Nat.le_refl _)
      refine ⟨r, h1, fun hr => ⟨hl, ?_⟩⟩
      have := h2 hr
      rw [List.drop_zero] at this
      omega
    · rw [if_pos (by omega)]
      exact ⟨true, rfl, fun h => by simp at h⟩
  obtain ⟨r, h1, h2⟩ := hf
  exact ⟨r, h2, (postilionlaw18_great.calls (need xss) a c xss r w hr hc h1).mono fun e w' ⟨he, ⟨hw⟩⟩ => ⟨he, hw⟩⟩

theorem words_of_weight {xs : List ByteArray} {M : Nat} (h : weight xs ≤ M) : xs.length ≤ M ∧ ∀ x ∈ xs, x.size ≤ M := by
  induction xs generalizing M with
  | nil => exact ⟨Nat.zero_le _, fun x hx => by simp at hx⟩
  | cons y r ih =>
    have e : weight (y :: r) = y.size + 1 + weight r := rfl
    obtain ⟨h1, h2⟩ := ih (M := M - (y.size + 1)) (by omega)
    refine ⟨by rw [List.length_cons]; omega, fun x hx => ?_⟩
    rcases List.mem_cons.1 hx with rfl | hx
    · omega
    · have := h2 x hx; omega

theorem lines_of_weight {xss : List (List ByteArray)} {M : Nat} (h : weightL xss ≤ M) : xss.length ≤ M ∧ ∀ xs ∈ xss, xs.length ≤ M ∧ ∀ x ∈ xs, x.size ≤ M := by
  induction xss generalizing M with
  | nil => exact ⟨Nat.zero_le _, fun x hx => by simp at hx⟩
  | cons y r ih =>
    have e : weightL (y :: r) = weight y + 1 + weightL r := rfl
    obtain ⟨h1, h2⟩ := ih (M := M - (weight y + 1)) (by omega)
    refine ⟨by rw [List.length_cons]; omega, fun x hx => ?_⟩
    rcases List.mem_cons.1 hx with rfl | hx
    · exact words_of_weight (by omega)
    · obtain ⟨k1, k2⟩ := h2 x hx
      exact ⟨by omega, fun b hb => by have := k2 b hb; omega⟩

theorem wt_raws (xs : List ByteArray) : wt (raws xs) = weight xs := by
  unfold wt weight raws
  rw [List.map_map]
  congr 1

theorem text_le : ∀ (xss : List (List ByteArray)), (textOf (rawL xss)).length ≤ weightL xss
  | [] => Nat.le_refl _
  | xs :: r => by
    have e : textOf (rawL (xs :: r)) = Lib.join (raws xs) [32] ++ [10] ++ textOf (rawL r) := rfl
    have e2 : weightL (xs :: r) = weight xs + 1 + weightL r := rfl
    have ih := text_le r
    rw [e, e2, List.length_append, List.length_append]
    by_cases h0 : raws xs = []
    · rw [h0]
      have : (Lib.join ([] : List (List UInt8)) [32]).length = 0 := rfl
      rw [this]
      simp; omega
    · have := wt_join h0
      rw [wt_raws] at this
      simp; omega
end Go.Proofs.YtopflkfnfgcogaaDoor
