/-
  The document's answers of layer 17, as printed, are these.
-/
import Derived.Test.YtmddbnfhbnofgaaDoorPTokenTellsx
import Derived.Test.YtmddbnfhbnofgaaDoorTokPr
namespace Go.Proofs.YtmddbnfhbnofgaaDoor
open Go.RowKit Go.BigFrame Go.Proofs.YtmddbnfhbnofgaaDoorW.PrintWords PTokenTells

theorem w64 {i : Nat} (h : i ≤ 9223372036854775806) : wrap64 ((i : Int) + 1) = ((i + 1 : Nat) : Int) := by unfold wrap64; omega

theorem rletter (a : Int) : postilionref17_letter.f a = some (lett a) := by
  unfold postilionref17_letter.f lett
  by_cases h1 : 97 ≤ a <;> by_cases h2 : a ≤ 122 <;> by_cases h3 : 48 ≤ a <;> by_cases h4 : a ≤ 57 <;> simp [h1, h2, h3, h4] <;> omega

theorem bt_of (s : ByteArray) {i : Nat} (h : i < s.size) : bt s i = (s[i]'h).toNat := by
  have := bt_at s (i : Int) (by simpa using h)
  simpa using this.symm

theorem drop_at (s : ByteArray) {i : Nat} (h : i < s.size) : s.data.toList.drop i = (s[i]'h) :: s.data.toList.drop (i + 1) := by
  rw [List.drop_eq_getElem_cons (by rw [data_length]; exact h)]
  rfl

theorem rid_l0 (s : ByteArray) (hs : s.size ≤ 9223372036854775806) : ∀ d k (i : Nat), s.size - i = d → i ≤ s.size → d < k →
    postilionref17_ID.l0 k s i = some ((s.data.toList.drop i).all (fun c => lett c.toNat) && (decide (1 ≤ s.size) && decide (s.size ≤ 8)))
  | d, 0, i, _, _, h => by omega
  | d, k + 1, i, hd, hi, hk => by
    by_cases hlt : i < s.size
    · have ih := rid_l0 s hs (d - 1) k (i + 1) (by omega) (by omega) (by omega)
      unfold postilionref17_ID.l0
      rw [if_pos (by omega), if_pos (by omega), rletter, bt_of s hlt, drop_at s hlt, w64 (by omega), ih]
      rw [List.all_cons]
      cases lett (s[i]'hlt).toNat <;> rfl
    · unfold postilionref17_ID.l0
      have e : s.data.toList.drop i = [] := List.drop_eq_nil_of_le (by rw [data_length]; omega)
      rw [if_neg (by omega), e]
      by_cases h1 : 1 ≤ s.size
      · rw [if_pos (by omega)]
        by_cases h8 : s.size ≤ 8
        · simp [h1, h8]; omega
        · simp [h8]; omega
      · rw [if_neg (by omega)]; simp [h1]

theorem rid (s : ByteArray) (hs : s.size ≤ 9223372036854775806) {k : Nat} (hk : s.size < k) : postilionref17_ID.f k s = some (isId s) := by
  unfold postilionref17_ID.f
  have := rid_l0 s hs s.size k 0 rfl (Nat.zero_le _) hk
  rw [List.drop_zero] at this
  rw [show (0 : Int) = ((0 : Nat) : Int) from rfl, this]
  unfold isId
  rw [Bool.and_comm]

theorem rdOf_at {xs : List ByteArray} {i : Nat} (h : i < xs.length) : rdOf ByteArray.empty xs i = xs[i] := by
  simp [rdOf, List.getD, List.getElem?_eq_getElem h]

theorem rmay_l0 (xs : List ByteArray) (hs : ∀ x ∈ xs, x.size ≤ 1000) (hl : xs.length ≤ 2000) : ∀ d k (i : Nat), xs.length - i = d → i ≤ xs.length → d + 1001 < k →
    postilionref17_May.l0 k xs i = some ((xs.drop i).all isId && decide (xs.length ≤ 8))
  | d, 0, i, _, _, h => by omega
  | d, k + 1, i, hd, hi, hk => by
    by_cases hlt : i < xs.length
    · have ih := rmay_l0 xs hs hl (d - 1) k (i + 1) (by omega) (by omega) (by omega)
      have hx := hs xs[i] (List.getElem_mem hlt)
      unfold postilionref17_May.l0
      rw [if_pos (by omega), if_pos (by omega), rdOf_at hlt, rid _ (by omega) (by omega), w64 (by omega), ih, List.drop_eq_getElem_cons hlt]
      rw [List.all_cons]
      cases isId xs[i] <;> rfl
    · unfold postilionref17_May.l0
      have e : xs.drop i = [] := List.drop_eq_nil_of_le (by omega)
      rw [if_neg (by omega), e]
      simp
      omega

theorem rmay {xs : List ByteArray} (hs : ∀ x ∈ xs, x.size ≤ 1000) (hl : xs.length ≤ 2000) {k : Nat} (hk : xs.length + 1001 < k) : postilionref17_May.f k xs = some (may xs) := by
  unfold postilionref17_May.f
  have := rmay_l0 xs hs hl xs.length k 0 rfl (Nat.zero_le _) hk
  rw [List.drop_zero] at this
  rw [show (0 : Int) = ((0 : Nat) : Int) from rfl, this]
  unfold may
  rw [Bool.and_comm]

theorem byte_eq {a b : UInt8} : ((a.toNat : Int) = (b.toNat : Int)) ↔ a = b := by
  constructor
  · intro h
    have : a.toNat = b.toNat := by omega
    exact UInt8.toNat_inj.1 this
  · rintro rfl; rfl

/-- What Parse tells, of what has come. -/
def prsOf (l : List ByteArray) : List ByteArray × Int := if may l = true then (l, 0) else ([], 6)

theorem mem_size {xs : List ByteArray} {n : Nat} (h : ∀ x ∈ xs, x.size ≤ n) {y : ByteArray} (hy : y.size ≤ n) : ∀ x ∈ xs ++ [y], x.size ≤ n := fun x hx => by
  simp at hx
  rcases hx with hx | rfl
  · exact h x hx
  · exact hy

theorem rparse_l0 (c : UInt8) (s : ByteArray) (hs : s.size ≤ 1000) : ∀ d k (l : List ByteArray) (w : ByteArray) (i : Nat), s.size - i = d → i ≤ s.size → d + 3000 < k → l.length ≤ i → w.size ≤ i → (∀ x ∈ l, x.size ≤ 1000) →
    ∀ h t, parts c (s.data.toList.drop i) = h :: t → postilionref17_Parse.l0 k s c.toNat l w i = some (prsOf (l ++ toB (w.data.toList ++ h) :: t.map toB))
  | d, 0, l, w, i, _, _, h, _, _, _ => by omega
  | d, k + 1, l, w, i, hd, hi, hk, hl, hw, hls => by
    intro h t e
    by_cases hlt : i < s.size
    · rw [drop_at s hlt] at e
      unfold postilionref17_Parse.l0
      rw [if_pos (by omega), if_pos (by omega), bt_of s hlt, w64 (by omega)]
      obtain ⟨h', t', e'⟩ : ∃ h' t', parts c (s.data.toList.drop (i + 1)) = h' :: t' := by
        cases e' : parts c (s.data.toList.drop (i + 1)) with
        | nil => exact absurd e' (parts_ne c _)
        | cons h t => exact ⟨h, t, rfl⟩
      by_cases hc : s[i] = c
      · have ep : parts c ((s[i]'hlt) :: s.data.toList.drop (i + 1)) = [] :: parts c (s.data.toList.drop (i + 1)) := by simp [parts, hc]
        rw [ep, List.cons.injEq] at e
        obtain ⟨rfl, rfl⟩ := e
        rw [if_pos (byte_eq.2 hc), if_pos (by omega)]
        rw [rparse_l0 c s hs (d - 1) k (l ++ [w]) ⟨#[]⟩ (i + 1) (by omega) (by omega) (by omega) (by simp; omega) (by simp [ByteArray.size]) (mem_size hls (by omega)) h' t' e', e']
        congr 2
        simp [toB_of]
      · rw [parts_step hc e', List.cons.injEq] at e
        obtain ⟨rfl, rfl⟩ := e
        have hsz : (strOfNums [((s[i]'hlt).toNat : Int)]).size = 1 := by rw [strOfNums_size]; rfl
        rw [if_neg (fun hh => hc (byte_eq.1 hh)), Option.bind_some, if_pos (by rw [hsz]; omega)]
        rw [rparse_l0 c s hs (d - 1) k l _ (i + 1) (by omega) (by omega) (by omega) (by omega) (by rw [ByteArray.size_append, hsz]; omega) hls h' t' e']
        congr 2
        have : (w ++ strOfNums [((s[i]'hlt).toNat : Int)]).data.toList = w.data.toList ++ [s[i]'hlt] := by
          rw [ByteArray.data_append, Array.toList_append, strOfNums_data]
          simp
        rw [this]
        simp
    · have ed : s.data.toList.drop i = [] := List.drop_eq_nil_of_le (by rw [data_length]; omega)
      rw [ed] at e
      simp only [parts, List.cons.injEq] at e
      obtain ⟨rfl, rfl⟩ := e
      unfold postilionref17_Parse.l0
      rw [if_neg (by omega), if_pos (by omega), Option.bind_some, rmay (mem_size hls (by omega)) (by simp; omega) (by simp; omega)]
      have e2 : l ++ toB (w.data.toList ++ []) :: List.map toB [] = l ++ [w] := by simp [toB_of]
      rw [e2]
      unfold prsOf
      cases may (l ++ [w]) <;> simp

theorem rparse (c : UInt8) (s : ByteArray) (hs : s.size ≤ 1000) : postilionref17_Parse.f 5000 s c.toNat = some (prs c s) := by
  unfold postilionref17_Parse.f prs
  rw [rletter, Option.bind_some]
  by_cases hc : lett c.toNat = true
  · rw [if_pos hc, if_pos hc]
  · rw [if_neg hc, if_neg hc]
    by_cases h0 : s.size = 0
    · rw [if_pos h0, if_pos]
      rw [ByteArray.toList_eq]
      exact List.eq_nil_of_length_eq_zero (by rw [data_length]; exact h0)
    · rw [if_neg h0, if_neg]
      · obtain ⟨h, t, e⟩ : ∃ h t, parts c s.data.toList = h :: t := by
          cases e : parts c s.data.toList with
          | nil => exact absurd e (parts_ne c _)
          | cons h t => exact ⟨h, t, rfl⟩
        have := rparse_l0 c s hs s.size 5000 [] ⟨#[]⟩ 0 rfl (Nat.zero_le _) (by omega) (Nat.zero_le _) (by simp [ByteArray.size]) (by simp) h t (by rw [List.drop_zero]; exact e)
        rw [show (0 : Int) = ((0 : Nat) : Int) from rfl, this]
        unfold prsOf cut
        rw [e]
        simp
      · intro he
        rw [ByteArray.toList_eq] at he
        exact h0 (by have := congrArg List.length he; rw [data_length] at this; simpa using this)

theorem joinTail_cons (c : UInt8) (x : List UInt8) (r : List (List UInt8)) : Lib.joinTail [c] (x :: r) = c :: (x ++ Lib.joinTail [c] r) := by simp [Lib.joinTail]

theorem joinTail_map (c : UInt8) (f : ByteArray → List UInt8) (y : ByteArray) (r : List ByteArray) : Lib.joinTail [c] ((y :: r).map f) = c :: (f y ++ Lib.joinTail [c] (r.map f)) := by rw [List.map_cons, joinTail_cons]

theorem rprint_l0 (c : UInt8) (xs : List ByteArray) (hl : xs.length ≤ 20) (hs : ∀ x ∈ xs, x.size ≤ 100) : ∀ d k (out : ByteArray) (i : Nat), xs.length - i = d → i ≤ xs.length → d < k → out.size ≤ 101 * i →
    postilionref17_Print.l0 k xs c.toNat out i = some (toB (out.data.toList ++ (if i = 0 then Lib.join (xs.map (·.data.toList)) [c] else Lib.joinTail [c] ((xs.drop i).map (·.data.toList)))), 0)
  | d, 0, out, i, _, _, h, _ => by omega
  | d, k + 1, out, i, hd, hi, hk, ho => by
    by_cases hlt : i < xs.length
    · have hx := hs xs[i] (List.getElem_mem hlt)
      have hsz : (strOfNums [(c.toNat : Int)]).size = 1 := by rw [strOfNums_size]; rfl
      unfold postilionref17_Print.l0
      rw [if_pos (by omega), rdOf_at hlt, w64 (by omega)]
      by_cases h0 : i = 0
      · subst h0
        rw [if_neg (by omega), if_pos (by omega), if_pos (by omega)]
        rw [rprint_l0 c xs hl hs (d - 1) k _ 1 (by omega) (by omega) (by omega) (by rw [ByteArray.size_append]; omega)]
        rw [if_neg (by omega), if_pos rfl]
        have e : xs = xs[0] :: xs.drop 1 := by
          conv => lhs; rw [← List.drop_zero (l := xs), List.drop_eq_getElem_cons hlt]
        congr 3
        rw [ByteArray.data_append, Array.toList_append, List.append_assoc]
        congr 1
        conv => rhs; rw [e]
        rw [List.map_cons, Lib.join_cons]
      · rw [if_pos (by omega), Option.bind_some, if_pos (by rw [hsz]; omega), if_pos (by omega), if_pos (by rw [ByteArray.size_append, hsz]; omega)]
        rw [rprint_l0 c xs hl hs (d - 1) k _ (i + 1) (by omega) (by omega) (by omega) (by rw [ByteArray.size_append, ByteArray.size_append, hsz]; omega)]
        rw [if_neg (by omega), if_neg h0]
        congr 3
        rw [ByteArray.data_append, Array.toList_append, ByteArray.data_append, Array.toList_append, strOfNums_data]
        rw [List.drop_eq_getElem_cons hlt, joinTail_map]
        simp
    · unfold postilionref17_Print.l0
      rw [if_neg (by omega)]
      obtain rfl : i = xs.length := by omega
      rw [List.drop_length]
      by_cases h0 : xs.length = 0
      · obtain rfl := List.eq_nil_of_length_eq_zero h0
        simp [Lib.join_nil, toB_of]
      · rw [if_neg h0]
        simp [Lib.joinTail, toB_of]

theorem rprint (c : UInt8) {xs : List ByteArray} (hl : xs.length ≤ 20) (hs : ∀ x ∈ xs, x.size ≤ 100) : postilionref17_Print.f 5000 xs c.toNat = some (prn c xs) := by
  have hm := rmay (k := 5000) (fun x hx => by have := hs x hx; omega) (by omega) (by omega) (xs := xs)
  unfold postilionref17_Print.f prn
  rw [rletter, Option.bind_some]
  by_cases hc : lett c.toNat = true
  · rw [if_pos hc, if_pos hc]
    simp [postilionref17_Print.j0, toB]
  · rw [if_neg hc, if_neg hc, hm, Option.bind_some]
    cases may xs with
    | false => simp [postilionref17_Print.j0, toB]
    | true =>
      have := rprint_l0 c xs hl hs xs.length 4999 ⟨#[]⟩ 0 rfl (Nat.zero_le _) (by omega) (by simp [ByteArray.size])
      rw [if_pos rfl] at this
      rw [if_pos rfl]
      have e : postilionref17_Print.j0 5000 xs c.toNat (!true) = postilionref17_Print.l0 4999 xs c.toNat ⟨#[]⟩ 0 := by simp [postilionref17_Print.j0]
      rw [e, show (0 : Int) = ((0 : Nat) : Int) from rfl, this]
      simp

theorem toList_inj {x y : ByteArray} : x.toList = y.toList ↔ x = y := by
  constructor
  · intro h
    rw [ByteArray.toList_eq, ByteArray.toList_eq] at h
    exact ByteArray.ext (Array.toList_inj.1 h)
  · rintro rfl; rfl

theorem rcheck_l0 (own : ByteArray) {xs : List ByteArray} (hl : xs.length ≤ 20) (hs : ∀ x ∈ xs, x.size ≤ 100) (most : Int) : ∀ d k (i : Nat), xs.length - i = d → i ≤ xs.length → d + 2000 < k →
    (own ∈ xs.drop i → postilionref17_Check.l0 k own xs most i = some 170) ∧ (¬ own ∈ xs.drop i → postilionref17_Check.l0 k own xs most i = some (if may xs = true ∧ (xs.length : Int) < most then 0 else 170))
  | d, 0, i, _, _, h => by omega
  | d, k + 1, i, hd, hi, hk => by
    by_cases hlt : i < xs.length
    · obtain ⟨ih1, ih2⟩ := rcheck_l0 own hl hs most (d - 1) k (i + 1) (by omega) (by omega) (by omega)
      unfold postilionref17_Check.l0
      rw [if_pos (by omega), if_pos (by omega), rdOf_at hlt, w64 (by omega), List.drop_eq_getElem_cons hlt]
      by_cases he : xs[i] = own
      · rw [if_pos (by rw [he])]
        exact ⟨fun _ => rfl, fun h => absurd (by rw [he]; simp) h⟩
      · have he' : ¬ own = xs[i] := fun e => he e.symm
        rw [if_neg (fun h => he (toList_inj.1 h))]
        simp only [List.mem_cons, he', false_or]
        exact ⟨ih1, ih2⟩
    · unfold postilionref17_Check.l0
      rw [if_neg (by omega), rmay (fun x hx => by have := hs x hx; omega) (by omega) (by omega), Option.bind_some]
      have e : xs.drop i = [] := List.drop_eq_nil_of_le (by omega)
      rw [e]
      refine ⟨fun h => absurd h (by simp), fun _ => ?_⟩
      cases may xs with
      | false => simp
      | true =>
        by_cases hm : (xs.length : Int) < most
        · rw [if_pos rfl, if_neg (by omega), if_pos ⟨rfl, hm⟩]
        · rw [if_pos rfl, if_pos (by omega), if_neg (fun h => hm h.2)]

theorem rcheck (own : ByteArray) {xs : List ByteArray} (hl : xs.length ≤ 20) (hs : ∀ x ∈ xs, x.size ≤ 100) (most : Int) : postilionref17_Check.f 5000 own xs most = some (chk own xs most) := by
  obtain ⟨h1, h2⟩ := rcheck_l0 own hl hs most xs.length 5000 0 rfl (Nat.zero_le _) (by omega)
  rw [List.drop_zero] at h1 h2
  unfold postilionref17_Check.f
  rw [show (0 : Int) = ((0 : Nat) : Int) from rfl]
  by_cases hm : own ∈ xs
  · rw [h1 hm]
    unfold chk
    rw [if_neg]
    rintro ⟨_, h, _⟩
    rw [(Lib.containsS_iff xs own).2 hm] at h
    cases h
  · rw [h2 hm]
    have : Lib.containsS xs own = false := by
      cases e : Lib.containsS xs own with
      | false => rfl
      | true => exact absurd ((Lib.containsS_iff xs own).1 e) hm
    unfold chk
    rw [this]
    simp

theorem rnext (own : ByteArray) {xs : List ByteArray} (hl : xs.length ≤ 20) : postilionref17_Next.f own xs = some (xs ++ [own]) := by
  unfold postilionref17_Next.f
  rw [if_pos (by simp; omega), Option.bind_some, if_pos (by simp; omega)]
  simp

end Go.Proofs.YtmddbnfhbnofgaaDoor
