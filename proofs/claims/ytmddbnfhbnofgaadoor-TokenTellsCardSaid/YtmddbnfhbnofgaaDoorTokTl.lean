/-
  TokenTells: what its walk uses.
-/
import Derived.Test.YtmddbnfhbnofgaaDoorTokRf
import Derived.Test.YtmddbnfhbnofgaaDoorTokOpen
import Derived.Deep.QuietTactic
namespace Go.Proofs.YtmddbnfhbnofgaaDoor
open Go.RowKit Go.BigFrame Go.Proofs.YtmddbnfhbnofgaaDoorW.PrintWords PTokenTells

theorem addr_add (b o i : Nat) : ((⟨b, o, none⟩ : Addr).add i) = ⟨b, o + i, none⟩ := by
  unfold Addr.add
  split <;> simp_all

/-- Texts, in the print's words. -/
theorem Strs.toC {w : World} {a : Option Addr} {n : Nat} {xs : List ByteArray} (h : Strs w a n xs) (hn : n ≤ 9223372036854775807) : Kd.C Kd.string w a n xs := by
  obtain ⟨h1, h2, h3⟩ := h
  refine ⟨h1, hn, fun h0 => ?_⟩
  rcases h3 with h3 | ⟨b, off, rfl, hlt, hc⟩
  · omega
  · refine ⟨_, rfl, fun j p hj => ⟨[.string p], rfl, rfl, fun i u hu => ?_⟩⟩
    have hi : i = 0 := by
      have := (List.getElem?_eq_some_iff.1 hu).1
      simp at this; exact this
    subst hi
    simp at hu
    subst hu
    have e : j * Kd.string.sz + 0 = j := by show j * 1 + 0 = j; omega
    rw [e, addr_add]
    exact hc j p hj

theorem own_of_R {w : World} {base : Nat} {ok : Nat → Prop} {v : Value} {xs : List ByteArray} (h : Kd.R Kd.string 9 w base ok v xs) : w.ownsRow base 9 1 v xs.length (xs.map Value.string) := by
  obtain ⟨_, inner, ho, hr1, hr2⟩ := h
  have e : inner = xs.map Value.string := by
    refine List.ext_getElem? fun j => ?_
    have hl : inner.length = xs.length * 1 := hr1
    by_cases hj : j < xs.length
    · have hk : (inner.drop (j * 1)).take 1 = [Value.string xs[j]] := hr2 j xs[j] (List.getElem?_eq_getElem hj)
      have hji : j < inner.length := by omega
      rw [Nat.mul_one, List.drop_eq_getElem_cons hji, List.take_succ_cons, List.take_zero, List.cons.injEq] at hk
      rw [List.getElem?_eq_getElem hji, hk.1]
      simp [hj]
    · rw [List.getElem?_eq_none (by omega), List.getElem?_eq_none (by simp; omega)]
  rw [← e]
  exact ho

theorem strs_of_R {w : World} {base : Nat} {ok : Nat → Prop} {v : Value} {xs : List ByteArray} (h : Kd.R Kd.string 9 w base ok v xs) (hs : ∀ x ∈ xs, x.size ≤ 9223372036854775807) : ∃ a c, v = .slice a xs.length c ∧ Strs w a xs.length xs ∧ xs.length ≤ c := by
  have ho := own_of_R h
  obtain ⟨a, c, rfl⟩ := row_shape ho
  exact ⟨a, c, rfl, strs_of_row ho hs, row_cap0 ho⟩

/-- A row of texts that may be written. -/
def Rm (w : World) (g m : Nat) : Prop := ∃ cur : Array Value, w.heap[g]? = some (.cells cur 9 (0, 0)) ∧ m ≤ cur.size

theorem Rm.cell {w : World} {g m : Nat} (h : Rm w g m) {k : Nat} (hk : k < m) : ∃ u, w.cell? ⟨g, k, none⟩ = some u := by
  obtain ⟨cur, h1, h2⟩ := h
  exact ⟨cur[k]'(by omega), by simp [World.cell?, h1]⟩
theorem Rm.frozen {w : World} {g m : Nat} (h : Rm w g m) (k : Nat) : w.frozen? ⟨g, k, none⟩ = false := by
  obtain ⟨cur, h1, h2⟩ := h
  simp [World.frozen?, h1]
theorem Rm.lt {w : World} {g m : Nat} (h : Rm w g m) : g < w.heap.size := by
  obtain ⟨cur, h1, h2⟩ := h
  exact (Array.getElem?_eq_some_iff.1 h1).1
theorem Rm.set {w : World} {g m : Nat} (h : Rm w g m) (k : Nat) (u : Value) : Rm (w.setCell ⟨g, k, none⟩ u) g m := by
  obtain ⟨cur, h1, h2⟩ := h
  obtain ⟨hlt, hk⟩ := Array.getElem?_eq_some_iff.1 h1
  refine ⟨cur.setIfInBounds k u, ?_, by simpa using h2⟩
  show (w.heap.modify g _)[g]? = _
  rw [Array.getElem?_eq_getElem (by rw [Array.size_modify]; exact hlt), Array.getElem_modify_self, hk]
  rfl
theorem Rm.below {w w' : World} {g m : Nat} (h : Rm w g m) (hb : Below w.heap.size w w') : Rm w' g m := by
  have hl := h.lt
  obtain ⟨cur, h1, h2⟩ := h
  exact ⟨cur, (hb.block g hl).trans h1, h2⟩
theorem rm_of_row {w : World} {base n c : Nat} {a : Option Addr} {xs : List Value} (h : w.ownsRow base 9 1 (.slice a n c) n xs) (h0 : 0 < n) : ∃ g, a = some ⟨g, 0, none⟩ ∧ base ≤ g ∧ Rm w g n := by
  rcases h.2 with ⟨_, h2⟩ | ⟨g, cap, cur, hv, hb, hg, hc, _, hs, _⟩
  · omega
  · cases hv
    exact ⟨g, rfl, hb, cur, hg, by omega⟩

theorem rmay_any {w : World} {a : Option Addr} {cap len : Nat} {xs : List ByteArray} (h : Strs w a len xs) (hl : len ≤ 20) (hc : len ≤ cap) (hs : ∀ x ∈ xs, x.size ≤ 100) : Calls Tryd.prog 18 #[.slice a len cap] w fun e w'' => e = .returned (.bool (may xs)) ∧ ∃ m, w'' = w.drewN m := by
  obtain rfl : xs.length = len := h.1
  exact (postilionref17_May.calls 5000 a cap xs (may xs) _ (h.toC (by omega)) hc (rmay (fun x hx => by have := hs x hx; omega) (by omega) (by omega))).mono fun e w' ⟨he, ⟨hw⟩⟩ => ⟨he, hw⟩
theorem rcheck_any {w : World} {a : Option Addr} {cap len : Nat} {xs : List ByteArray} (h : Strs w a len xs) (hl : len ≤ 20) (hc : len ≤ cap) (hs : ∀ x ∈ xs, x.size ≤ 100) (own : ByteArray) (most : Int) : Calls Tryd.prog 19 #[.string own, .slice a len cap, .int .i64 most] w fun e w'' => e = .returned (.int .i64 (chk own xs most)) ∧ ∃ m, w'' = w.drewN m := by
  obtain rfl : xs.length = len := h.1
  exact (postilionref17_Check.calls 5000 own a cap xs most (chk own xs most) _ (h.toC (by omega)) hc (rcheck own hl hs most)).mono fun e w' ⟨he, ⟨hw⟩⟩ => ⟨he, hw⟩

theorem prs_size (c : UInt8) (s : ByteArray) : ∀ x ∈ (prs c s).1, x.size ≤ 9223372036854775807 := by
  intro x hx
  unfold prs at hx
  split at hx
  · simp at hx
  · split at hx
    · simp at hx
    · split at hx
      · rename_i hm
        have := (id_size ((may_all hm).2 x hx)).2
        omega
      · simp at hx

theorem prs_len (c : UInt8) (s : ByteArray) : (prs c s).1.length ≤ 9223372036854775807 := by
  unfold prs
  split
  · simp
  · split
    · simp
    · split
      · rename_i hm
        have := (may_all hm).1
        simp only
        omega
      · simp

/-- The document's Parse. -/
theorem rparse_any (s : ByteArray) (c : UInt8) (hs : s.size ≤ 1000) (w : World) : Calls Tryd.prog 15 #[.string s, .int .u8 c.toNat] w (ParsePost c s w) := by
  refine (postilionref17_Parse.calls 5000 s c.toNat (prs c s).1 (prs c s).2 w (rparse c s hs)).mono ?_
  rintro e w' ⟨v, rfl, hR, hB⟩
  obtain ⟨a, k, rfl, h1, h2⟩ := strs_of_R hR (prs_size c s)
  exact ⟨a, k, rfl, h1, hB, h2⟩

/-- The document's Print. -/
theorem rprint_any {w : World} {a : Option Addr} {len cap : Nat} {xs : List ByteArray} (h : Strs w a len xs) (hl : len ≤ 20) (hc : len ≤ cap) (hs : ∀ x ∈ xs, x.size ≤ 100) (c : UInt8) :
    Calls Tryd.prog 16 #[.slice a len cap, .int .u8 c.toNat] w (PrintPost c xs w) := by
  obtain rfl : xs.length = len := h.1
  refine (postilionref17_Print.calls 5000 a cap xs c.toNat (prn c xs).1 (prn c xs).2 w (h.toC (by omega)) hc (rprint c hl hs)).mono ?_
  rintro e w' ⟨rfl, hB⟩
  exact ⟨rfl, hB⟩

/-- The document's Next. -/
theorem rnext_any {w : World} {a : Option Addr} {len cap : Nat} {xs : List ByteArray} (h : Strs w a len xs) (hl : len ≤ 20) (hc : len ≤ cap) (own : ByteArray) (ho : own.size ≤ 9223372036854775807) :
    Calls Tryd.prog 20 #[.string own, .slice a len cap] w fun e w' => ∃ a' c', e = .returned (.slice a' (len + 1) c') ∧ Strs w' a' (len + 1) (xs ++ [own]) ∧ Below w.heap.size w w' := by
  have h2 := h.2.1
  obtain rfl : xs.length = len := h.1
  refine (postilionref17_Next.calls own a cap xs (xs ++ [own]) w (h.toC (by omega)) hc (rnext own hl)).mono ?_
  rintro e w' ⟨v, rfl, hR, hB⟩
  obtain ⟨a', c', rfl, h3, _⟩ := strs_of_R hR (fun x hx => by
    simp at hx
    rcases hx with hx | rfl
    · exact h2 x hx
    · exact ho)
  refine ⟨a', c', by simp, by simpa using h3, hB⟩
end Go.Proofs.YtmddbnfhbnofgaaDoor
