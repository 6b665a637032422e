/-
  Acts that came in, and the guard on them; a new rack.
-/
import Derived.Test.YtpjipdmlfpgokaaIDs
import Derived.Deep.Slices
import Derived.Deep.Strs
import Derived.ProofKit
namespace Go.Proofs.Ytpjipdmlfpgokaa
open Go.RowKit RP

abbrev A3 := Int × Int × Int

/-- A slice of acts that came in. -/
def Acts (w : World) (a : Option Addr) (len : Nat) (l : List A3) : Prop :=
  l.length = len ∧ (∀ x ∈ l, 0 ≤ x.1 ∧ x.1 ≤ 255) ∧ (len = 0 ∨ ∃ b off, a = some ⟨b, off, none⟩ ∧ b < w.heap.size ∧ ∀ i x, l[i]? = some x →
    w.cell? ⟨b, off + i * 3, none⟩ = some (.int .u8 x.1) ∧ w.cell? ⟨b, off + i * 3 + 1, none⟩ = some (.int .i64 x.2.1) ∧ w.cell? ⟨b, off + i * 3 + 2, none⟩ = some (.int .i64 x.2.2))

theorem Acts.below {w w' : World} {a : Option Addr} {len : Nat} {l : List A3} (h : Acts w a len l) (hb : Below w.heap.size w w') : Acts w' a len l := by
  obtain ⟨h1, h2, h3⟩ := h
  refine ⟨h1, h2, h3.imp id ?_⟩
  rintro ⟨b, off, rfl, hlt, hc⟩
  refine ⟨b, off, rfl, Nat.lt_of_lt_of_le hlt hb.size, fun i x hx => ?_⟩
  obtain ⟨c1, c2, c3⟩ := hc i x hx
  exact ⟨(hb.cell (p := ⟨b, _, none⟩) hlt).trans c1, (hb.cell (p := ⟨b, _, none⟩) hlt).trans c2, (hb.cell (p := ⟨b, _, none⟩) hlt).trans c3⟩

/-- One act, at its place. -/
theorem Acts.at {w : World} {a : Option Addr} {len : Nat} {l : List A3} (h : Acts w a len l) {i : Nat} {x : A3} (hx : l[i]? = some x) :
    ∃ b off, a = some ⟨b, off, none⟩ ∧ b < w.heap.size ∧ w.cell? ⟨b, off + i * 3, none⟩ = some (.int .u8 x.1) ∧ w.cell? ⟨b, off + i * 3 + 1, none⟩ = some (.int .i64 x.2.1) ∧ w.cell? ⟨b, off + i * 3 + 2, none⟩ = some (.int .i64 x.2.2) := by
  obtain ⟨h1, _, h3⟩ := h
  have := (List.getElem?_eq_some_iff.1 hx).1
  rcases h3 with h3 | ⟨b, off, rfl, hlt, hc⟩
  · omega
  · exact ⟨b, off, rfl, hlt, hc i x hx⟩

/-- The guard. -/
def Near (l : List A3) : Prop := l.length ≤ 150 ∧ ∀ x ∈ l, 0 ≤ x.2.1 ∧ x.2.1 ≤ 400

def NearPost (l : List A3) (w : World) (e : Ending) (w' : World) : Prop := ∃ r : Bool, e = .returned (.bool r) ∧ (r = true → Near l) ∧ w = w'

set_option maxHeartbeats 1000000 in
theorem near_any {w : World} {a : Option Addr} {len cap : Nat} {l : List A3} (h : Acts w a len l) (hm : len ≤ 9223372036854775807) :
    Calls Try.prog 9 #[.slice a len cap] w (NearPost l w) := by
  have hl := h.1
  by_cases hbig : 150 < len
  · clear h hl
    go_enter Try.func9, Try.ntmps9
    go_wp2
    go_ret
    exact ⟨false, rfl, by simp, rfl⟩
  · have H := Lib.hid h
    have HL := Lib.hid hl
    clear h hl
    go_enter Try.func9, Try.ntmps9
    go_wp2
    go_loop [3] (fun i => ∃ k : Nat, k ≤ len ∧ i = .int .i64 k ∧ Hid (∀ x ∈ l.take k, 0 ≤ x.2.1 ∧ x.2.1 ≤ 400)) (fun i => len - (intOf i).toNat)
    case atStart => exact ⟨0, Nat.zero_le _, rfl, by simp [Hid]⟩
    case round =>
      obtain ⟨k, hk, rfl, hg⟩ := hrel
      by_cases hlt : k < len
      · obtain ⟨x, hx⟩ : ∃ x, l[k]? = some x := ⟨_, List.getElem?_eq_getElem (by rw [HL.out]; exact hlt)⟩
        obtain ⟨b, off, rfl, hb, c0, c1, c2⟩ := H.out.at hx
        have hx := Lib.hid hx
        by_cases h1 : x.2.1 < 0
        · go_wp2
          go_ret
          exact ⟨false, rfl, by simp, rfl⟩
        · by_cases h2 : 400 < x.2.1
          · go_wp2
            go_ret
            exact ⟨false, rfl, by simp, rfl⟩
          · go_wp2
            go_round
            case rel =>
              refine ⟨k + 1, by omega, by go_num, Lib.hid ?_⟩
              rw [upto_take l hx.out]
              intro y hy
              simp at hy
              rcases hy with hy | rfl
              · exact hg.out y hy
              · omega
            case measure => simp [intOf]; omega
      · obtain rfl : k = len := by omega
        go_wp2
        go_ret
        refine ⟨true, rfl, fun _ => ⟨by rw [HL.out]; omega, fun x hx => hg.out x ?_⟩, rfl⟩
        rw [List.take_of_length_le (by rw [HL.out]; exact Nat.le_refl _)]; exact hx

end Go.Proofs.Ytpjipdmlfpgokaa
