/-
  Lines that are read; Same.
-/
import Derived.Test.YtopflkfnfgcogaaDoorRw
import Derived.Test.YtopflkfnfgcogaaDoorPLinesBackx
namespace Go.Proofs.YtopflkfnfgcogaaDoor
open Go.RowKit Go Go.Proofs.YtopflkfnfgcogaaDoorW.PrintWords PLinesBack

theorem addr_add (b o i : Nat) : ((⟨b, o, none⟩ : Addr).add i) = ⟨b, o + i, none⟩ := by
  unfold Addr.add
  split <;> simp_all

theorem own_get {W : World} {base n : Nat} {e : TypeId} {a : Option Addr} {c : Nat} {cells : List Value} (h : W.ownsRow base e 1 (.slice a n c) n cells) : n ≤ c ∧ n ≤ 9223372036854775807 ∧ (0 < n → ∃ g, a = some ⟨g, 0, none⟩ ∧ ∀ i u, cells[i]? = some u → W.cell? ⟨g, i, none⟩ = some u) := by
  rcases h.2 with ⟨hv, h2⟩ | ⟨g, cap, cur, hv, hb, hg, hc, hm, hs, ht⟩
  · exact ⟨by omega, by omega, fun h0 => by omega⟩
  · cases hv
    unfold maxLen at hm
    refine ⟨hc, by omega, fun _ => ⟨g, rfl, fun i u hi => ?_⟩⟩
    have hl : cells.length = n := by simpa using h.1
    have hlt : i < n := by rw [← hl]; exact (List.getElem?_eq_some_iff.1 hi).1
    have e1 : (cur.toList.take (n * 1))[i]? = some u := by rw [ht]; exact hi
    rw [List.getElem?_take, if_pos (by omega)] at e1
    simp only [World.cell?, hg]
    simpa using e1

theorem own_C {W : World} {base : Nat} {a : Option Addr} {c : Nat} {xs : List ByteArray} (h : W.ownsRow base 9 1 (.slice a xs.length c) xs.length (xs.map Value.string)) : xs.length ≤ c ∧ Kd.C Kd.string W a xs.length xs := by
  obtain ⟨h1, h2, h3⟩ := own_get h
  refine ⟨h1, rfl, h2, fun h0 => ?_⟩
  obtain ⟨g, rfl, hc⟩ := h3 h0
  refine ⟨_, rfl, fun j p hj => ⟨[.string p], rfl, rfl, fun i u hu => ?_⟩⟩
  have hi : i = 0 := by
    have := (List.getElem?_eq_some_iff.1 hu).1
    simp at this; exact this
  subst hi
  simp at hu
  subst hu
  have e : j * Kd.string.sz + 0 = j := by show j * 1 + 0 = j; omega
  rw [e, addr_add, Nat.zero_add]
  exact hc j _ (by rw [List.getElem?_map, hj]; rfl)

theorem LL.C {W : World} {base : Nat} {v : Value} {xss : List (List ByteArray)} (h : LL W base v xss) : ∃ a c, v = .slice a xss.length c ∧ xss.length ≤ c ∧ Kd.C (Kd.slice 9 Kd.string) W a xss.length xss := by
  obtain ⟨cells, h1, h2⟩ := h
  obtain ⟨a, c, rfl⟩ := own_shape h1
  obtain ⟨g1, g2, g3⟩ := own_get h1
  refine ⟨a, c, rfl, g1, rfl, g2, fun h0 => ?_⟩
  obtain ⟨g, rfl, hc⟩ := g3 h0
  have hl : cells.length = xss.length := by simpa using h1.1
  refine ⟨_, rfl, fun j p hj => ?_⟩
  have hjl : j < cells.length := by rw [hl]; exact (List.getElem?_eq_some_iff.1 hj).1
  have hcj : cells[j]? = some cells[j] := List.getElem?_eq_getElem hjl
  have hin := h2 j p _ hj hcj
  obtain ⟨a2, c2, e2⟩ := own_shape hin
  rw [e2] at hin hcj
  obtain ⟨k1, k2⟩ := own_C hin
  refine ⟨[.slice a2 p.length c2], rfl, ⟨a2, c2, rfl, k1, k2⟩, fun i u hu => ?_⟩
  have hi : i = 0 := by
    have := (List.getElem?_eq_some_iff.1 hu).1
    simp at this; exact this
  subst hi
  simp at hu
  subst hu
  have e : j * (Kd.slice 9 Kd.string).sz + 0 = j := by show j * 1 + 0 = j; omega
  rw [e, addr_add, Nat.zero_add]
  exact hc j _ hcj

theorem w64 {i : Nat} (h : i ≤ 9223372036854775806) : wrap64 ((i : Int) + 1) = ((i + 1 : Nat) : Int) := by unfold wrap64; omega

/-- Rounds that Same wants, of these. -/
def need (xss : List (List ByteArray)) : Nat := (xss.map (fun xs => xs.length + 2)).sum + 1

theorem rd_at {xss : List (List ByteArray)} {i : Nat} (h : i < xss.length) : rd_L1 xss i = xss[i] := by
  simp [rd_L1, List.getD, List.getElem?_eq_getElem h]

theorem need_at {xss : List (List ByteArray)} {i : Nat} (h : i < xss.length) : need (xss.drop i) = xss[i].length + 2 + need (xss.drop (i + 1)) := by
  rw [List.drop_eq_getElem_cons h]
  simp only [need, List.map_cons, List.sum_cons]
  omega

theorem same_l (xss : List (List ByteArray)) (hl : xss.length ≤ 9223372036854775806) (hs : ∀ xs ∈ xss, xs.length ≤ 9223372036854775806) : ∀ k,
    (∀ i : Nat, i ≤ xss.length → need (xss.drop i) ≤ k → postilionref18_Same.l0 k xss xss i = some true) ∧
    (∀ (i j : Nat) (h : i < xss.length), j ≤ xss[i].length → (xss[i].length - j) + 1 + need (xss.drop (i + 1)) ≤ k → postilionref18_Same.l1 k xss xss i j = some true)
  | 0 => ⟨fun i _ h => by unfold need at h; omega, fun i j _ _ h => by omega⟩
  | k + 1 => by
    obtain ⟨ih0, ih1⟩ := same_l xss hl hs k
    refine ⟨fun i hi hk => ?_, fun i j hi hj hk => ?_⟩
    · unfold postilionref18_Same.l0
      by_cases hlt : i < xss.length
      · rw [need_at hlt] at hk
        rw [if_pos (by omega), if_pos (by omega), if_pos (by omega), if_pos rfl]
        exact ih1 i 0 hlt (Nat.zero_le _) (by omega)
      · rw [if_neg (by omega)]
    · have hx := hs xss[i] (List.getElem_mem hi)
      unfold postilionref18_Same.l1
      rw [if_pos (by omega), if_pos (by omega), rd_at hi]
      by_cases hlt : j < xss[i].length
      · rw [if_pos (by omega), if_pos (by omega), if_pos (by omega), if_pos (by omega), if_pos rfl, w64 (by omega)]
        exact ih1 i (j + 1) hi (by omega) (by omega)
      · rw [if_neg (by omega), w64 (by omega)]
        exact ih0 (i + 1) (by omega) (by omega)

theorem same_refl {xss : List (List ByteArray)} (hl : xss.length ≤ 9223372036854775806) (hs : ∀ xs ∈ xss, xs.length ≤ 9223372036854775806) : postilionref18_Same.f (need xss) xss xss = some true := by
  unfold postilionref18_Same.f
  rw [if_pos rfl]
  exact (same_l xss hl hs (need xss)).1 0 (Nat.zero_le _) (by rw [List.drop_zero]; exact Nat.le_refl _)

/-- Lines that are read. -/
def LR (w : World) (a : Option Addr) (n c : Nat) (xss : List (List ByteArray)) : Prop := xss.length = n ∧ n ≤ c ∧ Kd.C (Kd.slice 9 Kd.string) w a n xss

theorem LL.read {W : World} {base : Nat} {v : Value} {xss : List (List ByteArray)} (h : LL W base v xss) : ∃ a c, v = .slice a xss.length c ∧ LR W a xss.length c xss := by
  obtain ⟨a, c, h1, h2, h3⟩ := h.C
  exact ⟨a, c, h1, rfl, h2, h3⟩
theorem LR.below {w w' : World} {a : Option Addr} {n c : Nat} {xss : List (List ByteArray)} (h : LR w a n c xss) (hb : Below w.heap.size w w') : LR w' a n c xss := ⟨h.1, h.2.1, Kd.C_below h.2.2 hb⟩

theorem same_any {w : World} {a a2 : Option Addr} {n n2 c c2 : Nat} {xss : List (List ByteArray)} (h : LR w a n c xss) (h2 : LR w a2 n2 c2 xss) (hl : xss.length ≤ 9223372036854775806) (hs : ∀ xs ∈ xss, xs.length ≤ 9223372036854775806) :
    Calls Tryd.prog 8 #[.slice a n c, .slice a2 n2 c2] w fun e w' => e = .returned (.bool true) ∧ ∃ q, w' = w.drewN q := by
  obtain ⟨rfl, hc, hr⟩ := h
  obtain ⟨rfl, hc2, hr2⟩ := h2
  exact (postilionref18_Same.calls (need xss) a c xss a2 c2 xss true w hr hc hr2 hc2 (same_refl hl hs)).mono fun e w' ⟨he, ⟨hw⟩⟩ => ⟨he, hw⟩
end Go.Proofs.YtopflkfnfgcogaaDoor
