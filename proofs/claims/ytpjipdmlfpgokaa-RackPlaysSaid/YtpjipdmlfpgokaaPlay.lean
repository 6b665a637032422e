/-
  Plain laws: a table and a list of rows that tell the same.
-/
import Derived.Test.YtpjipdmlfpgokaaRefF
namespace Go.Proofs.Ytpjipdmlfpgokaa
open Go.RowKit RP

/-- The table t and the rows tell the same under every key. -/
def Rel (t rows : KV) : Prop := (∀ k, lk t k = lk rows k) ∧ rows.length = t.length ∧ (ks rows).Nodup ∧ Rise t ∧ ∀ p ∈ t, 1 ≤ p.1

theorem Rel.nil : Rel [] [] := ⟨fun _ => rfl, rfl, by simp [ks], List.Pairwise.nil, by simp⟩

theorem Rel.ins {t rows : KV} (h : Rel t rows) {k : Int} (v : Int) (hk : lk t k = none) (h1 : 1 ≤ k) : Rel (ins t k v) (rows ++ [(k, v)]) := by
  obtain ⟨a, b, c, d, e⟩ := h
  refine ⟨fun k' => ?_, by rw [length_ins]; simp [b], ?_, rise_ins d v hk, fun p hp => ?_⟩
  · rw [lk_append]
    by_cases hkk : k = k'
    · subst hkk; rw [lk_ins_same d, ← a, hk, lk_cons_same]; rfl
    · rw [lk_ins_ne t v hkk, a, lk_cons_ne v [] hkk]; cases lk rows k' <;> rfl
  · have hn : k ∉ ks rows := by rw [a] at hk; exact lk_none.1 hk
    have e1 : ks (rows ++ [(k, v)]) = ks rows ++ [k] := by simp [ks]
    rw [e1, List.nodup_append]
    exact ⟨c, by simp, fun x hx y hy => by simp at hy; subst hy; exact fun hxy => hn (hxy ▸ hx)⟩
  · unfold RP.ins at hp
    simp at hp
    rcases hp with hp | rfl | hp
    · exact e p (List.mem_of_mem_take hp)
    · exact h1
    · exact e p (List.mem_of_mem_drop hp)

theorem split_at {rows : KV} {i : Nat} {p : Int × Int} (h : rows[i]? = some p) : rows = rows.take i ++ p :: rows.drop (i + 1) := by
  obtain ⟨hlt, rfl⟩ := List.getElem?_eq_some_iff.1 h
  rw [← List.drop_eq_getElem_cons hlt, List.take_append_drop]

theorem lk_take {rows : KV} {i : Nat} {k : Int} (h : ∀ x ∈ rows.take i, x.1 ≠ k) : lk (rows.take i) k = none := lk_out h

theorem Rel.upd {t rows : KV} (h : Rel t rows) {k u : Int} (v : Int) (hk : lk t k = some u) {i : Nat} (hi : rows[i]? = some (k, u)) (htk : ∀ x ∈ rows.take i, x.1 ≠ k) : Rel (upd t k v) (rows.set i (k, v)) := by
  obtain ⟨a, b, c, d, e⟩ := h
  have hlt := (List.getElem?_eq_some_iff.1 hi).1
  have hs := split_at hi
  have hset : rows.set i (k, v) = rows.take i ++ (k, v) :: rows.drop (i + 1) := by rw [List.set_eq_take_append_cons_drop, if_pos hlt]
  have hks : ks (rows.set i (k, v)) = ks rows := by
    rw [hset]; conv => rhs; rw [hs]
    simp [ks]
  refine ⟨fun k' => ?_, by rw [length_upd]; simp [b], by rw [hks]; exact c, rise_upd d v hk, fun p hp => ?_⟩
  · by_cases hkk : k = k'
    · subst hkk; rw [lk_upd_same d v hk, hset, lk_append, lk_take htk, lk_cons_same]; rfl
    · rw [lk_upd_ne d v hk hkk, a]
      conv => lhs; rw [hs]
      rw [hset, lk_append, lk_append, lk_cons_ne _ _ hkk, lk_cons_ne _ _ hkk]
  · have hm : p.1 ∈ ks (RP.upd t k v) := List.mem_map.2 ⟨p, hp, rfl⟩
    have hku : ks (RP.upd t k v) = ks t := keys_upd d v hk
    rw [hku] at hm
    obtain ⟨q, hq, hpq⟩ := List.mem_map.1 hm
    rw [← hpq]; exact e q hq

theorem Rel.del {t rows : KV} (h : Rel t rows) {k u : Int} (hk : lk t k = some u) {i : Nat} (hi : rows[i]? = some (k, u)) (htk : ∀ x ∈ rows.take i, x.1 ≠ k) : Rel (del t k) (rows.eraseIdx i) := by
  obtain ⟨a, b, c, d, e⟩ := h
  have hlt := (List.getElem?_eq_some_iff.1 hi).1
  have hs := split_at hi
  have her : rows.eraseIdx i = rows.take i ++ rows.drop (i + 1) := List.eraseIdx_eq_take_drop_succ ..
  have hd := length_del d hk
  have hsub : (ks (rows.eraseIdx i)).Nodup := by
    refine List.Pairwise.sublist ?_ c
    exact (List.eraseIdx_sublist rows i).map _
  refine ⟨fun k' => ?_, by rw [List.length_eraseIdx, if_pos hlt]; omega, hsub, rise_del d k, fun p hp => ?_⟩
  · by_cases hkk : k = k'
    · subst hkk
      rw [lk_del_same d hk, her, lk_append, lk_take htk, Option.none_or]
      refine (lk_none.2 ?_).symm
      intro hm
      have c' := c
      rw [hs] at c'
      simp only [ks, List.map_append, List.map_cons, List.nodup_append, List.nodup_cons] at c'
      exact c'.2.1.1 hm
    · rw [lk_del_ne d hk hkk, a]
      conv => lhs; rw [hs]
      rw [her, lk_append, lk_append, lk_cons_ne _ _ hkk]
  · unfold RP.del at hp
    simp at hp
    rcases hp with hp | hp
    · exact e p (List.mem_of_mem_take hp)
    · exact e p (List.mem_of_mem_drop hp)

theorem skip_unique {t rows : KV} (h : ∀ k, lk t k = lk rows k) {n s : Int} {m m' : Nat} (h1 : Skipped t n s m) (h2 : Skipped rows n s m')
    (e1 : 1099511627775 < n + m * s ∨ lk t (n + m * s) = none) (e2 : 1099511627775 < n + m' * s ∨ lk rows (n + m' * s) = none) : m = m' := by
  rcases Nat.lt_trichotomy m m' with hlt | heq | hlt
  · have := h2 m hlt
    rcases e1 with e1 | e1
    · omega
    · rw [h] at e1; rw [e1] at this; simp at this
  · exact heq
  · have := h1 m' hlt
    rcases e2 with e2 | e2
    · omega
    · rw [← h] at e2; rw [e2] at this; simp at this

def LP (last a : Int) (S : List Int) : Prop := (a = 0 ∧ ∀ x ∈ S, x ≤ last) ∨ (a ∈ S ∧ last < a ∧ ∀ x ∈ S, last < x → a ≤ x)
theorem lst_fold (last : Int) : ∀ (l : List Int) (a : Int) (S : List Int), (∀ x ∈ S, 1 ≤ x) → (∀ x ∈ l, 1 ≤ x) → LP last a S → LP last (l.foldl (lstep last) a) (S ++ l)
  | [], a, S, _, _, h => by simpa using h
  | x :: l, a, S, hS, hl, h => by
    have hx : 1 ≤ x := hl x (by simp)
    have := lst_fold last l (lstep last a x) (S ++ [x]) (by intro y hy; simp at hy; rcases hy with hy | rfl; exact hS y hy; exact hx) (fun y hy => hl y (by simp [hy])) (by
      unfold lstep
      rcases h with ⟨rfl, h2⟩ | ⟨h1, h2, h3⟩
      · by_cases hlt : last < x
        · rw [if_pos ⟨hlt, .inl rfl⟩]
          refine .inr ⟨by simp, hlt, fun y hy hly => ?_⟩
          simp at hy
          rcases hy with hy | rfl
          · have := h2 y hy; omega
          · omega
        · rw [if_neg (by omega)]
          refine .inl ⟨rfl, fun y hy => ?_⟩
          simp at hy
          rcases hy with hy | rfl
          · exact h2 y hy
          · omega
      · have ha := hS a h1
        by_cases hlt : last < x ∧ (a = 0 ∨ x < a)
        · rw [if_pos hlt]
          refine .inr ⟨by simp, hlt.1, fun y hy hly => ?_⟩
          simp at hy
          rcases hy with hy | rfl
          · have := h3 y hy hly; omega
          · omega
        · rw [if_neg hlt]
          refine .inr ⟨by simp [h1], h2, fun y hy hly => ?_⟩
          simp at hy
          rcases hy with hy | rfl
          · exact h3 y hy hly
          · omega)
    simpa using this

theorem lst_spec (l : List Int) (last : Int) (hl : ∀ x ∈ l, 1 ≤ x) : LP last (lst l last) l := by
  have := lst_fold last l 0 [] (by simp) hl (.inl ⟨rfl, by simp⟩)
  simpa [lst] using this

theorem outs_sorted {K l : List Int} (hK : K.Pairwise (· < ·)) (h1 : ∀ x ∈ K, 1 ≤ x) (hm : ∀ x, x ∈ l ↔ x ∈ K) : ∀ j, j ≤ K.length → (outs l j).1 = K.take j ∧ (outs l j).2 = if j = 0 then 0 else K.getD (j - 1) 0
  | 0, _ => by simp [outs]
  | j + 1, hj => by
    obtain ⟨i1, i2⟩ := outs_sorted hK h1 hm j (by omega)
    have hlt : j < K.length := by omega
    have key : lst l (outs l j).2 = K[j] := by
      have hge : ∀ a b (ha : a < K.length) (hb : b < K.length), a < b → K[a] < K[b] := fun a b ha hb hab => List.pairwise_iff_getElem.1 hK a b ha hb hab
      have hlast : (outs l j).2 < K[j] := by
        rw [i2]
        split
        · have := h1 K[j] (List.getElem_mem hlt); omega
        · have hj1 : j - 1 < K.length := by omega
          rw [List.getD_eq_getElem?_getD, List.getElem?_eq_getElem hj1]
          exact hge _ _ hj1 hlt (by omega)
      rcases lst_spec l (outs l j).2 (fun x hx => h1 x ((hm x).1 hx)) with ⟨_, h2⟩ | ⟨h2, h3, h4⟩
      · have := h2 K[j] ((hm _).2 (List.getElem_mem hlt)); omega
      · have h5 := h4 K[j] ((hm _).2 (List.getElem_mem hlt)) hlast
        obtain ⟨i, hi, hie⟩ := List.getElem_of_mem ((hm _).1 h2)
        rcases Nat.lt_trichotomy i j with hij | hij | hij
        · exfalso
          rw [← hie, i2, if_neg (by omega), List.getD_eq_getElem?_getD, List.getElem?_eq_getElem (show j - 1 < K.length by omega)] at h3
          simp only [Option.getD_some] at h3
          by_cases hij2 : i = j - 1
          · subst hij2; omega
          · have := hge i (j - 1) hi (by omega) (by omega); omega
        · subst hij; omega
        · have := hge j i hlt hi hij; omega
    refine ⟨?_, ?_⟩
    · rw [outs, i1, key, List.take_add_one, List.getElem?_eq_getElem hlt]; rfl
    · rw [outs, key]; simp [List.getElem?_eq_getElem hlt]

theorem Rel.ids {t rows : KV} (h : Rel t rows) : (outs (ks rows) rows.length).1 = ks t := by
  obtain ⟨a, b, c, d, e⟩ := h
  have hm : ∀ x, x ∈ ks rows ↔ x ∈ ks t := by
    intro x
    have h1 := lk_none (t := t) (k := x)
    have h2 := lk_none (t := rows) (k := x)
    rw [← a] at h2
    exact Decidable.not_iff_not.1 (h2.symm.trans h1)
  have := (outs_sorted (K := ks t) (rise_keys.1 d) (fun x hx => by obtain ⟨p, hp, rfl⟩ := List.mem_map.1 hx; exact e p hp) hm rows.length (by rw [b, ks_length]; exact Nat.le_refl _)).1
  rw [this, List.take_of_length_le (by rw [ks_length, b]; exact Nat.le_refl _)]

end Go.Proofs.Ytpjipdmlfpgokaa
