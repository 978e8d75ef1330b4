/- Plain: orders that are made may be; the order of the clauses does not matter; another way of weighing leaves the ranks as they are. No condition. -/
import Derived.Test.YtdmiphdohfcbeaaPrecO
import Derived.Test.YtdmiphdohfcbeaaPrecI
namespace Go.Proofs.Ytdmiphdohfcbeaa

theorem countP_less {α : Type} {p q : α → Bool} : ∀ {L : List α}, (∀ k ∈ L, p k = true → q k = true) → (∃ k ∈ L, q k = true ∧ p k = false) → L.countP p < L.countP q
  | [], _, h => by obtain ⟨k, hk, -⟩ := h; cases hk
  | a :: L, h1, h2 => by
    have hle : L.countP p ≤ L.countP q := List.countP_mono_left fun k hk => h1 k (by simp [hk])
    obtain ⟨k, hk, hq, hp⟩ := h2
    rw [List.countP_cons, List.countP_cons]
    rcases List.mem_cons.1 hk with rfl | hk
    · rw [hq, hp]; simp; omega
    · have ih := countP_less (fun k hk => h1 k (by simp [hk])) ⟨k, hk, hq, hp⟩
      have h3 := h1 a (by simp)
      cases hpa : p a with
      | false => simp; omega
      | true => rw [h3 hpa]; simp; omega
theorem rank_less {n : Nat} {v : Nat → Int} {i j : Nat} (hi : i ≠ 0) (hj : j ≠ 0) (hjn : j < n) (h : aboveB v i j = true) : rankOf n v j < rankOf n v i := by
  unfold rankOf
  rw [if_neg hi, if_neg hj]
  have := countP_less (p := fun k => aboveB v j k) (q := fun k => aboveB v i k) (L := (List.range n).drop 1) (fun k _ hk => above_trans h hk) ⟨j, by rw [List.mem_iff_getElem]; exact ⟨j - 1, by simp; omega, by simp; omega⟩, h, above_irrefl v j⟩
  omega
theorem rank_ne {n : Nat} {v : Nat → Int} {i j : Nat} (hin : i < n) (hjn : j < n) (hij : i ≠ j) : rankOf n v i ≠ rankOf n v j := by
  by_cases hi : i = 0
  · have hj : j ≠ 0 := by omega
    unfold rankOf
    rw [if_pos hi, if_neg hj]; omega
  · by_cases hj : j = 0
    · unfold rankOf
      rw [if_neg hi, if_pos hj]; omega
    · cases h : aboveB v i j with
      | true => have := rank_less hi hj hjn h; omega
      | false =>
        have h2 : aboveB v j i = true := by rw [above_total (fun e => hij e.symm), h]; rfl
        have := rank_less hj hi hin h2; omega
theorem rankList_ok {n : Nat} {v : Nat → Int} : ranksB (rankList n v) n = true := by
  unfold ranksB
  rw [decide_eq_true_iff]
  refine ⟨by simp [rankList], ?_, ?_⟩
  · unfold rankList
    rw [List.Nodup, List.pairwise_map]
    have h1 : (List.range n).Pairwise (fun a b => a < b) := List.pairwise_lt_range
    have h2 : ∀ a ∈ List.range n, a < n := fun a ha => List.mem_range.1 ha
    rw [List.pairwise_iff_forall_sublist] at h1 ⊢
    intro a b hs
    have hab := h1 hs
    have hm := hs.subset
    exact rank_ne (h2 a (hm (by simp))) (h2 b (hm (by simp))) (by omega)
  · intro x hx y hy
    unfold rankList at hx hy
    rw [← List.map_drop] at hx
    obtain ⟨i, hi, rfl⟩ := List.mem_map.1 hx
    obtain ⟨k, hk, he⟩ := List.getElem_of_mem hi
    simp at he
    have hi0 : i ≠ 0 := by omega
    have hy0 : y = 0 := by
      cases n with
      | zero => simp at hk
      | succ n =>
        rw [List.range_succ_eq_map] at hy
        simp at hy
        rw [← hy]; simp [rankOf]
    rw [hy0]
    unfold rankOf
    rw [if_neg hi0]; omega
theorem precOf_ok {l : List Sy} {prec : Int} {ns : List Int} : ranksB (precOf l prec ns) l.length = true := rankList_ok
theorem raw_pos {l : List Sy} {weight : Int} {pr ns : List Int} {i : Nat} (h1 : 0 ≤ arOf l i) (h2 : ∀ x ∈ pr, 0 ≤ x) (h3 : ∀ x ∈ ns, 0 ≤ x) : 1 ≤ rawWeight l weight pr ns i := by
  have hp : 0 ≤ (pr[i]?).getD 0 := by
    rcases Nat.lt_or_ge i pr.length with h | h
    · rw [List.getElem?_eq_getElem h]; exact h2 _ (List.getElem_mem h)
    · rw [List.getElem?_eq_none h]; simp
  have hn : 0 ≤ (ns[i]?).getD 0 := by
    rcases Nat.lt_or_ge i ns.length with h | h
    · rw [List.getElem?_eq_getElem h]; exact h3 _ (List.getElem_mem h)
    · rw [List.getElem?_eq_none h]; simp
  unfold rawWeight
  split
  · omega
  · split
    · omega
    · split <;> omega
theorem weightsOf_get {l : List Sy} {weight : Int} {top : Bool} {pr ns : List Int} {k i : Nat} (h : i < k) : ((weightsOf l weight top pr ns k)[i]?).getD 0 = weightOf l weight top pr ns i := by
  unfold weightsOf
  rw [List.getElem?_map, List.getElem?_range h]; rfl
theorem made_check {l : List Sy} {cs : List (List Lt)} {y : Way} (h : makeErr l cs y = 0) : ordCheck l (madeOrd l cs y).lpo (madeOrd l cs y).prec (madeOrd l cs y).wts (madeOrd l cs y).var = 0 := by
  have hok : countsErr l cs = 0 := by
    unfold makeErr at h
    split at h
    · rename_i h1; exact h1.1
    · cases h
  have hz := (counts_err hok).1
  obtain ⟨hl1, hl96, har0, hars⟩ := sig_ok hz
  have har : ∀ i, 0 ≤ arOf l i := fun i => by
    rcases Nat.lt_or_ge i l.length with h1 | h1
    · rw [arOf_eq h1]; exact (hars i h1).1
    · unfold arOf; rw [List.getElem?_eq_none h1]; simp
  unfold madeOrd
  rw [if_pos h]
  simp only
  have hpr : ∀ x ∈ precOf l y.prec (countsOf l cs), 0 ≤ x := fun x hx => (precOf_range x hx).1
  have hns : ∀ x ∈ countsOf l cs, 0 ≤ x := fun x hx => (counts_le x hx).1
  unfold ordCheck
  rw [if_neg (by simp [hz]), if_neg (by rw [precOf_ok]; simp)]
  by_cases hlpo : y.lpo = true
  · rw [if_pos hlpo]
  rw [if_neg hlpo, if_neg hlpo, if_neg hlpo]
  have hw0 : ((weightsOf l y.weight y.top (precOf l y.prec (countsOf l cs)) (countsOf l cs) l.length)[0]?).getD 0 = 1 := by
    rw [weightsOf_get (by omega)]
    unfold weightOf
    rw [if_neg (fun h => by have := h.2.1; omega), if_pos rfl]
  rw [if_neg (by rw [hw0]; simp [weightsOf]), if_pos]
  rw [List.all_eq_true]
  intro i hi
  have hil : i < l.length := List.mem_range.1 hi
  unfold weightB
  simp only
  rw [weightsOf_get hil]
  have hr := raw_pos (weight := y.weight) (har i) hpr hns
  have hai : ((l[i]?).map Sy.arity).getD 0 = arOf l i := rfl
  rw [hai]
  unfold weightOf
  by_cases ht : y.top = true ∧ arOf l i = 1 ∧ highB (precOf l y.prec (countsOf l cs)) i = true
  · rw [if_pos ht, ht.2.2, decide_eq_true ⟨by omega, by omega, fun h => by have := ht.2.1; omega⟩]; simp
  · rw [if_neg ht]
    by_cases h0 : i = 0
    · rw [if_pos h0, decide_eq_true ⟨by omega, by omega, fun _ => by omega⟩, decide_eq_false (fun h => by omega)]; rfl
    · rw [if_neg h0, decide_eq_true ⟨by omega, by omega, fun _ => by omega⟩, decide_eq_false (fun h => by omega)]; rfl
theorem allSyms_reverse (cs : List (List Lt)) : (allSyms cs.reverse).Perm (allSyms cs) := List.Perm.flatMap_right _ (List.reverse_perm cs)
theorem countsOf_reverse (l : List Sy) (cs : List (List Lt)) : countsOf l cs.reverse = countsOf l cs := by
  unfold countsOf counts
  refine List.map_congr_left fun f _ => ?_
  rw [(allSyms_reverse cs).count_eq]
theorem clsOk_reverse (l : List Sy) (cs : List (List Lt)) : clsOk l cs.reverse = clsOk l cs := by
  unfold clsOk; rw [List.all_reverse]
theorem countsErr_reverse (l : List Sy) (cs : List (List Lt)) : countsErr l cs.reverse = countsErr l cs := by
  unfold countsErr; rw [clsOk_reverse]
theorem makeErr_reverse (l : List Sy) (cs : List (List Lt)) (y : Way) : makeErr l cs.reverse y = makeErr l cs y := by
  unfold makeErr; rw [countsErr_reverse]
theorem madeOrd_reverse (l : List Sy) (cs : List (List Lt)) (y : Way) : madeOrd l cs.reverse y = madeOrd l cs y := by
  unfold madeOrd; rw [makeErr_reverse, countsOf_reverse]
theorem made_bad {l : List Sy} {cs : List (List Lt)} {y : Way} (h : makeErr l cs y ≠ 0) : (madeOrd l cs y).prec = [] := by
  unfold madeOrd; rw [if_neg h]; rfl
theorem made_other {l : List Sy} {cs : List (List Lt)} {y z : Way} (hp : z.prec = y.prec) (h1 : makeErr l cs y = 0) (h2 : makeErr l cs z = 0) : (madeOrd l cs z).prec = (madeOrd l cs y).prec := by
  unfold madeOrd; rw [if_pos h1, if_pos h2, hp]
theorem make_other {l : List Sy} {cs : List (List Lt)} {y z : Way} (hp : z.prec = y.prec) (h1 : makeErr l cs y = 0) : makeErr l cs z = if 0 ≤ z.weight ∧ z.weight ≤ 3 then 0 else 2 := by
  unfold makeErr at h1 ⊢
  split at h1
  · rename_i h
    rw [hp]
    by_cases hw : 0 ≤ z.weight ∧ z.weight ≤ 3
    · rw [if_pos ⟨h.1, h.2.1, h.2.2.1, hw.1, hw.2⟩, if_pos hw]
    · rw [if_neg (fun h' => hw ⟨h'.2.2.2.1, h'.2.2.2.2⟩), if_neg hw]
  · cases h1
end Go.Proofs.Ytdmiphdohfcbeaa
