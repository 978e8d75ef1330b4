/- The plain law of a term's variables: sorted and made compact they are what the reference gathers, one by one. No condition. -/
import Derived.Test.YtapoedcmhdlpfaaQ11
import Derived.Test.YtapoedcmhdlpfaaQ10
import Derived.Lib.SlicesCompact
namespace Go.Proofs.Ytapoedcmhdlpfaa
open Go.Lib
mutual
/-- the variables' numbers, from left to right -/
def Tm.vl : Tm → List Int
  | .mk f ks => (if f < 0 then [-1 - f] else []) ++ Tm.vls ks
def Tm.vls : List Tm → List Int
  | [] => []
  | t :: ts => Tm.vl t ++ Tm.vls ts
end
theorem varSt_mk (s : List Int) (f : Int) (ks : List Tm) : varSt s (.mk f ks) = (true, if f < 0 then s ++ [-1 - f] else s) := rfl
theorem vl_mk (f : Int) (ks : List Tm) : (Tm.mk f ks).vl = (if f < 0 then [-1 - f] else []) ++ Tm.vls ks := by simp only [Tm.vl]
mutual
theorem vl_run : ∀ (t : Tm) (s : List Int), t.eachRun varSt s = (true, s ++ t.vl)
  | .mk f ks, s => by
    rw [vl_mk]
    simp only [Tm.eachRun]
    rw [varSt_mk]
    simp only [if_true]
    rw [vls_run ks]
    by_cases h : f < 0
    · rw [if_pos h, if_pos h, List.append_assoc]
    · rw [if_neg h, if_neg h]; rfl
theorem vls_run : ∀ (ks : List Tm) (s : List Int), Tm.eachRuns varSt ks s = (true, s ++ Tm.vls ks)
  | [], s => by simp only [Tm.eachRuns, Tm.vls, List.append_nil]
  | t :: ts, s => by
    simp only [Tm.eachRuns, Tm.vls]
    rw [vl_run t s]
    simp only [if_true]
    rw [vls_run ts, List.append_assoc]
end
mutual
theorem vl_length : ∀ t : Tm, t.vl.length ≤ t.size
  | .mk f ks => by
    simp only [Tm.vl, Tm.size, List.length_append]
    have := vls_length ks
    split <;> simp <;> omega
theorem vls_length : ∀ ks : List Tm, (Tm.vls ks).length ≤ Tm.sizes ks
  | [] => by simp [Tm.vls]
  | t :: ts => by
    simp only [Tm.vls, Tm.sizes, List.length_append]
    have := vl_length t; have := vls_length ts; omega
end
mutual
theorem vl_range : ∀ {w : World} {t : Tm} {x s : Value}, IsTm w x s t → ∀ v ∈ t.vl, -9223372036854775808 ≤ v ∧ v ≤ 9223372036854775807
  | w, .mk f ks, x, s, h, v, hv => by
    simp only [IsTm] at h
    obtain ⟨-, h1, h2, a, c, -, -, h3⟩ := h
    simp only [Tm.vl, List.mem_append] at hv
    rcases hv with hv | hv
    · by_cases hf : f < 0
      · rw [if_pos hf] at hv; simp at hv; omega
      · rw [if_neg hf] at hv; simp at hv
    · exact vls_range h3 v hv
theorem vls_range : ∀ {w : World} {ks : List Tm} {a : Option Addr}, IsTms w a ks → ∀ v ∈ Tm.vls ks, -9223372036854775808 ≤ v ∧ v ≤ 9223372036854775807
  | w, [], a, h, v, hv => by simp [Tm.vls] at hv
  | w, t :: ts, a, h, v, hv => by
    simp only [IsTms] at h
    obtain ⟨b, o, x, s, -, -, -, h4, h5⟩ := h
    simp only [Tm.vls, List.mem_append] at hv
    rcases hv with hv | hv
    · exact vl_range h4 v hv
    · exact vls_range h5 v hv
end
/-! ### one by one -/
def sIns (v : Int) : List Int → List Int
  | [] => [v]
  | x :: l => if v < x then v :: x :: l else x :: sIns v l
theorem insFold_true (v : Int) : ∀ (l acc : List Int), l.foldl (insStep v) (true, acc) = (true, acc ++ l)
  | [], acc => by simp
  | x :: l, acc => by
    rw [List.foldl_cons]
    have e : insStep v (true, acc) x = (true, acc ++ [x]) := by unfold insStep; rw [if_neg (by simp)]
    rw [e, insFold_true v l]; simp
theorem insFold_false (v : Int) : ∀ (l acc : List Int), (if (l.foldl (insStep v) (false, acc)).1 then (l.foldl (insStep v) (false, acc)).2 else (l.foldl (insStep v) (false, acc)).2 ++ [v]) = acc ++ sIns v l
  | [], acc => by simp [sIns]
  | x :: l, acc => by
    rw [List.foldl_cons]
    by_cases h : v < x
    · have e : insStep v (false, acc) x = (true, (acc ++ [v]) ++ [x]) := by unfold insStep; rw [if_pos ⟨h, rfl⟩]
      rw [e, insFold_true v l]
      simp [sIns, h]
    · have e : insStep v (false, acc) x = (false, acc ++ [x]) := by unfold insStep; rw [if_neg (by simp [h])]
      rw [e, insFold_false v l]
      simp [sIns, h]
theorem ins_eq (l : List Int) (v : Int) : ins l v = if v ∈ l then l else sIns v l := by
  unfold ins
  rw [insFold_false]; simp
theorem sIns_mem (v x : Int) : ∀ l : List Int, x ∈ sIns v l ↔ x = v ∨ x ∈ l
  | [] => by simp [sIns]
  | y :: l => by
    simp only [sIns]
    split
    · simp
    · rw [List.mem_cons, sIns_mem v x l, List.mem_cons]
      constructor
      · rintro (h | h | h) <;> simp [h]
      · rintro (h | h | h) <;> simp [h]
theorem sIns_sorted (v : Int) : ∀ l : List Int, l.Pairwise (· < ·) → v ∉ l → (sIns v l).Pairwise (· < ·)
  | [], _, _ => by simp [sIns]
  | y :: l, h, hv => by
    simp only [sIns]
    rw [List.pairwise_cons] at h
    simp only [List.mem_cons, not_or] at hv
    split
    · rename_i hlt
      rw [List.pairwise_cons]
      refine ⟨?_, by rw [List.pairwise_cons]; exact h⟩
      intro z hz
      rcases List.mem_cons.1 hz with rfl | hz
      · exact hlt
      · have := h.1 z hz; omega
    · rw [List.pairwise_cons]
      refine ⟨?_, sIns_sorted v l h.2 hv.2⟩
      intro z hz
      rcases (sIns_mem v z l).1 hz with rfl | hz
      · omega
      · exact h.1 z hz
theorem ins_mem (l : List Int) (v x : Int) : x ∈ ins l v ↔ x = v ∨ x ∈ l := by
  rw [ins_eq]
  split
  · constructor
    · exact fun h => .inr h
    · rintro (rfl | h)
      · assumption
      · exact h
  · exact sIns_mem v x l
theorem ins_sorted (l : List Int) (v : Int) (h : l.Pairwise (· < ·)) : (ins l v).Pairwise (· < ·) := by
  rw [ins_eq]
  split
  · exact h
  · exact sIns_sorted v l h ‹_›
mutual
theorem join_spec : ∀ (t : Tm) (l : List Int), l.Pairwise (· < ·) → (t.join l).Pairwise (· < ·) ∧ ∀ x, x ∈ t.join l ↔ x ∈ l ∨ x ∈ t.vl
  | .mk f ks, l, h => by
    simp only [Tm.join, Tm.vl]
    by_cases hf : f < 0
    · rw [if_pos hf, if_pos hf]
      obtain ⟨h1, h2⟩ := joins_spec ks (ins l (-1 - f)) (ins_sorted l _ h)
      refine ⟨h1, fun x => ?_⟩
      rw [h2, ins_mem]; simp only [List.mem_append, List.mem_singleton]
      constructor
      · rintro ((h | h) | h) <;> simp [h]
      · rintro (h | h | h) <;> simp [h]
    · rw [if_neg hf, if_neg hf]
      obtain ⟨h1, h2⟩ := joins_spec ks l h
      exact ⟨h1, fun x => by rw [h2]; simp⟩
theorem joins_spec : ∀ (ks : List Tm) (l : List Int), l.Pairwise (· < ·) → (Tm.joins l ks).Pairwise (· < ·) ∧ ∀ x, x ∈ Tm.joins l ks ↔ x ∈ l ∨ x ∈ Tm.vls ks
  | [], l, h => by simp only [Tm.joins, Tm.vls]; exact ⟨h, fun x => by simp⟩
  | t :: ts, l, h => by
    simp only [Tm.joins, Tm.vls]
    obtain ⟨h1, h2⟩ := join_spec t l h
    obtain ⟨h3, h4⟩ := joins_spec ts _ h1
    refine ⟨h3, fun x => ?_⟩
    rw [h4, h2]; simp only [List.mem_append]
    constructor
    · rintro ((h | h) | h) <;> simp [h]
    · rintro (h | h | h) <;> simp [h]
end
/-! ### sorted and compact -/
theorem strict_ext : ∀ (l m : List Int), l.Pairwise (· < ·) → m.Pairwise (· < ·) → (∀ x, x ∈ l ↔ x ∈ m) → l = m
  | [], [], _, _, _ => rfl
  | [], b :: m, _, _, h => by have := (h b).2 (by simp); simp at this
  | a :: l, [], _, _, h => by have := (h a).1 (by simp); simp at this
  | a :: l, b :: m, hl, hm, h => by
    rw [List.pairwise_cons] at hl hm
    have hab : a = b := by
      rcases List.mem_cons.1 ((h a).1 (by simp)) with h1 | h1
      · exact h1
      · rcases List.mem_cons.1 ((h b).2 (by simp)) with h2 | h2
        · exact h2.symm
        · have := hm.1 a h1; have := hl.1 b h2; omega
    subst hab
    rw [strict_ext l m hl.2 hm.2 fun x => ?_]
    constructor
    · intro hx
      rcases List.mem_cons.1 ((h x).1 (by simp [hx])) with h1 | h1
      · have := hl.1 x hx; omega
      · exact h1
    · intro hx
      rcases List.mem_cons.1 ((h x).2 (by simp [hx])) with h1 | h1
      · have := hm.1 x hx; omega
      · exact h1

theorem compactUp (d : Array Int) (hs : ∀ i, i + 1 < d.size → d[i]! ≤ d[i + 1]!) : ∀ m, m ≤ d.size →
    (compactUpTo d m).Pairwise (· < ·) ∧ (∀ x ∈ compactUpTo d m, ∀ j, m = j + 1 → x ≤ d[j]!) ∧ ∀ x, x ∈ compactUpTo d m ↔ ∃ j, j < m ∧ x = d[j]!
  | 0, _ => by simp [compactUpTo]
  | m + 1, hm => by
    obtain ⟨h1, h2, h3⟩ := compactUp d hs m (by omega)
    rw [compactUpTo_succ]
    cases hk : keeps d m with
    | true =>
      simp only [if_true]
      have hlt : ∀ x ∈ compactUpTo d m, x < d[m]! := by
        intro x hx
        cases m with
        | zero => simp [compactUpTo] at hx
        | succ j =>
          have a1 := h2 x hx j rfl
          have a2 := hs j (by omega)
          have a3 : d[j + 1]! ≠ d[j]! := by
            intro e
            rw [keeps_neg (by omega) (by simpa using e)] at hk
            cases hk
          omega
      refine ⟨?_, ?_, fun x => ?_⟩
      · rw [List.pairwise_append]
        exact ⟨h1, by simp, fun a ha b hb => by simp at hb; subst hb; exact hlt a ha⟩
      · intro x hx j hj
        have : j = m := by omega
        subst this
        rcases List.mem_append.1 hx with hx | hx
        · have := hlt x hx; omega
        · simp at hx; omega
      · rw [List.mem_append, h3]
        constructor
        · rintro (⟨j, hj, rfl⟩ | h)
          · exact ⟨j, by omega, rfl⟩
          · simp at h; exact ⟨m, by omega, h⟩
        · rintro ⟨j, hj, rfl⟩
          by_cases hjm : j = m
          · subst hjm; right; simp
          · left; exact ⟨j, by omega, rfl⟩
    | false =>
      simp only [Bool.false_eq_true, if_false, List.append_nil]
      have hm0 : 0 < m := by
        rcases Nat.eq_zero_or_pos m with h0 | h0
        · subst h0; rw [keeps_lt_one d 0 (by omega)] at hk; cases hk
        · exact h0
      have he : d[m]! = d[m - 1]! := by
        by_cases e : d[m]! = d[m - 1]!
        · exact e
        · rw [keeps_pos e] at hk; cases hk
      refine ⟨h1, ?_, fun x => ?_⟩
      · intro x hx j hj
        have : j = m := by omega
        subst this
        rw [he]
        exact h2 x hx (j - 1) (by omega)
      · rw [h3]
        constructor
        · rintro ⟨j, hj, rfl⟩; exact ⟨j, by omega, rfl⟩
        · rintro ⟨j, hj, rfl⟩
          by_cases hjm : j = m
          · subst hjm; exact ⟨j - 1, by omega, he⟩
          · exact ⟨j, by omega, rfl⟩
theorem compact_spec (l : List Int) (hs : l.Pairwise (· ≤ ·)) : (compact l).Pairwise (· < ·) ∧ ∀ x, x ∈ compact l ↔ x ∈ l := by
  have h := compactUp l.toArray (fun i hi => by
    have hi' : i + 1 < l.length := by simpa using hi
    rw [getElem!_pos l.toArray i (by simp; omega), getElem!_pos l.toArray (i + 1) hi]
    simp only [List.getElem_toArray]
    exact List.pairwise_iff_getElem.1 hs i (i + 1) (by omega) hi' (by omega)) l.length (by simp)
  refine ⟨h.1, fun x => ?_⟩
  unfold compact
  rw [h.2.2, List.mem_iff_getElem]
  constructor
  · rintro ⟨j, hj, rfl⟩
    exact ⟨j, hj, by rw [getElem!_pos l.toArray j (by simpa using hj)]; simp⟩
  · rintro ⟨j, hj, rfl⟩
    exact ⟨j, hj, by rw [getElem!_pos l.toArray j (by simpa using hj)]; simp⟩

def Tm.vars (t : Tm) : List Int := compact (t.vl.mergeSort fun x y => decide (x ≤ y))
theorem vars_eq (t : Tm) : t.vars = t.join [] := by
  have hs : (t.vl.mergeSort fun x y => decide (x ≤ y)).Pairwise (· ≤ ·) := by
    have := List.pairwise_mergeSort (le := fun (x y : Int) => decide (x ≤ y)) (by intro a b c h1 h2; simp at *; omega) (by intro a b; simp; omega) t.vl
    exact this.imp (by simp)
  obtain ⟨h1, h2⟩ := compact_spec _ hs
  obtain ⟨h3, h4⟩ := join_spec t [] (by simp)
  refine strict_ext _ _ h1 h3 fun x => ?_
  unfold Tm.vars
  rw [h2, h4, List.mem_mergeSort]; simp
end Go.Proofs.Ytapoedcmhdlpfaa
