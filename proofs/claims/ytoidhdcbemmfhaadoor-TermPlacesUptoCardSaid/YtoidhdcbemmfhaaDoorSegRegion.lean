/- A region that draws its order, walked in the order of the text: between calls that all must wait for, a relation of its own for each stretch. No condition. -/
import Derived.Test.YtoidhdcbemmfhaaDoorRelRegion
namespace Go.Proofs.YtoidhdcbemmfhaaDoor
open Go.ChangeShapes Go.WideShapes Go.ChangeAt Go.RowKit

theorem headOf_size (n : Nat) : ∀ k, (headOf n k).size = n
  | 0 => by simp [headOf]
  | k + 1 => by simp [headOf, headOf_size n k]
theorem headOf_getD (n : Nat) : ∀ (k j : Nat) (d : Bool), (headOf n k).getD j d = if j < n then decide (j < k) else d
  | 0, j, d => by
    unfold headOf
    by_cases h : j < n
    · simp [h]
    · simp [h]
  | k + 1, j, d => by
    unfold headOf
    by_cases hkj : k = j
    · subst hkj
      by_cases h : k < n
      · have hs : k < (headOf n k).size := by rw [headOf_size]; exact h
        simp [h, hs]
      · have hs : ¬ k < (headOf n k).size := by rw [headOf_size]; exact h
        simp [h, hs]
    · rw [getD_set_ne d hkj, headOf_getD n k j d]
      by_cases h : j < n
      · simp only [h, if_true, decide_eq_decide]; omega
      · simp [h]

section
variable {P : Program} {ops : Array Oper} {Q : Exit → Act → World → Prop} {R : World → World → Prop}

/-- what has come up bears what it hangs on, nothing from p on has come up -/
structure Upto (ops : Array Oper) (p : Nat) (L : Array Bool) : Prop where
  size : L.size = ops.size
  closed : ∀ j o, ops[j]? = some o → L.getD j false = true → ∀ e ∈ o.after, Region.binds .any e = true → L.getD e.on false = true
  none : ∀ j, p ≤ j → L.getD j false = false

def dependsB (ops : Array Oper) (s i : Nat) : Bool := ((ops[s]?).map fun o => o.after.any fun e => Region.binds .any e && e.on == i).getD false
theorem dependsB_spec {s i : Nat} (h : dependsB ops s i = true) : ∃ o, ops[s]? = some o ∧ ∃ e ∈ o.after, Region.binds .any e = true ∧ e.on = i := by
  unfold dependsB at h
  cases ho : ops[s]? with
  | none => simp [ho] at h
  | some o =>
    simp only [ho, Option.map_some, Option.getD_some] at h
    obtain ⟨e, he, hb⟩ := Array.any_eq_true'.1 h
    simp only [Bool.and_eq_true, beq_iff_eq] at hb
    exact ⟨o, rfl, e, he, hb.1, hb.2⟩
/-- all that stands ahead of p comes up ahead of p, all behind p behind p -/
def segB (ops : Array Oper) (p : Nat) : Bool := p == ops.size ||
  (((List.range p).all fun i => (List.range (p + 1)).any fun s => decide (i < s) && dependsB ops s i) && Region.ready .any ops (headOf ops.size p) == [p])
def backB (ops : Array Oper) : Bool := (List.range ops.size).all fun j => ((ops[j]?).map fun o => o.after.all fun e => !Region.binds .any e || decide (e.on < j)).getD true
theorem backB_spec (h : backB ops = true) {j : Nat} {o : Oper} (ho : ops[j]? = some o) {e : Edge} (he : e ∈ o.after) (hb : Region.binds .any e = true) : e.on < j := by
  unfold backB at h
  rw [List.all_eq_true] at h
  have h1 := h j (List.mem_range.2 (Array.getElem?_eq_some_iff.1 ho).1)
  simp only [ho, Option.map_some, Option.getD_some, Array.all_eq_true_iff_forall_mem] at h1
  have h2 := h1 e he
  simpa [hb] using h2
theorem segB_le {p : Nat} (h : segB ops p = true) : p ≤ ops.size := by
  unfold segB at h
  rw [Bool.or_eq_true] at h
  rcases h with h | h
  · simp at h; omega
  · rw [Bool.and_eq_true] at h
    have h2 : Region.ready .any ops (headOf ops.size p) = [p] := by simpa using h.2
    have : p ∈ Region.ready .any ops (headOf ops.size p) := by rw [h2]; simp
    obtain ⟨-, o, ho, -⟩ := mem_ready.1 this
    exact Nat.le_of_lt (Array.getElem?_eq_some_iff.1 ho).1

theorem seg_low {p : Nat} {L : Array Bool} (hs : segB ops p = true) (hU : Upto ops p L) {i : Nat} (hi : i < p) (hun : L.getD i false = false) {j : Nat} (hj : j ∈ Region.ready .any ops L) : j < p := by
  obtain ⟨hj0, oj, hoj, hall⟩ := mem_ready.1 hj
  have hjs := (Array.getElem?_eq_some_iff.1 hoj).1
  unfold segB at hs
  rw [Bool.or_eq_true] at hs
  rcases hs with h | h
  · simp at h; omega
  · rw [Bool.and_eq_true, List.all_eq_true] at h
    obtain ⟨hb, hr⟩ := h
    have hr : Region.ready .any ops (headOf ops.size p) = [p] := by simpa using hr
    have hps : p < ops.size := by
      have : p ∈ Region.ready .any ops (headOf ops.size p) := by rw [hr]; simp
      obtain ⟨-, o, ho, -⟩ := mem_ready.1 this
      exact (Array.getElem?_eq_some_iff.1 ho).1
    rcases Nat.lt_or_ge j p with hlt | hge
    · exact hlt
    exfalso
    by_cases hjp : j = p
    · subst hjp
      have key : ∀ (m i : Nat), j - i ≤ m → i < j → L.getD i false = false → False := by
        intro m
        induction m with
        | zero => intro i h1 h2 _; omega
        | succ m ih =>
          intro i h1 h2 h3
          have h4 := hb i (List.mem_range.2 h2)
          rw [List.any_eq_true] at h4
          obtain ⟨s, hs1, hs2⟩ := h4
          rw [Bool.and_eq_true] at hs2
          have his : i < s := by simpa using hs2.1
          have hsj : s ≤ j := by have := List.mem_range.1 hs1; omega
          obtain ⟨o, ho, e, he, hbd, hei⟩ := dependsB_spec hs2.2
          by_cases hsj' : s = j
          · subst hsj'
            rw [hoj] at ho
            injection ho with ho
            subst ho
            have := hall e he hbd
            rw [hei, h3] at this
            cases this
          · by_cases hsl : L.getD s false = true
            · have := hU.closed s o ho hsl e he hbd
              rw [hei, h3] at this
              cases this
            · exact ih s (by omega) (by omega) (by simpa using hsl)
      exact key (j - i) i (Nat.le_refl _) hi hun
    · have hjr : j ∈ Region.ready .any ops (headOf ops.size p) := by
        rw [mem_ready]
        refine ⟨by rw [headOf_getD]; simp [hjs]; omega, oj, hoj, fun e he hbd => ?_⟩
        have h1 := hall e he hbd
        have h2 : e.on < p := by
          rcases Nat.lt_or_ge e.on p with h | h
          · exact h
          · rw [hU.none _ h] at h1; cases h1
        rw [headOf_getD]
        have h3 : e.on < ops.size := by omega
        simp [h3, h2]
      rw [hr] at hjr
      simp at hjr
      exact hjp hjr

theorem Upto.set {p : Nat} {L : Array Bool} (hU : Upto ops p L) {j : Nat} (hj : j ∈ Region.ready .any ops L) (hjp : j < p) : Upto ops p (L.setIfInBounds j true) := by
  obtain ⟨hj0, oj, hoj, hall⟩ := mem_ready.1 hj
  refine ⟨by simp [hU.size], fun k o ho hk e he hb => ?_, fun k hk => by rw [getD_set_ne false (by omega)]; exact hU.none k hk⟩
  by_cases hjk : j = k
  · subst hjk
    rw [hoj] at ho
    injection ho with ho
    subst ho
    exact getD_set_true (hall e he hb)
  · rw [getD_set_ne false hjk] at hk
    exact getD_set_true (hU.closed k o ho hk e he hb)
theorem Upto.head (hback : backB ops = true) {p k : Nat} (hkp : k ≤ p) : Upto ops p (headOf ops.size k) := by
  refine ⟨headOf_size _ _, fun j o ho hj e he hb => ?_, fun j hj => ?_⟩
  · rw [headOf_getD] at hj ⊢
    have hjs := (Array.getElem?_eq_some_iff.1 ho).1
    have := backB_spec hback ho he hb
    simp only [hjs, if_true, decide_eq_true_eq] at hj
    have h1 : e.on < ops.size := by omega
    simp [h1]; omega
  · rw [headOf_getD]
    split
    · simp; omega
    · rfl
theorem Upto.eq_head {p : Nat} {L : Array Bool} (hU : Upto ops p L) (hp : p ≤ ops.size) (hall : ∀ i, i < p → L.getD i false = true) : L = headOf ops.size p := by
  apply Array.ext
  · rw [hU.size, headOf_size]
  · intro i h1 h2
    have e1 : L.getD i false = L[i] := by simp [h1]
    have e2 : (headOf ops.size p).getD i false = (headOf ops.size p)[i] := by simp [h2]
    rw [← e1, ← e2, headOf_getD]
    have hs : i < ops.size := by rw [hU.size] at h1; exact h1
    simp only [hs, if_true]
    rcases Nat.lt_or_ge i p with h | h
    · rw [hall i h]; simp [h]
    · rw [hU.none i h]; simp; omega

theorem wpAny_more : ∀ (f : Nat) (L : Array Bool) (a : Act) (w : World), wpAny P .any ops Q f L a w → wpAny P .any ops Q (f + 1) L a w
  | 0, L, a, w, h => ⟨fun _ => h.2, fun i hi => by rw [h.1] at hi; cases hi⟩
  | f + 1, L, a, w, h => ⟨h.1, fun i hi => wpOp_mono (fun a' w' h' => wpAny_more f _ a' w' h') (h.2 i hi)⟩
theorem wpAny_fuel {f : Nat} {L : Array Bool} {a : Act} {w : World} (h : wpAny P .any ops Q f L a w) : ∀ m, wpAny P .any ops Q (f + m) L a w
  | 0 => h
  | m + 1 => wpAny_more _ _ _ _ (wpAny_fuel h m)

/-- whatever order is picked of those ahead of p, in whatever world has grown out of the one behind each operation; then T -/
def wpAnyP (R : World → World → Prop) (P : Program) (ops : Array Oper) (Q : Exit → Act → World → Prop) (p : Nat) (T : Act → World → Prop) : Nat → Array Bool → Act → World → Prop
  | 0, L, a, w => (∀ i, i < p → L.getD i false = true) ∧ T a w
  | f + 1, L, a, w => ((∀ i, i < p → L.getD i false = true) ∧ T a w) ∨
    ((∃ i, i ∈ Region.ready .any ops L ∧ i < p) ∧ ∀ i, i ∈ Region.ready .any ops L → i < p → wpOp P ops Q i (fun a' w' => R w w' ∧ ∀ w'', R w' w'' → wpAnyP R P ops Q p T f (L.setIfInBounds i true) a' w'') a w)

theorem unlisted {L : Array Bool} {i : Nat} (h : L.getD i true = false) : L.getD i false = false := by
  rcases Nat.lt_or_ge i L.size with h' | h'
  · simp [h'] at h ⊢; exact h
  · simp [Array.getElem?_eq_none h'] at h

theorem wpAny_of_P (G : Goes R) {p : Nat} {T : Act → World → Prop} (hs : segB ops p = true) (hT : ∀ a w, T a w → wpAny P .any ops Q (ops.size - p) (headOf ops.size p) a w) :
    ∀ (f : Nat) (L : Array Bool) (a : Act) (w : World), Upto ops p L → wpAnyP R P ops Q p T f L a w → wpAny P .any ops Q (f + (ops.size - p)) L a w
  | 0, L, a, w, hU, h => by
    rw [hU.eq_head (segB_le hs) h.1, Nat.zero_add]
    exact hT a w h.2
  | f + 1, L, a, w, hU, h => by
    rcases h with h | ⟨⟨i, hi, hip⟩, h⟩
    · rw [hU.eq_head (segB_le hs) h.1, Nat.add_comm]
      exact wpAny_fuel (hT a w h.2) _
    · rw [show f + 1 + (ops.size - p) = (f + (ops.size - p)) + 1 by omega]
      refine ⟨fun e => (by rw [e] at hi; cases hi), fun j hj => ?_⟩
      have hjp := seg_low hs hU hip (unlisted (mem_ready.1 hi).1) hj
      exact wpOp_mono (fun a' w' h' => wpAny_of_P G hs hT f _ a' w' (hU.set hj hjp) (h'.2 w' (G.refl _))) (h j hj hjp)

theorem wpAnyP_first (G : Goes R) {p : Nat} {T : Act → World → Prop} {i : Nat} {oi : Oper} {v : Value} (hip : i < p) (hi : ops[i]? = some oi) (hsel : ∀ (j : Nat) (o : Oper) cs b, ops[j]? = some o → o.op ≠ .select cs b) (hQ : ∀ c a w, Q (.panic c) (a.put oi.dst v) w → Q (.panic c) a w) :
    ∀ (fuel : Nat) (listed : Array Bool) (a : Act) (w : World),
      (∀ j oj, ops[j]? = some oj → j ≠ i → listed.getD j true = false → (∀ e ∈ oj.after, Region.binds .any e = true → e.on ≠ i) → oi.apart ops oj = true) →
      i ∈ Region.ready .any ops listed → YieldsR R P ops w oi v a →
      (∀ w', R w w' → wpAnyP R P ops Q p T fuel (listed.setIfInBounds i true) (a.put oi.dst v) w') → wpAnyP R P ops Q p T (fuel + 1) listed a w := by
  have mine : ∀ (fuel : Nat) (listed : Array Bool) (a : Act) (w : World), YieldsR R P ops w oi v a →
      (∀ w', R w w' → wpAnyP R P ops Q p T fuel (listed.setIfInBounds i true) (a.put oi.dst v) w') → wpOp P ops Q i (fun a' w' => R w w' ∧ ∀ w'', R w' w'' → wpAnyP R P ops Q p T fuel (listed.setIfInBounds i true) a' w'') a w :=
    fun fuel listed a w hy H => hy.wpOp G hi (G.refl _) fun w' hw' => ⟨hw', fun w'' hw'' => H w'' (G.trans hw' hw'')⟩
  have other : ∀ {listed : Array Bool} {j : Nat}, j ∈ Region.ready .any ops listed → j ≠ i → (listed.setIfInBounds i true).getD j false = false := fun hj hji => by
    rw [getD_set_ne false (Ne.symm hji)]; exact unlisted (mem_ready.1 hj).1
  intro fuel
  induction fuel with
  | zero =>
    intro listed a w _ hr hy H
    refine .inr ⟨⟨i, hr, hip⟩, fun j hj hjp => ?_⟩
    by_cases hji : j = i
    · subst hji; exact mine 0 listed a w hy H
    · have h1 := (H w (G.refl _)).1 j hjp
      rw [other hj hji] at h1
      cases h1
  | succ fuel ih =>
    intro listed a w hfree hr hy H
    refine .inr ⟨⟨i, hr, hip⟩, fun j hj hjp => ?_⟩
    by_cases hji : j = i
    · subst hji; exact mine (fuel + 1) listed a w hy H
    · have h1 : wpOp P ops Q j (fun a' w' => R w w' ∧ ∀ w'', R w' w'' → wpAnyP R P ops Q p T fuel ((listed.setIfInBounds i true).setIfInBounds j true) a' w'') (a.put oi.dst v) w := by
        rcases H w (G.refl _) with ⟨h1, -⟩ | ⟨-, h1⟩
        · have := h1 j hjp
          rw [other hj hji] at this
          cases this
        · exact h1 j (ready_mono hj hji) hjp
      obtain ⟨hjun, oj, hoj, hall⟩ := mem_ready.1 hj
      have hnot : ∀ e ∈ oj.after, Region.binds .any e = true → e.on ≠ i := by
        intro e he hb heq
        have g1 := hall e he hb
        have g0 := unlisted (mem_ready.1 hr).1
        rw [heq, g0] at g1
        cases g1
      have h2 := wpOp_past hoj (hfree j oj hoj hji hjun hnot) (fun cs b => hsel i oi cs b hi) (fun cs b => hsel j oj cs b hoj) hQ h1
      have hfree' : ∀ k ok, ops[k]? = some ok → k ≠ i → (listed.setIfInBounds j true).getD k true = false →
          (∀ e ∈ ok.after, Region.binds .any e = true → e.on ≠ i) → oi.apart ops ok = true := by
        intro k ok hk hki hun hno
        refine hfree k ok hk hki ?_ hno
        by_cases hjk : j = k
        · subst hjk; exact hjun
        · rw [getD_set_ne true hjk] at hun; exact hun
      refine wpOp_mono (fun a' w' h3 => ?_) h2
      obtain ⟨ha, hx, hK⟩ := h3
      refine ⟨hx, fun w'' hw'' => ih (listed.setIfInBounds j true) a' w'' hfree' (ready_mono hr (Ne.symm hji)) ((hy.alike ha).ext G (G.trans hx hw'')) fun w3 hw3 => ?_⟩
      have := hK w3 (G.trans hw'' hw3)
      rw [Array.setIfInBounds_comm _ _ hji]
      exact this

/-- the walk in the order of the text; R: the relation of this stretch, p: where it ends, W: the world that all of the stretch have grown out of -/
def wpW (P : Program) (ops : Array Oper) (Q : Exit → Act → World → Prop) : (World → World → Prop) → Nat → Nat → List Oper → Act → World → Prop
  | R, p, k, [], a, W => p = k ∧ ∀ w, R W w → Q .normal a w
  | R, p, k, o :: rest, a, W =>
    (Region.wanted o (yielded ops a.tmps) = false ∧ k < p ∧ wpW P ops Q R p (k + 1) rest (a.put o.dst undef) W) ∨
    (Region.wanted o (yielded ops a.tmps) = true ∧ k < p ∧ ∃ v, (∀ w, R W w → o.quietAt P a (fun w' => R w w') w v) ∧ wpW P ops Q R p (k + 1) rest (a.put o.dst v) W) ∨
    (Region.wanted o (yielded ops a.tmps) = true ∧ k < p ∧ Region.ready .any ops (headOf ops.size k) = [k] ∧ ∀ w, R W w → o.wp P a w (fun a' w' => R w w' ∧ wpW P ops Q R p (k + 1) rest a' w') Q) ∨
    (Region.wanted o (yielded ops a.tmps) = true ∧ k = p ∧ Region.ready .any ops (headOf ops.size k) = [k] ∧ ∀ w, R W w → o.wp P a w (fun a' w' => ∃ R' p', Goes R' ∧ segB ops p' = true ∧ wpW P ops Q R' p' (k + 1) rest a' w') Q)

theorem wpW_le : ∀ {R : World → World → Prop} {p k : Nat} {l : List Oper} {a : Act} {W : World}, wpW P ops Q R p k l a W → k ≤ p
  | _, _, _, [], _, _, h => by unfold wpW at h; omega
  | _, _, _, _ :: _, _, _, h => by
    unfold wpW at h
    rcases h with h | h | h | h <;> omega

theorem wpW_ext : ∀ (l : List Oper) (R : World → World → Prop) (p k : Nat) (a : Act) (W W' : World), Goes R → R W W' → wpW P ops Q R p k l a W → wpW P ops Q R p k l a W'
  | [], _, _, _, _, _, _, G, hx, h => by unfold wpW at h ⊢; exact ⟨h.1, fun w hw => h.2 w (G.trans hx hw)⟩
  | o :: rest, R, p, k, a, W, W', G, hx, h => by
    unfold wpW at h ⊢
    rcases h with ⟨h1, h2, h3⟩ | ⟨h1, h2, v, h3, h4⟩ | ⟨h1, h2, h3, h4⟩ | ⟨h1, h2, h3, h4⟩
    · exact .inl ⟨h1, h2, wpW_ext rest _ _ _ _ W W' G hx h3⟩
    · exact .inr (.inl ⟨h1, h2, v, fun w hw => h3 w (G.trans hx hw), wpW_ext rest _ _ _ _ W W' G hx h4⟩)
    · exact .inr (.inr (.inl ⟨h1, h2, h3, fun w hw => h4 w (G.trans hx hw)⟩))
    · exact .inr (.inr (.inr ⟨h1, h2, h3, fun w hw => h4 w (G.trans hx hw)⟩))

theorem wpAnyP_lex (hsel : Region.noSelect ops = true) (hback : backB ops = true) (hQ : ∀ c a d v w, Q (.panic c) (Act.put a d v) w → Q (.panic c) a w) : ∀ (l : List Oper) (R : World → World → Prop) (p k : Nat) (a : Act) (W : World), Goes R → segB ops p = true → (∀ j, l[j]? = ops[k + j]?) →
    k + l.length = ops.size → Region.lexFrom .any ops l.length k (headOf ops.size k) = true → wpW P ops Q R p k l a W → ∀ w, R W w → wpAnyP R P ops Q p (fun a w => wpAny P .any ops Q (ops.size - p) (headOf ops.size p) a w) (p - k) (headOf ops.size k) a w
  | [], R, p, k, a, W, G, hp, _, hk, hB, h, w, hw => by
    unfold wpW at h
    obtain ⟨rfl, h⟩ := h
    have hk : p = ops.size := by simpa using hk
    rw [Nat.sub_self]
    refine ⟨fun i hi => by rw [headOf_getD]; simp; omega, ?_⟩
    rw [hk, Nat.sub_self]
    subst hk
    exact ⟨by simpa [Region.lexFrom] using hB, h w hw⟩
  | o :: l, R, p, k, a, W, G, hp, hl, hk, hB, h, w, hw => by
    have h0 : ops[k]? = some o := by simpa using (hl 0).symm
    simp only [List.length_cons, Region.lexFrom, Bool.and_eq_true] at hB
    obtain ⟨⟨hr, hf⟩, hB'⟩ := hB
    have hl' : ∀ j, l[j]? = ops[k + 1 + j]? := fun j => by have := hl (j + 1); simpa [Nat.add_assoc, Nat.add_comm 1 j] using this
    have hk' : k + 1 + l.length = ops.size := by simp only [List.length_cons] at hk; omega
    have first : ∀ v, k < p → YieldsR R P ops w o v a → (wpW P ops Q R p (k + 1) l (a.put o.dst v) W) → wpAnyP R P ops Q p (fun a w => wpAny P .any ops Q (ops.size - p) (headOf ops.size p) a w) (p - k) (headOf ops.size k) a w := by
      intro v hkp hy hK
      rw [show p - k = (p - (k + 1)) + 1 by omega]
      exact wpAnyP_first G hkp h0 (Region.noSelect_spec hsel) (fun c a w h => hQ c a _ _ w h) _ _ a w (Region.free_spec h0 hf) (by simpa using hr) hy fun w' hw' => wpAnyP_lex hsel hback hQ l R p (k + 1) _ W G hp hl' hk' hB' hK w' (G.trans hw hw')
    unfold wpW at h
    rcases h with ⟨h1, h2, h3⟩ | ⟨h1, h2, v, h3, h4⟩ | ⟨h1, h2, h3, h4⟩ | ⟨h1, h2, h3, h4⟩
    · exact first undef h2 (.inr ⟨h1, rfl⟩) h3
    · exact first v h2 (.inl ⟨h1, fun w1 hw1 => h3 w1 (G.trans hw hw1)⟩) h4
    · rw [show p - k = (p - (k + 1)) + 1 by omega]
      refine .inr ⟨⟨k, by rw [h3]; simp, h2⟩, fun i hi _ => ?_⟩
      rw [h3] at hi
      have hik : i = k := by simpa using hi
      subst hik
      unfold wpOp
      simp only [h0]
      rw [if_pos h1]
      refine .inl (Oper.wp_mono (fun a' w' h => ?_) (h4 w hw))
      exact ⟨h.1, fun w'' hw'' => wpAnyP_lex hsel hback hQ l R p (i + 1) a' w' G hp hl' hk' hB' h.2 w'' hw''⟩
    · subst h2
      rw [Nat.sub_self]
      refine ⟨fun i hi => by rw [headOf_getD, if_pos (by omega)]; simpa using hi, ?_⟩
      rw [show ops.size - k = l.length + 1 by omega]
      refine ⟨fun e => (by rw [h3] at e; cases e), fun i hi => ?_⟩
      rw [h3] at hi
      have hik : i = k := by simpa using hi
      subst hik
      unfold wpOp
      simp only [h0]
      rw [if_pos h1]
      refine .inl (Oper.wp_mono (fun a' w' h => ?_) (h4 w hw))
      obtain ⟨R', p', G', hp', hW⟩ := h
      have hle := wpW_le hW
      have hps := segB_le hp'
      have key := wpAny_of_P G' hp' (fun _ _ h => h) _ _ a' w' (Upto.head hback hle) (wpAnyP_lex hsel hback hQ l R' p' (i + 1) a' w' G' hp' hl' hk' hB' hW w' (G'.refl _))
      rw [show p' - (i + 1) + (ops.size - p') = l.length by omega] at key
      exact key

theorem wp_region_W (R : World → World → Prop) (p : Nat) (G : Goes R) {id : Nat} {a : Act} {w : World} {l : List Oper} (hm : P.follows .mixedOrders = true) (hB : (Region.lexB .any l.toArray && backB l.toArray && segB l.toArray p) = true) (hQ : ∀ c a d v w, Q (.panic c) (Act.put a d v) w → Q (.panic c) a w)
    (h : wpW P l.toArray Q R p 0 l a { w with drawn := w.drawn + 1 }) : (Code.region id l.toArray true).wp P Q a w := by
  simp only [Region.lexB, Bool.and_eq_true] at hB
  obtain ⟨⟨⟨h1, h2⟩, h3⟩, h4⟩ := hB
  refine wp_region_any hm ?_
  have := wpAny_of_P G h4 (fun _ _ h => h) _ _ a { w with drawn := w.drawn + 1 } (Upto.head (k := 0) h3 (Nat.zero_le _)) (wpAnyP_lex (ops := l.toArray) (Q := Q) (P := P) h1 h3 hQ l R p 0 a _ G h4 (by simp) (by simp) (by simpa [headOf] using h2) h _ (G.refl _))
  have hle := segB_le h4
  rw [show p - 0 + (l.toArray.size - p) = l.toArray.size by omega] at this
  simpa [headOf] using this

/-- the four steps of a walk -/
theorem wpW_skip {p k : Nat} {o : Oper} {rest : List Oper} {a : Act} {W : World} (hk : k < p) (hw : Region.wanted o (yielded ops a.tmps) = false) (h : wpW P ops Q R p (k + 1) rest (a.put o.dst undef) W) : wpW P ops Q R p k (o :: rest) a W := by
  unfold wpW
  exact .inl ⟨hw, hk, h⟩
theorem wpW_want {p k : Nat} {o : Oper} {rest : List Oper} {a : Act} {W : World} {v : Value} (hk : k < p) (hw : Region.wanted o (yielded ops a.tmps) = true) (hq : ∀ w, R W w → o.quietAt P a (fun w' => R w w') w v) (h : wpW P ops Q R p (k + 1) rest (a.put o.dst v) W) : wpW P ops Q R p k (o :: rest) a W := by
  unfold wpW
  exact .inr (.inl ⟨hw, hk, v, hq, h⟩)
theorem wpW_solo {p k : Nat} {o : Oper} {rest : List Oper} {a : Act} {W : World} (hk : k < p) (hr : Region.ready .any ops (headOf ops.size k) = [k]) (hw : Region.wanted o (yielded ops a.tmps) = true)
    (h : ∀ (K : Act → World → Prop) (w : World), R W w → (∀ a' w', R w w' → wpW P ops Q R p (k + 1) rest a' w' → K a' w') → o.wp P a w K Q) : wpW P ops Q R p k (o :: rest) a W := by
  unfold wpW
  exact .inr (.inr (.inl ⟨hw, hk, hr, fun w hx => h _ w hx fun _ _ h1 h2 => ⟨h1, h2⟩⟩))
/-- behind it a new stretch begins, with a relation of its own -/
theorem wpW_turn {k : Nat} {o : Oper} {rest : List Oper} {a : Act} {W : World} (hr : Region.ready .any ops (headOf ops.size k) = [k]) (hw : Region.wanted o (yielded ops a.tmps) = true)
    (h : ∀ (K : Act → World → Prop) (w : World), R W w → (∀ a' w' (R' : World → World → Prop) (p' : Nat), Goes R' → segB ops p' = true → wpW P ops Q R' p' (k + 1) rest a' w' → K a' w') → o.wp P a w K Q) : wpW P ops Q R k k (o :: rest) a W := by
  unfold wpW
  exact .inr (.inr (.inr ⟨hw, rfl, hr, fun w hx => h _ w hx fun _ _ R' p' h1 h2 h3 => ⟨R', p', h1, h2, h3⟩⟩))
theorem wpW_end {k : Nat} {a : Act} {W : World} (h : ∀ w, R W w → Q .normal a w) : wpW P ops Q R k k [] a W := by
  unfold wpW
  exact ⟨rfl, h⟩
end
/-- nothing but what was drawn -/
def Drawn (a b : World) : Prop := ∃ m, b = a.drewN m
theorem goes_drawn : Goes Drawn :=
  ⟨fun w => ⟨0, rfl⟩, fun ⟨m, hm⟩ ⟨n, hn⟩ => ⟨m + n, by subst hm; subst hn; simp [World.drewN, Nat.add_assoc]⟩, fun w => ⟨1, rfl⟩⟩
theorem Drawn.ext {a b : World} (h : Drawn a b) : Ext a b := by obtain ⟨m, rfl⟩ := h; exact Ext.drewN (Below.refl _ _) m
theorem goes_ext : Goes Ext := ⟨fun w => Below.refl _ w, Ext.trans, fun w => Ext.drew (Below.refl _ w)⟩
theorem ext_base {w w' : World} (h : Ext { w with drawn := w.drawn + 1 } w') : Ext w w' := (Ext.drew (Below.refl w.heap.size w)).trans h
end Go.Proofs.YtoidhdcbemmfhaaDoor
