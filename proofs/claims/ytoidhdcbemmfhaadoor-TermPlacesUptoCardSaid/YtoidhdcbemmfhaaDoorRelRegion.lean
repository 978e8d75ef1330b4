/- A region that draws its order and whose calls change the world within a relation: one walk in the order of the text serves every order; what is skipped is skipped at once. No condition. -/
import Derived.Test.YtoidhdcbemmfhaaDoorExtRegion
namespace Go.Proofs.YtoidhdcbemmfhaaDoor
open Go.ChangeShapes Go.WideShapes Go.ChangeAt Go.RowKit

/-- a way in which a world may go on -/
structure Goes (R : World → World → Prop) : Prop where
  refl : ∀ w, R w w
  trans : ∀ {a b c}, R a b → R b c → R a c
  drew : ∀ w : World, R w w.drew
theorem goes_chg (S : List Nat) : Goes (Chg S) := ⟨Chg.refl S, Chg.trans, fun _ => (Chg.refl _ _).drew⟩

section
variable {P : Program} {ops : Array Oper} {Q : Exit → Act → World → Prop} {R : World → World → Prop}

/-- in every world grown out of W the operation hands back v, and a world grown out of the one that it got -/
def YieldsR (R : World → World → Prop) (P : Program) (ops : Array Oper) (W : World) (o : Oper) (v : Value) (a : Act) : Prop :=
  (Region.wanted o (yielded ops a.tmps) = true ∧ ∀ w, R W w → o.quietAt P a (fun w' => R w w') w v) ∨
  (Region.wanted o (yielded ops a.tmps) = false ∧ v = undef)
theorem YieldsR.alike {W : World} {o : Oper} {v : Value} {a a' : Act} (h : YieldsR R P ops W o v a) (ha : Alike ops o a a') : YieldsR R P ops W o v a' := by
  unfold YieldsR Oper.quietAt at *
  rw [ha.1, ha.2]; exact h
theorem YieldsR.ext (G : Goes R) {W W' : World} {o : Oper} {v : Value} {a : Act} (h : YieldsR R P ops W o v a) (hx : R W W') : YieldsR R P ops W' o v a :=
  h.imp (fun h => ⟨h.1, fun w hw => h.2 w (G.trans hx hw)⟩) id
theorem YieldsR.wpOp (G : Goes R) {W : World} {i : Nat} {o : Oper} {v : Value} {a : Act} {w : World} (hi : ops[i]? = some o) (hy : YieldsR R P ops W o v a) (hw : R W w) {K : Act → World → Prop}
    (h : ∀ w', R w w' → K (a.put o.dst v) w') : wpOp P ops Q i K a w := by
  unfold Go.wpOp
  simp only [hi]
  rcases hy with ⟨h1, h2⟩ | ⟨h1, rfl⟩
  · rw [if_pos h1]
    have h3 := h2 w hw
    left
    unfold Oper.quietAt at h3
    unfold Oper.wp
    revert h3
    generalize (execOp a.eval o).run P w = r
    intro h3
    match r, h3 with
    | .ok (.value u) w', h3 => obtain ⟨rfl, rfl⟩ := h3; exact h _ (G.refl _)
    | .ok .skip w', h3 => obtain ⟨rfl, rfl⟩ := h3; exact h _ (G.refl _)
    | .ok (.enter f args) w', h3 =>
      obtain ⟨rfl, hc⟩ := h3
      exact Calls.mono hc fun e w'' he => by obtain ⟨rfl, hx⟩ := he; exact h _ hx
    | .ok (.row row args) w', h3 => exact h3.elim
    | .ok (.defer d) w', h3 => exact h3.elim
    | .halt x w', h3 => exact h3.elim
  · rw [if_neg (by simp [h1])]; exact h w (G.refl _)

/-- whatever order is picked from here on, in whatever world has grown out of the one behind each operation -/
def wpAnyR (R : World → World → Prop) (P : Program) (ops : Array Oper) (Q : Exit → Act → World → Prop) : Nat → Array Bool → Act → World → Prop
  | 0, listed, a, w => Region.ready .any ops listed = [] ∧ Q .normal a w
  | fuel + 1, listed, a, w =>
    (Region.ready .any ops listed = [] → Q .normal a w) ∧
    ∀ i ∈ Region.ready .any ops listed, wpOp P ops Q i (fun a' w' => R w w' ∧ ∀ w'', R w' w'' → wpAnyR R P ops Q fuel (listed.setIfInBounds i true) a' w'') a w
theorem wpAny_of_R (G : Goes R) : ∀ (fuel : Nat) (listed : Array Bool) (a : Act) (w : World), wpAnyR R P ops Q fuel listed a w → wpAny P .any ops Q fuel listed a w
  | 0, _, _, _, h => h
  | fuel + 1, _, _, _, h => ⟨h.1, fun i hi => wpOp_mono (fun a' w' h' => wpAny_of_R G fuel _ a' w' (h'.2 w' (G.refl _))) (h.2 i hi)⟩

theorem wpAnyR_first (G : Goes R) {i : Nat} {oi : Oper} {v : Value} (hi : ops[i]? = some oi) (hsel : ∀ (j : Nat) (o : Oper) cs b, ops[j]? = some o → o.op ≠ .select cs b) (hQ : ∀ c a w, Q (.panic c) (a.put oi.dst v) w → Q (.panic c) a w) :
    ∀ (fuel : Nat) (listed : Array Bool) (a : Act) (w : World),
      (∀ j oj, ops[j]? = some oj → j ≠ i → listed.getD j true = false → (∀ e ∈ oj.after, Region.binds .any e = true → e.on ≠ i) → oi.apart ops oj = true) →
      i ∈ Region.ready .any ops listed → YieldsR R P ops w oi v a →
      (∀ w', R w w' → wpAnyR R P ops Q fuel (listed.setIfInBounds i true) (a.put oi.dst v) w') → wpAnyR R P ops Q (fuel + 1) listed a w := by
  have mine : ∀ (fuel : Nat) (listed : Array Bool) (a : Act) (w : World), YieldsR R P ops w oi v a →
      (∀ w', R w w' → wpAnyR R P ops Q fuel (listed.setIfInBounds i true) (a.put oi.dst v) w') → wpOp P ops Q i (fun a' w' => R w w' ∧ ∀ w'', R w' w'' → wpAnyR R P ops Q fuel (listed.setIfInBounds i true) a' w'') a w :=
    fun fuel listed a w hy H => hy.wpOp G hi (G.refl _) fun w' hw' => ⟨hw', fun w'' hw'' => H w'' (G.trans hw' hw'')⟩
  intro fuel
  induction fuel with
  | zero =>
    intro listed a w _ hr hy H
    refine ⟨fun h => (by rw [h] at hr; cases hr), fun j hj => ?_⟩
    by_cases hji : j = i
    · subst hji; exact mine 0 listed a w hy H
    · have h1 := ready_mono hj hji
      rw [(H w (G.refl _)).1] at h1
      cases h1
  | succ fuel ih =>
    intro listed a w hfree hr hy H
    refine ⟨fun h => (by rw [h] at hr; cases hr), fun j hj => ?_⟩
    by_cases hji : j = i
    · subst hji; exact mine (fuel + 1) listed a w hy H
    · have h1 := (H w (G.refl _)).2 j (ready_mono hj hji)
      obtain ⟨hjun, oj, hoj, hall⟩ := mem_ready.1 hj
      have hnot : ∀ e ∈ oj.after, Region.binds .any e = true → e.on ≠ i := by
        intro e he hb heq
        have g1 := hall e he hb
        have g0 := (mem_ready.1 hr).1
        rw [heq] at g1
        rcases Nat.lt_or_ge i listed.size with h' | h'
        · simp [h'] at g0 g1; rw [g0] at g1; cases g1
        · simp [Array.getElem?_eq_none h'] at g1
      have h2 := wpOp_past hoj (hfree j oj hoj hji hjun hnot) (fun cs b => hsel i oi cs b hi) (fun cs b => hsel j oj cs b hoj) hQ h1
      have hfree' : ∀ k ok, ops[k]? = some ok → k ≠ i → (listed.setIfInBounds j true).getD k true = false →
          (∀ e ∈ ok.after, Region.binds .any e = true → e.on ≠ i) → oi.apart ops ok = true := by
        intro k ok hk hki hun hno
        refine hfree k ok hk hki ?_ hno
        by_cases hjk : j = k
        · subst hjk; exact hjun
        · rw [getD_set_ne true hjk] at hun; exact hun
      refine wpOp_mono (fun a' w' h3 => ?_) h2
      obtain ⟨ha, hx, hK⟩ := h3
      refine ⟨hx, fun w'' hw'' => ih (listed.setIfInBounds j true) a' w'' hfree' (ready_mono hr (Ne.symm hji)) ((hy.alike ha).ext G (G.trans hx hw'')) fun w3 hw3 => ?_⟩
      have := hK w3 (G.trans hw'' hw3)
      rw [Array.setIfInBounds_comm _ _ hji]
      exact this

/-- the walk in the order of the text; W: the world that all have grown out of -/
def wpR (R : World → World → Prop) (P : Program) (ops : Array Oper) (Q : Exit → Act → World → Prop) : Nat → List Oper → Act → World → Prop
  | _, [], a, W => ∀ w, R W w → Q .normal a w
  | k, o :: rest, a, W => if Region.wanted o (yielded ops a.tmps) then
      (∃ v, (∀ w, R W w → o.quietAt P a (fun w' => R w w') w v) ∧ wpR R P ops Q (k + 1) rest (a.put o.dst v) W) ∨
      (Region.ready .any ops (headOf ops.size k) = [k] ∧ ∀ w, R W w → o.wp P a w (fun a' w' => R w w' ∧ wpR R P ops Q (k + 1) rest a' w') Q)
    else wpR R P ops Q (k + 1) rest (a.put o.dst undef) W

theorem wpR_ext (G : Goes R) : ∀ (l : List Oper) (k : Nat) (a : Act) (W W' : World), R W W' → wpR R P ops Q k l a W → wpR R P ops Q k l a W'
  | [], _, _, _, _, hx, h => fun w hw => h w (G.trans hx hw)
  | o :: rest, k, a, W, W', hx, h => by
    unfold wpR at h ⊢
    split
    · rename_i hw
      rw [if_pos hw] at h
      rcases h with ⟨v, h1, h2⟩ | ⟨h1, h2⟩
      · exact .inl ⟨v, fun w hw => h1 w (G.trans hx hw), wpR_ext G rest (k + 1) _ W W' hx h2⟩
      · exact .inr ⟨h1, fun w hw => h2 w (G.trans hx hw)⟩
    · rename_i hw
      rw [if_neg hw] at h
      exact wpR_ext G rest (k + 1) _ W W' hx h

theorem wpAnyR_lex (G : Goes R) (hsel : Region.noSelect ops = true) (hQ : ∀ c a d v w, Q (.panic c) (Act.put a d v) w → Q (.panic c) a w) : ∀ (l : List Oper) (k : Nat) (a : Act) (W : World), (∀ j, l[j]? = ops[k + j]?) →
    Region.lexFrom .any ops l.length k (headOf ops.size k) = true → wpR R P ops Q k l a W → ∀ w, R W w → wpAnyR R P ops Q l.length (headOf ops.size k) a w
  | [], k, a, W, _, hB, h, w, hw => ⟨by simpa [Region.lexFrom] using hB, h w hw⟩
  | o :: l, k, a, W, hl, hB, h, w, hw => by
    have h0 : ops[k]? = some o := by simpa using (hl 0).symm
    simp only [List.length_cons, Region.lexFrom, Bool.and_eq_true] at hB
    obtain ⟨⟨hr, hf⟩, hB'⟩ := hB
    have hl' : ∀ j, l[j]? = ops[k + 1 + j]? := fun j => by have := hl (j + 1); simpa [Nat.add_assoc, Nat.add_comm 1 j] using this
    unfold wpR at h
    have first : ∀ v, YieldsR R P ops w o v a → (wpR R P ops Q (k + 1) l (a.put o.dst v) W) → wpAnyR R P ops Q (l.length + 1) (headOf ops.size k) a w := by
      intro v hy hK
      exact wpAnyR_first G h0 (Region.noSelect_spec hsel) (fun c a w h => hQ c a _ _ w h) l.length _ a w (Region.free_spec h0 hf) (by simpa using hr) hy fun w' hw' => wpAnyR_lex G hsel hQ l (k + 1) _ W hl' hB' hK w' (G.trans hw hw')
    by_cases hwt : Region.wanted o (yielded ops a.tmps) = true
    · rw [if_pos hwt] at h
      rcases h with ⟨v, h1, h2⟩ | ⟨h1, h2⟩
      · exact first v (.inl ⟨hwt, fun w1 hw1 => h1 w1 (G.trans hw hw1)⟩) h2
      · refine ⟨fun h => (by rw [h1] at h; cases h), fun i hi => ?_⟩
        rw [h1] at hi
        have hik : i = k := by simpa using hi
        subst hik
        unfold wpOp
        simp only [h0]
        rw [if_pos hwt]
        refine .inl (Oper.wp_mono (fun a' w' h => ?_) (h2 w hw))
        exact ⟨h.1, fun w'' hw'' => wpAnyR_lex G hsel hQ l (i + 1) a' w' hl' hB' h.2 w'' hw''⟩
    · rw [if_neg hwt] at h
      exact first undef (.inr ⟨by simpa using hwt, rfl⟩) h

theorem wp_region_R (G : Goes R) {id : Nat} {a : Act} {w : World} {l : List Oper} (hm : P.follows .mixedOrders = true) (hB : Region.lexB .any l.toArray = true) (hQ : ∀ c a d v w, Q (.panic c) (Act.put a d v) w → Q (.panic c) a w)
    (h : wpR R P l.toArray Q 0 l a w) : (Code.region id l.toArray true).wp P Q a w := by
  simp only [Region.lexB, Bool.and_eq_true] at hB
  refine wp_region_any hm (wpAny_of_R G _ _ _ _ ?_)
  have := wpAnyR_lex (ops := l.toArray) (Q := Q) (P := P) G hB.1 hQ l 0 a w (by simp) (by simpa [headOf] using hB.2) h { w with drawn := w.drawn + 1 } ((G.drew w))
  simpa [headOf] using this

/-- one operation of the walk, what follows behind a letter -/
theorem wpR_quiet {k : Nat} {o : Oper} {rest : List Oper} {a : Act} {W : World} (h : ∀ K : Act → Prop, (∀ a, wpR R P ops Q (k + 1) rest a W → K a) →
    if Region.wanted o (yielded ops a.tmps) then ∃ v, (∀ w, R W w → o.quietAt P a (fun w' => R w w') w v) ∧ K (a.put o.dst v) else K (a.put o.dst undef)) : wpR R P ops Q k (o :: rest) a W := by
  have h := h _ fun _ h => h
  unfold wpR
  split
  · rename_i hw; rw [if_pos hw] at h; exact .inl h
  · rename_i hw; rw [if_neg hw] at h; exact h
/-- one that comes up alone -/
theorem wpR_solo {k : Nat} {o : Oper} {rest : List Oper} {a : Act} {W : World} (hr : Region.ready .any ops (headOf ops.size k) = [k]) (hw : Region.wanted o (yielded ops a.tmps) = true)
    (h : ∀ (K : Act → World → Prop) (w : World), R W w → (∀ a' w', R w w' → wpR R P ops Q (k + 1) rest a' w' → K a' w') → o.wp P a w K Q) : wpR R P ops Q k (o :: rest) a W := by
  unfold wpR
  rw [if_pos hw]
  exact .inr ⟨hr, fun w hx => h _ w hx fun _ _ h1 h2 => ⟨h1, h2⟩⟩

theorem wpR_skip {k : Nat} {o : Oper} {rest : List Oper} {a : Act} {W : World} (hw : Region.wanted o (yielded ops a.tmps) = false) (h : wpR R P ops Q (k + 1) rest (a.put o.dst undef) W) : wpR R P ops Q k (o :: rest) a W := by
  unfold wpR
  rw [if_neg (by rw [hw]; simp)]
  exact h
theorem wpR_want {k : Nat} {o : Oper} {rest : List Oper} {a : Act} {W : World} {v : Value} (hw : Region.wanted o (yielded ops a.tmps) = true) (hq : ∀ w, R W w → o.quietAt P a (fun w' => R w w') w v) (h : wpR R P ops Q (k + 1) rest (a.put o.dst v) W) : wpR R P ops Q k (o :: rest) a W := by
  unfold wpR
  rw [if_pos hw]
  exact .inl ⟨v, hq, h⟩
end
end Go.Proofs.YtoidhdcbemmfhaaDoor
