/- A region that draws its order and whose calls make new memory alone: one walk in the order of the text serves every order. An operation that hands back one value in every world that has grown out of the one at hand may be taken first; one whose value hangs on the world must come up alone. No condition. -/
import Derived.Test.YtoidhdcbemmfhaaDoorBase
import Derived.OrdersHeld
import Derived.Deep.Quiet
namespace Go.Proofs.YtoidhdcbemmfhaaDoor
open Go.ChangeShapes Go.WideShapes Go.ChangeAt Go.RowKit

section
variable {P : Program} {ops : Array Oper} {Q : Exit → Act → World → Prop}

/-- what o looks at stands in both states alike -/
def Alike (ops : Array Oper) (o : Oper) (a a' : Act) : Prop := execOp a'.eval o = execOp a.eval o ∧ Region.wanted o (yielded ops a'.tmps) = Region.wanted o (yielded ops a.tmps)

theorem wpOp_past {j : Nat} {oi oj : Oper} {v : Value} (hj : ops[j]? = some oj) (hap : oi.apart ops oj = true) (hsi : ∀ cs b, oi.op ≠ .select cs b) (hsj : ∀ cs b, oj.op ≠ .select cs b)
    (hQ : ∀ c a w, Q (.panic c) (a.put oi.dst v) w → Q (.panic c) a w) {K : Act → World → Prop} {a : Act} {w : World} (h : wpOp P ops Q j K (a.put oi.dst v) w) :
    wpOp P ops Q j (fun a' w' => Alike ops oi a a' ∧ K (a'.put oi.dst v) w') a w := by
  obtain ⟨d1, d2, d3⟩ := Oper.apart_spec hap
  have al : ∀ u, Alike ops oi a (a.put oj.dst u) := fun u => ⟨execOp_put oi hsi a oj.dst u d3, wanted_put oi a oj.dst u d3⟩
  have ald : ∀ d u, Alike ops oi a (({ a with defers := d :: a.defers } : Act).put oj.dst u) := fun d u => ⟨execOp_put oi hsi _ oj.dst u d3, wanted_put oi _ oj.dst u d3⟩
  have sw : ∀ u, (a.put oj.dst u).put oi.dst v = (a.put oi.dst v).put oj.dst u := fun u => (Act.put_comm a v u d2).symm
  unfold wpOp at h ⊢
  simp only [hj] at h ⊢
  rw [wanted_put oj a oi.dst v d1] at h
  by_cases hw : Region.wanted oj (yielded ops a.tmps) = true
  · rw [if_pos hw] at h ⊢
    unfold Oper.asks Oper.wp at *
    rw [execOp_put oj hsj a oi.dst v d1] at h
    refine h.imp (fun h => ?_) id
    revert h
    generalize (execOp a.eval oj).run P w = r
    intro h
    match r, h with
    | .ok (.value u) w', h => exact ⟨al u, by rw [sw]; exact h⟩
    | .ok .skip w', h => exact ⟨al undef, by rw [sw]; exact h⟩
    | .ok (.defer d) w', h =>
      refine ⟨ald d undef, ?_⟩
      have h' := h
      simp only [Oper.upon] at h'
      rw [← Act.put_comm _ v undef d2, ← Act.put_defers]
      exact h'
    | .ok (.enter f args) w', h =>
      refine Calls.mono h fun e w'' he => ?_
      match e, he with
      | .returned u, he => exact ⟨al u, by rw [sw]; exact he⟩
      | .panicked c, he => exact hQ _ _ _ he
      | .outgrown, he => exact he
    | .ok (.row row args) w', h => exact Rows.mono h fun u w'' he => ⟨al u, by rw [sw]; exact he⟩
    | .halt x w', h => cases x <;> first | exact h | exact hQ _ _ _ h
  · rw [if_neg hw] at h ⊢
    exact ⟨al undef, by rw [sw]; exact h⟩

/-- in every world grown out of W the operation hands back v, and a world grown out of the one that it got -/
def YieldsX (P : Program) (ops : Array Oper) (W : World) (o : Oper) (v : Value) (a : Act) : Prop :=
  (Region.wanted o (yielded ops a.tmps) = true ∧ ∀ w, Ext W w → o.quietAt P a (fun w' => Ext w w') w v) ∨
  (Region.wanted o (yielded ops a.tmps) = false ∧ v = undef)
theorem YieldsX.alike {W : World} {o : Oper} {v : Value} {a a' : Act} (h : YieldsX P ops W o v a) (ha : Alike ops o a a') : YieldsX P ops W o v a' := by
  unfold YieldsX Oper.quietAt at *
  rw [ha.1, ha.2]; exact h
theorem YieldsX.ext {W W' : World} {o : Oper} {v : Value} {a : Act} (h : YieldsX P ops W o v a) (hx : Ext W W') : YieldsX P ops W' o v a :=
  h.imp (fun h => ⟨h.1, fun w hw => h.2 w (hx.trans hw)⟩) id
theorem YieldsX.wpOp {W : World} {i : Nat} {o : Oper} {v : Value} {a : Act} {w : World} (hi : ops[i]? = some o) (hy : YieldsX P ops W o v a) (hw : Ext W w) {K : Act → World → Prop}
    (h : ∀ w', Ext w w' → K (a.put o.dst v) w') : wpOp P ops Q i K a w := by
  unfold Go.wpOp
  simp only [hi]
  rcases hy with ⟨h1, h2⟩ | ⟨h1, rfl⟩
  · rw [if_pos h1]
    have h3 := h2 w hw
    left
    unfold Oper.quietAt at h3
    unfold Oper.wp
    revert h3
    generalize (execOp a.eval o).run P w = r
    intro h3
    match r, h3 with
    | .ok (.value u) w', h3 => obtain ⟨rfl, rfl⟩ := h3; exact h _ (Below.refl _ _)
    | .ok .skip w', h3 => obtain ⟨rfl, rfl⟩ := h3; exact h _ (Below.refl _ _)
    | .ok (.enter f args) w', h3 =>
      obtain ⟨rfl, hc⟩ := h3
      exact Calls.mono hc fun e w'' he => by obtain ⟨rfl, hx⟩ := he; exact h _ hx
    | .ok (.row row args) w', h3 => exact h3.elim
    | .ok (.defer d) w', h3 => exact h3.elim
    | .halt x w', h3 => exact h3.elim
  · rw [if_neg (by simp [h1])]; exact h w (Below.refl _ _)

/-- whatever order is picked from here on, in whatever world has grown out of the one behind each operation -/
def wpAnyX (P : Program) (ops : Array Oper) (Q : Exit → Act → World → Prop) : Nat → Array Bool → Act → World → Prop
  | 0, listed, a, w => Region.ready .any ops listed = [] ∧ Q .normal a w
  | fuel + 1, listed, a, w =>
    (Region.ready .any ops listed = [] → Q .normal a w) ∧
    ∀ i ∈ Region.ready .any ops listed, wpOp P ops Q i (fun a' w' => Ext w w' ∧ ∀ w'', Ext w' w'' → wpAnyX P ops Q fuel (listed.setIfInBounds i true) a' w'') a w
theorem wpAny_of_X : ∀ (fuel : Nat) (listed : Array Bool) (a : Act) (w : World), wpAnyX P ops Q fuel listed a w → wpAny P .any ops Q fuel listed a w
  | 0, _, _, _, h => h
  | fuel + 1, _, _, _, h => ⟨h.1, fun i hi => wpOp_mono (fun a' w' h' => wpAny_of_X fuel _ a' w' (h'.2 w' (Below.refl _ _))) (h.2 i hi)⟩

theorem wpAnyX_first {i : Nat} {oi : Oper} {v : Value} (hi : ops[i]? = some oi) (hsel : ∀ (j : Nat) (o : Oper) cs b, ops[j]? = some o → o.op ≠ .select cs b) (hQ : ∀ c a w, Q (.panic c) (a.put oi.dst v) w → Q (.panic c) a w) :
    ∀ (fuel : Nat) (listed : Array Bool) (a : Act) (w : World),
      (∀ j oj, ops[j]? = some oj → j ≠ i → listed.getD j true = false → (∀ e ∈ oj.after, Region.binds .any e = true → e.on ≠ i) → oi.apart ops oj = true) →
      i ∈ Region.ready .any ops listed → YieldsX P ops w oi v a →
      (∀ w', Ext w w' → wpAnyX P ops Q fuel (listed.setIfInBounds i true) (a.put oi.dst v) w') → wpAnyX P ops Q (fuel + 1) listed a w := by
  have mine : ∀ (fuel : Nat) (listed : Array Bool) (a : Act) (w : World), YieldsX P ops w oi v a →
      (∀ w', Ext w w' → wpAnyX P ops Q fuel (listed.setIfInBounds i true) (a.put oi.dst v) w') → wpOp P ops Q i (fun a' w' => Ext w w' ∧ ∀ w'', Ext w' w'' → wpAnyX P ops Q fuel (listed.setIfInBounds i true) a' w'') a w :=
    fun fuel listed a w hy H => hy.wpOp hi (Below.refl _ _) fun w' hw' => ⟨hw', fun w'' hw'' => H w'' (hw'.trans hw'')⟩
  intro fuel
  induction fuel with
  | zero =>
    intro listed a w _ hr hy H
    refine ⟨fun h => (by rw [h] at hr; cases hr), fun j hj => ?_⟩
    by_cases hji : j = i
    · subst hji; exact mine 0 listed a w hy H
    · have h1 := ready_mono hj hji
      rw [(H w (Below.refl _ _)).1] at h1
      cases h1
  | succ fuel ih =>
    intro listed a w hfree hr hy H
    refine ⟨fun h => (by rw [h] at hr; cases hr), fun j hj => ?_⟩
    by_cases hji : j = i
    · subst hji; exact mine (fuel + 1) listed a w hy H
    · have h1 := (H w (Below.refl _ _)).2 j (ready_mono hj hji)
      obtain ⟨hjun, oj, hoj, hall⟩ := mem_ready.1 hj
      have hnot : ∀ e ∈ oj.after, Region.binds .any e = true → e.on ≠ i := by
        intro e he hb heq
        have g1 := hall e he hb
        have g0 := (mem_ready.1 hr).1
        rw [heq] at g1
        rcases Nat.lt_or_ge i listed.size with h' | h'
        · simp [h'] at g0 g1; rw [g0] at g1; cases g1
        · simp [Array.getElem?_eq_none h'] at g1
      have h2 := wpOp_past hoj (hfree j oj hoj hji hjun hnot) (fun cs b => hsel i oi cs b hi) (fun cs b => hsel j oj cs b hoj) hQ h1
      have hfree' : ∀ k ok, ops[k]? = some ok → k ≠ i → (listed.setIfInBounds j true).getD k true = false →
          (∀ e ∈ ok.after, Region.binds .any e = true → e.on ≠ i) → oi.apart ops ok = true := by
        intro k ok hk hki hun hno
        refine hfree k ok hk hki ?_ hno
        by_cases hjk : j = k
        · subst hjk; exact hjun
        · rw [getD_set_ne true hjk] at hun; exact hun
      refine wpOp_mono (fun a' w' h3 => ?_) h2
      obtain ⟨ha, hx, hK⟩ := h3
      refine ⟨hx, fun w'' hw'' => ih (listed.setIfInBounds j true) a' w'' hfree' (ready_mono hr (Ne.symm hji)) ((hy.alike ha).ext (hx.trans hw'')) fun w3 hw3 => ?_⟩
      have := hK w3 (hw''.trans hw3)
      rw [Array.setIfInBounds_comm _ _ hji]
      exact this

/-- the first k have come up -/
def headOf (n : Nat) : Nat → Array Bool
  | 0 => Array.replicate n false
  | k + 1 => (headOf n k).setIfInBounds k true
/-- the walk in the order of the text; W: the world that all have grown out of -/
def wpX (P : Program) (ops : Array Oper) (Q : Exit → Act → World → Prop) : Nat → List Oper → Act → World → Prop
  | _, [], a, W => ∀ w, Ext W w → Q .normal a w
  | k, o :: rest, a, W => if Region.wanted o (yielded ops a.tmps) then
      (∃ v, (∀ w, Ext W w → o.quietAt P a (fun w' => Ext w w') w v) ∧ wpX P ops Q (k + 1) rest (a.put o.dst v) W) ∨
      (Region.ready .any ops (headOf ops.size k) = [k] ∧ ∀ w, Ext W w → o.wp P a w (fun a' w' => Ext w w' ∧ wpX P ops Q (k + 1) rest a' w') Q)
    else wpX P ops Q (k + 1) rest (a.put o.dst undef) W

theorem wpX_ext : ∀ (l : List Oper) (k : Nat) (a : Act) (W W' : World), Ext W W' → wpX P ops Q k l a W → wpX P ops Q k l a W'
  | [], _, _, _, _, hx, h => fun w hw => h w (hx.trans hw)
  | o :: rest, k, a, W, W', hx, h => by
    unfold wpX at h ⊢
    split
    · rename_i hw
      rw [if_pos hw] at h
      rcases h with ⟨v, h1, h2⟩ | ⟨h1, h2⟩
      · exact .inl ⟨v, fun w hw => h1 w (hx.trans hw), wpX_ext rest (k + 1) _ W W' hx h2⟩
      · exact .inr ⟨h1, fun w hw => h2 w (hx.trans hw)⟩
    · rename_i hw
      rw [if_neg hw] at h
      exact wpX_ext rest (k + 1) _ W W' hx h

theorem wpAnyX_lex (hsel : Region.noSelect ops = true) (hQ : ∀ c a d v w, Q (.panic c) (Act.put a d v) w → Q (.panic c) a w) : ∀ (l : List Oper) (k : Nat) (a : Act) (W : World), (∀ j, l[j]? = ops[k + j]?) →
    Region.lexFrom .any ops l.length k (headOf ops.size k) = true → wpX P ops Q k l a W → ∀ w, Ext W w → wpAnyX P ops Q l.length (headOf ops.size k) a w
  | [], k, a, W, _, hB, h, w, hw => ⟨by simpa [Region.lexFrom] using hB, h w hw⟩
  | o :: l, k, a, W, hl, hB, h, w, hw => by
    have h0 : ops[k]? = some o := by simpa using (hl 0).symm
    simp only [List.length_cons, Region.lexFrom, Bool.and_eq_true] at hB
    obtain ⟨⟨hr, hf⟩, hB'⟩ := hB
    have hl' : ∀ j, l[j]? = ops[k + 1 + j]? := fun j => by have := hl (j + 1); simpa [Nat.add_assoc, Nat.add_comm 1 j] using this
    unfold wpX at h
    have first : ∀ v, YieldsX P ops w o v a → (wpX P ops Q (k + 1) l (a.put o.dst v) W) → wpAnyX P ops Q (l.length + 1) (headOf ops.size k) a w := by
      intro v hy hK
      exact wpAnyX_first h0 (Region.noSelect_spec hsel) (fun c a w h => hQ c a _ _ w h) l.length _ a w (Region.free_spec h0 hf) (by simpa using hr) hy fun w' hw' => wpAnyX_lex hsel hQ l (k + 1) _ W hl' hB' hK w' (hw.trans hw')
    by_cases hwt : Region.wanted o (yielded ops a.tmps) = true
    · rw [if_pos hwt] at h
      rcases h with ⟨v, h1, h2⟩ | ⟨h1, h2⟩
      · exact first v (.inl ⟨hwt, fun w1 hw1 => h1 w1 (hw.trans hw1)⟩) h2
      · refine ⟨fun h => (by rw [h1] at h; cases h), fun i hi => ?_⟩
        rw [h1] at hi
        have hik : i = k := by simpa using hi
        subst hik
        unfold wpOp
        simp only [h0]
        rw [if_pos hwt]
        refine .inl (Oper.wp_mono (fun a' w' h => ?_) (h2 w hw))
        exact ⟨h.1, fun w'' hw'' => wpAnyX_lex hsel hQ l (i + 1) a' w' hl' hB' h.2 w'' hw''⟩
    · rw [if_neg hwt] at h
      exact first undef (.inr ⟨by simpa using hwt, rfl⟩) h

theorem wp_region_X {id : Nat} {a : Act} {w : World} {l : List Oper} (hm : P.follows .mixedOrders = true) (hB : Region.lexB .any l.toArray = true) (hQ : ∀ c a d v w, Q (.panic c) (Act.put a d v) w → Q (.panic c) a w)
    (h : wpX P l.toArray Q 0 l a w) : (Code.region id l.toArray true).wp P Q a w := by
  simp only [Region.lexB, Bool.and_eq_true] at hB
  refine wp_region_any hm (wpAny_of_X _ _ _ _ ?_)
  have := wpAnyX_lex (ops := l.toArray) (Q := Q) (P := P) hB.1 hQ l 0 a w (by simp) (by simpa [headOf] using hB.2) h { w with drawn := w.drawn + 1 } (Ext.drew (Below.refl _ w))
  simpa [headOf] using this

/-- one operation of the walk, what follows behind a letter -/
theorem wpX_quiet {k : Nat} {o : Oper} {rest : List Oper} {a : Act} {W : World} (h : ∀ K : Act → Prop, (∀ a, wpX P ops Q (k + 1) rest a W → K a) →
    if Region.wanted o (yielded ops a.tmps) then ∃ v, (∀ w, Ext W w → o.quietAt P a (fun w' => Ext w w') w v) ∧ K (a.put o.dst v) else K (a.put o.dst undef)) : wpX P ops Q k (o :: rest) a W := by
  have h := h _ fun _ h => h
  unfold wpX
  split
  · rename_i hw; rw [if_pos hw] at h; exact .inl h
  · rename_i hw; rw [if_neg hw] at h; exact h
/-- one that comes up alone -/
theorem wpX_solo {k : Nat} {o : Oper} {rest : List Oper} {a : Act} {W : World} (hr : Region.ready .any ops (headOf ops.size k) = [k]) (hw : Region.wanted o (yielded ops a.tmps) = true)
    (h : ∀ (K : Act → World → Prop) (w : World), Ext W w → (∀ a' w', Ext w w' → wpX P ops Q (k + 1) rest a' w' → K a' w') → o.wp P a w K Q) : wpX P ops Q k (o :: rest) a W := by
  unfold wpX
  rw [if_pos hw]
  exact .inr ⟨hr, fun w hx => h _ w hx fun _ _ h1 h2 => ⟨h1, h2⟩⟩
end
end Go.Proofs.YtoidhdcbemmfhaaDoor
