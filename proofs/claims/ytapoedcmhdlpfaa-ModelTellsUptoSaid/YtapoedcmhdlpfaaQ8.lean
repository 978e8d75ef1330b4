/- A region that draws its order and whose calls make new memory alone: one walk in the order of the text serves every order. An operation that hands back one value in every world that has grown out of the one at hand may be taken first; one whose value hangs on the world must come up alone. No condition.
Steps of the lexical walk of a region whose operations and callees only make memory: what is skipped, what is wanted, the end. No condition.
A region that draws its order and whose calls change the world within a relation: one walk in the order of the text serves every order; what is skipped is skipped at once. No condition.
A region that draws its order, walked in the order of the text: between calls that all must wait for, a relation of its own for each stretch. No condition.
A region that draws its order, as a game: whatever comes up next; stretches of reads in the order of the text, beside them one operation that may come up at any time. No condition. -/
import Derived.Test.YtapoedcmhdlpfaaQ0
import Derived.OrdersHeld
import Derived.Deep.Quiet
import Derived.Deep.QuietTactic
namespace Go.Proofs.Ytapoedcmhdlpfaa
open Go.ChangeShapes Go.WideShapes Go.ChangeAt Go.RowKit
section
variable {P : Program} {ops : Array Oper} {Q : Exit → Act → World → Prop}
/-- what o looks at stands in both states alike -/
def Alike (ops : Array Oper) (o : Oper) (a a' : Act) : Prop := execOp a'.eval o = execOp a.eval o ∧ Region.wanted o (yielded ops a'.tmps) = Region.wanted o (yielded ops a.tmps)

theorem wpOp_past {j : Nat} {oi oj : Oper} {v : Value} (hj : ops[j]? = some oj) (hap : oi.apart ops oj = true) (hsi : ∀ cs b, oi.op ≠ .select cs b) (hsj : ∀ cs b, oj.op ≠ .select cs b)
    (hQ : ∀ c a w, Q (.panic c) (a.put oi.dst v) w → Q (.panic c) a w) {K : Act → World → Prop} {a : Act} {w : World} (h : wpOp P ops Q j K (a.put oi.dst v) w) :
    wpOp P ops Q j (fun a' w' => Alike ops oi a a' ∧ K (a'.put oi.dst v) w') a w := by
  obtain ⟨d1, d2, d3⟩ := Oper.apart_spec hap
  have al : ∀ u, Alike ops oi a (a.put oj.dst u) := fun u => ⟨execOp_put oi hsi a oj.dst u d3, wanted_put oi a oj.dst u d3⟩
  have ald : ∀ d u, Alike ops oi a (({ a with defers := d :: a.defers } : Act).put oj.dst u) := fun d u => ⟨execOp_put oi hsi _ oj.dst u d3, wanted_put oi _ oj.dst u d3⟩
  have sw : ∀ u, (a.put oj.dst u).put oi.dst v = (a.put oi.dst v).put oj.dst u := fun u => (Act.put_comm a v u d2).symm
  unfold wpOp at h ⊢
  simp only [hj] at h ⊢
  rw [wanted_put oj a oi.dst v d1] at h
  by_cases hw : Region.wanted oj (yielded ops a.tmps) = true
  · rw [if_pos hw] at h ⊢
    unfold Oper.asks Oper.wp at *
    rw [execOp_put oj hsj a oi.dst v d1] at h
    refine h.imp (fun h => ?_) id
    revert h
    generalize (execOp a.eval oj).run P w = r
    intro h
    match r, h with
    | .ok (.value u) w', h => exact ⟨al u, by rw [sw]; exact h⟩
    | .ok .skip w', h => exact ⟨al undef, by rw [sw]; exact h⟩
    | .ok (.defer d) w', h =>
      refine ⟨ald d undef, ?_⟩
      have h' := h
      simp only [Oper.upon] at h'
      rw [← Act.put_comm _ v undef d2, ← Act.put_defers]
      exact h'
    | .ok (.enter f args) w', h =>
      refine Calls.mono h fun e w'' he => ?_
      match e, he with
      | .returned u, he => exact ⟨al u, by rw [sw]; exact he⟩
      | .panicked c, he => exact hQ _ _ _ he
      | .outgrown, he => exact he
    | .ok (.row row args) w', h => exact Rows.mono h fun u w'' he => ⟨al u, by rw [sw]; exact he⟩
    | .halt x w', h => cases x <;> first | exact h | exact hQ _ _ _ h
  · rw [if_neg hw] at h ⊢
    exact ⟨al undef, by rw [sw]; exact h⟩

/-- in every world grown out of W the operation hands back v, and a world grown out of the one that it got -/
def YieldsX (P : Program) (ops : Array Oper) (W : World) (o : Oper) (v : Value) (a : Act) : Prop :=
  (Region.wanted o (yielded ops a.tmps) = true ∧ ∀ w, Ext W w → o.quietAt P a (fun w' => Ext w w') w v) ∨
  (Region.wanted o (yielded ops a.tmps) = false ∧ v = undef)
theorem YieldsX.alike {W : World} {o : Oper} {v : Value} {a a' : Act} (h : YieldsX P ops W o v a) (ha : Alike ops o a a') : YieldsX P ops W o v a' := by
  unfold YieldsX Oper.quietAt at *
  rw [ha.1, ha.2]; exact h
theorem YieldsX.ext {W W' : World} {o : Oper} {v : Value} {a : Act} (h : YieldsX P ops W o v a) (hx : Ext W W') : YieldsX P ops W' o v a :=
  h.imp (fun h => ⟨h.1, fun w hw => h.2 w (hx.trans hw)⟩) id
theorem YieldsX.wpOp {W : World} {i : Nat} {o : Oper} {v : Value} {a : Act} {w : World} (hi : ops[i]? = some o) (hy : YieldsX P ops W o v a) (hw : Ext W w) {K : Act → World → Prop}
    (h : ∀ w', Ext w w' → K (a.put o.dst v) w') : wpOp P ops Q i K a w := by
  unfold Go.wpOp
  simp only [hi]
  rcases hy with ⟨h1, h2⟩ | ⟨h1, rfl⟩
  · rw [if_pos h1]
    have h3 := h2 w hw
    left
    unfold Oper.quietAt at h3
    unfold Oper.wp
    revert h3
    generalize (execOp a.eval o).run P w = r
    intro h3
    match r, h3 with
    | .ok (.value u) w', h3 => obtain ⟨rfl, rfl⟩ := h3; exact h _ (Below.refl _ _)
    | .ok .skip w', h3 => obtain ⟨rfl, rfl⟩ := h3; exact h _ (Below.refl _ _)
    | .ok (.enter f args) w', h3 =>
      obtain ⟨rfl, hc⟩ := h3
      exact Calls.mono hc fun e w'' he => by obtain ⟨rfl, hx⟩ := he; exact h _ hx
    | .ok (.row row args) w', h3 => exact h3.elim
    | .ok (.defer d) w', h3 => exact h3.elim
    | .halt x w', h3 => exact h3.elim
  · rw [if_neg (by simp [h1])]; exact h w (Below.refl _ _)

/-- whatever order is picked from here on, in whatever world has grown out of the one behind each operation -/
def wpAnyX (P : Program) (ops : Array Oper) (Q : Exit → Act → World → Prop) : Nat → Array Bool → Act → World → Prop
  | 0, listed, a, w => Region.ready .any ops listed = [] ∧ Q .normal a w
  | fuel + 1, listed, a, w =>
    (Region.ready .any ops listed = [] → Q .normal a w) ∧
    ∀ i ∈ Region.ready .any ops listed, wpOp P ops Q i (fun a' w' => Ext w w' ∧ ∀ w'', Ext w' w'' → wpAnyX P ops Q fuel (listed.setIfInBounds i true) a' w'') a w
theorem wpAny_of_X : ∀ (fuel : Nat) (listed : Array Bool) (a : Act) (w : World), wpAnyX P ops Q fuel listed a w → wpAny P .any ops Q fuel listed a w
  | 0, _, _, _, h => h
  | fuel + 1, _, _, _, h => ⟨h.1, fun i hi => wpOp_mono (fun a' w' h' => wpAny_of_X fuel _ a' w' (h'.2 w' (Below.refl _ _))) (h.2 i hi)⟩

theorem wpAnyX_first {i : Nat} {oi : Oper} {v : Value} (hi : ops[i]? = some oi) (hsel : ∀ (j : Nat) (o : Oper) cs b, ops[j]? = some o → o.op ≠ .select cs b) (hQ : ∀ c a w, Q (.panic c) (a.put oi.dst v) w → Q (.panic c) a w) :
    ∀ (fuel : Nat) (listed : Array Bool) (a : Act) (w : World),
      (∀ j oj, ops[j]? = some oj → j ≠ i → listed.getD j true = false → (∀ e ∈ oj.after, Region.binds .any e = true → e.on ≠ i) → oi.apart ops oj = true) →
      i ∈ Region.ready .any ops listed → YieldsX P ops w oi v a →
      (∀ w', Ext w w' → wpAnyX P ops Q fuel (listed.setIfInBounds i true) (a.put oi.dst v) w') → wpAnyX P ops Q (fuel + 1) listed a w := by
  have mine : ∀ (fuel : Nat) (listed : Array Bool) (a : Act) (w : World), YieldsX P ops w oi v a →
      (∀ w', Ext w w' → wpAnyX P ops Q fuel (listed.setIfInBounds i true) (a.put oi.dst v) w') → wpOp P ops Q i (fun a' w' => Ext w w' ∧ ∀ w'', Ext w' w'' → wpAnyX P ops Q fuel (listed.setIfInBounds i true) a' w'') a w :=
    fun fuel listed a w hy H => hy.wpOp hi (Below.refl _ _) fun w' hw' => ⟨hw', fun w'' hw'' => H w'' (hw'.trans hw'')⟩
  intro fuel
  induction fuel with
  | zero =>
    intro listed a w _ hr hy H
    refine ⟨fun h => (by rw [h] at hr; cases hr), fun j hj => ?_⟩
    by_cases hji : j = i
    · subst hji; exact mine 0 listed a w hy H
    · have h1 := ready_mono hj hji
      rw [(H w (Below.refl _ _)).1] at h1
      cases h1
  | succ fuel ih =>
    intro listed a w hfree hr hy H
    refine ⟨fun h => (by rw [h] at hr; cases hr), fun j hj => ?_⟩
    by_cases hji : j = i
    · subst hji; exact mine (fuel + 1) listed a w hy H
    · have h1 := (H w (Below.refl _ _)).2 j (ready_mono hj hji)
      obtain ⟨hjun, oj, hoj, hall⟩ := mem_ready.1 hj
      have hnot : ∀ e ∈ oj.after, Region.binds .any e = true → e.on ≠ i := by
        intro e he hb heq
        have g1 := hall e he hb
        have g0 := (mem_ready.1 hr).1
        rw [heq] at g1
        rcases Nat.lt_or_ge i listed.size with h' | h'
        · simp [h'] at g0 g1; rw [g0] at g1; cases g1
        · simp [Array.getElem?_eq_none h'] at g1
      have h2 := wpOp_past hoj (hfree j oj hoj hji hjun hnot) (fun cs b => hsel i oi cs b hi) (fun cs b => hsel j oj cs b hoj) hQ h1
      have hfree' : ∀ k ok, ops[k]? = some ok → k ≠ i → (listed.setIfInBounds j true).getD k true = false →
          (∀ e ∈ ok.after, Region.binds .any e = true → e.on ≠ i) → oi.apart ops ok = true := by
        intro k ok hk hki hun hno
        refine hfree k ok hk hki ?_ hno
        by_cases hjk : j = k
        · subst hjk; exact hjun
        · rw [getD_set_ne true hjk] at hun; exact hun
      refine wpOp_mono (fun a' w' h3 => ?_) h2
      obtain ⟨ha, hx, hK⟩ := h3
      refine ⟨hx, fun w'' hw'' => ih (listed.setIfInBounds j true) a' w'' hfree' (ready_mono hr (Ne.symm hji)) ((hy.alike ha).ext (hx.trans hw'')) fun w3 hw3 => ?_⟩
      have := hK w3 (hw''.trans hw3)
      rw [Array.setIfInBounds_comm _ _ hji]
      exact this

/-- the first k have come up -/
def headOf (n : Nat) : Nat → Array Bool
  | 0 => Array.replicate n false
  | k + 1 => (headOf n k).setIfInBounds k true
/-- the walk in the order of the text; W: the world that all have grown out of -/
def wpX (P : Program) (ops : Array Oper) (Q : Exit → Act → World → Prop) : Nat → List Oper → Act → World → Prop
  | _, [], a, W => ∀ w, Ext W w → Q .normal a w
  | k, o :: rest, a, W => if Region.wanted o (yielded ops a.tmps) then
      (∃ v, (∀ w, Ext W w → o.quietAt P a (fun w' => Ext w w') w v) ∧ wpX P ops Q (k + 1) rest (a.put o.dst v) W) ∨
      (Region.ready .any ops (headOf ops.size k) = [k] ∧ ∀ w, Ext W w → o.wp P a w (fun a' w' => Ext w w' ∧ wpX P ops Q (k + 1) rest a' w') Q)
    else wpX P ops Q (k + 1) rest (a.put o.dst undef) W

theorem wpAnyX_lex (hsel : Region.noSelect ops = true) (hQ : ∀ c a d v w, Q (.panic c) (Act.put a d v) w → Q (.panic c) a w) : ∀ (l : List Oper) (k : Nat) (a : Act) (W : World), (∀ j, l[j]? = ops[k + j]?) →
    Region.lexFrom .any ops l.length k (headOf ops.size k) = true → wpX P ops Q k l a W → ∀ w, Ext W w → wpAnyX P ops Q l.length (headOf ops.size k) a w
  | [], k, a, W, _, hB, h, w, hw => ⟨by simpa [Region.lexFrom] using hB, h w hw⟩
  | o :: l, k, a, W, hl, hB, h, w, hw => by
    have h0 : ops[k]? = some o := by simpa using (hl 0).symm
    simp only [List.length_cons, Region.lexFrom, Bool.and_eq_true] at hB
    obtain ⟨⟨hr, hf⟩, hB'⟩ := hB
    have hl' : ∀ j, l[j]? = ops[k + 1 + j]? := fun j => by have := hl (j + 1); simpa [Nat.add_assoc, Nat.add_comm 1 j] using this
    unfold wpX at h
    have first : ∀ v, YieldsX P ops w o v a → (wpX P ops Q (k + 1) l (a.put o.dst v) W) → wpAnyX P ops Q (l.length + 1) (headOf ops.size k) a w := by
      intro v hy hK
      exact wpAnyX_first h0 (Region.noSelect_spec hsel) (fun c a w h => hQ c a _ _ w h) l.length _ a w (Region.free_spec h0 hf) (by simpa using hr) hy fun w' hw' => wpAnyX_lex hsel hQ l (k + 1) _ W hl' hB' hK w' (hw.trans hw')
    by_cases hwt : Region.wanted o (yielded ops a.tmps) = true
    · rw [if_pos hwt] at h
      rcases h with ⟨v, h1, h2⟩ | ⟨h1, h2⟩
      · exact first v (.inl ⟨hwt, fun w1 hw1 => h1 w1 (hw.trans hw1)⟩) h2
      · refine ⟨fun h => (by rw [h1] at h; cases h), fun i hi => ?_⟩
        rw [h1] at hi
        have hik : i = k := by simpa using hi
        subst hik
        unfold wpOp
        simp only [h0]
        rw [if_pos hwt]
        refine .inl (Oper.wp_mono (fun a' w' h => ?_) (h2 w hw))
        exact ⟨h.1, fun w'' hw'' => wpAnyX_lex hsel hQ l (i + 1) a' w' hl' hB' h.2 w'' hw''⟩
    · rw [if_neg hwt] at h
      exact first undef (.inr ⟨by simpa using hwt, rfl⟩) h

theorem wp_region_X {id : Nat} {a : Act} {w : World} {l : List Oper} (hm : P.follows .mixedOrders = true) (hB : Region.lexB .any l.toArray = true) (hQ : ∀ c a d v w, Q (.panic c) (Act.put a d v) w → Q (.panic c) a w)
    (h : wpX P l.toArray Q 0 l a w) : (Code.region id l.toArray true).wp P Q a w := by
  simp only [Region.lexB, Bool.and_eq_true] at hB
  refine wp_region_any hm (wpAny_of_X _ _ _ _ ?_)
  have := wpAnyX_lex (ops := l.toArray) (Q := Q) (P := P) hB.1 hQ l 0 a w (by simp) (by simpa [headOf] using hB.2) h { w with drawn := w.drawn + 1 } (Ext.drew (Below.refl _ w))
  simpa [headOf] using this

end
end Go.Proofs.Ytapoedcmhdlpfaa
namespace Go.Proofs.Ytapoedcmhdlpfaa
section
variable {P : Program} {ops : Array Oper} {Q : Exit → Act → World → Prop}
theorem wpX_skip {k : Nat} {o : Oper} {rest : List Oper} {a : Act} {W : World} (hw : Region.wanted o (yielded ops a.tmps) = false) (h : wpX P ops Q (k + 1) rest (a.put o.dst undef) W) : wpX P ops Q k (o :: rest) a W := by
  unfold wpX
  rw [if_neg (by rw [hw]; simp)]
  exact h
theorem wpX_want {k : Nat} {o : Oper} {rest : List Oper} {a : Act} {W : World} {v : Value} (hw : Region.wanted o (yielded ops a.tmps) = true) (hq : ∀ w, Ext W w → o.quietAt P a (fun w' => Ext w w') w v) (h : wpX P ops Q (k + 1) rest (a.put o.dst v) W) : wpX P ops Q k (o :: rest) a W := by
  unfold wpX
  rw [if_pos hw]
  exact .inl ⟨v, hq, h⟩
theorem wpX_nil {k : Nat} {a : Act} {W : World} (h : ∀ w, Ext W w → Q .normal a w) : wpX P ops Q k [] a W := by
  unfold wpX; exact h
/-- the same walk, closed up: nothing looks into what is still to come -/
structure XW (P : Program) (ops : Array Oper) (Q : Exit → Act → World → Prop) (k : Nat) (l : List Oper) (a : Act) (W : World) : Prop where
  out : wpX P ops Q k l a W
theorem xw_skip {k : Nat} {o : Oper} {rest : List Oper} {a : Act} {W : World} (hw : Region.wanted o (yielded ops a.tmps) = false) (h : XW P ops Q (k + 1) rest (a.put o.dst undef) W) : XW P ops Q k (o :: rest) a W := ⟨wpX_skip hw h.out⟩
theorem xw_want {k : Nat} {o : Oper} {rest : List Oper} {a : Act} {W : World} {v : Value} (hw : Region.wanted o (yielded ops a.tmps) = true) (hq : ∀ w, Ext W w → o.quietAt P a (fun w' => Ext w w') w v) (h : XW P ops Q (k + 1) rest (a.put o.dst v) W) : XW P ops Q k (o :: rest) a W := ⟨wpX_want hw hq h.out⟩
theorem xw_nil {k : Nat} {a : Act} {W : World} (h : ∀ w, Ext W w → Q .normal a w) : XW P ops Q k [] a W := ⟨wpX_nil h⟩
end
end Go.Proofs.Ytapoedcmhdlpfaa
namespace Go.Proofs.Ytapoedcmhdlpfaa
open Go.ChangeShapes Go.WideShapes Go.ChangeAt Go.RowKit
/-- a way in which a world may go on -/
structure Goes (R : World → World → Prop) : Prop where
  refl : ∀ w, R w w
  trans : ∀ {a b c}, R a b → R b c → R a c
  drew : ∀ w : World, R w w.drew
section
variable {P : Program} {ops : Array Oper} {Q : Exit → Act → World → Prop} {R : World → World → Prop}
/-- in every world grown out of W the operation hands back v, and a world grown out of the one that it got -/
def YieldsR (R : World → World → Prop) (P : Program) (ops : Array Oper) (W : World) (o : Oper) (v : Value) (a : Act) : Prop :=
  (Region.wanted o (yielded ops a.tmps) = true ∧ ∀ w, R W w → o.quietAt P a (fun w' => R w w') w v) ∨
  (Region.wanted o (yielded ops a.tmps) = false ∧ v = undef)
theorem YieldsR.alike {W : World} {o : Oper} {v : Value} {a a' : Act} (h : YieldsR R P ops W o v a) (ha : Alike ops o a a') : YieldsR R P ops W o v a' := by
  unfold YieldsR Oper.quietAt at *
  rw [ha.1, ha.2]; exact h
theorem YieldsR.ext (G : Goes R) {W W' : World} {o : Oper} {v : Value} {a : Act} (h : YieldsR R P ops W o v a) (hx : R W W') : YieldsR R P ops W' o v a :=
  h.imp (fun h => ⟨h.1, fun w hw => h.2 w (G.trans hx hw)⟩) id
theorem YieldsR.wpOp (G : Goes R) {W : World} {i : Nat} {o : Oper} {v : Value} {a : Act} {w : World} (hi : ops[i]? = some o) (hy : YieldsR R P ops W o v a) (hw : R W w) {K : Act → World → Prop}
    (h : ∀ w', R w w' → K (a.put o.dst v) w') : wpOp P ops Q i K a w := by
  unfold Go.wpOp
  simp only [hi]
  rcases hy with ⟨h1, h2⟩ | ⟨h1, rfl⟩
  · rw [if_pos h1]
    have h3 := h2 w hw
    left
    unfold Oper.quietAt at h3
    unfold Oper.wp
    revert h3
    generalize (execOp a.eval o).run P w = r
    intro h3
    match r, h3 with
    | .ok (.value u) w', h3 => obtain ⟨rfl, rfl⟩ := h3; exact h _ (G.refl _)
    | .ok .skip w', h3 => obtain ⟨rfl, rfl⟩ := h3; exact h _ (G.refl _)
    | .ok (.enter f args) w', h3 =>
      obtain ⟨rfl, hc⟩ := h3
      exact Calls.mono hc fun e w'' he => by obtain ⟨rfl, hx⟩ := he; exact h _ hx
    | .ok (.row row args) w', h3 => exact h3.elim
    | .ok (.defer d) w', h3 => exact h3.elim
    | .halt x w', h3 => exact h3.elim
  · rw [if_neg (by simp [h1])]; exact h w (G.refl _)

end
end Go.Proofs.Ytapoedcmhdlpfaa
namespace Go.Proofs.Ytapoedcmhdlpfaa
open Go.ChangeShapes Go.WideShapes Go.ChangeAt Go.RowKit
theorem headOf_size (n : Nat) : ∀ k, (headOf n k).size = n
  | 0 => by simp [headOf]
  | k + 1 => by simp [headOf, headOf_size n k]
theorem headOf_getD (n : Nat) : ∀ (k j : Nat) (d : Bool), (headOf n k).getD j d = if j < n then decide (j < k) else d
  | 0, j, d => by
    unfold headOf
    by_cases h : j < n
    · simp [h]
    · simp [h]
  | k + 1, j, d => by
    unfold headOf
    by_cases hkj : k = j
    · subst hkj
      by_cases h : k < n
      · have hs : k < (headOf n k).size := by rw [headOf_size]; exact h
        simp [h, hs]
      · have hs : ¬ k < (headOf n k).size := by rw [headOf_size]; exact h
        simp [h, hs]
    · rw [getD_set_ne d hkj, headOf_getD n k j d]
      by_cases h : j < n
      · simp only [h, if_true, decide_eq_decide]; omega
      · simp [h]

section
variable {P : Program} {ops : Array Oper} {Q : Exit → Act → World → Prop} {R : World → World → Prop}
/-- what has come up bears what it hangs on, nothing from p on has come up -/
structure Upto (ops : Array Oper) (p : Nat) (L : Array Bool) : Prop where
  size : L.size = ops.size
  closed : ∀ j o, ops[j]? = some o → L.getD j false = true → ∀ e ∈ o.after, Region.binds .any e = true → L.getD e.on false = true
  none : ∀ j, p ≤ j → L.getD j false = false

def dependsB (ops : Array Oper) (s i : Nat) : Bool := ((ops[s]?).map fun o => o.after.any fun e => Region.binds .any e && e.on == i).getD false
theorem dependsB_spec {s i : Nat} (h : dependsB ops s i = true) : ∃ o, ops[s]? = some o ∧ ∃ e ∈ o.after, Region.binds .any e = true ∧ e.on = i := by
  unfold dependsB at h
  cases ho : ops[s]? with
  | none => simp [ho] at h
  | some o =>
    simp only [ho, Option.map_some, Option.getD_some] at h
    obtain ⟨e, he, hb⟩ := Array.any_eq_true'.1 h
    simp only [Bool.and_eq_true, beq_iff_eq] at hb
    exact ⟨o, rfl, e, he, hb.1, hb.2⟩
/-- all that stands ahead of p comes up ahead of p, all behind p behind p -/
def segB (ops : Array Oper) (p : Nat) : Bool := p == ops.size ||
  (((List.range p).all fun i => (List.range (p + 1)).any fun s => decide (i < s) && dependsB ops s i) && Region.ready .any ops (headOf ops.size p) == [p])
def backB (ops : Array Oper) : Bool := (List.range ops.size).all fun j => ((ops[j]?).map fun o => o.after.all fun e => !Region.binds .any e || decide (e.on < j)).getD true
theorem backB_spec (h : backB ops = true) {j : Nat} {o : Oper} (ho : ops[j]? = some o) {e : Edge} (he : e ∈ o.after) (hb : Region.binds .any e = true) : e.on < j := by
  unfold backB at h
  rw [List.all_eq_true] at h
  have h1 := h j (List.mem_range.2 (Array.getElem?_eq_some_iff.1 ho).1)
  simp only [ho, Option.map_some, Option.getD_some, Array.all_eq_true_iff_forall_mem] at h1
  have h2 := h1 e he
  simpa [hb] using h2
theorem segB_le {p : Nat} (h : segB ops p = true) : p ≤ ops.size := by
  unfold segB at h
  rw [Bool.or_eq_true] at h
  rcases h with h | h
  · simp at h; omega
  · rw [Bool.and_eq_true] at h
    have h2 : Region.ready .any ops (headOf ops.size p) = [p] := by simpa using h.2
    have : p ∈ Region.ready .any ops (headOf ops.size p) := by rw [h2]; simp
    obtain ⟨-, o, ho, -⟩ := mem_ready.1 this
    exact Nat.le_of_lt (Array.getElem?_eq_some_iff.1 ho).1

theorem seg_low {p : Nat} {L : Array Bool} (hs : segB ops p = true) (hU : Upto ops p L) {i : Nat} (hi : i < p) (hun : L.getD i false = false) {j : Nat} (hj : j ∈ Region.ready .any ops L) : j < p := by
  obtain ⟨hj0, oj, hoj, hall⟩ := mem_ready.1 hj
  have hjs := (Array.getElem?_eq_some_iff.1 hoj).1
  unfold segB at hs
  rw [Bool.or_eq_true] at hs
  rcases hs with h | h
  · simp at h; omega
  · rw [Bool.and_eq_true, List.all_eq_true] at h
    obtain ⟨hb, hr⟩ := h
    have hr : Region.ready .any ops (headOf ops.size p) = [p] := by simpa using hr
    have hps : p < ops.size := by
      have : p ∈ Region.ready .any ops (headOf ops.size p) := by rw [hr]; simp
      obtain ⟨-, o, ho, -⟩ := mem_ready.1 this
      exact (Array.getElem?_eq_some_iff.1 ho).1
    rcases Nat.lt_or_ge j p with hlt | hge
    · exact hlt
    exfalso
    by_cases hjp : j = p
    · subst hjp
      have key : ∀ (m i : Nat), j - i ≤ m → i < j → L.getD i false = false → False := by
        intro m
        induction m with
        | zero => intro i h1 h2 _; omega
        | succ m ih =>
          intro i h1 h2 h3
          have h4 := hb i (List.mem_range.2 h2)
          rw [List.any_eq_true] at h4
          obtain ⟨s, hs1, hs2⟩ := h4
          rw [Bool.and_eq_true] at hs2
          have his : i < s := by simpa using hs2.1
          have hsj : s ≤ j := by have := List.mem_range.1 hs1; omega
          obtain ⟨o, ho, e, he, hbd, hei⟩ := dependsB_spec hs2.2
          by_cases hsj' : s = j
          · subst hsj'
            rw [hoj] at ho
            injection ho with ho
            subst ho
            have := hall e he hbd
            rw [hei, h3] at this
            cases this
          · by_cases hsl : L.getD s false = true
            · have := hU.closed s o ho hsl e he hbd
              rw [hei, h3] at this
              cases this
            · exact ih s (by omega) (by omega) (by simpa using hsl)
      exact key (j - i) i (Nat.le_refl _) hi hun
    · have hjr : j ∈ Region.ready .any ops (headOf ops.size p) := by
        rw [mem_ready]
        refine ⟨by rw [headOf_getD]; simp [hjs]; omega, oj, hoj, fun e he hbd => ?_⟩
        have h1 := hall e he hbd
        have h2 : e.on < p := by
          rcases Nat.lt_or_ge e.on p with h | h
          · exact h
          · rw [hU.none _ h] at h1; cases h1
        rw [headOf_getD]
        have h3 : e.on < ops.size := by omega
        simp [h3, h2]
      rw [hr] at hjr
      simp at hjr
      exact hjp hjr

theorem Upto.set {p : Nat} {L : Array Bool} (hU : Upto ops p L) {j : Nat} (hj : j ∈ Region.ready .any ops L) (hjp : j < p) : Upto ops p (L.setIfInBounds j true) := by
  obtain ⟨hj0, oj, hoj, hall⟩ := mem_ready.1 hj
  refine ⟨by simp [hU.size], fun k o ho hk e he hb => ?_, fun k hk => by rw [getD_set_ne false (by omega)]; exact hU.none k hk⟩
  by_cases hjk : j = k
  · subst hjk
    rw [hoj] at ho
    injection ho with ho
    subst ho
    exact getD_set_true (hall e he hb)
  · rw [getD_set_ne false hjk] at hk
    exact getD_set_true (hU.closed k o ho hk e he hb)
theorem Upto.head (hback : backB ops = true) {p k : Nat} (hkp : k ≤ p) : Upto ops p (headOf ops.size k) := by
  refine ⟨headOf_size _ _, fun j o ho hj e he hb => ?_, fun j hj => ?_⟩
  · rw [headOf_getD] at hj ⊢
    have hjs := (Array.getElem?_eq_some_iff.1 ho).1
    have := backB_spec hback ho he hb
    simp only [hjs, if_true, decide_eq_true_eq] at hj
    have h1 : e.on < ops.size := by omega
    simp [h1]; omega
  · rw [headOf_getD]
    split
    · simp; omega
    · rfl
theorem Upto.eq_head {p : Nat} {L : Array Bool} (hU : Upto ops p L) (_hp : p ≤ ops.size) (hall : ∀ i, i < p → L.getD i false = true) : L = headOf ops.size p := by
  apply Array.ext
  · rw [hU.size, headOf_size]
  · intro i h1 h2
    have e1 : L.getD i false = L[i] := by simp [h1]
    have e2 : (headOf ops.size p).getD i false = (headOf ops.size p)[i] := by simp [h2]
    rw [← e1, ← e2, headOf_getD]
    have hs : i < ops.size := by rw [hU.size] at h1; exact h1
    simp only [hs, if_true]
    rcases Nat.lt_or_ge i p with h | h
    · rw [hall i h]; simp [h]
    · rw [hU.none i h]; simp; omega

theorem wpAny_more : ∀ (f : Nat) (L : Array Bool) (a : Act) (w : World), wpAny P .any ops Q f L a w → wpAny P .any ops Q (f + 1) L a w
  | 0, L, a, w, h => ⟨fun _ => h.2, fun i hi => by rw [h.1] at hi; cases hi⟩
  | f + 1, L, a, w, h => ⟨h.1, fun i hi => wpOp_mono (fun a' w' h' => wpAny_more f _ a' w' h') (h.2 i hi)⟩
theorem wpAny_fuel {f : Nat} {L : Array Bool} {a : Act} {w : World} (h : wpAny P .any ops Q f L a w) : ∀ m, wpAny P .any ops Q (f + m) L a w
  | 0 => h
  | m + 1 => wpAny_more _ _ _ _ (wpAny_fuel h m)

/-- whatever order is picked of those ahead of p, in whatever world has grown out of the one behind each operation; then T -/
def wpAnyP (R : World → World → Prop) (P : Program) (ops : Array Oper) (Q : Exit → Act → World → Prop) (p : Nat) (T : Act → World → Prop) : Nat → Array Bool → Act → World → Prop
  | 0, L, a, w => (∀ i, i < p → L.getD i false = true) ∧ T a w
  | f + 1, L, a, w => ((∀ i, i < p → L.getD i false = true) ∧ T a w) ∨
    ((∃ i, i ∈ Region.ready .any ops L ∧ i < p) ∧ ∀ i, i ∈ Region.ready .any ops L → i < p → wpOp P ops Q i (fun a' w' => R w w' ∧ ∀ w'', R w' w'' → wpAnyP R P ops Q p T f (L.setIfInBounds i true) a' w'') a w)

theorem unlisted {L : Array Bool} {i : Nat} (h : L.getD i true = false) : L.getD i false = false := by
  rcases Nat.lt_or_ge i L.size with h' | h'
  · simp [h'] at h ⊢; exact h
  · simp [Array.getElem?_eq_none h'] at h

theorem wpAny_of_P (G : Goes R) {p : Nat} {T : Act → World → Prop} (hs : segB ops p = true) (hT : ∀ a w, T a w → wpAny P .any ops Q (ops.size - p) (headOf ops.size p) a w) :
    ∀ (f : Nat) (L : Array Bool) (a : Act) (w : World), Upto ops p L → wpAnyP R P ops Q p T f L a w → wpAny P .any ops Q (f + (ops.size - p)) L a w
  | 0, L, a, w, hU, h => by
    rw [hU.eq_head (segB_le hs) h.1, Nat.zero_add]
    exact hT a w h.2
  | f + 1, L, a, w, hU, h => by
    rcases h with h | ⟨⟨i, hi, hip⟩, h⟩
    · rw [hU.eq_head (segB_le hs) h.1, Nat.add_comm]
      exact wpAny_fuel (hT a w h.2) _
    · rw [show f + 1 + (ops.size - p) = (f + (ops.size - p)) + 1 by omega]
      refine ⟨fun e => (by rw [e] at hi; cases hi), fun j hj => ?_⟩
      have hjp := seg_low hs hU hip (unlisted (mem_ready.1 hi).1) hj
      exact wpOp_mono (fun a' w' h' => wpAny_of_P G hs hT f _ a' w' (hU.set hj hjp) (h'.2 w' (G.refl _))) (h j hj hjp)

theorem wpAnyP_first (G : Goes R) {p : Nat} {T : Act → World → Prop} {i : Nat} {oi : Oper} {v : Value} (hip : i < p) (hi : ops[i]? = some oi) (hsel : ∀ (j : Nat) (o : Oper) cs b, ops[j]? = some o → o.op ≠ .select cs b) (hQ : ∀ c a w, Q (.panic c) (a.put oi.dst v) w → Q (.panic c) a w) :
    ∀ (fuel : Nat) (listed : Array Bool) (a : Act) (w : World),
      (∀ j oj, ops[j]? = some oj → j ≠ i → listed.getD j true = false → (∀ e ∈ oj.after, Region.binds .any e = true → e.on ≠ i) → oi.apart ops oj = true) →
      i ∈ Region.ready .any ops listed → YieldsR R P ops w oi v a →
      (∀ w', R w w' → wpAnyP R P ops Q p T fuel (listed.setIfInBounds i true) (a.put oi.dst v) w') → wpAnyP R P ops Q p T (fuel + 1) listed a w := by
  have mine : ∀ (fuel : Nat) (listed : Array Bool) (a : Act) (w : World), YieldsR R P ops w oi v a →
      (∀ w', R w w' → wpAnyP R P ops Q p T fuel (listed.setIfInBounds i true) (a.put oi.dst v) w') → wpOp P ops Q i (fun a' w' => R w w' ∧ ∀ w'', R w' w'' → wpAnyP R P ops Q p T fuel (listed.setIfInBounds i true) a' w'') a w :=
    fun fuel listed a w hy H => hy.wpOp G hi (G.refl _) fun w' hw' => ⟨hw', fun w'' hw'' => H w'' (G.trans hw' hw'')⟩
  have other : ∀ {listed : Array Bool} {j : Nat}, j ∈ Region.ready .any ops listed → j ≠ i → (listed.setIfInBounds i true).getD j false = false := fun hj hji => by
    rw [getD_set_ne false (Ne.symm hji)]; exact unlisted (mem_ready.1 hj).1
  intro fuel
  induction fuel with
  | zero =>
    intro listed a w _ hr hy H
    refine .inr ⟨⟨i, hr, hip⟩, fun j hj hjp => ?_⟩
    by_cases hji : j = i
    · subst hji; exact mine 0 listed a w hy H
    · have h1 := (H w (G.refl _)).1 j hjp
      rw [other hj hji] at h1
      cases h1
  | succ fuel ih =>
    intro listed a w hfree hr hy H
    refine .inr ⟨⟨i, hr, hip⟩, fun j hj hjp => ?_⟩
    by_cases hji : j = i
    · subst hji; exact mine (fuel + 1) listed a w hy H
    · have h1 : wpOp P ops Q j (fun a' w' => R w w' ∧ ∀ w'', R w' w'' → wpAnyP R P ops Q p T fuel ((listed.setIfInBounds i true).setIfInBounds j true) a' w'') (a.put oi.dst v) w := by
        rcases H w (G.refl _) with ⟨h1, -⟩ | ⟨-, h1⟩
        · have := h1 j hjp
          rw [other hj hji] at this
          cases this
        · exact h1 j (ready_mono hj hji) hjp
      obtain ⟨hjun, oj, hoj, hall⟩ := mem_ready.1 hj
      have hnot : ∀ e ∈ oj.after, Region.binds .any e = true → e.on ≠ i := by
        intro e he hb heq
        have g1 := hall e he hb
        have g0 := unlisted (mem_ready.1 hr).1
        rw [heq, g0] at g1
        cases g1
      have h2 := wpOp_past hoj (hfree j oj hoj hji hjun hnot) (fun cs b => hsel i oi cs b hi) (fun cs b => hsel j oj cs b hoj) hQ h1
      have hfree' : ∀ k ok, ops[k]? = some ok → k ≠ i → (listed.setIfInBounds j true).getD k true = false →
          (∀ e ∈ ok.after, Region.binds .any e = true → e.on ≠ i) → oi.apart ops ok = true := by
        intro k ok hk hki hun hno
        refine hfree k ok hk hki ?_ hno
        by_cases hjk : j = k
        · subst hjk; exact hjun
        · rw [getD_set_ne true hjk] at hun; exact hun
      refine wpOp_mono (fun a' w' h3 => ?_) h2
      obtain ⟨ha, hx, hK⟩ := h3
      refine ⟨hx, fun w'' hw'' => ih (listed.setIfInBounds j true) a' w'' hfree' (ready_mono hr (Ne.symm hji)) ((hy.alike ha).ext G (G.trans hx hw'')) fun w3 hw3 => ?_⟩
      have := hK w3 (G.trans hw'' hw3)
      rw [Array.setIfInBounds_comm _ _ hji]
      exact this

/-- the walk in the order of the text; R: the relation of this stretch, p: where it ends, W: the world that all of the stretch have grown out of -/
def wpW (P : Program) (ops : Array Oper) (Q : Exit → Act → World → Prop) : (World → World → Prop) → Nat → Nat → List Oper → Act → World → Prop
  | R, p, k, [], a, W => p = k ∧ ∀ w, R W w → Q .normal a w
  | R, p, k, o :: rest, a, W =>
    (Region.wanted o (yielded ops a.tmps) = false ∧ k < p ∧ wpW P ops Q R p (k + 1) rest (a.put o.dst undef) W) ∨
    (Region.wanted o (yielded ops a.tmps) = true ∧ k < p ∧ ∃ v, (∀ w, R W w → o.quietAt P a (fun w' => R w w') w v) ∧ wpW P ops Q R p (k + 1) rest (a.put o.dst v) W) ∨
    (Region.wanted o (yielded ops a.tmps) = true ∧ k < p ∧ Region.ready .any ops (headOf ops.size k) = [k] ∧ ∀ w, R W w → o.wp P a w (fun a' w' => R w w' ∧ wpW P ops Q R p (k + 1) rest a' w') Q) ∨
    (Region.wanted o (yielded ops a.tmps) = true ∧ k = p ∧ Region.ready .any ops (headOf ops.size k) = [k] ∧ ∀ w, R W w → o.wp P a w (fun a' w' => ∃ R' p', Goes R' ∧ segB ops p' = true ∧ wpW P ops Q R' p' (k + 1) rest a' w') Q)

theorem wpW_le : ∀ {R : World → World → Prop} {p k : Nat} {l : List Oper} {a : Act} {W : World}, wpW P ops Q R p k l a W → k ≤ p
  | _, _, _, [], _, _, h => by unfold wpW at h; omega
  | _, _, _, _ :: _, _, _, h => by
    unfold wpW at h
    rcases h with h | h | h | h <;> omega

theorem wpAnyP_lex (hsel : Region.noSelect ops = true) (hback : backB ops = true) (hQ : ∀ c a d v w, Q (.panic c) (Act.put a d v) w → Q (.panic c) a w) : ∀ (l : List Oper) (R : World → World → Prop) (p k : Nat) (a : Act) (W : World), Goes R → segB ops p = true → (∀ j, l[j]? = ops[k + j]?) →
    k + l.length = ops.size → Region.lexFrom .any ops l.length k (headOf ops.size k) = true → wpW P ops Q R p k l a W → ∀ w, R W w → wpAnyP R P ops Q p (fun a w => wpAny P .any ops Q (ops.size - p) (headOf ops.size p) a w) (p - k) (headOf ops.size k) a w
  | [], R, p, k, a, W, G, hp, _, hk, hB, h, w, hw => by
    unfold wpW at h
    obtain ⟨rfl, h⟩ := h
    have hk : p = ops.size := by simpa using hk
    rw [Nat.sub_self]
    refine ⟨fun i hi => by rw [headOf_getD]; simp; omega, ?_⟩
    rw [hk, Nat.sub_self]
    subst hk
    exact ⟨by simpa [Region.lexFrom] using hB, h w hw⟩
  | o :: l, R, p, k, a, W, G, hp, hl, hk, hB, h, w, hw => by
    have h0 : ops[k]? = some o := by simpa using (hl 0).symm
    simp only [List.length_cons, Region.lexFrom, Bool.and_eq_true] at hB
    obtain ⟨⟨hr, hf⟩, hB'⟩ := hB
    have hl' : ∀ j, l[j]? = ops[k + 1 + j]? := fun j => by have := hl (j + 1); simpa [Nat.add_assoc, Nat.add_comm 1 j] using this
    have hk' : k + 1 + l.length = ops.size := by simp only [List.length_cons] at hk; omega
    have first : ∀ v, k < p → YieldsR R P ops w o v a → (wpW P ops Q R p (k + 1) l (a.put o.dst v) W) → wpAnyP R P ops Q p (fun a w => wpAny P .any ops Q (ops.size - p) (headOf ops.size p) a w) (p - k) (headOf ops.size k) a w := by
      intro v hkp hy hK
      rw [show p - k = (p - (k + 1)) + 1 by omega]
      exact wpAnyP_first G hkp h0 (Region.noSelect_spec hsel) (fun c a w h => hQ c a _ _ w h) _ _ a w (Region.free_spec h0 hf) (by simpa using hr) hy fun w' hw' => wpAnyP_lex hsel hback hQ l R p (k + 1) _ W G hp hl' hk' hB' hK w' (G.trans hw hw')
    unfold wpW at h
    rcases h with ⟨h1, h2, h3⟩ | ⟨h1, h2, v, h3, h4⟩ | ⟨h1, h2, h3, h4⟩ | ⟨h1, h2, h3, h4⟩
    · exact first undef h2 (.inr ⟨h1, rfl⟩) h3
    · exact first v h2 (.inl ⟨h1, fun w1 hw1 => h3 w1 (G.trans hw hw1)⟩) h4
    · rw [show p - k = (p - (k + 1)) + 1 by omega]
      refine .inr ⟨⟨k, by rw [h3]; simp, h2⟩, fun i hi _ => ?_⟩
      rw [h3] at hi
      have hik : i = k := by simpa using hi
      subst hik
      unfold wpOp
      simp only [h0]
      rw [if_pos h1]
      refine .inl (Oper.wp_mono (fun a' w' h => ?_) (h4 w hw))
      exact ⟨h.1, fun w'' hw'' => wpAnyP_lex hsel hback hQ l R p (i + 1) a' w' G hp hl' hk' hB' h.2 w'' hw''⟩
    · subst h2
      rw [Nat.sub_self]
      refine ⟨fun i hi => by rw [headOf_getD, if_pos (by omega)]; simpa using hi, ?_⟩
      rw [show ops.size - k = l.length + 1 by omega]
      refine ⟨fun e => (by rw [h3] at e; cases e), fun i hi => ?_⟩
      rw [h3] at hi
      have hik : i = k := by simpa using hi
      subst hik
      unfold wpOp
      simp only [h0]
      rw [if_pos h1]
      refine .inl (Oper.wp_mono (fun a' w' h => ?_) (h4 w hw))
      obtain ⟨R', p', G', hp', hW⟩ := h
      have hle := wpW_le hW
      have hps := segB_le hp'
      have key := wpAny_of_P G' hp' (fun _ _ h => h) _ _ a' w' (Upto.head hback hle) (wpAnyP_lex hsel hback hQ l R' p' (i + 1) a' w' G' hp' hl' hk' hB' hW w' (G'.refl _))
      rw [show p' - (i + 1) + (ops.size - p') = l.length by omega] at key
      exact key

theorem wp_region_W (R : World → World → Prop) (p : Nat) (G : Goes R) {id : Nat} {a : Act} {w : World} {l : List Oper} (hm : P.follows .mixedOrders = true) (hB : (Region.lexB .any l.toArray && backB l.toArray && segB l.toArray p) = true) (hQ : ∀ c a d v w, Q (.panic c) (Act.put a d v) w → Q (.panic c) a w)
    (h : wpW P l.toArray Q R p 0 l a { w with drawn := w.drawn + 1 }) : (Code.region id l.toArray true).wp P Q a w := by
  simp only [Region.lexB, Bool.and_eq_true] at hB
  obtain ⟨⟨⟨h1, h2⟩, h3⟩, h4⟩ := hB
  refine wp_region_any hm ?_
  have := wpAny_of_P G h4 (fun _ _ h => h) _ _ a { w with drawn := w.drawn + 1 } (Upto.head (k := 0) h3 (Nat.zero_le _)) (wpAnyP_lex (ops := l.toArray) (Q := Q) (P := P) h1 h3 hQ l R p 0 a _ G h4 (by simp) (by simp) (by simpa [headOf] using h2) h _ (G.refl _))
  have hle := segB_le h4
  rw [show p - 0 + (l.toArray.size - p) = l.toArray.size by omega] at this
  simpa [headOf] using this

/-- the four steps of a walk -/
theorem wpW_skip {p k : Nat} {o : Oper} {rest : List Oper} {a : Act} {W : World} (hk : k < p) (hw : Region.wanted o (yielded ops a.tmps) = false) (h : wpW P ops Q R p (k + 1) rest (a.put o.dst undef) W) : wpW P ops Q R p k (o :: rest) a W := by
  unfold wpW
  exact .inl ⟨hw, hk, h⟩
theorem wpW_want {p k : Nat} {o : Oper} {rest : List Oper} {a : Act} {W : World} {v : Value} (hk : k < p) (hw : Region.wanted o (yielded ops a.tmps) = true) (hq : ∀ w, R W w → o.quietAt P a (fun w' => R w w') w v) (h : wpW P ops Q R p (k + 1) rest (a.put o.dst v) W) : wpW P ops Q R p k (o :: rest) a W := by
  unfold wpW
  exact .inr (.inl ⟨hw, hk, v, hq, h⟩)
theorem wpW_end {k : Nat} {a : Act} {W : World} (h : ∀ w, R W w → Q .normal a w) : wpW P ops Q R k k [] a W := by
  unfold wpW
  exact ⟨rfl, h⟩
end
/-- nothing but what was drawn -/
def Drawn (a b : World) : Prop := ∃ m, b = a.drewN m
theorem Drawn.ext {a b : World} (h : Drawn a b) : Ext a b := by obtain ⟨m, rfl⟩ := h; exact Ext.drewN (Below.refl _ _) m
theorem goes_ext : Goes Ext := ⟨fun w => Below.refl _ w, Ext.trans, fun w => Ext.drew (Below.refl _ w)⟩
theorem ext_base {w w' : World} (h : Ext { w with drawn := w.drawn + 1 } w') : Ext w w' := (Ext.drew (Below.refl w.heap.size w)).trans h
end Go.Proofs.Ytapoedcmhdlpfaa
namespace Go.Proofs.Ytapoedcmhdlpfaa
open Go.ChangeShapes Go.WideShapes Go.ChangeAt Go.RowKit
section
variable {P : Program} {ops : Array Oper} {Q : Exit → Act → World → Prop} {R : World → World → Prop}
/-- whatever comes up next, and so on to the end -/
def An (P : Program) (ops : Array Oper) (Q : Exit → Act → World → Prop) (L : Array Bool) (a : Act) (w : World) : Prop :=
  ∃ I : Array Bool → Act → World → Prop, I L a w ∧ ∀ L a w, I L a w → (Region.ready .any ops L = [] → Q .normal a w) ∧ ∀ i ∈ Region.ready .any ops L, wpOp P ops Q i (I (L.setIfInBounds i true)) a w
theorem An.step {L : Array Bool} {a : Act} {w : World} (h : An P ops Q L a w) : (Region.ready .any ops L = [] → Q .normal a w) ∧ ∀ i ∈ Region.ready .any ops L, wpOp P ops Q i (An P ops Q (L.setIfInBounds i true)) a w := by
  obtain ⟨I, h0, hI⟩ := h
  exact ⟨(hI L a w h0).1, fun i hi => wpOp_mono (fun a' w' h' => ⟨I, h', hI⟩) ((hI L a w h0).2 i hi)⟩
theorem An.mk {L : Array Bool} {a : Act} {w : World} (h : (Region.ready .any ops L = [] → Q .normal a w) ∧ ∀ i ∈ Region.ready .any ops L, wpOp P ops Q i (An P ops Q (L.setIfInBounds i true)) a w) : An P ops Q L a w := by
  refine ⟨fun L' a' w' => An P ops Q L' a' w' ∨ (L' = L ∧ a' = a ∧ w' = w), .inr ⟨rfl, rfl, rfl⟩, fun L' a' w' h' => ?_⟩
  have key : (Region.ready .any ops L' = [] → Q .normal a' w') ∧ ∀ i ∈ Region.ready .any ops L', wpOp P ops Q i (An P ops Q (L'.setIfInBounds i true)) a' w' := by
    rcases h' with h' | ⟨rfl, rfl, rfl⟩
    · exact h'.step
    · exact h
  exact ⟨key.1, fun i hi => wpOp_mono (fun _ _ => .inl) (key.2 i hi)⟩
theorem An.done {L : Array Bool} {a : Act} {w : World} (hr : Region.ready .any ops L = []) (h : Q .normal a w) : An P ops Q L a w :=
  An.mk ⟨fun _ => h, fun i hi => by rw [hr] at hi; cases hi⟩
/-- one alone can come up -/
theorem An.one {L : Array Bool} {a : Act} {w : World} {i : Nat} {o : Oper} (ho : ops[i]? = some o) (hr : Region.ready .any ops L = [i]) (hw : Region.wanted o (yielded ops a.tmps) = true)
    (h : ∀ K : Act → World → Prop, (∀ a' w', An P ops Q (L.setIfInBounds i true) a' w' → K a' w') → o.wp P a w K Q) : An P ops Q L a w := by
  refine An.mk ⟨fun e => (by rw [hr] at e; cases e), fun j hj => ?_⟩
  rw [hr] at hj
  obtain rfl : j = i := by simpa using hj
  unfold wpOp
  simp only [ho]
  rw [if_pos hw]
  exact .inl (h _ fun _ _ h => h)
/-- one or the other -/
theorem An.two {L : Array Bool} {a : Act} {w : World} {i j : Nat} {o : Oper} (ho : ops[i]? = some o) (hr : Region.ready .any ops L = [i, j]) (hw : Region.wanted o (yielded ops a.tmps) = true)
    (h : ∀ K : Act → World → Prop, (∀ a' w', An P ops Q (L.setIfInBounds i true) a' w' → K a' w') → o.wp P a w K Q) (h2 : wpOp P ops Q j (An P ops Q (L.setIfInBounds j true)) a w) : An P ops Q L a w := by
  refine An.mk ⟨fun e => (by rw [hr] at e; cases e), fun k hk => ?_⟩
  rw [hr] at hk
  rcases (by simpa using hk : k = i ∨ k = j) with rfl | rfl
  · unfold wpOp
    simp only [ho]
    rw [if_pos hw]
    exact .inl (h _ fun _ _ h => h)
  · exact h2

/-- what hangs on no world may be taken first -/
theorem An.take {i : Nat} {oi : Oper} {v : Value} {L : Array Bool} {a : Act} {w : World} (hi : ops[i]? = some oi) (hB : (Region.noSelect ops && (Region.ready .any ops L).contains i && Region.free .any ops L i) = true)
    (hQ : ∀ c a d v w, Q (.panic c) (Act.put a d v) w → Q (.panic c) a w) (hy : (Region.wanted oi (yielded ops a.tmps) = true ∧ ∀ w, (execOp a.eval oi).run P w = .ok (.value v) w) ∨ (Region.wanted oi (yielded ops a.tmps) = false ∧ v = undef))
    (h : An P ops Q (L.setIfInBounds i true) (a.put oi.dst v) w) : An P ops Q L a w := by
  simp only [Bool.and_eq_true] at hB
  obtain ⟨⟨hsel, hr⟩, hf⟩ := hB
  have hr : i ∈ Region.ready .any ops L := by simpa using hr
  have hfree := Region.free_spec hi hf
  refine ⟨fun L a w => An P ops Q L a w ∨ ((∀ j oj, ops[j]? = some oj → j ≠ i → L.getD j true = false → (∀ e ∈ oj.after, Region.binds .any e = true → e.on ≠ i) → oi.apart ops oj = true) ∧ i ∈ Region.ready .any ops L ∧ Yields P ops oi v a ∧ An P ops Q (L.setIfInBounds i true) (a.put oi.dst v) w), .inr ⟨hfree, hr, hy, h⟩, ?_⟩
  rintro L a w (h | ⟨hfree, hr, hy, H⟩)
  · exact ⟨h.step.1, fun i hi => wpOp_mono (fun _ _ => .inl) (h.step.2 i hi)⟩
  · refine ⟨fun e => (by rw [e] at hr; cases hr), fun j hj => ?_⟩
    by_cases hji : j = i
    · subst hji; exact hy.wpOp hi (.inl H)
    · obtain ⟨hjun, oj, hoj, hall⟩ := mem_ready.1 hj
      have hnot : ∀ e ∈ oj.after, Region.binds .any e = true → e.on ≠ i := by
        intro e he hb heq
        have g1 := hall e he hb
        have g0 := unlisted (mem_ready.1 hr).1
        rw [heq, g0] at g1
        cases g1
      have h1 := H.step.2 j (ready_mono hj hji)
      have h2 := wpOp_put hoj (hfree j oj hoj hji hjun hnot) (fun cs b => Region.noSelect_spec hsel i oi cs b hi) (fun cs b => Region.noSelect_spec hsel j oj cs b hoj) (fun c a w => hQ c a _ _ w) hy h1
      have hfree' : ∀ k ok, ops[k]? = some ok → k ≠ i → (L.setIfInBounds j true).getD k true = false →
          (∀ e ∈ ok.after, Region.binds .any e = true → e.on ≠ i) → oi.apart ops ok = true := by
        intro k ok hk hki hun hno
        refine hfree k ok hk hki ?_ hno
        by_cases hjk : j = k
        · subst hjk; exact hjun
        · rw [getD_set_ne true hjk] at hun; exact hun
      refine wpOp_mono (fun a' w' h3 => .inr ⟨hfree', ready_mono hr (Ne.symm hji), h3.1, ?_⟩) h2
      rw [Array.setIfInBounds_comm _ _ hji]
      exact h3.2

/-- how many have not come up -/
def left (n : Nat) (L : Array Bool) : Nat := (List.range n).countP fun i => !L.getD i true
theorem countP_set (n : Nat) {L : Array Bool} {i : Nat} (hi : i < n) (h : L.getD i true = false) : (List.range n).countP (fun k => !(L.setIfInBounds i true).getD k true) + 1 = (List.range n).countP fun k => !L.getD k true := by
  induction n with
  | zero => omega
  | succ n ih =>
    rw [List.range_succ, List.countP_append, List.countP_append]
    have hs : i < L.size := by
      rcases Nat.lt_or_ge i L.size with h' | h'
      · exact h'
      · simp [Array.getElem?_eq_none h'] at h
    by_cases hin : i = n
    · subst hin
      have e1 : (List.range i).countP (fun k => !(L.setIfInBounds i true).getD k true) = (List.range i).countP fun k => !L.getD k true := by
        apply List.countP_congr
        intro k hk
        have hki : i ≠ k := by have := List.mem_range.1 hk; omega
        rw [getD_set_ne true hki]
      rw [e1]
      have h2 : (L.setIfInBounds i true).getD i true = true := by simp [hs]
      simp only [List.countP_singleton, h2, h]
      simp
    · have := ih (by omega)
      have h2 : (L.setIfInBounds i true).getD n true = L.getD n true := getD_set_ne true hin
      simp only [List.countP_singleton, h2]
      omega
theorem ready_nil {L : Array Bool} (h : left ops.size L = 0) : Region.ready .any ops L = [] := by
  cases hr : Region.ready .any ops L with
  | nil => rfl
  | cons i r =>
    have hi : i ∈ Region.ready .any ops L := by rw [hr]; simp
    obtain ⟨h0, o, ho, -⟩ := mem_ready.1 hi
    have hlt := (Array.getElem?_eq_some_iff.1 ho).1
    unfold left at h
    rw [List.countP_eq_zero] at h
    have := h i (List.mem_range.2 hlt)
    rw [h0] at this
    simp at this
theorem left_none (n m : Nat) : m ≤ n → (List.range m).countP (fun i => !(Array.replicate n false).getD i true) = m := by
  intro hm
  have : (List.range m).countP (fun i => !(Array.replicate n false).getD i true) = (List.range m).length := by
    rw [List.countP_eq_length]
    intro i hi
    have := List.mem_range.1 hi
    have h2 : i < n := by omega
    simp [h2]
  rw [this, List.length_range]
/-! ### a stretch -/
def setAll (L : Array Bool) : List Nat → Array Bool
  | [] => L
  | i :: S => setAll (L.setIfInBounds i true) S

/-- one of the stretch S, or the one beside it -/
def allowed (S : List Nat) (z : Option Nat) (j : Nat) : Prop := j ∈ S ∨ z = some j
/-- the stretch is over -/
def Over (S : List Nat) (L : Array Bool) : Prop := ∀ i ∈ S, L.getD i true = true
/-- in whatever order those of the stretch come up, and the one beside it; in whatever world has grown out of the one behind each; then T -/
def AnS (R : World → World → Prop) (P : Program) (ops : Array Oper) (Q : Exit → Act → World → Prop) (S : List Nat) (z : Option Nat) (T : Array Bool → Act → World → Prop) (L : Array Bool) (a : Act) (w : World) : Prop :=
  ∃ I : Array Bool → Act → World → Prop, I L a w ∧ ∀ L a w, I L a w → (Over S L ∧ T L a w) ∨
    ((∃ i, i ∈ Region.ready .any ops L ∧ i ∈ S) ∧ ∀ j, j ∈ Region.ready .any ops L → allowed S z j → wpOp P ops Q j (fun a' w' => R w w' ∧ ∀ w'', R w' w'' → I (L.setIfInBounds j true) a' w'') a w)
variable {S : List Nat} {z : Option Nat} {T : Array Bool → Act → World → Prop}
theorem AnS.step {L : Array Bool} {a : Act} {w : World} (h : AnS R P ops Q S z T L a w) : (Over S L ∧ T L a w) ∨
    ((∃ i, i ∈ Region.ready .any ops L ∧ i ∈ S) ∧ ∀ j, j ∈ Region.ready .any ops L → allowed S z j → wpOp P ops Q j (fun a' w' => R w w' ∧ ∀ w'', R w' w'' → AnS R P ops Q S z T (L.setIfInBounds j true) a' w'') a w) := by
  obtain ⟨I, h0, hI⟩ := h
  rcases hI L a w h0 with h | ⟨h1, h2⟩
  · exact .inl h
  · exact .inr ⟨h1, fun j hj hal => wpOp_mono (fun a' w' h' => ⟨h'.1, fun w'' hw => ⟨I, h'.2 w'' hw, hI⟩⟩) (h2 j hj hal)⟩
theorem AnS.over {L : Array Bool} {a : Act} {w : World} (h1 : Over S L) (h2 : T L a w) : AnS R P ops Q S z T L a w :=
  ⟨fun L a w => Over S L ∧ T L a w, ⟨h1, h2⟩, fun _ _ _ h => .inl h⟩

theorem Over.set {L : Array Bool} {j : Nat} (h : Over S L) : Over S (L.setIfInBounds j true) := fun i hi => by
  by_cases hij : j = i
  · subst hij
    rcases Nat.lt_or_ge j L.size with h1 | h1
    · simp [h1]
    · simp []
  · rw [getD_set_ne true hij]; exact h i hi

/-- what T must abide: that the one beside the stretch comes up later -/
def Later (R : World → World → Prop) (P : Program) (ops : Array Oper) (Q : Exit → Act → World → Prop) (z : Option Nat) (T : Array Bool → Act → World → Prop) : Prop :=
  ∀ L a w j, T L a w → z = some j → j ∈ Region.ready .any ops L → wpOp P ops Q j (fun a' w' => R w w' ∧ ∀ w'', R w' w'' → T (L.setIfInBounds j true) a' w'') a w

theorem AnS_first (G : Goes R) (hT : Later R P ops Q z T) {i : Nat} {oi : Oper} {v : Value} {L : Array Bool} {a : Act} {w : World} (hiS : i ∈ S) (hi : ops[i]? = some oi) (hsel : ∀ (j : Nat) (o : Oper) cs b, ops[j]? = some o → o.op ≠ .select cs b) (hQ : ∀ c a w, Q (.panic c) (a.put oi.dst v) w → Q (.panic c) a w)
    (hfree : ∀ j oj, ops[j]? = some oj → j ≠ i → L.getD j true = false → (∀ e ∈ oj.after, Region.binds .any e = true → e.on ≠ i) → oi.apart ops oj = true)
    (hr : i ∈ Region.ready .any ops L) (hy : YieldsR R P ops w oi v a)
    (H : ∀ w', R w w' → AnS R P ops Q S z T (L.setIfInBounds i true) (a.put oi.dst v) w') : AnS R P ops Q S z T L a w := by
  refine ⟨fun L a w => AnS R P ops Q S z T L a w ∨ ((∀ j oj, ops[j]? = some oj → j ≠ i → L.getD j true = false → (∀ e ∈ oj.after, Region.binds .any e = true → e.on ≠ i) → oi.apart ops oj = true) ∧ i ∈ Region.ready .any ops L ∧ YieldsR R P ops w oi v a ∧ ∀ w', R w w' → AnS R P ops Q S z T (L.setIfInBounds i true) (a.put oi.dst v) w'), .inr ⟨hfree, hr, hy, H⟩, ?_⟩
  rintro L a w (h | ⟨hfree, hr, hy, H⟩)
  · rcases h.step with h | ⟨h1, h2⟩
    · exact .inl h
    · exact .inr ⟨h1, fun j hj hal => wpOp_mono (fun a' w' h' => ⟨h'.1, fun w'' hw => .inl (h'.2 w'' hw)⟩) (h2 j hj hal)⟩
  · refine .inr ⟨⟨i, hr, hiS⟩, fun j hj hal => ?_⟩
    by_cases hji : j = i
    · subst hji
      exact hy.wpOp G hi (G.refl _) fun w' hw' => ⟨hw', fun w'' hw'' => .inl (H w'' (G.trans hw' hw''))⟩
    · obtain ⟨hjun, oj, hoj, hall⟩ := mem_ready.1 hj
      have hnot : ∀ e ∈ oj.after, Region.binds .any e = true → e.on ≠ i := by
        intro e he hb heq
        have g1 := hall e he hb
        have g0 := unlisted (mem_ready.1 hr).1
        rw [heq, g0] at g1
        cases g1
      have h1 : wpOp P ops Q j (fun a' w' => R w w' ∧ ∀ w'', R w' w'' → AnS R P ops Q S z T ((L.setIfInBounds i true).setIfInBounds j true) a' w'') (a.put oi.dst v) w := by
        rcases (H w (G.refl _)).step with ⟨h1, h2⟩ | ⟨-, h1⟩
        · rcases hal with hal | hal
          · have := h1 j hal
            rw [getD_set_ne true (Ne.symm hji), hjun] at this
            cases this
          · exact wpOp_mono (fun a' w' h' => ⟨h'.1, fun w'' hw => AnS.over (Over.set h1) (h'.2 w'' hw)⟩) (hT _ _ _ j h2 hal (ready_mono hj hji))
        · exact h1 j (ready_mono hj hji) hal
      have h2 := wpOp_past hoj (hfree j oj hoj hji hjun hnot) (fun cs b => hsel i oi cs b hi) (fun cs b => hsel j oj cs b hoj) hQ h1
      have hfree' : ∀ k ok, ops[k]? = some ok → k ≠ i → (L.setIfInBounds j true).getD k true = false →
          (∀ e ∈ ok.after, Region.binds .any e = true → e.on ≠ i) → oi.apart ops ok = true := by
        intro k ok hk hki hun hno
        refine hfree k ok hk hki ?_ hno
        by_cases hjk : j = k
        · subst hjk; exact hjun
        · rw [getD_set_ne true hjk] at hun; exact hun
      refine wpOp_mono (fun a' w' h3 => ?_) h2
      obtain ⟨ha, hx, hK⟩ := h3
      refine ⟨hx, fun w'' hw'' => .inr ⟨hfree', ready_mono hr (Ne.symm hji), (hy.alike ha).ext G (G.trans hx hw''), fun w3 hw3 => ?_⟩⟩
      have := hK w3 (G.trans hw'' hw3)
      rw [Array.setIfInBounds_comm _ _ hji]
      exact this

/-- the walk through a stretch in its order -/
def wpS (R : World → World → Prop) (P : Program) (ops : Array Oper) (T : Array Bool → Act → World → Prop) : List Nat → Array Bool → Act → World → Prop
  | [], L, a, W => ∀ w, R W w → T L a w
  | i :: S, L, a, W => ∃ o, ops[i]? = some o ∧
    ((Region.wanted o (yielded ops a.tmps) = false ∧ wpS R P ops T S (L.setIfInBounds i true) (a.put o.dst undef) W) ∨
     (Region.wanted o (yielded ops a.tmps) = true ∧ ∃ v, (∀ w, R W w → o.quietAt P a (fun w' => R w w') w v) ∧ wpS R P ops T S (L.setIfInBounds i true) (a.put o.dst v) W))
def lexS (ops : Array Oper) : List Nat → Array Bool → Bool
  | [], _ => true
  | i :: S, L => (Region.ready .any ops L).contains i && Region.free .any ops L i && lexS ops S (L.setIfInBounds i true)

theorem setAll_true : ∀ (S : List Nat) (L : Array Bool) (i : Nat), (i ∈ S ∨ L.getD i true = true) → (setAll L S).getD i true = true
  | [], L, i, h => by rcases h with h | h; cases h; exact h
  | k :: S, L, i, h => by
    refine setAll_true S _ i ?_
    rcases h with h | h
    · rcases List.mem_cons.1 h with rfl | h
      · right
        rcases Nat.lt_or_ge i L.size with h1 | h1
        · simp [h1]
        · simp []
      · exact .inl h
    · right
      by_cases hk : k = i
      · subst hk
        rcases Nat.lt_or_ge k L.size with h1 | h1
        · simp [h1]
        · simp []
      · rw [getD_set_ne true hk]; exact h

theorem AnS_lex (G : Goes R) (hT : Later R P ops Q z T) (hsel : Region.noSelect ops = true) (hQ : ∀ c a d v w, Q (.panic c) (Act.put a d v) w → Q (.panic c) a w) : ∀ (S' : List Nat) (L : Array Bool) (a : Act) (W : World), (∀ i ∈ S', i ∈ S) → (∀ i ∈ S, i ∈ S' ∨ L.getD i true = true) →
    lexS ops S' L = true → wpS R P ops T S' L a W → ∀ w, R W w → AnS R P ops Q S z T L a w
  | [], L, a, W, _, hall, _, h, w, hw => AnS.over (fun i hi => (hall i hi).resolve_left (by simp)) (h w hw)
  | i :: S', L, a, W, hsub, hall, hB, h, w, hw => by
    simp only [lexS, Bool.and_eq_true] at hB
    obtain ⟨⟨hr, hf⟩, hB'⟩ := hB
    obtain ⟨o, h0, h⟩ := h
    have hall' : ∀ j ∈ S, j ∈ S' ∨ (L.setIfInBounds i true).getD j true = true := by
      intro j hj
      rcases hall j hj with h | h
      · rcases List.mem_cons.1 h with rfl | h
        · right
          rcases Nat.lt_or_ge j L.size with h1 | h1
          · simp [h1]
          · simp []
        · exact .inl h
      · right
        by_cases hk : i = j
        · subst hk
          rcases Nat.lt_or_ge i L.size with h1 | h1
          · simp [h1]
          · simp []
        · rw [getD_set_ne true hk]; exact h
    have first : ∀ v, YieldsR R P ops w o v a → wpS R P ops T S' (L.setIfInBounds i true) (a.put o.dst v) W → AnS R P ops Q S z T L a w := fun v hy hK =>
      AnS_first G hT (hsub i (by simp)) h0 (Region.noSelect_spec hsel) (fun c a w h => hQ c a _ _ w h) (Region.free_spec h0 hf) (by simpa using hr) hy fun w' hw' =>
        AnS_lex G hT hsel hQ S' _ _ W (fun j hj => hsub j (by simp [hj])) hall' hB' hK w' (G.trans hw hw')
    rcases h with ⟨h1, h2⟩ | ⟨h1, v, h2, h3⟩
    · exact first undef (.inr ⟨h1, rfl⟩) h2
    · exact first v (.inl ⟨h1, fun w1 hw1 => h2 w1 (G.trans hw hw1)⟩) h3

/-! ### out of a stretch -/
/-- what has come up bears what it hangs on -/
def ClosedL (ops : Array Oper) (L : Array Bool) : Prop := L.size = ops.size ∧ ∀ j o, ops[j]? = some o → L.getD j false = true → ∀ e ∈ o.after, Region.binds .any e = true → L.getD e.on false = true
def closedB (ops : Array Oper) (L : Array Bool) : Bool := L.size == ops.size && (List.range ops.size).all fun j => !L.getD j false || ((ops[j]?).map fun o => o.after.all fun e => !Region.binds .any e || L.getD e.on false).getD true
theorem closedB_spec {L : Array Bool} (h : closedB ops L = true) : ClosedL ops L := by
  unfold closedB at h
  rw [Bool.and_eq_true, List.all_eq_true] at h
  refine ⟨by simpa using h.1, fun j o ho hj e he hb => ?_⟩
  have h1 := h.2 j (List.mem_range.2 (Array.getElem?_eq_some_iff.1 ho).1)
  simp only [hj, ho, Option.map_some, Option.getD_some, Bool.not_true, Bool.false_or, Array.all_eq_true_iff_forall_mem] at h1
  have := h1 e he
  simpa [hb] using this
theorem ClosedL.set {L : Array Bool} (h : ClosedL ops L) {j : Nat} (hj : j ∈ Region.ready .any ops L) : ClosedL ops (L.setIfInBounds j true) := by
  obtain ⟨hj0, oj, hoj, hall⟩ := mem_ready.1 hj
  refine ⟨by simp [h.1], fun k o ho hk e he hb => ?_⟩
  by_cases hjk : j = k
  · subst hjk
    rw [hoj] at ho
    injection ho with ho
    subst ho
    exact getD_set_true (hall e he hb)
  · rw [getD_set_ne false hjk] at hk
    exact getD_set_true (h.2 k o ho hk e he hb)
/-- S hangs together: each is wanted by a later one of S, or by all of E -/
def tiedB (ops : Array Oper) (E : List Nat) : List Nat → Bool
  | [] => true
  | i :: S => (S.any (fun s => dependsB ops s i) || E.all fun j => dependsB ops j i) && tiedB ops E S
theorem tied_listed {E : List Nat} {L : Array Bool} (hc : ClosedL ops L) {j : Nat} (hj : j ∈ Region.ready .any ops L) (hjE : j ∈ E) : ∀ (S : List Nat), tiedB ops E S = true → ∀ i ∈ S, L.getD i false = true
  | [], _, _, h => by cases h
  | k :: S, h, i, hi => by
    simp only [tiedB, Bool.and_eq_true, Bool.or_eq_true] at h
    have ih := tied_listed hc hj hjE S h.2
    rcases List.mem_cons.1 hi with rfl | hi
    · rcases h.1 with h1 | h1
      · rw [List.any_eq_true] at h1
        obtain ⟨s, hs, hd⟩ := h1
        obtain ⟨o, ho, e, he, hb, rfl⟩ := dependsB_spec hd
        exact hc.2 s o ho (ih s hs) e he hb
      · rw [List.all_eq_true] at h1
        obtain ⟨o, ho, e, he, hb, rfl⟩ := dependsB_spec (h1 j hjE)
        obtain ⟨-, o', ho', hall⟩ := mem_ready.1 hj
        rw [ho] at ho'
        injection ho' with ho'
        subst ho'
        exact hall e he hb
    · exact ih i hi
theorem ready_le {L M : Array Bool} (_hs : L.size = M.size) (hle : ∀ i, L.getD i false = true → M.getD i false = true) {j : Nat} (hj : j ∈ Region.ready .any ops L) (hun : M.getD j true = false) : j ∈ Region.ready .any ops M := by
  obtain ⟨-, o, ho, hall⟩ := mem_ready.1 hj
  exact mem_ready.2 ⟨hun, o, ho, fun e he hb => hle _ (hall e he hb)⟩

/-- the stretch S beside z leads from L: all behind it waits for all of S -/
def stretchB (ops : Array Oper) (S : List Nat) (z : Option Nat) (L : Array Bool) : Bool :=
  Region.noSelect ops && closedB ops L && lexS ops S L && (let M := setAll (setAll L S) z.toList; tiedB ops (Region.ready .any ops M) S)

theorem getD_of {L : Array Bool} {i : Nat} : (L.getD i false = true ↔ i < L.size ∧ L.getD i true = true) := by
  rcases Nat.lt_or_ge i L.size with h | h
  · simp [h]
  · simp [Array.getElem?_eq_none h]; omega

theorem An_of_stretch (G : Goes R) {L0 : Array Bool} (hB : stretchB ops S z L0 = true) (hTA : ∀ L a w, T L a w → An P ops Q L a w) :
    ∀ L a w, ClosedL ops L → (∀ i, L.getD i false = true → (setAll (setAll L0 S) z.toList).getD i true = true) → (∀ i, L0.getD i false = true → L.getD i false = true) → AnS R P ops Q S z T L a w → An P ops Q L a w := by
  simp only [stretchB, Bool.and_eq_true] at hB
  obtain ⟨⟨⟨hsel, hcl⟩, hlex⟩, htied⟩ := hB
  intro L a w hc hle hge h
  refine ⟨fun L a w => An P ops Q L a w ∨ (ClosedL ops L ∧ (∀ i, L.getD i false = true → (setAll (setAll L0 S) z.toList).getD i true = true) ∧ (∀ i, L0.getD i false = true → L.getD i false = true) ∧ AnS R P ops Q S z T L a w), .inr ⟨hc, hle, hge, h⟩, ?_⟩
  rintro L a w (h | ⟨hc, hle, hge, h⟩)
  · exact ⟨h.step.1, fun i hi => wpOp_mono (fun _ _ => .inl) (h.step.2 i hi)⟩
  · rcases h.step with ⟨-, h⟩ | ⟨⟨i, hi, hiS⟩, h⟩
    · have := (hTA _ _ _ h).step
      exact ⟨this.1, fun i hi => wpOp_mono (fun _ _ => .inl) (this.2 i hi)⟩
    · refine ⟨fun e => (by rw [e] at hi; cases hi), fun j hj => ?_⟩
      have hal : allowed S z j := by
        by_cases hjS : j ∈ S
        · exact .inl hjS
        · by_cases hz : z = some j
          · exact .inr hz
          · exfalso
            obtain ⟨hj0, oj, hoj, -⟩ := mem_ready.1 hj
            have hjs := (Array.getElem?_eq_some_iff.1 hoj).1
            have hsz : ∀ (S : List Nat) (L : Array Bool), (setAll L S).size = L.size := by
              intro S
              induction S with
              | nil => intro L; rfl
              | cons k S ih => intro L; simp [setAll, ih]
            have hMs : (setAll (setAll L0 S) z.toList).size = ops.size := by rw [hsz, hsz]; exact (closedB_spec hcl).1
            have hother : ∀ (S : List Nat) (L : Array Bool) (j : Nat), j ∉ S → (setAll L S).getD j true = L.getD j true := by
              intro S
              induction S with
              | nil => intro L j _; rfl
              | cons k S ih =>
                intro L j hj
                simp only [setAll]
                rw [ih _ _ (fun h => hj (by simp [h])), getD_set_ne true (fun e => hj (by simp [e]))]
            by_cases hM : (setAll (setAll L0 S) z.toList).getD j true = true
            · rw [hother _ _ _ (by cases z with | none => simp | some k => simp only [Option.toList, List.mem_singleton]; intro e; exact hz (by rw [e])), hother _ _ _ hjS] at hM
              have h1 := hge j (getD_of.2 ⟨by rw [(closedB_spec hcl).1]; exact hjs, hM⟩)
              rw [unlisted hj0] at h1
              cases h1
            · have hjM : j ∈ Region.ready .any ops (setAll (setAll L0 S) z.toList) := by
                refine ready_le (by rw [hc.1, hMs]) (fun i hi => ?_) hj (by simpa using hM)
                rw [getD_of]
                refine ⟨?_, hle i hi⟩
                rw [hMs, ← hc.1]
                exact (getD_of.1 hi).1
              have := tied_listed hc hj hjM S htied i hiS
              rw [unlisted (mem_ready.1 hi).1] at this
              cases this
      refine wpOp_mono (fun a' w' h' => .inr ⟨hc.set hj, fun k hk => ?_, fun k hk => getD_set_true (hge k hk), h'.2 w' (G.refl _)⟩) (h j hj hal)
      by_cases hjk : j = k
      · subst hjk
        rcases hal with hal | hal
        · exact setAll_true _ _ _ (.inr (setAll_true _ _ _ (.inl hal)))
        · exact setAll_true _ _ _ (.inl (by simp [hal]))
      · rw [getD_set_ne false hjk] at hk; exact hle k hk

theorem An.stretch (G : Goes R) {L : Array Bool} {a : Act} {w : World} (hB : stretchB ops S z L = true) (hT : Later R P ops Q z T) (hTA : ∀ L a w, T L a w → An P ops Q L a w) (hQ : ∀ c a d v w, Q (.panic c) (Act.put a d v) w → Q (.panic c) a w)
    (h : wpS R P ops T S L a w) : An P ops Q L a w := by
  have hB' := hB
  simp only [stretchB, Bool.and_eq_true] at hB'
  obtain ⟨⟨⟨hsel, hcl⟩, hlex⟩, -⟩ := hB'
  exact An_of_stretch G hB hTA L a w (closedB_spec hcl) (fun i hi => setAll_true _ _ _ (.inr (setAll_true _ _ _ (.inr (getD_of.1 hi).2)))) (fun _ h => h) (AnS_lex G hT hsel hQ S L a w (fun _ h => h) (fun _ h => .inl h) hlex h w (G.refl _))
/-- a stretch by itself -/
theorem An.walk (R : World → World → Prop) (S : List Nat) (G : Goes R) {L : Array Bool} {a : Act} {w : World} (hB : stretchB ops S none L = true) (hQ : ∀ c a d v w, Q (.panic c) (Act.put a d v) w → Q (.panic c) a w)
    (h : wpS R P ops (An P ops Q) S L a w) : An P ops Q L a w :=
  An.stretch G hB (fun _ _ _ _ _ h => by cases h) (fun _ _ _ h => h) hQ h
/-- behind a stretch, where operation j may have come up beside it, or not yet -/
def Beside (R : World → World → Prop) (P : Program) (ops : Array Oper) (Q : Exit → Act → World → Prop) (j : Nat) (L : Array Bool) (a : Act) (w : World) : Prop :=
  An P ops Q L a w ∧ (j ∈ Region.ready .any ops L → wpOp P ops Q j (fun a' w' => R w w' ∧ ∀ w'', R w' w'' → An P ops Q (L.setIfInBounds j true) a' w'') a w)
/-- both ways behind such a stretch: the stretch's next operation i, or j -/
theorem Beside.mk {L : Array Bool} {a : Act} {w : World} {i j : Nat} {o oj : Oper} (G : Goes R) (ho : ops[i]? = some o) (hoj : ops[j]? = some oj) (hr : Region.ready .any ops L = [i, j]) (hw : Region.wanted o (yielded ops a.tmps) = true) (hwj : Region.wanted oj (yielded ops a.tmps) = true)
    (h : ∀ K : Act → World → Prop, (∀ a' w', An P ops Q (L.setIfInBounds i true) a' w' → K a' w') → o.wp P a w K Q)
    (h2 : ∀ K : Act → World → Prop, (∀ a' w', R w w' → (∀ w'', R w' w'' → An P ops Q (L.setIfInBounds j true) a' w'') → K a' w') → oj.wp P a w K Q) : Beside R P ops Q j L a w := by
  have hj : wpOp P ops Q j (fun a' w' => R w w' ∧ ∀ w'', R w' w'' → An P ops Q (L.setIfInBounds j true) a' w'') a w := by
    unfold wpOp
    simp only [hoj]
    rw [if_pos hwj]
    exact .inl (h2 _ fun _ _ h1 h2 => ⟨h1, h2⟩)
  exact ⟨An.two ho hr hw h (wpOp_mono (fun a' w' h' => h'.2 w' (G.refl _)) hj), fun _ => hj⟩
/-- nothing of the stretch is left, j alone -/
theorem Beside.one {L : Array Bool} {a : Act} {w : World} {j : Nat} {oj : Oper} (G : Goes R) (hoj : ops[j]? = some oj) (hr : Region.ready .any ops L = [j]) (hwj : Region.wanted oj (yielded ops a.tmps) = true)
    (h2 : ∀ K : Act → World → Prop, (∀ a' w', R w w' → (∀ w'', R w' w'' → An P ops Q (L.setIfInBounds j true) a' w'') → K a' w') → oj.wp P a w K Q) : Beside R P ops Q j L a w := by
  have hj : wpOp P ops Q j (fun a' w' => R w w' ∧ ∀ w'', R w' w'' → An P ops Q (L.setIfInBounds j true) a' w'') a w := by
    unfold wpOp
    simp only [hoj]
    rw [if_pos hwj]
    exact .inl (h2 _ fun _ _ h1 h2 => ⟨h1, h2⟩)
  refine ⟨An.mk ⟨fun e => (by rw [hr] at e; cases e), fun k hk => ?_⟩, fun _ => hj⟩
  rw [hr] at hk
  obtain rfl : k = j := by simpa using hk
  exact wpOp_mono (fun a' w' h' => h'.2 w' (G.refl _)) hj

/-- one operation of a stretch, found -/
def St (R : World → World → Prop) (P : Program) (ops : Array Oper) (T : Array Bool → Act → World → Prop) (o : Oper) (S : List Nat) (L : Array Bool) (a : Act) (W : World) : Prop :=
  (Region.wanted o (yielded ops a.tmps) = false ∧ wpS R P ops T S L (a.put o.dst undef) W) ∨
     (Region.wanted o (yielded ops a.tmps) = true ∧ ∃ v, (∀ w, R W w → o.quietAt P a (fun w' => R w w') w v) ∧ wpS R P ops T S L (a.put o.dst v) W)
theorem wpS_open {T : Array Bool → Act → World → Prop} {i : Nat} {S : List Nat} {L : Array Bool} {a : Act} {W : World} {o : Oper} (ho : ops[i]? = some o) (h : St R P ops T o S (L.setIfInBounds i true) a W) : wpS R P ops T (i :: S) L a W := ⟨o, ho, h⟩
theorem St_skip {T : Array Bool → Act → World → Prop} {S : List Nat} {L : Array Bool} {a : Act} {W : World} {o : Oper} (hw : Region.wanted o (yielded ops a.tmps) = false) (h : wpS R P ops T S L (a.put o.dst undef) W) : St R P ops T o S L a W := .inl ⟨hw, h⟩
theorem St_want {T : Array Bool → Act → World → Prop} {S : List Nat} {L : Array Bool} {a : Act} {W : World} {o : Oper} {v : Value} (hw : Region.wanted o (yielded ops a.tmps) = true) (hq : ∀ w, R W w → o.quietAt P a (fun w' => R w w') w v) (h : wpS R P ops T S L (a.put o.dst v) W) : St R P ops T o S L a W := .inr ⟨hw, v, hq, h⟩
theorem wpS_nil {T : Array Bool → Act → World → Prop} {L : Array Bool} {a : Act} {W : World} (h : ∀ w, R W w → T L a w) : wpS R P ops T [] L a W := h
end
end Go.Proofs.Ytapoedcmhdlpfaa
