/- A region that draws its order and whose calls make new memory alone: one walk in the order of the text serves every order. An operation that hands back one value in every world that has grown out of the one at hand may be taken first; one whose value hangs on the world must come up alone. No condition.
A region that draws its order and whose calls change the world within a relation: one walk in the order of the text serves every order; what is skipped is skipped at once. No condition.
A region that draws its order, walked in the order of the text: between calls that all must wait for, a relation of its own for each stretch. No condition.
A region that draws its order, as a game: whatever comes up next; stretches of reads in the order of the text, beside them one operation that may come up at any time. No condition. -/
import Derived.Test.YtnclgkdpafhogaaQi0
import Derived.OrdersHeld
import Derived.Deep.Quiet
namespace Go.Proofs.Ytnclgkdpafhogaa
open Go.ChangeShapes Go.WideShapes Go.ChangeAt Go.RowKit
section
variable {P : Program} {ops : Array Oper} {Q : Exit → Act → World → Prop}
/-- what o looks at stands in both states alike -/
def Alike (ops : Array Oper) (o : Oper) (a a' : Act) : Prop := execOp a'.eval o = execOp a.eval o ∧ Region.wanted o (yielded ops a'.tmps) = Region.wanted o (yielded ops a.tmps)

/-- in every world grown out of W the operation hands back v, and a world grown out of the one that it got -/
def YieldsX (P : Program) (ops : Array Oper) (W : World) (o : Oper) (v : Value) (a : Act) : Prop :=
  (Region.wanted o (yielded ops a.tmps) = true ∧ ∀ w, Ext W w → o.quietAt P a (fun w' => Ext w w') w v) ∨
  (Region.wanted o (yielded ops a.tmps) = false ∧ v = undef)
theorem YieldsX.alike {W : World} {o : Oper} {v : Value} {a a' : Act} (h : YieldsX P ops W o v a) (ha : Alike ops o a a') : YieldsX P ops W o v a' := by
  unfold YieldsX Oper.quietAt at *
  rw [ha.1, ha.2]; exact h
theorem YieldsX.ext {W W' : World} {o : Oper} {v : Value} {a : Act} (h : YieldsX P ops W o v a) (hx : Ext W W') : YieldsX P ops W' o v a :=
  h.imp (fun h => ⟨h.1, fun w hw => h.2 w (hx.trans hw)⟩) id
theorem YieldsX.wpOp {W : World} {i : Nat} {o : Oper} {v : Value} {a : Act} {w : World} (hi : ops[i]? = some o) (hy : YieldsX P ops W o v a) (hw : Ext W w) {K : Act → World → Prop}
    (h : ∀ w', Ext w w' → K (a.put o.dst v) w') : wpOp P ops Q i K a w := by
  unfold Go.wpOp
  simp only [hi]
  rcases hy with ⟨h1, h2⟩ | ⟨h1, rfl⟩
  · rw [if_pos h1]
    have h3 := h2 w hw
    left
    unfold Oper.quietAt at h3
    unfold Oper.wp
    revert h3
    generalize (execOp a.eval o).run P w = r
    intro h3
    match r, h3 with
    | .ok (.value u) w', h3 => obtain ⟨rfl, rfl⟩ := h3; exact h _ (Below.refl _ _)
    | .ok .skip w', h3 => obtain ⟨rfl, rfl⟩ := h3; exact h _ (Below.refl _ _)
    | .ok (.enter f args) w', h3 =>
      obtain ⟨rfl, hc⟩ := h3
      exact Calls.mono hc fun e w'' he => by obtain ⟨rfl, hx⟩ := he; exact h _ hx
    | .ok (.row row args) w', h3 => exact h3.elim
    | .ok (.defer d) w', h3 => exact h3.elim
    | .halt x w', h3 => exact h3.elim
  · rw [if_neg (by simp [h1])]; exact h w (Below.refl _ _)

end
end Go.Proofs.Ytnclgkdpafhogaa
namespace Go.Proofs.Ytnclgkdpafhogaa
open Go.ChangeShapes Go.WideShapes Go.ChangeAt Go.RowKit
/-- a way in which a world may go on -/
structure Goes (R : World → World → Prop) : Prop where
  refl : ∀ w, R w w
  trans : ∀ {a b c}, R a b → R b c → R a c
  drew : ∀ w : World, R w w.drew
section
variable {P : Program} {ops : Array Oper} {Q : Exit → Act → World → Prop} {R : World → World → Prop}
/-- in every world grown out of W the operation hands back v, and a world grown out of the one that it got -/
def YieldsR (R : World → World → Prop) (P : Program) (ops : Array Oper) (W : World) (o : Oper) (v : Value) (a : Act) : Prop :=
  (Region.wanted o (yielded ops a.tmps) = true ∧ ∀ w, R W w → o.quietAt P a (fun w' => R w w') w v) ∨
  (Region.wanted o (yielded ops a.tmps) = false ∧ v = undef)
theorem YieldsR.alike {W : World} {o : Oper} {v : Value} {a a' : Act} (h : YieldsR R P ops W o v a) (ha : Alike ops o a a') : YieldsR R P ops W o v a' := by
  unfold YieldsR Oper.quietAt at *
  rw [ha.1, ha.2]; exact h
theorem YieldsR.ext (G : Goes R) {W W' : World} {o : Oper} {v : Value} {a : Act} (h : YieldsR R P ops W o v a) (hx : R W W') : YieldsR R P ops W' o v a :=
  h.imp (fun h => ⟨h.1, fun w hw => h.2 w (G.trans hx hw)⟩) id
theorem YieldsR.wpOp (G : Goes R) {W : World} {i : Nat} {o : Oper} {v : Value} {a : Act} {w : World} (hi : ops[i]? = some o) (hy : YieldsR R P ops W o v a) (hw : R W w) {K : Act → World → Prop}
    (h : ∀ w', R w w' → K (a.put o.dst v) w') : wpOp P ops Q i K a w := by
  unfold Go.wpOp
  simp only [hi]
  rcases hy with ⟨h1, h2⟩ | ⟨h1, rfl⟩
  · rw [if_pos h1]
    have h3 := h2 w hw
    left
    unfold Oper.quietAt at h3
    unfold Oper.wp
    revert h3
    generalize (execOp a.eval o).run P w = r
    intro h3
    match r, h3 with
    | .ok (.value u) w', h3 => obtain ⟨rfl, rfl⟩ := h3; exact h _ (G.refl _)
    | .ok .skip w', h3 => obtain ⟨rfl, rfl⟩ := h3; exact h _ (G.refl _)
    | .ok (.enter f args) w', h3 =>
      obtain ⟨rfl, hc⟩ := h3
      exact Calls.mono hc fun e w'' he => by obtain ⟨rfl, hx⟩ := he; exact h _ hx
    | .ok (.row row args) w', h3 => exact h3.elim
    | .ok (.defer d) w', h3 => exact h3.elim
    | .halt x w', h3 => exact h3.elim
  · rw [if_neg (by simp [h1])]; exact h w (G.refl _)

end
end Go.Proofs.Ytnclgkdpafhogaa
namespace Go.Proofs.Ytnclgkdpafhogaa
open Go.ChangeShapes Go.WideShapes Go.ChangeAt Go.RowKit
section
variable {P : Program} {ops : Array Oper} {Q : Exit → Act → World → Prop} {R : World → World → Prop}
/-- what has come up bears what it hangs on, nothing from p on has come up -/
structure Upto (ops : Array Oper) (p : Nat) (L : Array Bool) : Prop where
  size : L.size = ops.size
  closed : ∀ j o, ops[j]? = some o → L.getD j false = true → ∀ e ∈ o.after, Region.binds .any e = true → L.getD e.on false = true
  none : ∀ j, p ≤ j → L.getD j false = false

def dependsB (ops : Array Oper) (s i : Nat) : Bool := ((ops[s]?).map fun o => o.after.any fun e => Region.binds .any e && e.on == i).getD false
theorem dependsB_spec {s i : Nat} (h : dependsB ops s i = true) : ∃ o, ops[s]? = some o ∧ ∃ e ∈ o.after, Region.binds .any e = true ∧ e.on = i := by
  unfold dependsB at h
  cases ho : ops[s]? with
  | none => simp [ho] at h
  | some o =>
    simp only [ho, Option.map_some, Option.getD_some] at h
    obtain ⟨e, he, hb⟩ := Array.any_eq_true'.1 h
    simp only [Bool.and_eq_true, beq_iff_eq] at hb
    exact ⟨o, rfl, e, he, hb.1, hb.2⟩
theorem Upto.set {p : Nat} {L : Array Bool} (hU : Upto ops p L) {j : Nat} (hj : j ∈ Region.ready .any ops L) (hjp : j < p) : Upto ops p (L.setIfInBounds j true) := by
  obtain ⟨hj0, oj, hoj, hall⟩ := mem_ready.1 hj
  refine ⟨by simp [hU.size], fun k o ho hk e he hb => ?_, fun k hk => by rw [getD_set_ne false (by omega)]; exact hU.none k hk⟩
  by_cases hjk : j = k
  · subst hjk
    rw [hoj] at ho
    injection ho with ho
    subst ho
    exact getD_set_true (hall e he hb)
  · rw [getD_set_ne false hjk] at hk
    exact getD_set_true (hU.closed k o ho hk e he hb)
theorem unlisted {L : Array Bool} {i : Nat} (h : L.getD i true = false) : L.getD i false = false := by
  rcases Nat.lt_or_ge i L.size with h' | h'
  · simp [h'] at h ⊢; exact h
  · simp [Array.getElem?_eq_none h'] at h

end
/-- nothing but what was drawn -/
def Drawn (a b : World) : Prop := ∃ m, b = a.drewN m
theorem Drawn.ext {a b : World} (h : Drawn a b) : Ext a b := by obtain ⟨m, rfl⟩ := h; exact Ext.drewN (Below.refl _ _) m
theorem goes_ext : Goes Ext := ⟨fun w => Below.refl _ w, Ext.trans, fun w => Ext.drew (Below.refl _ w)⟩
theorem ext_base {w w' : World} (h : Ext { w with drawn := w.drawn + 1 } w') : Ext w w' := (Ext.drew (Below.refl w.heap.size w)).trans h
end Go.Proofs.Ytnclgkdpafhogaa
namespace Go.Proofs.Ytnclgkdpafhogaa
open Go.ChangeShapes Go.WideShapes Go.ChangeAt Go.RowKit
section
variable {P : Program} {ops : Array Oper} {Q : Exit → Act → World → Prop} {R : World → World → Prop}
/-- whatever comes up next, and so on to the end -/
def An (P : Program) (ops : Array Oper) (Q : Exit → Act → World → Prop) (L : Array Bool) (a : Act) (w : World) : Prop :=
  ∃ I : Array Bool → Act → World → Prop, I L a w ∧ ∀ L a w, I L a w → (Region.ready .any ops L = [] → Q .normal a w) ∧ ∀ i ∈ Region.ready .any ops L, wpOp P ops Q i (I (L.setIfInBounds i true)) a w
theorem An.step {L : Array Bool} {a : Act} {w : World} (h : An P ops Q L a w) : (Region.ready .any ops L = [] → Q .normal a w) ∧ ∀ i ∈ Region.ready .any ops L, wpOp P ops Q i (An P ops Q (L.setIfInBounds i true)) a w := by
  obtain ⟨I, h0, hI⟩ := h
  exact ⟨(hI L a w h0).1, fun i hi => wpOp_mono (fun a' w' h' => ⟨I, h', hI⟩) ((hI L a w h0).2 i hi)⟩
theorem An.mk {L : Array Bool} {a : Act} {w : World} (h : (Region.ready .any ops L = [] → Q .normal a w) ∧ ∀ i ∈ Region.ready .any ops L, wpOp P ops Q i (An P ops Q (L.setIfInBounds i true)) a w) : An P ops Q L a w := by
  refine ⟨fun L' a' w' => An P ops Q L' a' w' ∨ (L' = L ∧ a' = a ∧ w' = w), .inr ⟨rfl, rfl, rfl⟩, fun L' a' w' h' => ?_⟩
  have key : (Region.ready .any ops L' = [] → Q .normal a' w') ∧ ∀ i ∈ Region.ready .any ops L', wpOp P ops Q i (An P ops Q (L'.setIfInBounds i true)) a' w' := by
    rcases h' with h' | ⟨rfl, rfl, rfl⟩
    · exact h'.step
    · exact h
  exact ⟨key.1, fun i hi => wpOp_mono (fun _ _ => .inl) (key.2 i hi)⟩
theorem An.done {L : Array Bool} {a : Act} {w : World} (hr : Region.ready .any ops L = []) (h : Q .normal a w) : An P ops Q L a w :=
  An.mk ⟨fun _ => h, fun i hi => by rw [hr] at hi; cases hi⟩
/-- one alone can come up -/
theorem An.one {L : Array Bool} {a : Act} {w : World} {i : Nat} {o : Oper} (ho : ops[i]? = some o) (hr : Region.ready .any ops L = [i]) (hw : Region.wanted o (yielded ops a.tmps) = true)
    (h : ∀ K : Act → World → Prop, (∀ a' w', An P ops Q (L.setIfInBounds i true) a' w' → K a' w') → o.wp P a w K Q) : An P ops Q L a w := by
  refine An.mk ⟨fun e => (by rw [hr] at e; cases e), fun j hj => ?_⟩
  rw [hr] at hj
  obtain rfl : j = i := by simpa using hj
  unfold wpOp
  simp only [ho]
  rw [if_pos hw]
  exact .inl (h _ fun _ _ h => h)
/-- one or the other -/
theorem An.two {L : Array Bool} {a : Act} {w : World} {i j : Nat} {o : Oper} (ho : ops[i]? = some o) (hr : Region.ready .any ops L = [i, j]) (hw : Region.wanted o (yielded ops a.tmps) = true)
    (h : ∀ K : Act → World → Prop, (∀ a' w', An P ops Q (L.setIfInBounds i true) a' w' → K a' w') → o.wp P a w K Q) (h2 : wpOp P ops Q j (An P ops Q (L.setIfInBounds j true)) a w) : An P ops Q L a w := by
  refine An.mk ⟨fun e => (by rw [hr] at e; cases e), fun k hk => ?_⟩
  rw [hr] at hk
  rcases (by simpa using hk : k = i ∨ k = j) with rfl | rfl
  · unfold wpOp
    simp only [ho]
    rw [if_pos hw]
    exact .inl (h _ fun _ _ h => h)
  · exact h2

/-- what hangs on no world may be taken first -/
theorem An.take {i : Nat} {oi : Oper} {v : Value} {L : Array Bool} {a : Act} {w : World} (hi : ops[i]? = some oi) (hB : (Region.noSelect ops && (Region.ready .any ops L).contains i && Region.free .any ops L i) = true)
    (hQ : ∀ c a d v w, Q (.panic c) (Act.put a d v) w → Q (.panic c) a w) (hy : (Region.wanted oi (yielded ops a.tmps) = true ∧ ∀ w, (execOp a.eval oi).run P w = .ok (.value v) w) ∨ (Region.wanted oi (yielded ops a.tmps) = false ∧ v = undef))
    (h : An P ops Q (L.setIfInBounds i true) (a.put oi.dst v) w) : An P ops Q L a w := by
  simp only [Bool.and_eq_true] at hB
  obtain ⟨⟨hsel, hr⟩, hf⟩ := hB
  have hr : i ∈ Region.ready .any ops L := by simpa using hr
  have hfree := Region.free_spec hi hf
  refine ⟨fun L a w => An P ops Q L a w ∨ ((∀ j oj, ops[j]? = some oj → j ≠ i → L.getD j true = false → (∀ e ∈ oj.after, Region.binds .any e = true → e.on ≠ i) → oi.apart ops oj = true) ∧ i ∈ Region.ready .any ops L ∧ Yields P ops oi v a ∧ An P ops Q (L.setIfInBounds i true) (a.put oi.dst v) w), .inr ⟨hfree, hr, hy, h⟩, ?_⟩
  rintro L a w (h | ⟨hfree, hr, hy, H⟩)
  · exact ⟨h.step.1, fun i hi => wpOp_mono (fun _ _ => .inl) (h.step.2 i hi)⟩
  · refine ⟨fun e => (by rw [e] at hr; cases hr), fun j hj => ?_⟩
    by_cases hji : j = i
    · subst hji; exact hy.wpOp hi (.inl H)
    · obtain ⟨hjun, oj, hoj, hall⟩ := mem_ready.1 hj
      have hnot : ∀ e ∈ oj.after, Region.binds .any e = true → e.on ≠ i := by
        intro e he hb heq
        have g1 := hall e he hb
        have g0 := unlisted (mem_ready.1 hr).1
        rw [heq, g0] at g1
        cases g1
      have h1 := H.step.2 j (ready_mono hj hji)
      have h2 := wpOp_put hoj (hfree j oj hoj hji hjun hnot) (fun cs b => Region.noSelect_spec hsel i oi cs b hi) (fun cs b => Region.noSelect_spec hsel j oj cs b hoj) (fun c a w => hQ c a _ _ w) hy h1
      have hfree' : ∀ k ok, ops[k]? = some ok → k ≠ i → (L.setIfInBounds j true).getD k true = false →
          (∀ e ∈ ok.after, Region.binds .any e = true → e.on ≠ i) → oi.apart ops ok = true := by
        intro k ok hk hki hun hno
        refine hfree k ok hk hki ?_ hno
        by_cases hjk : j = k
        · subst hjk; exact hjun
        · rw [getD_set_ne true hjk] at hun; exact hun
      refine wpOp_mono (fun a' w' h3 => .inr ⟨hfree', ready_mono hr (Ne.symm hji), h3.1, ?_⟩) h2
      rw [Array.setIfInBounds_comm _ _ hji]
      exact h3.2

/-- how many have not come up -/
def left (n : Nat) (L : Array Bool) : Nat := (List.range n).countP fun i => !L.getD i true
theorem countP_set (n : Nat) {L : Array Bool} {i : Nat} (hi : i < n) (h : L.getD i true = false) : (List.range n).countP (fun k => !(L.setIfInBounds i true).getD k true) + 1 = (List.range n).countP fun k => !L.getD k true := by
  induction n with
  | zero => omega
  | succ n ih =>
    rw [List.range_succ, List.countP_append, List.countP_append]
    have hs : i < L.size := by
      rcases Nat.lt_or_ge i L.size with h' | h'
      · exact h'
      · simp [Array.getElem?_eq_none h'] at h
    by_cases hin : i = n
    · subst hin
      have e1 : (List.range i).countP (fun k => !(L.setIfInBounds i true).getD k true) = (List.range i).countP fun k => !L.getD k true := by
        apply List.countP_congr
        intro k hk
        have hki : i ≠ k := by have := List.mem_range.1 hk; omega
        rw [getD_set_ne true hki]
      rw [e1]
      have h2 : (L.setIfInBounds i true).getD i true = true := by simp [hs]
      simp only [List.countP_singleton, h2, h]
      simp
    · have := ih (by omega)
      have h2 : (L.setIfInBounds i true).getD n true = L.getD n true := getD_set_ne true hin
      simp only [List.countP_singleton, h2]
      omega
theorem ready_nil {L : Array Bool} (h : left ops.size L = 0) : Region.ready .any ops L = [] := by
  cases hr : Region.ready .any ops L with
  | nil => rfl
  | cons i r =>
    have hi : i ∈ Region.ready .any ops L := by rw [hr]; simp
    obtain ⟨h0, o, ho, -⟩ := mem_ready.1 hi
    have hlt := (Array.getElem?_eq_some_iff.1 ho).1
    unfold left at h
    rw [List.countP_eq_zero] at h
    have := h i (List.mem_range.2 hlt)
    rw [h0] at this
    simp at this
theorem left_none (n m : Nat) : m ≤ n → (List.range m).countP (fun i => !(Array.replicate n false).getD i true) = m := by
  intro hm
  have : (List.range m).countP (fun i => !(Array.replicate n false).getD i true) = (List.range m).length := by
    rw [List.countP_eq_length]
    intro i hi
    have := List.mem_range.1 hi
    have h2 : i < n := by omega
    simp [h2]
  rw [this, List.length_range]
/-! ### a stretch -/
def setAll (L : Array Bool) : List Nat → Array Bool
  | [] => L
  | i :: S => setAll (L.setIfInBounds i true) S

/-- one of the stretch S, or the one beside it -/
def allowed (S : List Nat) (z : Option Nat) (j : Nat) : Prop := j ∈ S ∨ z = some j
/-- the stretch is over -/
def Over (S : List Nat) (L : Array Bool) : Prop := ∀ i ∈ S, L.getD i true = true
/-- in whatever order those of the stretch come up, and the one beside it; in whatever world has grown out of the one behind each; then T -/
def AnS (R : World → World → Prop) (P : Program) (ops : Array Oper) (Q : Exit → Act → World → Prop) (S : List Nat) (z : Option Nat) (T : Array Bool → Act → World → Prop) (L : Array Bool) (a : Act) (w : World) : Prop :=
  ∃ I : Array Bool → Act → World → Prop, I L a w ∧ ∀ L a w, I L a w → (Over S L ∧ T L a w) ∨
    ((∃ i, i ∈ Region.ready .any ops L ∧ i ∈ S) ∧ ∀ j, j ∈ Region.ready .any ops L → allowed S z j → wpOp P ops Q j (fun a' w' => R w w' ∧ ∀ w'', R w' w'' → I (L.setIfInBounds j true) a' w'') a w)
variable {S : List Nat} {z : Option Nat} {T : Array Bool → Act → World → Prop}
theorem AnS.step {L : Array Bool} {a : Act} {w : World} (h : AnS R P ops Q S z T L a w) : (Over S L ∧ T L a w) ∨
    ((∃ i, i ∈ Region.ready .any ops L ∧ i ∈ S) ∧ ∀ j, j ∈ Region.ready .any ops L → allowed S z j → wpOp P ops Q j (fun a' w' => R w w' ∧ ∀ w'', R w' w'' → AnS R P ops Q S z T (L.setIfInBounds j true) a' w'') a w) := by
  obtain ⟨I, h0, hI⟩ := h
  rcases hI L a w h0 with h | ⟨h1, h2⟩
  · exact .inl h
  · exact .inr ⟨h1, fun j hj hal => wpOp_mono (fun a' w' h' => ⟨h'.1, fun w'' hw => ⟨I, h'.2 w'' hw, hI⟩⟩) (h2 j hj hal)⟩
theorem AnS.over {L : Array Bool} {a : Act} {w : World} (h1 : Over S L) (h2 : T L a w) : AnS R P ops Q S z T L a w :=
  ⟨fun L a w => Over S L ∧ T L a w, ⟨h1, h2⟩, fun _ _ _ h => .inl h⟩

theorem Over.set {L : Array Bool} {j : Nat} (h : Over S L) : Over S (L.setIfInBounds j true) := fun i hi => by
  by_cases hij : j = i
  · subst hij
    rcases Nat.lt_or_ge j L.size with h1 | h1
    · simp [h1]
    · simp []
  · rw [getD_set_ne true hij]; exact h i hi

/-- the walk through a stretch in its order -/
def wpS (R : World → World → Prop) (P : Program) (ops : Array Oper) (T : Array Bool → Act → World → Prop) : List Nat → Array Bool → Act → World → Prop
  | [], L, a, W => ∀ w, R W w → T L a w
  | i :: S, L, a, W => ∃ o, ops[i]? = some o ∧
    ((Region.wanted o (yielded ops a.tmps) = false ∧ wpS R P ops T S (L.setIfInBounds i true) (a.put o.dst undef) W) ∨
     (Region.wanted o (yielded ops a.tmps) = true ∧ ∃ v, (∀ w, R W w → o.quietAt P a (fun w' => R w w') w v) ∧ wpS R P ops T S (L.setIfInBounds i true) (a.put o.dst v) W))
def lexS (ops : Array Oper) : List Nat → Array Bool → Bool
  | [], _ => true
  | i :: S, L => (Region.ready .any ops L).contains i && Region.free .any ops L i && lexS ops S (L.setIfInBounds i true)

theorem setAll_true : ∀ (S : List Nat) (L : Array Bool) (i : Nat), (i ∈ S ∨ L.getD i true = true) → (setAll L S).getD i true = true
  | [], L, i, h => by rcases h with h | h; cases h; exact h
  | k :: S, L, i, h => by
    refine setAll_true S _ i ?_
    rcases h with h | h
    · rcases List.mem_cons.1 h with rfl | h
      · right
        rcases Nat.lt_or_ge i L.size with h1 | h1
        · simp [h1]
        · simp []
      · exact .inl h
    · right
      by_cases hk : k = i
      · subst hk
        rcases Nat.lt_or_ge k L.size with h1 | h1
        · simp [h1]
        · simp []
      · rw [getD_set_ne true hk]; exact h

/-! ### out of a stretch -/
/-- what has come up bears what it hangs on -/
def ClosedL (ops : Array Oper) (L : Array Bool) : Prop := L.size = ops.size ∧ ∀ j o, ops[j]? = some o → L.getD j false = true → ∀ e ∈ o.after, Region.binds .any e = true → L.getD e.on false = true
def closedB (ops : Array Oper) (L : Array Bool) : Bool := L.size == ops.size && (List.range ops.size).all fun j => !L.getD j false || ((ops[j]?).map fun o => o.after.all fun e => !Region.binds .any e || L.getD e.on false).getD true
theorem closedB_spec {L : Array Bool} (h : closedB ops L = true) : ClosedL ops L := by
  unfold closedB at h
  rw [Bool.and_eq_true, List.all_eq_true] at h
  refine ⟨by simpa using h.1, fun j o ho hj e he hb => ?_⟩
  have h1 := h.2 j (List.mem_range.2 (Array.getElem?_eq_some_iff.1 ho).1)
  simp only [hj, ho, Option.map_some, Option.getD_some, Bool.not_true, Bool.false_or, Array.all_eq_true_iff_forall_mem] at h1
  have := h1 e he
  simpa [hb] using this
theorem ClosedL.set {L : Array Bool} (h : ClosedL ops L) {j : Nat} (hj : j ∈ Region.ready .any ops L) : ClosedL ops (L.setIfInBounds j true) := by
  obtain ⟨hj0, oj, hoj, hall⟩ := mem_ready.1 hj
  refine ⟨by simp [h.1], fun k o ho hk e he hb => ?_⟩
  by_cases hjk : j = k
  · subst hjk
    rw [hoj] at ho
    injection ho with ho
    subst ho
    exact getD_set_true (hall e he hb)
  · rw [getD_set_ne false hjk] at hk
    exact getD_set_true (h.2 k o ho hk e he hb)
/-- S hangs together: each is wanted by a later one of S, or by all of E -/
def tiedB (ops : Array Oper) (E : List Nat) : List Nat → Bool
  | [] => true
  | i :: S => (S.any (fun s => dependsB ops s i) || E.all fun j => dependsB ops j i) && tiedB ops E S
theorem tied_listed {E : List Nat} {L : Array Bool} (hc : ClosedL ops L) {j : Nat} (hj : j ∈ Region.ready .any ops L) (hjE : j ∈ E) : ∀ (S : List Nat), tiedB ops E S = true → ∀ i ∈ S, L.getD i false = true
  | [], _, _, h => by cases h
  | k :: S, h, i, hi => by
    simp only [tiedB, Bool.and_eq_true, Bool.or_eq_true] at h
    have ih := tied_listed hc hj hjE S h.2
    rcases List.mem_cons.1 hi with rfl | hi
    · rcases h.1 with h1 | h1
      · rw [List.any_eq_true] at h1
        obtain ⟨s, hs, hd⟩ := h1
        obtain ⟨o, ho, e, he, hb, rfl⟩ := dependsB_spec hd
        exact hc.2 s o ho (ih s hs) e he hb
      · rw [List.all_eq_true] at h1
        obtain ⟨o, ho, e, he, hb, rfl⟩ := dependsB_spec (h1 j hjE)
        obtain ⟨-, o', ho', hall⟩ := mem_ready.1 hj
        rw [ho] at ho'
        injection ho' with ho'
        subst ho'
        exact hall e he hb
    · exact ih i hi
theorem ready_le {L M : Array Bool} (_hs : L.size = M.size) (hle : ∀ i, L.getD i false = true → M.getD i false = true) {j : Nat} (hj : j ∈ Region.ready .any ops L) (hun : M.getD j true = false) : j ∈ Region.ready .any ops M := by
  obtain ⟨-, o, ho, hall⟩ := mem_ready.1 hj
  exact mem_ready.2 ⟨hun, o, ho, fun e he hb => hle _ (hall e he hb)⟩

theorem getD_of {L : Array Bool} {i : Nat} : (L.getD i false = true ↔ i < L.size ∧ L.getD i true = true) := by
  rcases Nat.lt_or_ge i L.size with h | h
  · simp [h]
  · simp [Array.getElem?_eq_none h]; omega

/-- behind a stretch, where operation j may have come up beside it, or not yet -/
def Beside (R : World → World → Prop) (P : Program) (ops : Array Oper) (Q : Exit → Act → World → Prop) (j : Nat) (L : Array Bool) (a : Act) (w : World) : Prop :=
  An P ops Q L a w ∧ (j ∈ Region.ready .any ops L → wpOp P ops Q j (fun a' w' => R w w' ∧ ∀ w'', R w' w'' → An P ops Q (L.setIfInBounds j true) a' w'') a w)
/-- both ways behind such a stretch: the stretch's next operation i, or j -/
theorem Beside.mk {L : Array Bool} {a : Act} {w : World} {i j : Nat} {o oj : Oper} (G : Goes R) (ho : ops[i]? = some o) (hoj : ops[j]? = some oj) (hr : Region.ready .any ops L = [i, j]) (hw : Region.wanted o (yielded ops a.tmps) = true) (hwj : Region.wanted oj (yielded ops a.tmps) = true)
    (h : ∀ K : Act → World → Prop, (∀ a' w', An P ops Q (L.setIfInBounds i true) a' w' → K a' w') → o.wp P a w K Q)
    (h2 : ∀ K : Act → World → Prop, (∀ a' w', R w w' → (∀ w'', R w' w'' → An P ops Q (L.setIfInBounds j true) a' w'') → K a' w') → oj.wp P a w K Q) : Beside R P ops Q j L a w := by
  have hj : wpOp P ops Q j (fun a' w' => R w w' ∧ ∀ w'', R w' w'' → An P ops Q (L.setIfInBounds j true) a' w'') a w := by
    unfold wpOp
    simp only [hoj]
    rw [if_pos hwj]
    exact .inl (h2 _ fun _ _ h1 h2 => ⟨h1, h2⟩)
  exact ⟨An.two ho hr hw h (wpOp_mono (fun a' w' h' => h'.2 w' (G.refl _)) hj), fun _ => hj⟩
/-- nothing of the stretch is left, j alone -/
theorem Beside.one {L : Array Bool} {a : Act} {w : World} {j : Nat} {oj : Oper} (G : Goes R) (hoj : ops[j]? = some oj) (hr : Region.ready .any ops L = [j]) (hwj : Region.wanted oj (yielded ops a.tmps) = true)
    (h2 : ∀ K : Act → World → Prop, (∀ a' w', R w w' → (∀ w'', R w' w'' → An P ops Q (L.setIfInBounds j true) a' w'') → K a' w') → oj.wp P a w K Q) : Beside R P ops Q j L a w := by
  have hj : wpOp P ops Q j (fun a' w' => R w w' ∧ ∀ w'', R w' w'' → An P ops Q (L.setIfInBounds j true) a' w'') a w := by
    unfold wpOp
    simp only [hoj]
    rw [if_pos hwj]
    exact .inl (h2 _ fun _ _ h1 h2 => ⟨h1, h2⟩)
  refine ⟨An.mk ⟨fun e => (by rw [hr] at e; cases e), fun k hk => ?_⟩, fun _ => hj⟩
  rw [hr] at hk
  obtain rfl : k = j := by simpa using hk
  exact wpOp_mono (fun a' w' h' => h'.2 w' (G.refl _)) hj

/-- one operation of a stretch, found -/
def St (R : World → World → Prop) (P : Program) (ops : Array Oper) (T : Array Bool → Act → World → Prop) (o : Oper) (S : List Nat) (L : Array Bool) (a : Act) (W : World) : Prop :=
  (Region.wanted o (yielded ops a.tmps) = false ∧ wpS R P ops T S L (a.put o.dst undef) W) ∨
     (Region.wanted o (yielded ops a.tmps) = true ∧ ∃ v, (∀ w, R W w → o.quietAt P a (fun w' => R w w') w v) ∧ wpS R P ops T S L (a.put o.dst v) W)
theorem wpS_open {T : Array Bool → Act → World → Prop} {i : Nat} {S : List Nat} {L : Array Bool} {a : Act} {W : World} {o : Oper} (ho : ops[i]? = some o) (h : St R P ops T o S (L.setIfInBounds i true) a W) : wpS R P ops T (i :: S) L a W := ⟨o, ho, h⟩
theorem St_skip {T : Array Bool → Act → World → Prop} {S : List Nat} {L : Array Bool} {a : Act} {W : World} {o : Oper} (hw : Region.wanted o (yielded ops a.tmps) = false) (h : wpS R P ops T S L (a.put o.dst undef) W) : St R P ops T o S L a W := .inl ⟨hw, h⟩
theorem St_want {T : Array Bool → Act → World → Prop} {S : List Nat} {L : Array Bool} {a : Act} {W : World} {o : Oper} {v : Value} (hw : Region.wanted o (yielded ops a.tmps) = true) (hq : ∀ w, R W w → o.quietAt P a (fun w' => R w w') w v) (h : wpS R P ops T S L (a.put o.dst v) W) : St R P ops T o S L a W := .inr ⟨hw, v, hq, h⟩
theorem wpS_nil {T : Array Bool → Act → World → Prop} {L : Array Bool} {a : Act} {W : World} (h : ∀ w, R W w → T L a w) : wpS R P ops T [] L a W := h
end
end Go.Proofs.Ytnclgkdpafhogaa
