/- The same game in a fence that lets all in: in an iterator's own code (where a call of yield is a round), in a loop body's round. No condition.
The same game: a stretch of operations that yield the same in all worlds, beside others that may come up between them. No condition. -/
import Derived.Test.YtapoedcmhdlpfaaQ8
import Derived.OrdersIn
import Derived.RangeFuncNested
namespace Go.Proofs.Ytapoedcmhdlpfaa
open Go.ChangeShapes Go.WideShapes Go.ChangeAt Go.RowKit
/-- the fence that lets all in; ro: the round in whose frame the code runs -/
def Fw (ro : Option Nat) : Fence := { Fence.wide with round := ro }
def noDeferB (ops : Array Oper) : Bool := ops.all fun o => match o.op with | .defer .. => false | _ => true

section
variable {P : Program} {ops : Array Oper} {Q : Exit → Act → World → Prop} {R : World → World → Prop} {ro : Option Nat} {n : Nat}
theorem noDefer_spec (h : noDeferB ops = true) {j : Nat} {o : Oper} (ho : ops[j]? = some o) (c : Call) : o.op ≠ .defer c := by
  intro heq
  have := Array.all_eq_true_iff_forall_mem.1 h o (Array.mem_of_getElem? ho)
  simp [heq] at this
theorem fw_about {o : Oper} {w : World} {ρ : Operand → Value} : ∀ f, o.about P w ρ = some f → (Fw ro).fn f := fun _ _ => trivial
theorem callsFw {m : Nat} {f : FuncId} {args : Array Value} {w : World} {K : Ending → World → Prop} : CallsIn (Fw ro) m P f args w K ↔ Calls P f args w K := callsIn_wide

theorem wpOpIn_past (hnd : noDeferB ops = true) {j : Nat} {oi oj : Oper} {v : Value} (hj : ops[j]? = some oj) (hap : oi.apart ops oj = true) (hsi : ∀ cs b, oi.op ≠ .select cs b) (hsj : ∀ cs b, oj.op ≠ .select cs b)
    (hQ : ∀ c a w, Q (.panic c) (a.put oi.dst v) w → Q (.panic c) a w) {K : Act → World → Prop} {a : Act} {w : World} (h : wpOpIn (Fw ro) n P ops Q j K (a.put oi.dst v) w) :
    wpOpIn (Fw ro) n P ops Q j (fun a' w' => Alike ops oi a a' ∧ K (a'.put oi.dst v) w') a w := by
  obtain ⟨d1, d2, d3⟩ := Oper.apart_spec hap
  have al : ∀ u, Alike ops oi a (a.put oj.dst u) := fun u => ⟨execOp_put oi hsi a oj.dst u d3, wanted_put oi a oj.dst u d3⟩
  have ald : ∀ d u, Alike ops oi a (({ a with defers := d :: a.defers } : Act).put oj.dst u) := fun d u => ⟨execOp_put oi hsi _ oj.dst u d3, wanted_put oi _ oj.dst u d3⟩
  have sw : ∀ u, (a.put oj.dst u).put oi.dst v = (a.put oi.dst v).put oj.dst u := fun u => (Act.put_comm a v u d2).symm
  unfold wpOpIn at h ⊢
  simp only [hj] at h ⊢
  rw [wanted_put oj a oi.dst v d1] at h
  by_cases hw : Region.wanted oj (yielded ops a.tmps) = true
  · rw [if_pos hw] at h ⊢
    unfold Oper.wpIn at *
    rw [Oper.semAt_eq _ _ _ (noDefer_spec hnd hj)] at h ⊢
    rw [execOp_put oj hsj a oi.dst v d1] at h
    refine ⟨fw_about, ?_⟩
    replace h := h.2
    revert h
    generalize (execOp a.eval oj).run P w = r
    intro h
    match r, h with
    | .ok (.value u) w', h => exact ⟨al u, by rw [sw]; exact h⟩
    | .ok .skip w', h => exact ⟨al undef, by rw [sw]; exact h⟩
    | .ok (.defer d) w', h =>
      refine ⟨ald d undef, ?_⟩
      have h' := h
      simp only [Oper.uponIn] at h'
      rw [← Act.put_comm _ v undef d2, ← Act.put_defers]
      exact h'
    | .ok (.enter f args) w', h =>
      refine ⟨h.1, CallsIn.mono h.2 fun e w'' he => ?_⟩
      match e, he with
      | .returned u, he => exact ⟨al u, by rw [sw]; exact he⟩
      | .panicked c, he => exact hQ _ _ _ he
      | .outgrown, he => exact he
    | .ok (.row row args) w', h => exact ⟨h.1, RowsIn.mono h.2 fun u w'' he => ⟨al u, by rw [sw]; exact he⟩⟩
    | .ok (.round l f tmps assign body) w', h =>
      refine ⟨h.1, RoundIn.mono h.2 fun e w'' he => ?_⟩
      match e, he with
      | .returned u, he => exact ⟨al u, by rw [sw]; exact he⟩
      | .panicked c, he => exact hQ _ _ _ he
      | .outgrown, he => exact he
    | .halt x w', h => cases x <;> first | exact h | exact hQ _ _ _ h
  · rw [if_neg hw] at h ⊢
    exact ⟨fw_about, al undef, by rw [sw]; exact h.2⟩
theorem YieldsR.wpOpI (hnd : noDeferB ops = true) (G : Goes R) {W : World} {i : Nat} {o : Oper} {v : Value} {a : Act} {w : World} (hi : ops[i]? = some o) (hy : YieldsR R P ops W o v a) (hw : R W w) {K : Act → World → Prop}
    (h : ∀ w', R w w' → K (a.put o.dst v) w') : wpOpIn (Fw ro) n P ops Q i K a w := by
  unfold Go.wpOpIn
  simp only [hi]
  rcases hy with ⟨h1, h2⟩ | ⟨h1, rfl⟩
  · rw [if_pos h1]
    have h3 := h2 w hw
    unfold Oper.quietAt at h3
    unfold Oper.wpIn
    rw [Oper.semAt_eq _ _ _ (noDefer_spec hnd hi)]
    refine ⟨fw_about, ?_⟩
    revert h3
    generalize (execOp a.eval o).run P w = r
    intro h3
    match r, h3 with
    | .ok (.value u) w', h3 => obtain ⟨rfl, rfl⟩ := h3; exact h _ (G.refl _)
    | .ok .skip w', h3 => obtain ⟨rfl, rfl⟩ := h3; exact h _ (G.refl _)
    | .ok (.enter f args) w', h3 =>
      obtain ⟨rfl, hc⟩ := h3
      exact ⟨(fun h => (by cases h)), callsFw.2 (Calls.mono hc fun e w'' he => by obtain ⟨rfl, hx⟩ := he; exact h _ hx)⟩
    | .ok (.row row args) w', h3 => exact h3.elim
    | .ok (.defer d) w', h3 => exact h3.elim
    | .ok (.round l f tmps assign body) w', h3 => exact h3.elim
    | .halt x w', h3 => exact h3.elim
  · rw [if_neg (by simp [h1])]; exact ⟨fw_about, h w (G.refl _)⟩
theorem Yields.wpOpI (hnd : noDeferB ops = true) {i : Nat} {o : Oper} {v : Value} {a : Act} (hi : ops[i]? = some o) (hy : Yields P ops o v a) {K : Act → World → Prop} {w : World} (h : K (a.put o.dst v) w) : wpOpIn (Fw ro) n P ops Q i K a w := by
  unfold Go.wpOpIn
  simp only [hi]
  rcases hy with ⟨hw, hv⟩ | ⟨hw, rfl⟩
  · rw [if_pos hw]
    unfold Oper.wpIn
    rw [Oper.semAt_eq _ _ _ (noDefer_spec hnd hi), hv w]
    exact ⟨fw_about, h⟩
  · rw [if_neg (by simp [hw])]; exact ⟨fw_about, h⟩
theorem wpOpIn_putW (hnd : noDeferB ops = true) {j : Nat} {oi oj : Oper} {v : Value} (hj : ops[j]? = some oj) (hap : oi.apart ops oj = true) (hsi : ∀ cs b, oi.op ≠ .select cs b) (hsj : ∀ cs b, oj.op ≠ .select cs b)
    (hQ : ∀ c a w, Q (.panic c) (a.put oi.dst v) w → Q (.panic c) a w) {K : Act → World → Prop} {a : Act} {w : World} (hy : Yields P ops oi v a) (h : wpOpIn (Fw ro) n P ops Q j K (a.put oi.dst v) w) :
    wpOpIn (Fw ro) n P ops Q j (fun a' w' => Yields P ops oi v a' ∧ K (a'.put oi.dst v) w') a w :=
  wpOpIn_mono (fun _a' _w' h' => ⟨hy.of_same h'.1.1 h'.1.2, h'.2⟩) (wpOpIn_past hnd hj hap hsi hsj hQ h)

/-- whatever comes up next, and so on to the end -/
def AnI (ro : Option Nat) (n : Nat) (P : Program) (ops : Array Oper) (Q : Exit → Act → World → Prop) (L : Array Bool) (a : Act) (w : World) : Prop :=
  ∃ I : Array Bool → Act → World → Prop, I L a w ∧ ∀ L a w, I L a w → (Region.ready .any ops L = [] → Q .normal a w) ∧ ∀ i ∈ Region.ready .any ops L, wpOpIn (Fw ro) n P ops Q i (I (L.setIfInBounds i true)) a w
theorem AnI.step {L : Array Bool} {a : Act} {w : World} (h : AnI ro n P ops Q L a w) : (Region.ready .any ops L = [] → Q .normal a w) ∧ ∀ i ∈ Region.ready .any ops L, wpOpIn (Fw ro) n P ops Q i (AnI ro n P ops Q (L.setIfInBounds i true)) a w := by
  obtain ⟨I, h0, hI⟩ := h
  exact ⟨(hI L a w h0).1, fun i hi => wpOpIn_mono (fun a' w' h' => ⟨I, h', hI⟩) ((hI L a w h0).2 i hi)⟩
theorem AnI.mk {L : Array Bool} {a : Act} {w : World} (h : (Region.ready .any ops L = [] → Q .normal a w) ∧ ∀ i ∈ Region.ready .any ops L, wpOpIn (Fw ro) n P ops Q i (AnI ro n P ops Q (L.setIfInBounds i true)) a w) : AnI ro n P ops Q L a w := by
  refine ⟨fun L' a' w' => AnI ro n P ops Q L' a' w' ∨ (L' = L ∧ a' = a ∧ w' = w), .inr ⟨rfl, rfl, rfl⟩, fun L' a' w' h' => ?_⟩
  have key : (Region.ready .any ops L' = [] → Q .normal a' w') ∧ ∀ i ∈ Region.ready .any ops L', wpOpIn (Fw ro) n P ops Q i (AnI ro n P ops Q (L'.setIfInBounds i true)) a' w' := by
    rcases h' with h' | ⟨rfl, rfl, rfl⟩
    · exact h'.step
    · exact h
  exact ⟨key.1, fun i hi => wpOpIn_mono (fun _ _ => .inl) (key.2 i hi)⟩
theorem AnI.done {L : Array Bool} {a : Act} {w : World} (hr : Region.ready .any ops L = []) (h : Q .normal a w) : AnI ro n P ops Q L a w :=
  AnI.mk ⟨fun _ => h, fun i hi => by rw [hr] at hi; cases hi⟩
/-- one alone can come up -/
theorem AnI.one {L : Array Bool} {a : Act} {w : World} {i : Nat} {o : Oper} (ho : ops[i]? = some o) (hr : Region.ready .any ops L = [i]) (hw : Region.wanted o (yielded ops a.tmps) = true)
    (h : ∀ K : Act → World → Prop, (∀ a' w', AnI ro n P ops Q (L.setIfInBounds i true) a' w' → K a' w') → o.wpIn (Fw ro) n P a w K Q) : AnI ro n P ops Q L a w := by
  refine AnI.mk ⟨fun e => (by rw [hr] at e; cases e), fun j hj => ?_⟩
  rw [hr] at hj
  obtain rfl : j = i := by simpa using hj
  unfold wpOpIn
  simp only [ho]
  rw [if_pos hw]
  exact h _ fun _ _ h => h
/-- one or the other -/
theorem AnI.two {L : Array Bool} {a : Act} {w : World} {i j : Nat} {o : Oper} (ho : ops[i]? = some o) (hr : Region.ready .any ops L = [i, j]) (hw : Region.wanted o (yielded ops a.tmps) = true)
    (h : ∀ K : Act → World → Prop, (∀ a' w', AnI ro n P ops Q (L.setIfInBounds i true) a' w' → K a' w') → o.wpIn (Fw ro) n P a w K Q) (h2 : wpOpIn (Fw ro) n P ops Q j (AnI ro n P ops Q (L.setIfInBounds j true)) a w) : AnI ro n P ops Q L a w := by
  refine AnI.mk ⟨fun e => (by rw [hr] at e; cases e), fun k hk => ?_⟩
  rw [hr] at hk
  rcases (by simpa using hk : k = i ∨ k = j) with rfl | rfl
  · unfold wpOpIn
    simp only [ho]
    rw [if_pos hw]
    exact h _ fun _ _ h => h
  · exact h2

/-- what hangs on no world may be taken first -/
theorem AnI.take (hnd : noDeferB ops = true) {i : Nat} {oi : Oper} {v : Value} {L : Array Bool} {a : Act} {w : World} (hi : ops[i]? = some oi) (hB : (Region.noSelect ops && (Region.ready .any ops L).contains i && Region.free .any ops L i) = true)
    (hQ : ∀ c a d v w, Q (.panic c) (Act.put a d v) w → Q (.panic c) a w) (hy : (Region.wanted oi (yielded ops a.tmps) = true ∧ ∀ w, (execOp a.eval oi).run P w = .ok (.value v) w) ∨ (Region.wanted oi (yielded ops a.tmps) = false ∧ v = undef))
    (h : AnI ro n P ops Q (L.setIfInBounds i true) (a.put oi.dst v) w) : AnI ro n P ops Q L a w := by
  simp only [Bool.and_eq_true] at hB
  obtain ⟨⟨hsel, hr⟩, hf⟩ := hB
  have hr : i ∈ Region.ready .any ops L := by simpa using hr
  have hfree := Region.free_spec hi hf
  refine ⟨fun L a w => AnI ro n P ops Q L a w ∨ ((∀ j oj, ops[j]? = some oj → j ≠ i → L.getD j true = false → (∀ e ∈ oj.after, Region.binds .any e = true → e.on ≠ i) → oi.apart ops oj = true) ∧ i ∈ Region.ready .any ops L ∧ Yields P ops oi v a ∧ AnI ro n P ops Q (L.setIfInBounds i true) (a.put oi.dst v) w), .inr ⟨hfree, hr, hy, h⟩, ?_⟩
  rintro L a w (h | ⟨hfree, hr, hy, H⟩)
  · exact ⟨h.step.1, fun i hi => wpOpIn_mono (fun _ _ => .inl) (h.step.2 i hi)⟩
  · refine ⟨fun e => (by rw [e] at hr; cases hr), fun j hj => ?_⟩
    by_cases hji : j = i
    · subst hji; exact Yields.wpOpI hnd hi (show Yields P ops oi v a from hy) (.inl H)
    · obtain ⟨hjun, oj, hoj, hall⟩ := mem_ready.1 hj
      have hnot : ∀ e ∈ oj.after, Region.binds .any e = true → e.on ≠ i := by
        intro e he hb heq
        have g1 := hall e he hb
        have g0 := unlisted (mem_ready.1 hr).1
        rw [heq, g0] at g1
        cases g1
      have h1 := H.step.2 j (ready_mono hj hji)
      have h2 := wpOpIn_putW hnd hoj (hfree j oj hoj hji hjun hnot) (fun cs b => Region.noSelect_spec hsel i oi cs b hi) (fun cs b => Region.noSelect_spec hsel j oj cs b hoj) (fun c a w => hQ c a _ _ w) hy h1
      have hfree' : ∀ k ok, ops[k]? = some ok → k ≠ i → (L.setIfInBounds j true).getD k true = false →
          (∀ e ∈ ok.after, Region.binds .any e = true → e.on ≠ i) → oi.apart ops ok = true := by
        intro k ok hk hki hun hno
        refine hfree k ok hk hki ?_ hno
        by_cases hjk : j = k
        · subst hjk; exact hjun
        · rw [getD_set_ne true hjk] at hun; exact hun
      refine wpOpIn_mono (fun a' w' h3 => .inr ⟨hfree', ready_mono hr (Ne.symm hji), h3.1, ?_⟩) h2
      rw [Array.setIfInBounds_comm _ _ hji]
      exact h3.2

theorem wpAnyIn_of_AnI : ∀ (f : Nat) (L : Array Bool) (a : Act) (w : World), left ops.size L = f → AnI ro n P ops Q L a w → wpAnyIn (Fw ro) n P .any ops Q f L a w
  | 0, L, a, w, hf, h => ⟨ready_nil hf, h.step.1 (ready_nil hf)⟩
  | f + 1, L, a, w, hf, h => ⟨h.step.1, fun i hi => by
      obtain ⟨h0, o, ho, -⟩ := mem_ready.1 hi
      have := countP_set ops.size (Array.getElem?_eq_some_iff.1 ho).1 h0
      unfold left at hf
      exact wpOpIn_mono (fun a' w' h' => wpAnyIn_of_AnI f _ a' w' (by unfold left; omega) h') (h.step.2 i hi)⟩
theorem wpIn_region_AnI {id : Nat} {a : Act} {w : World} {l : List Oper} (hm : P.follows .mixedOrders = true) (h : AnI ro n P l.toArray Q (Array.replicate l.length false) a { w with drawn := w.drawn + 1 }) : (Code.region id l.toArray true).wpIn (Fw ro) n P Q a w := by
  refine wpIn_region_any hm ?_
  have hl : left l.toArray.size (Array.replicate l.length false) = l.toArray.size := by
    unfold left
    rw [show l.toArray.size = l.length by simp]
    exact left_none _ _ (Nat.le_refl _)
  have := wpAnyIn_of_AnI _ _ _ _ hl h
  simpa using this

/-! ### a stretch -/
variable {S : List Nat} {z : Option Nat} {T : Array Bool → Act → World → Prop}
/-- in whatever order those of the stretch come up, and the one beside it; in whatever world has grown out of the one behind each; then T -/
def AnSI (ro : Option Nat) (n : Nat) (R : World → World → Prop) (P : Program) (ops : Array Oper) (Q : Exit → Act → World → Prop) (S : List Nat) (z : Option Nat) (T : Array Bool → Act → World → Prop) (L : Array Bool) (a : Act) (w : World) : Prop :=
  ∃ I : Array Bool → Act → World → Prop, I L a w ∧ ∀ L a w, I L a w → (Over S L ∧ T L a w) ∨
    ((∃ i, i ∈ Region.ready .any ops L ∧ i ∈ S) ∧ ∀ j, j ∈ Region.ready .any ops L → allowed S z j → wpOpIn (Fw ro) n P ops Q j (fun a' w' => R w w' ∧ ∀ w'', R w' w'' → I (L.setIfInBounds j true) a' w'') a w)
theorem AnSI.step {L : Array Bool} {a : Act} {w : World} (h : AnSI ro n R P ops Q S z T L a w) : (Over S L ∧ T L a w) ∨
    ((∃ i, i ∈ Region.ready .any ops L ∧ i ∈ S) ∧ ∀ j, j ∈ Region.ready .any ops L → allowed S z j → wpOpIn (Fw ro) n P ops Q j (fun a' w' => R w w' ∧ ∀ w'', R w' w'' → AnSI ro n R P ops Q S z T (L.setIfInBounds j true) a' w'') a w) := by
  obtain ⟨I, h0, hI⟩ := h
  rcases hI L a w h0 with h | ⟨h1, h2⟩
  · exact .inl h
  · exact .inr ⟨h1, fun j hj hal => wpOpIn_mono (fun a' w' h' => ⟨h'.1, fun w'' hw => ⟨I, h'.2 w'' hw, hI⟩⟩) (h2 j hj hal)⟩
theorem AnSI.over {L : Array Bool} {a : Act} {w : World} (h1 : Over S L) (h2 : T L a w) : AnSI ro n R P ops Q S z T L a w :=
  ⟨fun L a w => Over S L ∧ T L a w, ⟨h1, h2⟩, fun _ _ _ h => .inl h⟩

/-- what T must abide: that the one beside the stretch comes up later -/
def LaterI (ro : Option Nat) (n : Nat) (R : World → World → Prop) (P : Program) (ops : Array Oper) (Q : Exit → Act → World → Prop) (z : Option Nat) (T : Array Bool → Act → World → Prop) : Prop :=
  ∀ L a w j, T L a w → z = some j → j ∈ Region.ready .any ops L → wpOpIn (Fw ro) n P ops Q j (fun a' w' => R w w' ∧ ∀ w'', R w' w'' → T (L.setIfInBounds j true) a' w'') a w

theorem AnSI_first (hnd : noDeferB ops = true) (G : Goes R) (hT : LaterI ro n R P ops Q z T) {i : Nat} {oi : Oper} {v : Value} {L : Array Bool} {a : Act} {w : World} (hiS : i ∈ S) (hi : ops[i]? = some oi) (hsel : ∀ (j : Nat) (o : Oper) cs b, ops[j]? = some o → o.op ≠ .select cs b) (hQ : ∀ c a w, Q (.panic c) (a.put oi.dst v) w → Q (.panic c) a w)
    (hfree : ∀ j oj, ops[j]? = some oj → j ≠ i → L.getD j true = false → (∀ e ∈ oj.after, Region.binds .any e = true → e.on ≠ i) → oi.apart ops oj = true)
    (hr : i ∈ Region.ready .any ops L) (hy : YieldsR R P ops w oi v a)
    (H : ∀ w', R w w' → AnSI ro n R P ops Q S z T (L.setIfInBounds i true) (a.put oi.dst v) w') : AnSI ro n R P ops Q S z T L a w := by
  refine ⟨fun L a w => AnSI ro n R P ops Q S z T L a w ∨ ((∀ j oj, ops[j]? = some oj → j ≠ i → L.getD j true = false → (∀ e ∈ oj.after, Region.binds .any e = true → e.on ≠ i) → oi.apart ops oj = true) ∧ i ∈ Region.ready .any ops L ∧ YieldsR R P ops w oi v a ∧ ∀ w', R w w' → AnSI ro n R P ops Q S z T (L.setIfInBounds i true) (a.put oi.dst v) w'), .inr ⟨hfree, hr, hy, H⟩, ?_⟩
  rintro L a w (h | ⟨hfree, hr, hy, H⟩)
  · rcases h.step with h | ⟨h1, h2⟩
    · exact .inl h
    · exact .inr ⟨h1, fun j hj hal => wpOpIn_mono (fun a' w' h' => ⟨h'.1, fun w'' hw => .inl (h'.2 w'' hw)⟩) (h2 j hj hal)⟩
  · refine .inr ⟨⟨i, hr, hiS⟩, fun j hj hal => ?_⟩
    by_cases hji : j = i
    · subst hji
      exact hy.wpOpI hnd G hi (G.refl _) fun w' hw' => ⟨hw', fun w'' hw'' => .inl (H w'' (G.trans hw' hw''))⟩
    · obtain ⟨hjun, oj, hoj, hall⟩ := mem_ready.1 hj
      have hnot : ∀ e ∈ oj.after, Region.binds .any e = true → e.on ≠ i := by
        intro e he hb heq
        have g1 := hall e he hb
        have g0 := unlisted (mem_ready.1 hr).1
        rw [heq, g0] at g1
        cases g1
      have h1 : wpOpIn (Fw ro) n P ops Q j (fun a' w' => R w w' ∧ ∀ w'', R w' w'' → AnSI ro n R P ops Q S z T ((L.setIfInBounds i true).setIfInBounds j true) a' w'') (a.put oi.dst v) w := by
        rcases (H w (G.refl _)).step with ⟨h1, h2⟩ | ⟨-, h1⟩
        · rcases hal with hal | hal
          · have := h1 j hal
            rw [getD_set_ne true (Ne.symm hji), hjun] at this
            cases this
          · exact wpOpIn_mono (fun a' w' h' => ⟨h'.1, fun w'' hw => AnSI.over (Over.set h1) (h'.2 w'' hw)⟩) (hT _ _ _ j h2 hal (ready_mono hj hji))
        · exact h1 j (ready_mono hj hji) hal
      have h2 := wpOpIn_past hnd hoj (hfree j oj hoj hji hjun hnot) (fun cs b => hsel i oi cs b hi) (fun cs b => hsel j oj cs b hoj) hQ h1
      have hfree' : ∀ k ok, ops[k]? = some ok → k ≠ i → (L.setIfInBounds j true).getD k true = false →
          (∀ e ∈ ok.after, Region.binds .any e = true → e.on ≠ i) → oi.apart ops ok = true := by
        intro k ok hk hki hun hno
        refine hfree k ok hk hki ?_ hno
        by_cases hjk : j = k
        · subst hjk; exact hjun
        · rw [getD_set_ne true hjk] at hun; exact hun
      refine wpOpIn_mono (fun a' w' h3 => ?_) h2
      obtain ⟨ha, hx, hK⟩ := h3
      refine ⟨hx, fun w'' hw'' => .inr ⟨hfree', ready_mono hr (Ne.symm hji), (hy.alike ha).ext G (G.trans hx hw''), fun w3 hw3 => ?_⟩⟩
      have := hK w3 (G.trans hw'' hw3)
      rw [Array.setIfInBounds_comm _ _ hji]
      exact this

theorem AnSI_lex (G : Goes R) (hT : LaterI ro n R P ops Q z T) (hnd : noDeferB ops = true) (hsel : Region.noSelect ops = true) (hQ : ∀ c a d v w, Q (.panic c) (Act.put a d v) w → Q (.panic c) a w) : ∀ (S' : List Nat) (L : Array Bool) (a : Act) (W : World), (∀ i ∈ S', i ∈ S) → (∀ i ∈ S, i ∈ S' ∨ L.getD i true = true) →
    lexS ops S' L = true → wpS R P ops T S' L a W → ∀ w, R W w → AnSI ro n R P ops Q S z T L a w
  | [], L, a, W, _, hall, _, h, w, hw => AnSI.over (fun i hi => (hall i hi).resolve_left (by simp)) (h w hw)
  | i :: S', L, a, W, hsub, hall, hB, h, w, hw => by
    simp only [lexS, Bool.and_eq_true] at hB
    obtain ⟨⟨hr, hf⟩, hB'⟩ := hB
    obtain ⟨o, h0, h⟩ := h
    have hall' : ∀ j ∈ S, j ∈ S' ∨ (L.setIfInBounds i true).getD j true = true := by
      intro j hj
      rcases hall j hj with h | h
      · rcases List.mem_cons.1 h with rfl | h
        · right
          rcases Nat.lt_or_ge j L.size with h1 | h1
          · simp [h1]
          · simp []
        · exact .inl h
      · right
        by_cases hk : i = j
        · subst hk
          rcases Nat.lt_or_ge i L.size with h1 | h1
          · simp [h1]
          · simp []
        · rw [getD_set_ne true hk]; exact h
    have first : ∀ v, YieldsR R P ops w o v a → wpS R P ops T S' (L.setIfInBounds i true) (a.put o.dst v) W → AnSI ro n R P ops Q S z T L a w := fun v hy hK =>
      AnSI_first hnd G hT (hsub i (by simp)) h0 (Region.noSelect_spec hsel) (fun c a w h => hQ c a _ _ w h) (Region.free_spec h0 hf) (by simpa using hr) hy fun w' hw' =>
        AnSI_lex G hT hnd hsel hQ S' _ _ W (fun j hj => hsub j (by simp [hj])) hall' hB' hK w' (G.trans hw hw')
    rcases h with ⟨h1, h2⟩ | ⟨h1, v, h2, h3⟩
    · exact first undef (.inr ⟨h1, rfl⟩) h2
    · exact first v (.inl ⟨h1, fun w1 hw1 => h2 w1 (G.trans hw hw1)⟩) h3

/-! ### out of a stretch -/
theorem AnI_of_stretch (G : Goes R) {L0 : Array Bool} (hB : stretchB ops S z L0 = true) (hTA : ∀ L a w, T L a w → AnI ro n P ops Q L a w) :
    ∀ L a w, ClosedL ops L → (∀ i, L.getD i false = true → (setAll (setAll L0 S) z.toList).getD i true = true) → (∀ i, L0.getD i false = true → L.getD i false = true) → AnSI ro n R P ops Q S z T L a w → AnI ro n P ops Q L a w := by
  simp only [stretchB, Bool.and_eq_true] at hB
  obtain ⟨⟨⟨hsel, hcl⟩, hlex⟩, htied⟩ := hB
  intro L a w hc hle hge h
  refine ⟨fun L a w => AnI ro n P ops Q L a w ∨ (ClosedL ops L ∧ (∀ i, L.getD i false = true → (setAll (setAll L0 S) z.toList).getD i true = true) ∧ (∀ i, L0.getD i false = true → L.getD i false = true) ∧ AnSI ro n R P ops Q S z T L a w), .inr ⟨hc, hle, hge, h⟩, ?_⟩
  rintro L a w (h | ⟨hc, hle, hge, h⟩)
  · exact ⟨h.step.1, fun i hi => wpOpIn_mono (fun _ _ => .inl) (h.step.2 i hi)⟩
  · rcases h.step with ⟨-, h⟩ | ⟨⟨i, hi, hiS⟩, h⟩
    · have := (hTA _ _ _ h).step
      exact ⟨this.1, fun i hi => wpOpIn_mono (fun _ _ => .inl) (this.2 i hi)⟩
    · refine ⟨fun e => (by rw [e] at hi; cases hi), fun j hj => ?_⟩
      have hal : allowed S z j := by
        by_cases hjS : j ∈ S
        · exact .inl hjS
        · by_cases hz : z = some j
          · exact .inr hz
          · exfalso
            obtain ⟨hj0, oj, hoj, -⟩ := mem_ready.1 hj
            have hjs := (Array.getElem?_eq_some_iff.1 hoj).1
            have hsz : ∀ (S : List Nat) (L : Array Bool), (setAll L S).size = L.size := by
              intro S
              induction S with
              | nil => intro L; rfl
              | cons k S ih => intro L; simp [setAll, ih]
            have hMs : (setAll (setAll L0 S) z.toList).size = ops.size := by rw [hsz, hsz]; exact (closedB_spec hcl).1
            have hother : ∀ (S : List Nat) (L : Array Bool) (j : Nat), j ∉ S → (setAll L S).getD j true = L.getD j true := by
              intro S
              induction S with
              | nil => intro L j _; rfl
              | cons k S ih =>
                intro L j hj
                simp only [setAll]
                rw [ih _ _ (fun h => hj (by simp [h])), getD_set_ne true (fun e => hj (by simp [e]))]
            by_cases hM : (setAll (setAll L0 S) z.toList).getD j true = true
            · rw [hother _ _ _ (by cases z with | none => simp | some k => simp only [Option.toList, List.mem_singleton]; intro e; exact hz (by rw [e])), hother _ _ _ hjS] at hM
              have h1 := hge j (getD_of.2 ⟨by rw [(closedB_spec hcl).1]; exact hjs, hM⟩)
              rw [unlisted hj0] at h1
              cases h1
            · have hjM : j ∈ Region.ready .any ops (setAll (setAll L0 S) z.toList) := by
                refine ready_le (by rw [hc.1, hMs]) (fun i hi => ?_) hj (by simpa using hM)
                rw [getD_of]
                refine ⟨?_, hle i hi⟩
                rw [hMs, ← hc.1]
                exact (getD_of.1 hi).1
              have := tied_listed hc hj hjM S htied i hiS
              rw [unlisted (mem_ready.1 hi).1] at this
              cases this
      refine wpOpIn_mono (fun a' w' h' => .inr ⟨hc.set hj, fun k hk => ?_, fun k hk => getD_set_true (hge k hk), h'.2 w' (G.refl _)⟩) (h j hj hal)
      by_cases hjk : j = k
      · subst hjk
        rcases hal with hal | hal
        · exact setAll_true _ _ _ (.inr (setAll_true _ _ _ (.inl hal)))
        · exact setAll_true _ _ _ (.inl (by simp [hal]))
      · rw [getD_set_ne false hjk] at hk; exact hle k hk

theorem AnI.stretch (hnd : noDeferB ops = true) (G : Goes R) {L : Array Bool} {a : Act} {w : World} (hB : stretchB ops S z L = true) (hT : LaterI ro n R P ops Q z T) (hTA : ∀ L a w, T L a w → AnI ro n P ops Q L a w) (hQ : ∀ c a d v w, Q (.panic c) (Act.put a d v) w → Q (.panic c) a w)
    (h : wpS R P ops T S L a w) : AnI ro n P ops Q L a w := by
  have hB' := hB
  simp only [stretchB, Bool.and_eq_true] at hB'
  obtain ⟨⟨⟨hsel, hcl⟩, hlex⟩, -⟩ := hB'
  exact AnI_of_stretch G hB hTA L a w (closedB_spec hcl) (fun i hi => setAll_true _ _ _ (.inr (setAll_true _ _ _ (.inr (getD_of.1 hi).2)))) (fun _ h => h) (AnSI_lex G hT hnd hsel hQ S L a w (fun _ h => h) (fun _ h => .inl h) hlex h w (G.refl _))
/-- a stretch by itself -/
theorem AnI.walk (R : World → World → Prop) (S : List Nat) (hnd : noDeferB ops = true) (G : Goes R) {L : Array Bool} {a : Act} {w : World} (hB : stretchB ops S none L = true) (hQ : ∀ c a d v w, Q (.panic c) (Act.put a d v) w → Q (.panic c) a w)
    (h : wpS R P ops (AnI ro n P ops Q) S L a w) : AnI ro n P ops Q L a w :=
  AnI.stretch hnd G hB (fun _ _ _ _ _ h => by cases h) (fun _ _ _ h => h) hQ h
/-- behind a stretch, where operation j may have come up beside it, or not yet -/
def BesideI (ro : Option Nat) (n : Nat) (R : World → World → Prop) (P : Program) (ops : Array Oper) (Q : Exit → Act → World → Prop) (j : Nat) (L : Array Bool) (a : Act) (w : World) : Prop :=
  AnI ro n P ops Q L a w ∧ (j ∈ Region.ready .any ops L → wpOpIn (Fw ro) n P ops Q j (fun a' w' => R w w' ∧ ∀ w'', R w' w'' → AnI ro n P ops Q (L.setIfInBounds j true) a' w'') a w)
/-- both ways behind such a stretch: the stretch's next operation i, or j -/
theorem BesideI.mk {L : Array Bool} {a : Act} {w : World} {i j : Nat} {o oj : Oper} (G : Goes R) (ho : ops[i]? = some o) (hoj : ops[j]? = some oj) (hr : Region.ready .any ops L = [i, j]) (hw : Region.wanted o (yielded ops a.tmps) = true) (hwj : Region.wanted oj (yielded ops a.tmps) = true)
    (h : ∀ K : Act → World → Prop, (∀ a' w', AnI ro n P ops Q (L.setIfInBounds i true) a' w' → K a' w') → o.wpIn (Fw ro) n P a w K Q)
    (h2 : ∀ K : Act → World → Prop, (∀ a' w', R w w' → (∀ w'', R w' w'' → AnI ro n P ops Q (L.setIfInBounds j true) a' w'') → K a' w') → oj.wpIn (Fw ro) n P a w K Q) : BesideI ro n R P ops Q j L a w := by
  have hj : wpOpIn (Fw ro) n P ops Q j (fun a' w' => R w w' ∧ ∀ w'', R w' w'' → AnI ro n P ops Q (L.setIfInBounds j true) a' w'') a w := by
    unfold wpOpIn
    simp only [hoj]
    rw [if_pos hwj]
    exact h2 _ fun _ _ h1 h2 => ⟨h1, h2⟩
  exact ⟨AnI.two ho hr hw h (wpOpIn_mono (fun a' w' h' => h'.2 w' (G.refl _)) hj), fun _ => hj⟩
/-- nothing of the stretch is left, j alone -/
theorem BesideI.one {L : Array Bool} {a : Act} {w : World} {j : Nat} {oj : Oper} (G : Goes R) (hoj : ops[j]? = some oj) (hr : Region.ready .any ops L = [j]) (hwj : Region.wanted oj (yielded ops a.tmps) = true)
    (h2 : ∀ K : Act → World → Prop, (∀ a' w', R w w' → (∀ w'', R w' w'' → AnI ro n P ops Q (L.setIfInBounds j true) a' w'') → K a' w') → oj.wpIn (Fw ro) n P a w K Q) : BesideI ro n R P ops Q j L a w := by
  have hj : wpOpIn (Fw ro) n P ops Q j (fun a' w' => R w w' ∧ ∀ w'', R w' w'' → AnI ro n P ops Q (L.setIfInBounds j true) a' w'') a w := by
    unfold wpOpIn
    simp only [hoj]
    rw [if_pos hwj]
    exact h2 _ fun _ _ h1 h2 => ⟨h1, h2⟩
  refine ⟨AnI.mk ⟨fun e => (by rw [hr] at e; cases e), fun k hk => ?_⟩, fun _ => hj⟩
  rw [hr] at hk
  obtain rfl : k = j := by simpa using hk
  exact wpOpIn_mono (fun a' w' h' => h'.2 w' (G.refl _)) hj

end
end Go.Proofs.Ytapoedcmhdlpfaa
namespace Go.Proofs.Ytapoedcmhdlpfaa
open Go.ChangeShapes Go.WideShapes Go.ChangeAt Go.RowKit
section
variable {P : Program} {ops : Array Oper} {Q : Exit → Act → World → Prop} {R : World → World → Prop} {ro : Option Nat} {n : Nat}
def allowedJ (S z : List Nat) (j : Nat) : Prop := j ∈ S ∨ j ∈ z
def stretchJB (ops : Array Oper) (S z : List Nat) (L : Array Bool) : Bool :=
  Region.noSelect ops && closedB ops L && lexS ops S L && (let M := setAll (setAll L S) z; tiedB ops (Region.ready .any ops M) (S ++ z))
variable {S : List Nat} {z : List Nat} {T : Array Bool → Act → World → Prop}
/-- in whatever order those of the stretch come up, and the one beside it; in whatever world has grown out of the one behind each; then T -/
def AnSJ (ro : Option Nat) (n : Nat) (R : World → World → Prop) (P : Program) (ops : Array Oper) (Q : Exit → Act → World → Prop) (S : List Nat) (z : List Nat) (T : Array Bool → Act → World → Prop) (L : Array Bool) (a : Act) (w : World) : Prop :=
  ∃ I : Array Bool → Act → World → Prop, I L a w ∧ ∀ L a w, I L a w → (Over S L ∧ T L a w) ∨
    ((∃ i, i ∈ Region.ready .any ops L ∧ i ∈ S) ∧ ∀ j, j ∈ Region.ready .any ops L → allowedJ S z j → wpOpIn (Fw ro) n P ops Q j (fun a' w' => R w w' ∧ ∀ w'', R w' w'' → I (L.setIfInBounds j true) a' w'') a w)
theorem AnSJ.step {L : Array Bool} {a : Act} {w : World} (h : AnSJ ro n R P ops Q S z T L a w) : (Over S L ∧ T L a w) ∨
    ((∃ i, i ∈ Region.ready .any ops L ∧ i ∈ S) ∧ ∀ j, j ∈ Region.ready .any ops L → allowedJ S z j → wpOpIn (Fw ro) n P ops Q j (fun a' w' => R w w' ∧ ∀ w'', R w' w'' → AnSJ ro n R P ops Q S z T (L.setIfInBounds j true) a' w'') a w) := by
  obtain ⟨I, h0, hI⟩ := h
  rcases hI L a w h0 with h | ⟨h1, h2⟩
  · exact .inl h
  · exact .inr ⟨h1, fun j hj hal => wpOpIn_mono (fun a' w' h' => ⟨h'.1, fun w'' hw => ⟨I, h'.2 w'' hw, hI⟩⟩) (h2 j hj hal)⟩
theorem AnSJ.over {L : Array Bool} {a : Act} {w : World} (h1 : Over S L) (h2 : T L a w) : AnSJ ro n R P ops Q S z T L a w :=
  ⟨fun L a w => Over S L ∧ T L a w, ⟨h1, h2⟩, fun _ _ _ h => .inl h⟩

/-- what T must abide: that the one beside the stretch comes up later -/
def LaterJ (ro : Option Nat) (n : Nat) (R : World → World → Prop) (P : Program) (ops : Array Oper) (Q : Exit → Act → World → Prop) (z : List Nat) (T : Array Bool → Act → World → Prop) : Prop :=
  ∀ L a w j, T L a w → j ∈ z → j ∈ Region.ready .any ops L → wpOpIn (Fw ro) n P ops Q j (fun a' w' => R w w' ∧ ∀ w'', R w' w'' → T (L.setIfInBounds j true) a' w'') a w

theorem AnSJ_first (hnd : noDeferB ops = true) (G : Goes R) (hT : LaterJ ro n R P ops Q z T) {i : Nat} {oi : Oper} {v : Value} {L : Array Bool} {a : Act} {w : World} (hiS : i ∈ S) (hi : ops[i]? = some oi) (hsel : ∀ (j : Nat) (o : Oper) cs b, ops[j]? = some o → o.op ≠ .select cs b) (hQ : ∀ c a w, Q (.panic c) (a.put oi.dst v) w → Q (.panic c) a w)
    (hfree : ∀ j oj, ops[j]? = some oj → j ≠ i → L.getD j true = false → (∀ e ∈ oj.after, Region.binds .any e = true → e.on ≠ i) → oi.apart ops oj = true)
    (hr : i ∈ Region.ready .any ops L) (hy : YieldsR R P ops w oi v a)
    (H : ∀ w', R w w' → AnSJ ro n R P ops Q S z T (L.setIfInBounds i true) (a.put oi.dst v) w') : AnSJ ro n R P ops Q S z T L a w := by
  refine ⟨fun L a w => AnSJ ro n R P ops Q S z T L a w ∨ ((∀ j oj, ops[j]? = some oj → j ≠ i → L.getD j true = false → (∀ e ∈ oj.after, Region.binds .any e = true → e.on ≠ i) → oi.apart ops oj = true) ∧ i ∈ Region.ready .any ops L ∧ YieldsR R P ops w oi v a ∧ ∀ w', R w w' → AnSJ ro n R P ops Q S z T (L.setIfInBounds i true) (a.put oi.dst v) w'), .inr ⟨hfree, hr, hy, H⟩, ?_⟩
  rintro L a w (h | ⟨hfree, hr, hy, H⟩)
  · rcases h.step with h | ⟨h1, h2⟩
    · exact .inl h
    · exact .inr ⟨h1, fun j hj hal => wpOpIn_mono (fun a' w' h' => ⟨h'.1, fun w'' hw => .inl (h'.2 w'' hw)⟩) (h2 j hj hal)⟩
  · refine .inr ⟨⟨i, hr, hiS⟩, fun j hj hal => ?_⟩
    by_cases hji : j = i
    · subst hji
      exact hy.wpOpI hnd G hi (G.refl _) fun w' hw' => ⟨hw', fun w'' hw'' => .inl (H w'' (G.trans hw' hw''))⟩
    · obtain ⟨hjun, oj, hoj, hall⟩ := mem_ready.1 hj
      have hnot : ∀ e ∈ oj.after, Region.binds .any e = true → e.on ≠ i := by
        intro e he hb heq
        have g1 := hall e he hb
        have g0 := unlisted (mem_ready.1 hr).1
        rw [heq, g0] at g1
        cases g1
      have h1 : wpOpIn (Fw ro) n P ops Q j (fun a' w' => R w w' ∧ ∀ w'', R w' w'' → AnSJ ro n R P ops Q S z T ((L.setIfInBounds i true).setIfInBounds j true) a' w'') (a.put oi.dst v) w := by
        rcases (H w (G.refl _)).step with ⟨h1, h2⟩ | ⟨-, h1⟩
        · rcases hal with hal | hal
          · have := h1 j hal
            rw [getD_set_ne true (Ne.symm hji), hjun] at this
            cases this
          · exact wpOpIn_mono (fun a' w' h' => ⟨h'.1, fun w'' hw => AnSJ.over (Over.set h1) (h'.2 w'' hw)⟩) (hT _ _ _ j h2 hal (ready_mono hj hji))
        · exact h1 j (ready_mono hj hji) hal
      have h2 := wpOpIn_past hnd hoj (hfree j oj hoj hji hjun hnot) (fun cs b => hsel i oi cs b hi) (fun cs b => hsel j oj cs b hoj) hQ h1
      have hfree' : ∀ k ok, ops[k]? = some ok → k ≠ i → (L.setIfInBounds j true).getD k true = false →
          (∀ e ∈ ok.after, Region.binds .any e = true → e.on ≠ i) → oi.apart ops ok = true := by
        intro k ok hk hki hun hno
        refine hfree k ok hk hki ?_ hno
        by_cases hjk : j = k
        · subst hjk; exact hjun
        · rw [getD_set_ne true hjk] at hun; exact hun
      refine wpOpIn_mono (fun a' w' h3 => ?_) h2
      obtain ⟨ha, hx, hK⟩ := h3
      refine ⟨hx, fun w'' hw'' => .inr ⟨hfree', ready_mono hr (Ne.symm hji), (hy.alike ha).ext G (G.trans hx hw''), fun w3 hw3 => ?_⟩⟩
      have := hK w3 (G.trans hw'' hw3)
      rw [Array.setIfInBounds_comm _ _ hji]
      exact this

theorem AnSJ_lex (G : Goes R) (hT : LaterJ ro n R P ops Q z T) (hnd : noDeferB ops = true) (hsel : Region.noSelect ops = true) (hQ : ∀ c a d v w, Q (.panic c) (Act.put a d v) w → Q (.panic c) a w) : ∀ (S' : List Nat) (L : Array Bool) (a : Act) (W : World), (∀ i ∈ S', i ∈ S) → (∀ i ∈ S, i ∈ S' ∨ L.getD i true = true) →
    lexS ops S' L = true → wpS R P ops T S' L a W → ∀ w, R W w → AnSJ ro n R P ops Q S z T L a w
  | [], L, a, W, _, hall, _, h, w, hw => AnSJ.over (fun i hi => (hall i hi).resolve_left (by simp)) (h w hw)
  | i :: S', L, a, W, hsub, hall, hB, h, w, hw => by
    simp only [lexS, Bool.and_eq_true] at hB
    obtain ⟨⟨hr, hf⟩, hB'⟩ := hB
    obtain ⟨o, h0, h⟩ := h
    have hall' : ∀ j ∈ S, j ∈ S' ∨ (L.setIfInBounds i true).getD j true = true := by
      intro j hj
      rcases hall j hj with h | h
      · rcases List.mem_cons.1 h with rfl | h
        · right
          rcases Nat.lt_or_ge j L.size with h1 | h1
          · simp [h1]
          · simp []
        · exact .inl h
      · right
        by_cases hk : i = j
        · subst hk
          rcases Nat.lt_or_ge i L.size with h1 | h1
          · simp [h1]
          · simp []
        · rw [getD_set_ne true hk]; exact h
    have first : ∀ v, YieldsR R P ops w o v a → wpS R P ops T S' (L.setIfInBounds i true) (a.put o.dst v) W → AnSJ ro n R P ops Q S z T L a w := fun v hy hK =>
      AnSJ_first hnd G hT (hsub i (by simp)) h0 (Region.noSelect_spec hsel) (fun c a w h => hQ c a _ _ w h) (Region.free_spec h0 hf) (by simpa using hr) hy fun w' hw' =>
        AnSJ_lex G hT hnd hsel hQ S' _ _ W (fun j hj => hsub j (by simp [hj])) hall' hB' hK w' (G.trans hw hw')
    rcases h with ⟨h1, h2⟩ | ⟨h1, v, h2, h3⟩
    · exact first undef (.inr ⟨h1, rfl⟩) h2
    · exact first v (.inl ⟨h1, fun w1 hw1 => h2 w1 (G.trans hw hw1)⟩) h3

/-! ### out of a stretch -/
theorem AnI_of_stretchJ (G : Goes R) {L0 : Array Bool} (hB : stretchJB ops S z L0 = true) (hTA : ∀ L a w, T L a w → AnI ro n P ops Q L a w) :
    ∀ L a w, ClosedL ops L → (∀ i, L.getD i false = true → (setAll (setAll L0 S) z).getD i true = true) → (∀ i, L0.getD i false = true → L.getD i false = true) → AnSJ ro n R P ops Q S z T L a w → AnI ro n P ops Q L a w := by
  simp only [stretchJB, Bool.and_eq_true] at hB
  obtain ⟨⟨⟨hsel, hcl⟩, hlex⟩, htied⟩ := hB
  intro L a w hc hle hge h
  refine ⟨fun L a w => AnI ro n P ops Q L a w ∨ (ClosedL ops L ∧ (∀ i, L.getD i false = true → (setAll (setAll L0 S) z).getD i true = true) ∧ (∀ i, L0.getD i false = true → L.getD i false = true) ∧ AnSJ ro n R P ops Q S z T L a w), .inr ⟨hc, hle, hge, h⟩, ?_⟩
  rintro L a w (h | ⟨hc, hle, hge, h⟩)
  · exact ⟨h.step.1, fun i hi => wpOpIn_mono (fun _ _ => .inl) (h.step.2 i hi)⟩
  · rcases h.step with ⟨-, h⟩ | ⟨⟨i, hi, hiS⟩, h⟩
    · have := (hTA _ _ _ h).step
      exact ⟨this.1, fun i hi => wpOpIn_mono (fun _ _ => .inl) (this.2 i hi)⟩
    · refine ⟨fun e => (by rw [e] at hi; cases hi), fun j hj => ?_⟩
      have hal : allowedJ S z j := by
        by_cases hjS : j ∈ S
        · exact .inl hjS
        · by_cases hz : j ∈ z
          · exact .inr hz
          · exfalso
            obtain ⟨hj0, oj, hoj, -⟩ := mem_ready.1 hj
            have hjs := (Array.getElem?_eq_some_iff.1 hoj).1
            have hsz : ∀ (S : List Nat) (L : Array Bool), (setAll L S).size = L.size := by
              intro S
              induction S with
              | nil => intro L; rfl
              | cons k S ih => intro L; simp [setAll, ih]
            have hMs : (setAll (setAll L0 S) z).size = ops.size := by rw [hsz, hsz]; exact (closedB_spec hcl).1
            have hother : ∀ (S : List Nat) (L : Array Bool) (j : Nat), j ∉ S → (setAll L S).getD j true = L.getD j true := by
              intro S
              induction S with
              | nil => intro L j _; rfl
              | cons k S ih =>
                intro L j hj
                simp only [setAll]
                rw [ih _ _ (fun h => hj (by simp [h])), getD_set_ne true (fun e => hj (by simp [e]))]
            by_cases hM : (setAll (setAll L0 S) z).getD j true = true
            · rw [hother _ _ _ hz, hother _ _ _ hjS] at hM
              have h1 := hge j (getD_of.2 ⟨by rw [(closedB_spec hcl).1]; exact hjs, hM⟩)
              rw [unlisted hj0] at h1
              cases h1
            · have hjM : j ∈ Region.ready .any ops (setAll (setAll L0 S) z) := by
                refine ready_le (by rw [hc.1, hMs]) (fun i hi => ?_) hj (by simpa using hM)
                rw [getD_of]
                refine ⟨?_, hle i hi⟩
                rw [hMs, ← hc.1]
                exact (getD_of.1 hi).1
              have := tied_listed hc hj hjM (S ++ z) htied i (by simp [hiS])
              rw [unlisted (mem_ready.1 hi).1] at this
              cases this
      refine wpOpIn_mono (fun a' w' h' => .inr ⟨hc.set hj, fun k hk => ?_, fun k hk => getD_set_true (hge k hk), h'.2 w' (G.refl _)⟩) (h j hj hal)
      by_cases hjk : j = k
      · subst hjk
        rcases hal with hal | hal
        · exact setAll_true _ _ _ (.inr (setAll_true _ _ _ (.inl hal)))
        · exact setAll_true _ _ _ (.inl hal)
      · rw [getD_set_ne false hjk] at hk; exact hle k hk

theorem AnI.stretchJ (hnd : noDeferB ops = true) (G : Goes R) {L : Array Bool} {a : Act} {w : World} (hB : stretchJB ops S z L = true) (hT : LaterJ ro n R P ops Q z T) (hTA : ∀ L a w, T L a w → AnI ro n P ops Q L a w) (hQ : ∀ c a d v w, Q (.panic c) (Act.put a d v) w → Q (.panic c) a w)
    (h : wpS R P ops T S L a w) : AnI ro n P ops Q L a w := by
  have hB' := hB
  simp only [stretchJB, Bool.and_eq_true] at hB'
  obtain ⟨⟨⟨hsel, hcl⟩, hlex⟩, -⟩ := hB'
  exact AnI_of_stretchJ G hB hTA L a w (closedB_spec hcl) (fun i hi => setAll_true _ _ _ (.inr (setAll_true _ _ _ (.inr (getD_of.1 hi).2)))) (fun _ h => h) (AnSJ_lex G hT hnd hsel hQ S L a w (fun _ h => h) (fun _ h => .inl h) hlex h w (G.refl _))

/-- the game, where those of Z go on within R -/
def AnZ (ro : Option Nat) (n : Nat) (R : World → World → Prop) (P : Program) (ops : Array Oper) (Q : Exit → Act → World → Prop) (Z : List Nat) (L : Array Bool) (a : Act) (w : World) : Prop :=
  ∃ I : Array Bool → Act → World → Prop, I L a w ∧ ∀ L a w, I L a w → (Region.ready .any ops L = [] → Q .normal a w) ∧
    ∀ i ∈ Region.ready .any ops L, wpOpIn (Fw ro) n P ops Q i (fun a' w' => I (L.setIfInBounds i true) a' w' ∧ (i ∈ Z → R w w' ∧ ∀ w'', R w' w'' → I (L.setIfInBounds i true) a' w'')) a w
variable {Z : List Nat}
theorem AnZ.step {L : Array Bool} {a : Act} {w : World} (h : AnZ ro n R P ops Q Z L a w) : (Region.ready .any ops L = [] → Q .normal a w) ∧
    ∀ i ∈ Region.ready .any ops L, wpOpIn (Fw ro) n P ops Q i (fun a' w' => AnZ ro n R P ops Q Z (L.setIfInBounds i true) a' w' ∧ (i ∈ Z → R w w' ∧ ∀ w'', R w' w'' → AnZ ro n R P ops Q Z (L.setIfInBounds i true) a' w'')) a w := by
  obtain ⟨I, h0, hI⟩ := h
  exact ⟨(hI L a w h0).1, fun i hi => wpOpIn_mono (fun a' w' h' => ⟨⟨I, h'.1, hI⟩, fun hz => ⟨(h'.2 hz).1, fun w'' hw => ⟨I, (h'.2 hz).2 w'' hw, hI⟩⟩⟩) ((hI L a w h0).2 i hi)⟩
theorem AnZ.mk {L : Array Bool} {a : Act} {w : World} (h : (Region.ready .any ops L = [] → Q .normal a w) ∧
    ∀ i ∈ Region.ready .any ops L, wpOpIn (Fw ro) n P ops Q i (fun a' w' => AnZ ro n R P ops Q Z (L.setIfInBounds i true) a' w' ∧ (i ∈ Z → R w w' ∧ ∀ w'', R w' w'' → AnZ ro n R P ops Q Z (L.setIfInBounds i true) a' w'')) a w) : AnZ ro n R P ops Q Z L a w := by
  refine ⟨fun L' a' w' => AnZ ro n R P ops Q Z L' a' w' ∨ (L' = L ∧ a' = a ∧ w' = w), .inr ⟨rfl, rfl, rfl⟩, ?_⟩
  rintro L' a' w' (h' | ⟨rfl, rfl, rfl⟩)
  · exact ⟨h'.step.1, fun i hi => wpOpIn_mono (fun a' w' h => ⟨.inl h.1, fun hz => ⟨(h.2 hz).1, fun w'' hw => .inl ((h.2 hz).2 w'' hw)⟩⟩) (h'.step.2 i hi)⟩
  · exact ⟨h.1, fun i hi => wpOpIn_mono (fun a' w' h => ⟨.inl h.1, fun hz => ⟨(h.2 hz).1, fun w'' hw => .inl ((h.2 hz).2 w'' hw)⟩⟩) (h.2 i hi)⟩
theorem AnZ.anI {L : Array Bool} {a : Act} {w : World} (h : AnZ ro n R P ops Q Z L a w) : AnI ro n P ops Q L a w :=
  ⟨fun L a w => AnZ ro n R P ops Q Z L a w, h, fun _L _a _w h => ⟨h.step.1, fun i hi => wpOpIn_mono (fun _ _ h => h.1) (h.step.2 i hi)⟩⟩
theorem AnZ.later : LaterJ ro n R P ops Q Z (AnZ ro n R P ops Q Z) := fun _L _a _w j h hz hr => wpOpIn_mono (fun _a' _w' h' => h'.2 hz) (h.step.2 j hr)
theorem AnZ.done {L : Array Bool} {a : Act} {w : World} (hr : Region.ready .any ops L = []) (h : Q .normal a w) : AnZ ro n R P ops Q Z L a w :=
  AnZ.mk ⟨fun _ => h, fun i hi => by rw [hr] at hi; cases hi⟩
/-- one alone can come up, and goes on within R -/
theorem AnZ.one {L : Array Bool} {a : Act} {w : World} {i : Nat} {o : Oper} (G : Goes R) (ho : ops[i]? = some o) (hr : Region.ready .any ops L = [i]) (hw : Region.wanted o (yielded ops a.tmps) = true)
    (h : ∀ K : Act → World → Prop, (∀ a' w', R w w' → (∀ w'', R w' w'' → AnZ ro n R P ops Q Z (L.setIfInBounds i true) a' w'') → K a' w') → o.wpIn (Fw ro) n P a w K Q) : AnZ ro n R P ops Q Z L a w := by
  refine AnZ.mk ⟨fun e => (by rw [hr] at e; cases e), fun j hj => ?_⟩
  rw [hr] at hj
  obtain rfl : j = i := by simpa using hj
  unfold wpOpIn
  simp only [ho]
  rw [if_pos hw]
  exact h _ fun a' w' h1 h2 => ⟨h2 w' (G.refl _), fun _ => ⟨h1, h2⟩⟩
/-- one alone can come up, and none of Z is left -/
theorem AnZ.last {L : Array Bool} {a : Act} {w : World} {i : Nat} {o : Oper} (ho : ops[i]? = some o) (hr : Region.ready .any ops L = [i]) (hz : Z.contains i = false) (hw : Region.wanted o (yielded ops a.tmps) = true)
    (h : ∀ K : Act → World → Prop, (∀ a' w', AnZ ro n R P ops Q Z (L.setIfInBounds i true) a' w' → K a' w') → o.wpIn (Fw ro) n P a w K Q) : AnZ ro n R P ops Q Z L a w := by
  refine AnZ.mk ⟨fun e => (by rw [hr] at e; cases e), fun j hj => ?_⟩
  rw [hr] at hj
  obtain rfl : j = i := by simpa using hj
  unfold wpOpIn
  simp only [ho]
  rw [if_pos hw]
  exact h _ fun a' w' h1 => ⟨h1, fun hz' => by simp at hz; exact absurd hz' hz⟩
/-- the stretch S, beside which those of Z may come up -/
theorem AnI.walkZ (R : World → World → Prop) (S Z : List Nat) (hnd : noDeferB ops = true) (G : Goes R) {L : Array Bool} {a : Act} {w : World} (hB : stretchJB ops S Z L = true) (hQ : ∀ c a d v w, Q (.panic c) (Act.put a d v) w → Q (.panic c) a w)
    (h : wpS R P ops (AnZ ro n R P ops Q Z) S L a w) : AnI ro n P ops Q L a w :=
  AnI.stretchJ hnd G hB AnZ.later (fun _ _ _ h => h.anI) hQ h
end
end Go.Proofs.Ytapoedcmhdlpfaa
