/- A region that draws its order, as a game: whatever comes up next; stretches of reads in the order of the text, beside them one operation that may come up at any time. No condition. -/
import Derived.Test.YtoidhdcbemmfhaaDoorSegRegion
namespace Go.Proofs.YtoidhdcbemmfhaaDoor
open Go.ChangeShapes Go.WideShapes Go.ChangeAt Go.RowKit

section
variable {P : Program} {ops : Array Oper} {Q : Exit → Act → World → Prop} {R : World → World → Prop}

/-- whatever comes up next, and so on to the end -/
def An (P : Program) (ops : Array Oper) (Q : Exit → Act → World → Prop) (L : Array Bool) (a : Act) (w : World) : Prop :=
  ∃ I : Array Bool → Act → World → Prop, I L a w ∧ ∀ L a w, I L a w → (Region.ready .any ops L = [] → Q .normal a w) ∧ ∀ i ∈ Region.ready .any ops L, wpOp P ops Q i (I (L.setIfInBounds i true)) a w
theorem An.step {L : Array Bool} {a : Act} {w : World} (h : An P ops Q L a w) : (Region.ready .any ops L = [] → Q .normal a w) ∧ ∀ i ∈ Region.ready .any ops L, wpOp P ops Q i (An P ops Q (L.setIfInBounds i true)) a w := by
  obtain ⟨I, h0, hI⟩ := h
  exact ⟨(hI L a w h0).1, fun i hi => wpOp_mono (fun a' w' h' => ⟨I, h', hI⟩) ((hI L a w h0).2 i hi)⟩
theorem An.mk {L : Array Bool} {a : Act} {w : World} (h : (Region.ready .any ops L = [] → Q .normal a w) ∧ ∀ i ∈ Region.ready .any ops L, wpOp P ops Q i (An P ops Q (L.setIfInBounds i true)) a w) : An P ops Q L a w := by
  refine ⟨fun L' a' w' => An P ops Q L' a' w' ∨ (L' = L ∧ a' = a ∧ w' = w), .inr ⟨rfl, rfl, rfl⟩, fun L' a' w' h' => ?_⟩
  have key : (Region.ready .any ops L' = [] → Q .normal a' w') ∧ ∀ i ∈ Region.ready .any ops L', wpOp P ops Q i (An P ops Q (L'.setIfInBounds i true)) a' w' := by
    rcases h' with h' | ⟨rfl, rfl, rfl⟩
    · exact h'.step
    · exact h
  exact ⟨key.1, fun i hi => wpOp_mono (fun _ _ => .inl) (key.2 i hi)⟩
theorem An.done {L : Array Bool} {a : Act} {w : World} (hr : Region.ready .any ops L = []) (h : Q .normal a w) : An P ops Q L a w :=
  An.mk ⟨fun _ => h, fun i hi => by rw [hr] at hi; cases hi⟩
/-- one alone can come up -/
theorem An.one {L : Array Bool} {a : Act} {w : World} {i : Nat} {o : Oper} (ho : ops[i]? = some o) (hr : Region.ready .any ops L = [i]) (hw : Region.wanted o (yielded ops a.tmps) = true)
    (h : ∀ K : Act → World → Prop, (∀ a' w', An P ops Q (L.setIfInBounds i true) a' w' → K a' w') → o.wp P a w K Q) : An P ops Q L a w := by
  refine An.mk ⟨fun e => (by rw [hr] at e; cases e), fun j hj => ?_⟩
  rw [hr] at hj
  obtain rfl : j = i := by simpa using hj
  unfold wpOp
  simp only [ho]
  rw [if_pos hw]
  exact .inl (h _ fun _ _ h => h)
/-- one or the other -/
theorem An.two {L : Array Bool} {a : Act} {w : World} {i j : Nat} {o : Oper} (ho : ops[i]? = some o) (hr : Region.ready .any ops L = [i, j]) (hw : Region.wanted o (yielded ops a.tmps) = true)
    (h : ∀ K : Act → World → Prop, (∀ a' w', An P ops Q (L.setIfInBounds i true) a' w' → K a' w') → o.wp P a w K Q) (h2 : wpOp P ops Q j (An P ops Q (L.setIfInBounds j true)) a w) : An P ops Q L a w := by
  refine An.mk ⟨fun e => (by rw [hr] at e; cases e), fun k hk => ?_⟩
  rw [hr] at hk
  rcases (by simpa using hk : k = i ∨ k = j) with rfl | rfl
  · unfold wpOp
    simp only [ho]
    rw [if_pos hw]
    exact .inl (h _ fun _ _ h => h)
  · exact h2

/-- what hangs on no world may be taken first -/
theorem An.take {i : Nat} {oi : Oper} {v : Value} {L : Array Bool} {a : Act} {w : World} (hi : ops[i]? = some oi) (hB : (Region.noSelect ops && (Region.ready .any ops L).contains i && Region.free .any ops L i) = true)
    (hQ : ∀ c a d v w, Q (.panic c) (Act.put a d v) w → Q (.panic c) a w) (hy : (Region.wanted oi (yielded ops a.tmps) = true ∧ ∀ w, (execOp a.eval oi).run P w = .ok (.value v) w) ∨ (Region.wanted oi (yielded ops a.tmps) = false ∧ v = undef))
    (h : An P ops Q (L.setIfInBounds i true) (a.put oi.dst v) w) : An P ops Q L a w := by
  simp only [Bool.and_eq_true] at hB
  obtain ⟨⟨hsel, hr⟩, hf⟩ := hB
  have hr : i ∈ Region.ready .any ops L := by simpa using hr
  have hfree := Region.free_spec hi hf
  refine ⟨fun L a w => An P ops Q L a w ∨ ((∀ j oj, ops[j]? = some oj → j ≠ i → L.getD j true = false → (∀ e ∈ oj.after, Region.binds .any e = true → e.on ≠ i) → oi.apart ops oj = true) ∧ i ∈ Region.ready .any ops L ∧ Yields P ops oi v a ∧ An P ops Q (L.setIfInBounds i true) (a.put oi.dst v) w), .inr ⟨hfree, hr, hy, h⟩, ?_⟩
  rintro L a w (h | ⟨hfree, hr, hy, H⟩)
  · exact ⟨h.step.1, fun i hi => wpOp_mono (fun _ _ => .inl) (h.step.2 i hi)⟩
  · refine ⟨fun e => (by rw [e] at hr; cases hr), fun j hj => ?_⟩
    by_cases hji : j = i
    · subst hji; exact hy.wpOp hi (.inl H)
    · obtain ⟨hjun, oj, hoj, hall⟩ := mem_ready.1 hj
      have hnot : ∀ e ∈ oj.after, Region.binds .any e = true → e.on ≠ i := by
        intro e he hb heq
        have g1 := hall e he hb
        have g0 := unlisted (mem_ready.1 hr).1
        rw [heq, g0] at g1
        cases g1
      have h1 := H.step.2 j (ready_mono hj hji)
      have h2 := wpOp_put hoj (hfree j oj hoj hji hjun hnot) (fun cs b => Region.noSelect_spec hsel i oi cs b hi) (fun cs b => Region.noSelect_spec hsel j oj cs b hoj) (fun c a w => hQ c a _ _ w) hy h1
      have hfree' : ∀ k ok, ops[k]? = some ok → k ≠ i → (L.setIfInBounds j true).getD k true = false →
          (∀ e ∈ ok.after, Region.binds .any e = true → e.on ≠ i) → oi.apart ops ok = true := by
        intro k ok hk hki hun hno
        refine hfree k ok hk hki ?_ hno
        by_cases hjk : j = k
        · subst hjk; exact hjun
        · rw [getD_set_ne true hjk] at hun; exact hun
      refine wpOp_mono (fun a' w' h3 => .inr ⟨hfree', ready_mono hr (Ne.symm hji), h3.1, ?_⟩) h2
      rw [Array.setIfInBounds_comm _ _ hji]
      exact h3.2

/-- how many have not come up -/
def left (n : Nat) (L : Array Bool) : Nat := (List.range n).countP fun i => !L.getD i true
theorem countP_set (n : Nat) {L : Array Bool} {i : Nat} (hi : i < n) (h : L.getD i true = false) : (List.range n).countP (fun k => !(L.setIfInBounds i true).getD k true) + 1 = (List.range n).countP fun k => !L.getD k true := by
  induction n with
  | zero => omega
  | succ n ih =>
    rw [List.range_succ, List.countP_append, List.countP_append]
    have hs : i < L.size := by
      rcases Nat.lt_or_ge i L.size with h' | h'
      · exact h'
      · simp [Array.getElem?_eq_none h'] at h
    by_cases hin : i = n
    · subst hin
      have e1 : (List.range i).countP (fun k => !(L.setIfInBounds i true).getD k true) = (List.range i).countP fun k => !L.getD k true := by
        apply List.countP_congr
        intro k hk
        have hki : i ≠ k := by have := List.mem_range.1 hk; omega
        rw [getD_set_ne true hki]
      rw [e1]
      have h2 : (L.setIfInBounds i true).getD i true = true := by simp [hs]
      simp only [List.countP_singleton, h2, h]
      simp
    · have := ih (by omega)
      have h2 : (L.setIfInBounds i true).getD n true = L.getD n true := getD_set_ne true hin
      simp only [List.countP_singleton, h2]
      omega
theorem ready_nil {L : Array Bool} (h : left ops.size L = 0) : Region.ready .any ops L = [] := by
  cases hr : Region.ready .any ops L with
  | nil => rfl
  | cons i r =>
    have hi : i ∈ Region.ready .any ops L := by rw [hr]; simp
    obtain ⟨h0, o, ho, -⟩ := mem_ready.1 hi
    have hlt := (Array.getElem?_eq_some_iff.1 ho).1
    unfold left at h
    rw [List.countP_eq_zero] at h
    have := h i (List.mem_range.2 hlt)
    rw [h0] at this
    simp at this
theorem wpAny_of_An : ∀ (f : Nat) (L : Array Bool) (a : Act) (w : World), left ops.size L = f → An P ops Q L a w → wpAny P .any ops Q f L a w
  | 0, L, a, w, hf, h => ⟨ready_nil hf, h.step.1 (ready_nil hf)⟩
  | f + 1, L, a, w, hf, h => ⟨h.step.1, fun i hi => by
      obtain ⟨h0, o, ho, -⟩ := mem_ready.1 hi
      have := countP_set ops.size (Array.getElem?_eq_some_iff.1 ho).1 h0
      unfold left at hf
      exact wpOp_mono (fun a' w' h' => wpAny_of_An f _ a' w' (by unfold left; omega) h') (h.step.2 i hi)⟩
theorem left_none (n m : Nat) : m ≤ n → (List.range m).countP (fun i => !(Array.replicate n false).getD i true) = m := by
  intro hm
  have : (List.range m).countP (fun i => !(Array.replicate n false).getD i true) = (List.range m).length := by
    rw [List.countP_eq_length]
    intro i hi
    have := List.mem_range.1 hi
    have h2 : i < n := by omega
    simp [h2]
  rw [this, List.length_range]
theorem wp_region_An {id : Nat} {a : Act} {w : World} {l : List Oper} (hm : P.follows .mixedOrders = true) (h : An P l.toArray Q (Array.replicate l.length false) a { w with drawn := w.drawn + 1 }) : (Code.region id l.toArray true).wp P Q a w := by
  refine wp_region_any hm ?_
  have hl : left l.toArray.size (Array.replicate l.length false) = l.toArray.size := by
    unfold left
    rw [show l.toArray.size = l.length by simp]
    exact left_none _ _ (Nat.le_refl _)
  have := wpAny_of_An _ _ _ _ hl h
  simpa using this

/-! ### a stretch -/
def setAll (L : Array Bool) : List Nat → Array Bool
  | [] => L
  | i :: S => setAll (L.setIfInBounds i true) S

/-- one of the stretch S, or the one beside it -/
def allowed (S : List Nat) (z : Option Nat) (j : Nat) : Prop := j ∈ S ∨ z = some j
/-- the stretch is over -/
def Over (S : List Nat) (L : Array Bool) : Prop := ∀ i ∈ S, L.getD i true = true
/-- in whatever order those of the stretch come up, and the one beside it; in whatever world has grown out of the one behind each; then T -/
def AnS (R : World → World → Prop) (P : Program) (ops : Array Oper) (Q : Exit → Act → World → Prop) (S : List Nat) (z : Option Nat) (T : Array Bool → Act → World → Prop) (L : Array Bool) (a : Act) (w : World) : Prop :=
  ∃ I : Array Bool → Act → World → Prop, I L a w ∧ ∀ L a w, I L a w → (Over S L ∧ T L a w) ∨
    ((∃ i, i ∈ Region.ready .any ops L ∧ i ∈ S) ∧ ∀ j, j ∈ Region.ready .any ops L → allowed S z j → wpOp P ops Q j (fun a' w' => R w w' ∧ ∀ w'', R w' w'' → I (L.setIfInBounds j true) a' w'') a w)
variable {S : List Nat} {z : Option Nat} {T : Array Bool → Act → World → Prop}
theorem AnS.step {L : Array Bool} {a : Act} {w : World} (h : AnS R P ops Q S z T L a w) : (Over S L ∧ T L a w) ∨
    ((∃ i, i ∈ Region.ready .any ops L ∧ i ∈ S) ∧ ∀ j, j ∈ Region.ready .any ops L → allowed S z j → wpOp P ops Q j (fun a' w' => R w w' ∧ ∀ w'', R w' w'' → AnS R P ops Q S z T (L.setIfInBounds j true) a' w'') a w) := by
  obtain ⟨I, h0, hI⟩ := h
  rcases hI L a w h0 with h | ⟨h1, h2⟩
  · exact .inl h
  · exact .inr ⟨h1, fun j hj hal => wpOp_mono (fun a' w' h' => ⟨h'.1, fun w'' hw => ⟨I, h'.2 w'' hw, hI⟩⟩) (h2 j hj hal)⟩
theorem AnS.over {L : Array Bool} {a : Act} {w : World} (h1 : Over S L) (h2 : T L a w) : AnS R P ops Q S z T L a w :=
  ⟨fun L a w => Over S L ∧ T L a w, ⟨h1, h2⟩, fun _ _ _ h => .inl h⟩

theorem Over.set {L : Array Bool} {j : Nat} (h : Over S L) : Over S (L.setIfInBounds j true) := fun i hi => by
  by_cases hij : j = i
  · subst hij
    rcases Nat.lt_or_ge j L.size with h1 | h1
    · simp [h1]
    · simp [Array.getElem?_eq_none h1]
  · rw [getD_set_ne true hij]; exact h i hi

/-- what T must abide: that the one beside the stretch comes up later -/
def Later (R : World → World → Prop) (P : Program) (ops : Array Oper) (Q : Exit → Act → World → Prop) (z : Option Nat) (T : Array Bool → Act → World → Prop) : Prop :=
  ∀ L a w j, T L a w → z = some j → j ∈ Region.ready .any ops L → wpOp P ops Q j (fun a' w' => R w w' ∧ ∀ w'', R w' w'' → T (L.setIfInBounds j true) a' w'') a w

theorem AnS_first (G : Goes R) (hT : Later R P ops Q z T) {i : Nat} {oi : Oper} {v : Value} {L : Array Bool} {a : Act} {w : World} (hiS : i ∈ S) (hi : ops[i]? = some oi) (hsel : ∀ (j : Nat) (o : Oper) cs b, ops[j]? = some o → o.op ≠ .select cs b) (hQ : ∀ c a w, Q (.panic c) (a.put oi.dst v) w → Q (.panic c) a w)
    (hfree : ∀ j oj, ops[j]? = some oj → j ≠ i → L.getD j true = false → (∀ e ∈ oj.after, Region.binds .any e = true → e.on ≠ i) → oi.apart ops oj = true)
    (hr : i ∈ Region.ready .any ops L) (hy : YieldsR R P ops w oi v a)
    (H : ∀ w', R w w' → AnS R P ops Q S z T (L.setIfInBounds i true) (a.put oi.dst v) w') : AnS R P ops Q S z T L a w := by
  refine ⟨fun L a w => AnS R P ops Q S z T L a w ∨ ((∀ j oj, ops[j]? = some oj → j ≠ i → L.getD j true = false → (∀ e ∈ oj.after, Region.binds .any e = true → e.on ≠ i) → oi.apart ops oj = true) ∧ i ∈ Region.ready .any ops L ∧ YieldsR R P ops w oi v a ∧ ∀ w', R w w' → AnS R P ops Q S z T (L.setIfInBounds i true) (a.put oi.dst v) w'), .inr ⟨hfree, hr, hy, H⟩, ?_⟩
  rintro L a w (h | ⟨hfree, hr, hy, H⟩)
  · rcases h.step with h | ⟨h1, h2⟩
    · exact .inl h
    · exact .inr ⟨h1, fun j hj hal => wpOp_mono (fun a' w' h' => ⟨h'.1, fun w'' hw => .inl (h'.2 w'' hw)⟩) (h2 j hj hal)⟩
  · refine .inr ⟨⟨i, hr, hiS⟩, fun j hj hal => ?_⟩
    by_cases hji : j = i
    · subst hji
      exact hy.wpOp G hi (G.refl _) fun w' hw' => ⟨hw', fun w'' hw'' => .inl (H w'' (G.trans hw' hw''))⟩
    · obtain ⟨hjun, oj, hoj, hall⟩ := mem_ready.1 hj
      have hnot : ∀ e ∈ oj.after, Region.binds .any e = true → e.on ≠ i := by
        intro e he hb heq
        have g1 := hall e he hb
        have g0 := unlisted (mem_ready.1 hr).1
        rw [heq, g0] at g1
        cases g1
      have h1 : wpOp P ops Q j (fun a' w' => R w w' ∧ ∀ w'', R w' w'' → AnS R P ops Q S z T ((L.setIfInBounds i true).setIfInBounds j true) a' w'') (a.put oi.dst v) w := by
        rcases (H w (G.refl _)).step with ⟨h1, h2⟩ | ⟨-, h1⟩
        · rcases hal with hal | hal
          · have := h1 j hal
            rw [getD_set_ne true (Ne.symm hji), hjun] at this
            cases this
          · exact wpOp_mono (fun a' w' h' => ⟨h'.1, fun w'' hw => AnS.over (Over.set h1) (h'.2 w'' hw)⟩) (hT _ _ _ j h2 hal (ready_mono hj hji))
        · exact h1 j (ready_mono hj hji) hal
      have h2 := wpOp_past hoj (hfree j oj hoj hji hjun hnot) (fun cs b => hsel i oi cs b hi) (fun cs b => hsel j oj cs b hoj) hQ h1
      have hfree' : ∀ k ok, ops[k]? = some ok → k ≠ i → (L.setIfInBounds j true).getD k true = false →
          (∀ e ∈ ok.after, Region.binds .any e = true → e.on ≠ i) → oi.apart ops ok = true := by
        intro k ok hk hki hun hno
        refine hfree k ok hk hki ?_ hno
        by_cases hjk : j = k
        · subst hjk; exact hjun
        · rw [getD_set_ne true hjk] at hun; exact hun
      refine wpOp_mono (fun a' w' h3 => ?_) h2
      obtain ⟨ha, hx, hK⟩ := h3
      refine ⟨hx, fun w'' hw'' => .inr ⟨hfree', ready_mono hr (Ne.symm hji), (hy.alike ha).ext G (G.trans hx hw''), fun w3 hw3 => ?_⟩⟩
      have := hK w3 (G.trans hw'' hw3)
      rw [Array.setIfInBounds_comm _ _ hji]
      exact this

/-- the walk through a stretch in its order -/
def wpS (R : World → World → Prop) (P : Program) (ops : Array Oper) (T : Array Bool → Act → World → Prop) : List Nat → Array Bool → Act → World → Prop
  | [], L, a, W => ∀ w, R W w → T L a w
  | i :: S, L, a, W => ∃ o, ops[i]? = some o ∧
    ((Region.wanted o (yielded ops a.tmps) = false ∧ wpS R P ops T S (L.setIfInBounds i true) (a.put o.dst undef) W) ∨
     (Region.wanted o (yielded ops a.tmps) = true ∧ ∃ v, (∀ w, R W w → o.quietAt P a (fun w' => R w w') w v) ∧ wpS R P ops T S (L.setIfInBounds i true) (a.put o.dst v) W))
def lexS (ops : Array Oper) : List Nat → Array Bool → Bool
  | [], _ => true
  | i :: S, L => (Region.ready .any ops L).contains i && Region.free .any ops L i && lexS ops S (L.setIfInBounds i true)

theorem setAll_true : ∀ (S : List Nat) (L : Array Bool) (i : Nat), (i ∈ S ∨ L.getD i true = true) → (setAll L S).getD i true = true
  | [], L, i, h => by rcases h with h | h; cases h; exact h
  | k :: S, L, i, h => by
    refine setAll_true S _ i ?_
    rcases h with h | h
    · rcases List.mem_cons.1 h with rfl | h
      · right
        rcases Nat.lt_or_ge i L.size with h1 | h1
        · simp [h1]
        · simp [Array.getElem?_eq_none h1]
      · exact .inl h
    · right
      by_cases hk : k = i
      · subst hk
        rcases Nat.lt_or_ge k L.size with h1 | h1
        · simp [h1]
        · simp [Array.getElem?_eq_none h1]
      · rw [getD_set_ne true hk]; exact h

theorem AnS_lex (G : Goes R) (hT : Later R P ops Q z T) (hsel : Region.noSelect ops = true) (hQ : ∀ c a d v w, Q (.panic c) (Act.put a d v) w → Q (.panic c) a w) : ∀ (S' : List Nat) (L : Array Bool) (a : Act) (W : World), (∀ i ∈ S', i ∈ S) → (∀ i ∈ S, i ∈ S' ∨ L.getD i true = true) →
    lexS ops S' L = true → wpS R P ops T S' L a W → ∀ w, R W w → AnS R P ops Q S z T L a w
  | [], L, a, W, _, hall, _, h, w, hw => AnS.over (fun i hi => (hall i hi).resolve_left (by simp)) (h w hw)
  | i :: S', L, a, W, hsub, hall, hB, h, w, hw => by
    simp only [lexS, Bool.and_eq_true] at hB
    obtain ⟨⟨hr, hf⟩, hB'⟩ := hB
    obtain ⟨o, h0, h⟩ := h
    have hall' : ∀ j ∈ S, j ∈ S' ∨ (L.setIfInBounds i true).getD j true = true := by
      intro j hj
      rcases hall j hj with h | h
      · rcases List.mem_cons.1 h with rfl | h
        · right
          rcases Nat.lt_or_ge j L.size with h1 | h1
          · simp [h1]
          · simp [Array.getElem?_eq_none h1]
        · exact .inl h
      · right
        by_cases hk : i = j
        · subst hk
          rcases Nat.lt_or_ge i L.size with h1 | h1
          · simp [h1]
          · simp [Array.getElem?_eq_none h1]
        · rw [getD_set_ne true hk]; exact h
    have first : ∀ v, YieldsR R P ops w o v a → wpS R P ops T S' (L.setIfInBounds i true) (a.put o.dst v) W → AnS R P ops Q S z T L a w := fun v hy hK =>
      AnS_first G hT (hsub i (by simp)) h0 (Region.noSelect_spec hsel) (fun c a w h => hQ c a _ _ w h) (Region.free_spec h0 hf) (by simpa using hr) hy fun w' hw' =>
        AnS_lex G hT hsel hQ S' _ _ W (fun j hj => hsub j (by simp [hj])) hall' hB' hK w' (G.trans hw hw')
    rcases h with ⟨h1, h2⟩ | ⟨h1, v, h2, h3⟩
    · exact first undef (.inr ⟨h1, rfl⟩) h2
    · exact first v (.inl ⟨h1, fun w1 hw1 => h2 w1 (G.trans hw hw1)⟩) h3

/-! ### out of a stretch -/
/-- what has come up bears what it hangs on -/
def ClosedL (ops : Array Oper) (L : Array Bool) : Prop := L.size = ops.size ∧ ∀ j o, ops[j]? = some o → L.getD j false = true → ∀ e ∈ o.after, Region.binds .any e = true → L.getD e.on false = true
def closedB (ops : Array Oper) (L : Array Bool) : Bool := L.size == ops.size && (List.range ops.size).all fun j => !L.getD j false || ((ops[j]?).map fun o => o.after.all fun e => !Region.binds .any e || L.getD e.on false).getD true
theorem closedB_spec {L : Array Bool} (h : closedB ops L = true) : ClosedL ops L := by
  unfold closedB at h
  rw [Bool.and_eq_true, List.all_eq_true] at h
  refine ⟨by simpa using h.1, fun j o ho hj e he hb => ?_⟩
  have h1 := h.2 j (List.mem_range.2 (Array.getElem?_eq_some_iff.1 ho).1)
  simp only [hj, ho, Option.map_some, Option.getD_some, Bool.not_true, Bool.false_or, Array.all_eq_true_iff_forall_mem] at h1
  have := h1 e he
  simpa [hb] using this
theorem ClosedL.set {L : Array Bool} (h : ClosedL ops L) {j : Nat} (hj : j ∈ Region.ready .any ops L) : ClosedL ops (L.setIfInBounds j true) := by
  obtain ⟨hj0, oj, hoj, hall⟩ := mem_ready.1 hj
  refine ⟨by simp [h.1], fun k o ho hk e he hb => ?_⟩
  by_cases hjk : j = k
  · subst hjk
    rw [hoj] at ho
    injection ho with ho
    subst ho
    exact getD_set_true (hall e he hb)
  · rw [getD_set_ne false hjk] at hk
    exact getD_set_true (h.2 k o ho hk e he hb)
/-- S hangs together: each is wanted by a later one of S, or by all of E -/
def tiedB (ops : Array Oper) (E : List Nat) : List Nat → Bool
  | [] => true
  | i :: S => (S.any (fun s => dependsB ops s i) || E.all fun j => dependsB ops j i) && tiedB ops E S
theorem tied_listed {E : List Nat} {L : Array Bool} (hc : ClosedL ops L) {j : Nat} (hj : j ∈ Region.ready .any ops L) (hjE : j ∈ E) : ∀ (S : List Nat), tiedB ops E S = true → ∀ i ∈ S, L.getD i false = true
  | [], _, _, h => by cases h
  | k :: S, h, i, hi => by
    simp only [tiedB, Bool.and_eq_true, Bool.or_eq_true] at h
    have ih := tied_listed hc hj hjE S h.2
    rcases List.mem_cons.1 hi with rfl | hi
    · rcases h.1 with h1 | h1
      · rw [List.any_eq_true] at h1
        obtain ⟨s, hs, hd⟩ := h1
        obtain ⟨o, ho, e, he, hb, rfl⟩ := dependsB_spec hd
        exact hc.2 s o ho (ih s hs) e he hb
      · rw [List.all_eq_true] at h1
        obtain ⟨o, ho, e, he, hb, rfl⟩ := dependsB_spec (h1 j hjE)
        obtain ⟨-, o', ho', hall⟩ := mem_ready.1 hj
        rw [ho] at ho'
        injection ho' with ho'
        subst ho'
        exact hall e he hb
    · exact ih i hi
theorem ready_le {L M : Array Bool} (hs : L.size = M.size) (hle : ∀ i, L.getD i false = true → M.getD i false = true) {j : Nat} (hj : j ∈ Region.ready .any ops L) (hun : M.getD j true = false) : j ∈ Region.ready .any ops M := by
  obtain ⟨-, o, ho, hall⟩ := mem_ready.1 hj
  exact mem_ready.2 ⟨hun, o, ho, fun e he hb => hle _ (hall e he hb)⟩

/-- the stretch S beside z leads from L: all behind it waits for all of S -/
def stretchB (ops : Array Oper) (S : List Nat) (z : Option Nat) (L : Array Bool) : Bool :=
  Region.noSelect ops && closedB ops L && lexS ops S L && (let M := setAll (setAll L S) z.toList; tiedB ops (Region.ready .any ops M) S)

theorem getD_of {L : Array Bool} {i : Nat} : (L.getD i false = true ↔ i < L.size ∧ L.getD i true = true) := by
  rcases Nat.lt_or_ge i L.size with h | h
  · simp [h]
  · simp [Array.getElem?_eq_none h]; omega

theorem An_of_stretch (G : Goes R) {L0 : Array Bool} (hB : stretchB ops S z L0 = true) (hTA : ∀ L a w, T L a w → An P ops Q L a w) :
    ∀ L a w, ClosedL ops L → (∀ i, L.getD i false = true → (setAll (setAll L0 S) z.toList).getD i true = true) → (∀ i, L0.getD i false = true → L.getD i false = true) → AnS R P ops Q S z T L a w → An P ops Q L a w := by
  simp only [stretchB, Bool.and_eq_true] at hB
  obtain ⟨⟨⟨hsel, hcl⟩, hlex⟩, htied⟩ := hB
  intro L a w hc hle hge h
  refine ⟨fun L a w => An P ops Q L a w ∨ (ClosedL ops L ∧ (∀ i, L.getD i false = true → (setAll (setAll L0 S) z.toList).getD i true = true) ∧ (∀ i, L0.getD i false = true → L.getD i false = true) ∧ AnS R P ops Q S z T L a w), .inr ⟨hc, hle, hge, h⟩, ?_⟩
  rintro L a w (h | ⟨hc, hle, hge, h⟩)
  · exact ⟨h.step.1, fun i hi => wpOp_mono (fun _ _ => .inl) (h.step.2 i hi)⟩
  · rcases h.step with ⟨-, h⟩ | ⟨⟨i, hi, hiS⟩, h⟩
    · have := (hTA _ _ _ h).step
      exact ⟨this.1, fun i hi => wpOp_mono (fun _ _ => .inl) (this.2 i hi)⟩
    · refine ⟨fun e => (by rw [e] at hi; cases hi), fun j hj => ?_⟩
      have hal : allowed S z j := by
        by_cases hjS : j ∈ S
        · exact .inl hjS
        · by_cases hz : z = some j
          · exact .inr hz
          · exfalso
            obtain ⟨hj0, oj, hoj, -⟩ := mem_ready.1 hj
            have hjs := (Array.getElem?_eq_some_iff.1 hoj).1
            have hsz : ∀ (S : List Nat) (L : Array Bool), (setAll L S).size = L.size := by
              intro S
              induction S with
              | nil => intro L; rfl
              | cons k S ih => intro L; simp [setAll, ih]
            have hMs : (setAll (setAll L0 S) z.toList).size = ops.size := by rw [hsz, hsz]; exact (closedB_spec hcl).1
            have hother : ∀ (S : List Nat) (L : Array Bool) (j : Nat), j ∉ S → (setAll L S).getD j true = L.getD j true := by
              intro S
              induction S with
              | nil => intro L j _; rfl
              | cons k S ih =>
                intro L j hj
                simp only [setAll]
                rw [ih _ _ (fun h => hj (by simp [h])), getD_set_ne true (fun e => hj (by simp [e]))]
            by_cases hM : (setAll (setAll L0 S) z.toList).getD j true = true
            · rw [hother _ _ _ (by cases z with | none => simp | some k => simp only [Option.toList, List.mem_singleton]; intro e; exact hz (by rw [e])), hother _ _ _ hjS] at hM
              have h1 := hge j (getD_of.2 ⟨by rw [(closedB_spec hcl).1]; exact hjs, hM⟩)
              rw [unlisted hj0] at h1
              cases h1
            · have hjM : j ∈ Region.ready .any ops (setAll (setAll L0 S) z.toList) := by
                refine ready_le (by rw [hc.1, hMs]) (fun i hi => ?_) hj (by simpa using hM)
                rw [getD_of]
                refine ⟨?_, hle i hi⟩
                rw [hMs, ← hc.1]
                exact (getD_of.1 hi).1
              have := tied_listed hc hj hjM S htied i hiS
              rw [unlisted (mem_ready.1 hi).1] at this
              cases this
      refine wpOp_mono (fun a' w' h' => .inr ⟨hc.set hj, fun k hk => ?_, fun k hk => getD_set_true (hge k hk), h'.2 w' (G.refl _)⟩) (h j hj hal)
      by_cases hjk : j = k
      · subst hjk
        rcases hal with hal | hal
        · exact setAll_true _ _ _ (.inr (setAll_true _ _ _ (.inl hal)))
        · exact setAll_true _ _ _ (.inl (by simp [hal]))
      · rw [getD_set_ne false hjk] at hk; exact hle k hk

theorem An.stretch (G : Goes R) {L : Array Bool} {a : Act} {w : World} (hB : stretchB ops S z L = true) (hT : Later R P ops Q z T) (hTA : ∀ L a w, T L a w → An P ops Q L a w) (hQ : ∀ c a d v w, Q (.panic c) (Act.put a d v) w → Q (.panic c) a w)
    (h : wpS R P ops T S L a w) : An P ops Q L a w := by
  have hB' := hB
  simp only [stretchB, Bool.and_eq_true] at hB'
  obtain ⟨⟨⟨hsel, hcl⟩, hlex⟩, -⟩ := hB'
  exact An_of_stretch G hB hTA L a w (closedB_spec hcl) (fun i hi => setAll_true _ _ _ (.inr (setAll_true _ _ _ (.inr (getD_of.1 hi).2)))) (fun _ h => h) (AnS_lex G hT hsel hQ S L a w (fun _ h => h) (fun _ h => .inl h) hlex h w (G.refl _))
/-- a stretch by itself -/
theorem An.walk (R : World → World → Prop) (S : List Nat) (G : Goes R) {L : Array Bool} {a : Act} {w : World} (hB : stretchB ops S none L = true) (hQ : ∀ c a d v w, Q (.panic c) (Act.put a d v) w → Q (.panic c) a w)
    (h : wpS R P ops (An P ops Q) S L a w) : An P ops Q L a w :=
  An.stretch G hB (fun _ _ _ _ _ h => by cases h) (fun _ _ _ h => h) hQ h
/-- behind a stretch, where operation j may have come up beside it, or not yet -/
def Beside (R : World → World → Prop) (P : Program) (ops : Array Oper) (Q : Exit → Act → World → Prop) (j : Nat) (L : Array Bool) (a : Act) (w : World) : Prop :=
  An P ops Q L a w ∧ (j ∈ Region.ready .any ops L → wpOp P ops Q j (fun a' w' => R w w' ∧ ∀ w'', R w' w'' → An P ops Q (L.setIfInBounds j true) a' w'') a w)
theorem An.walkz (R : World → World → Prop) (S : List Nat) (j : Nat) (G : Goes R) {L : Array Bool} {a : Act} {w : World} (hB : stretchB ops S (some j) L = true) (hQ : ∀ c a d v w, Q (.panic c) (Act.put a d v) w → Q (.panic c) a w)
    (h : wpS R P ops (Beside R P ops Q j) S L a w) : An P ops Q L a w := by
  refine An.stretch G hB (fun L a w k hT hk hr => ?_) (fun _ _ _ h => h.1) hQ h
  injection hk with hk
  subst hk
  refine wpOp_mono (fun a' w' h' => ⟨h'.1, fun w'' hw => ⟨h'.2 w'' hw, fun hj => ?_⟩⟩) (hT.2 hr)
  have h0 := (mem_ready.1 hj).1
  have h1 : (L.setIfInBounds j true).getD j true = true := by
    rcases Nat.lt_or_ge j L.size with h | h
    · simp [h]
    · simp [Array.getElem?_eq_none h]
  rw [h1] at h0
  cases h0
/-- both ways behind such a stretch: the stretch's next operation i, or j -/
theorem Beside.mk {L : Array Bool} {a : Act} {w : World} {i j : Nat} {o oj : Oper} (G : Goes R) (ho : ops[i]? = some o) (hoj : ops[j]? = some oj) (hr : Region.ready .any ops L = [i, j]) (hw : Region.wanted o (yielded ops a.tmps) = true) (hwj : Region.wanted oj (yielded ops a.tmps) = true)
    (h : ∀ K : Act → World → Prop, (∀ a' w', An P ops Q (L.setIfInBounds i true) a' w' → K a' w') → o.wp P a w K Q)
    (h2 : ∀ K : Act → World → Prop, (∀ a' w', R w w' → (∀ w'', R w' w'' → An P ops Q (L.setIfInBounds j true) a' w'') → K a' w') → oj.wp P a w K Q) : Beside R P ops Q j L a w := by
  have hj : wpOp P ops Q j (fun a' w' => R w w' ∧ ∀ w'', R w' w'' → An P ops Q (L.setIfInBounds j true) a' w'') a w := by
    unfold wpOp
    simp only [hoj]
    rw [if_pos hwj]
    exact .inl (h2 _ fun _ _ h1 h2 => ⟨h1, h2⟩)
  exact ⟨An.two ho hr hw h (wpOp_mono (fun a' w' h' => h'.2 w' (G.refl _)) hj), fun _ => hj⟩
/-- nothing of the stretch is left, j alone -/
theorem Beside.one {L : Array Bool} {a : Act} {w : World} {j : Nat} {oj : Oper} (G : Goes R) (hoj : ops[j]? = some oj) (hr : Region.ready .any ops L = [j]) (hwj : Region.wanted oj (yielded ops a.tmps) = true)
    (h2 : ∀ K : Act → World → Prop, (∀ a' w', R w w' → (∀ w'', R w' w'' → An P ops Q (L.setIfInBounds j true) a' w'') → K a' w') → oj.wp P a w K Q) : Beside R P ops Q j L a w := by
  have hj : wpOp P ops Q j (fun a' w' => R w w' ∧ ∀ w'', R w' w'' → An P ops Q (L.setIfInBounds j true) a' w'') a w := by
    unfold wpOp
    simp only [hoj]
    rw [if_pos hwj]
    exact .inl (h2 _ fun _ _ h1 h2 => ⟨h1, h2⟩)
  refine ⟨An.mk ⟨fun e => (by rw [hr] at e; cases e), fun k hk => ?_⟩, fun _ => hj⟩
  rw [hr] at hk
  obtain rfl : k = j := by simpa using hk
  exact wpOp_mono (fun a' w' h' => h'.2 w' (G.refl _)) hj

theorem wpS_skip {T : Array Bool → Act → World → Prop} {i : Nat} {S : List Nat} {L : Array Bool} {a : Act} {W : World} {o : Oper} (ho : ops[i]? = some o) (hw : Region.wanted o (yielded ops a.tmps) = false) (h : wpS R P ops T S (L.setIfInBounds i true) (a.put o.dst undef) W) : wpS R P ops T (i :: S) L a W := ⟨o, ho, .inl ⟨hw, h⟩⟩
theorem wpS_want {T : Array Bool → Act → World → Prop} {i : Nat} {S : List Nat} {L : Array Bool} {a : Act} {W : World} {o : Oper} {v : Value} (ho : ops[i]? = some o) (hw : Region.wanted o (yielded ops a.tmps) = true) (hq : ∀ w, R W w → o.quietAt P a (fun w' => R w w') w v) (h : wpS R P ops T S (L.setIfInBounds i true) (a.put o.dst v) W) : wpS R P ops T (i :: S) L a W := ⟨o, ho, .inr ⟨hw, v, hq, h⟩⟩
/-- one operation of a stretch, found -/
def St (R : World → World → Prop) (P : Program) (ops : Array Oper) (T : Array Bool → Act → World → Prop) (o : Oper) (S : List Nat) (L : Array Bool) (a : Act) (W : World) : Prop :=
  (Region.wanted o (yielded ops a.tmps) = false ∧ wpS R P ops T S L (a.put o.dst undef) W) ∨
     (Region.wanted o (yielded ops a.tmps) = true ∧ ∃ v, (∀ w, R W w → o.quietAt P a (fun w' => R w w') w v) ∧ wpS R P ops T S L (a.put o.dst v) W)
theorem wpS_open {T : Array Bool → Act → World → Prop} {i : Nat} {S : List Nat} {L : Array Bool} {a : Act} {W : World} {o : Oper} (ho : ops[i]? = some o) (h : St R P ops T o S (L.setIfInBounds i true) a W) : wpS R P ops T (i :: S) L a W := ⟨o, ho, h⟩
theorem St_skip {T : Array Bool → Act → World → Prop} {S : List Nat} {L : Array Bool} {a : Act} {W : World} {o : Oper} (hw : Region.wanted o (yielded ops a.tmps) = false) (h : wpS R P ops T S L (a.put o.dst undef) W) : St R P ops T o S L a W := .inl ⟨hw, h⟩
theorem St_want {T : Array Bool → Act → World → Prop} {S : List Nat} {L : Array Bool} {a : Act} {W : World} {o : Oper} {v : Value} (hw : Region.wanted o (yielded ops a.tmps) = true) (hq : ∀ w, R W w → o.quietAt P a (fun w' => R w w') w v) (h : wpS R P ops T S L (a.put o.dst v) W) : St R P ops T o S L a W := .inr ⟨hw, v, hq, h⟩
theorem wpS_nil {T : Array Bool → Act → World → Prop} {L : Array Bool} {a : Act} {W : World} (h : ∀ w, R W w → T L a w) : wpS R P ops T [] L a W := h
end
end Go.Proofs.YtoidhdcbemmfhaaDoor
