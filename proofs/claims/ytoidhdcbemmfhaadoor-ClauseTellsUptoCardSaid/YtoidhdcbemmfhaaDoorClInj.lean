/- The plain law of clauses' texts: over a signature without a fault, with no name twice and none that looks like a variable's, two clauses of one text are one clause. -/
import Derived.Test.YtoidhdcbemmfhaaDoorInj
import Derived.Test.YtoidhdcbemmfhaaDoorCl4
import Derived.Test.YtoidhdcbemmfhaaDoorCl9
namespace Go.Proofs.YtoidhdcbemmfhaaDoor

/-- a name of letters -/
def plainName (s : Sy) : Prop := ∀ c ∈ s.name.data.toList, letterB c = true
theorem plain_one {s : Sy} (h : s.one = 0) : plainName s := by
  unfold Sy.one at h
  cases hn : named s.name with
  | false => rw [hn] at h; simp at h
  | true =>
    unfold named lettersB at hn
    simp only [Bool.and_eq_true, decide_eq_true_eq, List.all_eq_true] at hn
    exact hn.2
theorem plain_ck {l : List Sy} : ∀ (r : List Sy) (i : Nat), ckRef l r i = 0 → ∀ s ∈ r, plainName s
  | [], _, _, _, hs => by cases hs
  | x :: r, i, h, s, hs => by
    simp only [ckRef] at h
    have h1 : x.one = 0 := by
      by_cases h1 : x.one = 0
      · exact h1
      · rw [if_pos h1] at h; exact absurd h h1
    rw [if_neg (by simp [h1])] at h
    have h2 : ¬ atSy x l 0 < i := by
      intro h2
      rw [if_pos h2] at h; cases h
    rw [if_neg h2] at h
    rcases List.mem_cons.1 hs with rfl | hs
    · exact plain_one h1
    · exact plain_ck r (i + 1) h s hs
/-- the first symbol is $true, the others have plain names -/
theorem plain_sig {l : List Sy} (h : sigCheck l = 0) : ∃ t r, l = t :: r ∧ t.name.data.toList = [36, 116, 114, 117, 101] ∧ t.arity = 0 ∧ t.pred = true ∧ ∀ s ∈ r, plainName s := by
  unfold sigCheck at h
  by_cases h1 : 96 < l.length
  · rw [if_pos h1] at h; cases h
  · rw [if_neg h1] at h
    cases l with
    | nil => cases h
    | cons t r =>
      simp only at h
      by_cases ht : t.eqB .truth = true
      · rw [if_pos ht] at h
        simp only [Sy.eqB, decide_eq_true_eq] at ht
        refine ⟨t, r, rfl, ?_, ht.2.1, ht.2.2, plain_ck r 1 h⟩
        rw [ht.1]; rfl
      · rw [if_neg ht] at h; cases h

/-- how a term's text begins -/
theorem text_head {l : List Sy} (h : sigCheck l = 0) {t : Tm} {b : Bool} (ho : t.over l b = true) : ∃ c r, t.text l = c :: r ∧ (c = 88 ∨ (t.f = 0 ∧ c = 36) ∨ (letterB c = true ∧ t.f ≠ 0)) := by
  have hw := words_sig h
  obtain ⟨t0, r0, hl, hn0, -, -, hp⟩ := plain_sig h
  cases t with
  | mk f ks =>
    simp only [Tm.text, Tm.f]
    by_cases hf : f < 0
    · rw [if_pos hf]; exact ⟨88, _, rfl, .inl rfl⟩
    · rw [if_neg hf]
      obtain ⟨n, rfl⟩ : ∃ n : Nat, f = (n : Int) := ⟨f.toNat, by omega⟩
      obtain ⟨hn, -, -⟩ := over_pos ho
      obtain ⟨e1, e2⟩ := name_nd hw hn
      have e1' : nameAt l (n : Int) = l[n].name.data.toList := e1
      rw [e1']
      cases hnm : l[n].name.data.toList with
      | nil => exact absurd hnm e2.1
      | cons c r =>
        refine ⟨c, _, rfl, .inr ?_⟩
        cases n with
        | zero =>
          left
          refine ⟨rfl, ?_⟩
          have : l[0].name.data.toList = [36, 116, 114, 117, 101] := by subst hl; exact hn0
          rw [this] at hnm
          injection hnm with e _; exact e.symm
        | succ n =>
          right
          refine ⟨?_, by omega⟩
          have hm : l[n + 1] ∈ r0 := by
            subst hl
            exact List.getElem_mem _
          have := hp _ hm c
          rw [hnm] at this
          exact this (by simp)

theorem letter_ne {c d : UInt8} (h : letterB c = true) (hd : letterB d = false) : c ≠ d := fun e => by rw [e, hd] at h; cases h

/-- what stands behind a literal: nothing, or ' |' -/
def stopsL (r : List UInt8) : Prop := r = [] ∨ ∃ r', r = 32 :: 124 :: r'
theorem stops_of {r : List UInt8} (h : stopsL r) : stops r := by
  rcases h with rfl | ⟨r', rfl⟩
  · exact .inl rfl
  · exact .inr ⟨32, _, rfl, rfl⟩

theorem isTrue_eq {t : Tm} (h : t.isTrue = true) : t = .mk 0 [] := by
  cases t with
  | mk f ks =>
    simp only [Tm.isTrue, Tm.f, Tm.ks, Bool.and_eq_true, beq_iff_eq] at h
    obtain ⟨rfl, h⟩ := h
    rw [List.length_eq_zero_iff.1 (of_decide_eq_true h)]

/-- what is known of a literal that may be -/
theorem litOk_parts {l : List Sy} {x : Lt} (hs : sigCheck l = 0) (h : litOk l x = true) : termCheck l x.l = 0 ∧ termCheck l x.r = 0 ∧ x.l.f ≠ 0 := by
  unfold litOk at h
  simp only [Bool.and_eq_true, decide_eq_true_eq] at h
  obtain ⟨h1, h2, -, h3⟩ := h
  refine ⟨h1, h2, fun h0 => ?_⟩
  obtain ⟨t0, r0, rfl, -, ha, hp, -⟩ := plain_sig hs
  obtain ⟨-, -, ho⟩ := termCheck_zero h1
  have e1 : predOf (t0 :: r0) x.l = true := by
    unfold predOf
    rw [if_neg (by omega), h0]
    exact hp
  obtain ⟨xn, ⟨xf, xk⟩, xr⟩ := x
  have h0' : xf = 0 := h0
  subst h0'
  simp only at e1 ho h3
  obtain ⟨hn, har, -⟩ := over_pos (n := 0) ho
  have hk : xk.length = 0 := by
    have : (t0 :: r0)[0] = t0 := rfl
    rw [this, ha] at har
    omega
  have e2 : Tm.isTrue (.mk 0 xk) = true := by simp [Tm.isTrue, Tm.f, Tm.ks, hk]
  rw [e1, e2] at h3
  simp at h3
theorem termText_ok {l : List Sy} {t : Tm} (h : termCheck l t = 0) : termText l t = t.text l := by unfold termText; rw [if_pos h]

section
variable {l : List Sy} (hs : sigCheck l = 0) (hd : ∀ i j (hi : i < l.length) (hj : j < l.length), l[i].name = l[j].name → i = j) (hx : ∀ s ∈ l, ∀ r, s.name.data.toList = 88 :: r → r = [])
include hs hd hx

theorem term_inj {t u : Tm} (h1 : termCheck l t = 0) (h2 : termCheck l u = 0) {r1 r2 : List UInt8} (s1 : stops r1) (s2 : stops r2) (h : termText l t ++ r1 = termText l u ++ r2) : t = u ∧ r1 = r2 := by
  rw [termText_ok h1, termText_ok h2] at h
  obtain ⟨-, y1, y2⟩ := termCheck_zero h1
  obtain ⟨-, y3, y4⟩ := termCheck_zero h2
  exact text_inj (words_sig hs) hd hx t u true r1 r2 y1 y3 y2 y4 s1 s2 h
omit hd hx in
theorem term_tilde {t : Tm} (h1 : termCheck l t = 0) {r r' : List UInt8} (h : termText l t ++ r = 126 :: r') : False := by
  rw [termText_ok h1] at h
  obtain ⟨-, -, y2⟩ := termCheck_zero h1
  obtain ⟨c, s, e, hc⟩ := text_head hs y2
  rw [e] at h
  injection h with h _
  subst h
  rcases hc with hc | ⟨-, hc⟩ | ⟨hc, -⟩
  · cases hc
  · cases hc
  · exact absurd hc (by decide)

theorem lit_inj {x y : Lt} (hx1 : litOk l x = true) (hy1 : litOk l y = true) {r1 r2 : List UInt8} (s1 : stopsL r1) (s2 : stopsL r2) (h : litText l x ++ r1 = litText l y ++ r2) : x = y ∧ r1 = r2 := by
  obtain ⟨xa, xb, -⟩ := litOk_parts hs hx1
  obtain ⟨ya, yb, -⟩ := litOk_parts hs hy1
  have hL := fun {r1 r2} => term_inj (r1 := r1) (r2 := r2) hs hd hx xa ya
  have hR := fun {r1 r2} => term_inj (r1 := r1) (r2 := r2) hs hd hx xb yb
  have tX := fun {r r'} => term_tilde (r := r) (r' := r') hs xa
  have tY := fun {r r'} => term_tilde (r := r) (r' := r') hs ya
  obtain ⟨xn, xl, xr⟩ := x
  obtain ⟨yn, yl, yr⟩ := y
  simp only at hL hR tX tY
  have not124 : ∀ {r : List UInt8} {c : UInt8} {r' : List UInt8}, stopsL r → r = 32 :: c :: r' → c = 124 := by
    intro r c r' hr he
    rcases hr with rfl | ⟨r2, rfl⟩
    · cases he
    · injection he with _ he; injection he with he _; exact he.symm
  have st : ∀ {c : UInt8} {r : List UInt8}, stops (32 :: c :: r) := fun {c r} => .inr ⟨32, _, rfl, rfl⟩
  unfold litText at h
  simp only at h
  cases hxr : xr.isTrue <;> cases hyr : yr.isTrue <;> cases xn <;> cases yn <;> simp only [hxr, hyr, if_true, if_false, Bool.false_eq_true, List.cons_append, List.nil_append, List.append_assoc] at h
  · -- = and =
    obtain ⟨rfl, e⟩ := hL st st h
    simp only [List.cons.injEq, true_and] at e
    obtain ⟨rfl, e2⟩ := hR (stops_of s1) (stops_of s2) e
    exact ⟨rfl, e2⟩
  · obtain ⟨-, e⟩ := hL st st h
    injection e with _ e; injection e with e _; cases e
  · obtain ⟨-, e⟩ := hL st st h
    injection e with _ e; injection e with e _; cases e
  · obtain ⟨rfl, e⟩ := hL st st h
    simp only [List.cons.injEq, true_and] at e
    obtain ⟨rfl, e2⟩ := hR (stops_of s1) (stops_of s2) e
    exact ⟨rfl, e2⟩
  · obtain ⟨-, e⟩ := hL st (stops_of s2) h
    exact absurd (not124 s2 e.symm) (by decide)
  · exact (tX h).elim
  · obtain ⟨-, e⟩ := hL st (stops_of s2) h
    exact absurd (not124 s2 e.symm) (by decide)
  · exact (tX h).elim
  · obtain ⟨-, e⟩ := hL (stops_of s1) st h
    exact absurd (not124 s1 e) (by decide)
  · obtain ⟨-, e⟩ := hL (stops_of s1) st h
    exact absurd (not124 s1 e) (by decide)
  · exact (tY h.symm).elim
  · exact (tY h.symm).elim
  · obtain ⟨rfl, e⟩ := hL (stops_of s1) (stops_of s2) h
    rw [isTrue_eq hxr, isTrue_eq hyr]
    exact ⟨rfl, e⟩
  · exact (tX h).elim
  · exact (tY h.symm).elim
  · injection h with _ h; injection h with _ h
    obtain ⟨rfl, e⟩ := hL (stops_of s1) (stops_of s2) h
    rw [isTrue_eq hxr, isTrue_eq hyr]
    exact ⟨rfl, e⟩

/-- what stands behind the first literal -/
def tailText (l : List Sy) : List Lt → List UInt8
  | [] => []
  | x :: c => 32 :: 124 :: 32 :: (litText l x ++ tailText l c)
omit hs hd hx in
theorem clText_tail (x : Lt) (c : List Lt) : clText l (x :: c) = litText l x ++ tailText l c := by
  unfold clText
  rw [List.map_cons, Lib.join_cons]
  congr 1
  induction c with
  | nil => rfl
  | cons y c ih => rw [List.map_cons, tailText, ← ih]; simp [Lib.joinTail]
omit hs hd hx in
theorem stopsL_tail (c : List Lt) : stopsL (tailText l c) := by
  cases c with
  | nil => exact .inl rfl
  | cons x c => exact .inr ⟨_, rfl⟩
theorem tail_inj : ∀ {c d : List Lt}, c.all (litOk l) = true → d.all (litOk l) = true → tailText l c = tailText l d → c = d
  | [], [], _, _, _ => rfl
  | [], y :: d, _, _, h => by cases h
  | x :: c, [], _, _, h => by cases h
  | x :: c, y :: d, h1, h2, h => by
    simp only [List.all_cons, Bool.and_eq_true] at h1 h2
    simp only [tailText, List.cons.injEq, true_and] at h
    obtain ⟨rfl, e⟩ := lit_inj hs hd hx h1.1 h2.1 (stopsL_tail c) (stopsL_tail d) h
    rw [tail_inj h1.2 h2.2 e]
omit hd hx in
theorem text_false {x : Lt} (hx1 : litOk l x = true) {r r' : List UInt8} (h : litText l x ++ r = 36 :: r') : False := by
  obtain ⟨xa, xb, x0⟩ := litOk_parts hs hx1
  have key : ∀ {r : List UInt8}, termText l x.l ++ r = 36 :: r' → False := by
    intro r h
    rw [termText_ok xa] at h
    obtain ⟨-, -, y2⟩ := termCheck_zero xa
    obtain ⟨c, s, e, hc⟩ := text_head hs y2
    rw [e] at h
    injection h with h _
    subst h
    rcases hc with hc | ⟨hc, -⟩ | ⟨hc, -⟩
    · cases hc
    · exact x0 hc
    · exact absurd hc (by decide)
  unfold litText at h
  split at h
  · split at h
    · simp only [List.cons_append] at h
      injection h with h _
      cases h
    · exact key h
  · split at h
    · rw [List.append_assoc] at h; exact key h
    · rw [List.append_assoc] at h; exact key h

theorem clause_inj {c d : List Lt} (h1 : clauseCheck l c = 0) (h2 : clauseCheck l d = 0) (h : clauseText l c = clauseText l d) : c = d := by
  unfold clauseText at h
  rw [if_pos h1, if_pos h2] at h
  have o1 : c.all (litOk l) = true := by unfold clauseCheck at h1; split at h1; (rename_i h; exact h.2.2); cases h1
  have o2 : d.all (litOk l) = true := by unfold clauseCheck at h2; split at h2; (rename_i h; exact h.2.2); cases h2
  cases c with
  | nil =>
    cases d with
    | nil => rfl
    | cons y d =>
      rw [if_pos (by rfl), if_neg (by simp), clText_tail] at h
      simp only [List.all_cons, Bool.and_eq_true] at o2
      exact (text_false hs o2.1 h.symm).elim
  | cons x c =>
    rw [if_neg (by simp)] at h
    simp only [List.all_cons, Bool.and_eq_true] at o1
    cases d with
    | nil =>
      rw [if_pos (by rfl), clText_tail] at h
      exact (text_false hs o1.1 h).elim
    | cons y d =>
      rw [if_neg (by simp), clText_tail, clText_tail] at h
      simp only [List.all_cons, Bool.and_eq_true] at o2
      obtain ⟨rfl, e⟩ := lit_inj hs hd hx o1.1 o2.1 (stopsL_tail c) (stopsL_tail d) h
      rw [tail_inj hs hd hx o1.2 o2.2 e]
end

theorem ltSame_eq {x y : Lt} (h : x.same y = true) : x = y := by
  unfold Lt.same at h
  simp only [Bool.and_eq_true, beq_iff_eq] at h
  obtain ⟨h1, h2, h3⟩ := h
  obtain ⟨xn, xl, xr⟩ := x
  obtain ⟨yn, yl, yr⟩ := y
  simp only at h1 h2 h3
  rw [h1, same_eq _ _ h2, same_eq _ _ h3]
theorem ltSame_self (x : Lt) : x.same x = true := by
  unfold Lt.same
  rw [same_self, same_self]; simp
theorem sameCl_eq {c d : List Lt} (h : sameCl c d = true) : c = d := by
  unfold sameCl at h
  simp only [Bool.and_eq_true, decide_eq_true_eq] at h
  obtain ⟨h1, h2⟩ := h
  induction c generalizing d with
  | nil => cases d with
    | nil => rfl
    | cons y d => simp at h1
  | cons x c ih => cases d with
    | nil => simp at h1
    | cons y d =>
      simp only [samesCl, Bool.and_eq_true] at h2
      rw [ltSame_eq h2.1, ih (by simpa using h1) h2.2]
theorem sameCl_self (c : List Lt) : sameCl c c = true := by
  unfold sameCl
  simp only [Bool.and_eq_true, decide_eq_true_eq, true_and]
  induction c with
  | nil => rfl
  | cons x c ih => simp only [samesCl, ltSame_self, ih, Bool.and_self]
end Go.Proofs.YtoidhdcbemmfhaaDoor
