/- The plain law of texts: over a signature without a fault, with no name twice and none that looks like a variable's, two terms of one text are one term. -/
import Derived.Test.YtoidhdcbemmfhaaDoorText
import Derived.Test.YtoidhdcbemmfhaaDoorOrder
namespace Go.Proofs.YtoidhdcbemmfhaaDoor

/-- brackets, commas, blanks -/
def delim (c : UInt8) : Bool := c == 40 || c == 41 || c == 44 || c == 32
def stops (r : List UInt8) : Prop := r = [] ∨ ∃ c r', r = c :: r' ∧ delim c = true
theorem take_tok {a r : List UInt8} (ha : ∀ c ∈ a, delim c = false) (hr : stops r) : (a ++ r).takeWhile (fun c => !delim c) = a := by
  induction a with
  | nil =>
    rcases hr with rfl | ⟨c, r', rfl, hc⟩
    · rfl
    · simp [hc]
  | cons x a ih =>
    have := ha x (by simp)
    simp only [List.cons_append, List.takeWhile_cons, this, Bool.not_false, if_true]
    rw [ih fun c hc => ha c (by simp [hc])]
/-- two words with what follows -/
theorem tok_eq {a b r1 r2 : List UInt8} (ha : ∀ c ∈ a, delim c = false) (hb : ∀ c ∈ b, delim c = false) (h1 : stops r1) (h2 : stops r2) (h : a ++ r1 = b ++ r2) : a = b ∧ r1 = r2 := by
  have e := congrArg (List.takeWhile (fun c => !delim c)) h
  rw [take_tok ha h1, take_tok hb h2] at e
  subst e
  exact ⟨rfl, List.append_cancel_left h⟩

theorem letter_nd {c : UInt8} (h : letterB c = true) : delim c = false := by
  unfold letterB at h
  simp only [decide_eq_true_eq] at h
  unfold delim
  have : ∀ d : UInt8, d.toNat = 40 ∨ d.toNat = 41 ∨ d.toNat = 44 ∨ d.toNat = 32 → c ≠ d := by
    intro d hd e
    subst e
    omega
  have h1 := this 40 (by decide)
  have h2 := this 41 (by decide)
  have h3 := this 44 (by decide)
  have h4 := this 32 (by decide)
  simp [h1, h2, h3, h4]
theorem digit_nd : ∀ n, n < 48 → ∀ c ∈ Lib.decDigits n, delim c = false := by decide +kernel
theorem digits_inj : ∀ n, n < 48 → ∀ m, m < 48 → Lib.decDigits n = Lib.decDigits m → n = m := by decide +kernel
theorem digits_ne : ∀ n, n < 48 → Lib.decDigits n ≠ [] := by decide +kernel

/-- a name that is a word -/
def word (s : Sy) : Prop := s.name.data.toList ≠ [] ∧ ∀ c ∈ s.name.data.toList, delim c = false
theorem word_one {s : Sy} (h : s.one = 0) : word s := by
  unfold Sy.one at h
  cases hn : named s.name with
  | false => rw [hn] at h; simp at h
  | true =>
    unfold named lettersB at hn
    simp only [Bool.and_eq_true, decide_eq_true_eq, List.all_eq_true] at hn
    refine ⟨fun e => ?_, fun c hc => letter_nd (hn.2 c hc)⟩
    have : s.name.size = 0 := by
      have := congrArg List.length e
      simpa using this
    omega
theorem words_ck {l : List Sy} : ∀ (r : List Sy) (i : Nat), ckRef l r i = 0 → ∀ s ∈ r, word s
  | [], _, _, _, hs => by cases hs
  | x :: r, i, h, s, hs => by
    simp only [ckRef] at h
    have h1 : x.one = 0 := by
      by_cases h1 : x.one = 0
      · exact h1
      · rw [if_pos h1] at h; exact absurd h h1
    rw [if_neg (by simp [h1])] at h
    have h2 : ¬ atSy x l 0 < i := by
      intro h2
      rw [if_pos h2] at h; cases h
    rw [if_neg h2] at h
    rcases List.mem_cons.1 hs with rfl | hs
    · exact word_one h1
    · exact words_ck r (i + 1) h s hs
theorem words_sig {l : List Sy} (h : sigCheck l = 0) : ∀ s ∈ l, word s := by
  unfold sigCheck at h
  by_cases h1 : 96 < l.length
  · rw [if_pos h1] at h; cases h
  · rw [if_neg h1] at h
    cases l with
    | nil => intro s hs; cases hs
    | cons t r =>
      simp only at h
      by_cases ht : t.eqB .truth = true
      · rw [if_pos ht] at h
        intro s hs
        rcases List.mem_cons.1 hs with rfl | hs
        · simp only [Sy.eqB, decide_eq_true_eq] at ht
          unfold word
          rw [ht.1]
          refine ⟨by decide, by decide⟩
        · exact words_ck r 1 h s hs
      · rw [if_neg ht] at h; cases h

section
variable {l : List Sy} (hw : ∀ s ∈ l, word s) (hd : ∀ i j (hi : i < l.length) (hj : j < l.length), l[i].name = l[j].name → i = j) (hx : ∀ s ∈ l, ∀ r, s.name.data.toList = 88 :: r → r = [])

theorem name_nd (hw : ∀ s ∈ l, word s) {f : Nat} (hf : f < l.length) : nameAt l f = l[f].name.data.toList ∧ word l[f] := by
  refine ⟨?_, hw _ (List.getElem_mem hf)⟩
  unfold nameAt
  simp [List.getElem?_eq_getElem hf]

theorem over_pos {l : List Sy} {n : Nat} {ls : List Tm} {b : Bool} (h : Tm.over l b (.mk (n : Int) ls) = true) : ∃ hn : n < l.length, l[n].arity = ls.length ∧ Tm.overs l ls = true := by
  simp only [Tm.over, Bool.and_eq_true, Bool.or_eq_true, decide_eq_true_eq] at h
  obtain ⟨h1, h2⟩ := h
  have h3 : Tm.overs l ls = true := by rcases h2 with h | h; omega; exact h
  unfold okAt at h1
  rw [if_neg (show ¬ (Tm.mk (n : Int) ls).f < 0 by show ¬ (n : Int) < 0; omega)] at h1
  rw [show (Tm.mk (n : Int) ls).f.toNat = n from Int.toNat_natCast n, show (Tm.mk (n : Int) ls).ks = ls from rfl] at h1
  rcases Nat.lt_or_ge n l.length with hn | hn
  · rw [List.getElem?_eq_getElem hn] at h1
    simp only [Bool.and_eq_true, beq_iff_eq] at h1
    exact ⟨hn, h1.1, h3⟩
  · rw [List.getElem?_eq_none hn] at h1; cases h1

theorem args_inj {ks : List Tm} (ih : ∀ t ∈ ks, ∀ (u : Tm) (b : Bool) (r1 r2 : List UInt8), t.low 48 = true → u.low 48 = true → t.over l b = true → u.over l b = true → stops r1 → stops r2 → t.text l ++ r1 = u.text l ++ r2 → t = u ∧ r1 = r2) :
    ∀ (ls : List Tm) (c : UInt8) (r1 r2 : List UInt8), ks.length = ls.length → Tm.lows 48 ks = true → Tm.lows 48 ls = true → Tm.overs l ks = true → Tm.overs l ls = true → Tm.textArgs l c ks ++ (41 :: r1) = Tm.textArgs l c ls ++ (41 :: r2) → ks = ls ∧ r1 = r2 := by
  induction ks with
  | nil =>
    intro ls c r1 r2 hl _ _ _ _ h
    cases ls with
    | nil => simp only [Tm.textArgs, List.nil_append, List.cons.injEq, true_and] at h; exact ⟨rfl, h⟩
    | cons u ls => simp at hl
  | cons t ks ihk =>
    intro ls c r1 r2 hl h1 h2 h3 h4 h
    cases ls with
    | nil => simp at hl
    | cons u ls =>
      simp only [Tm.lows, Tm.overs, Bool.and_eq_true] at h1 h2 h3 h4
      simp only [Tm.textArgs, List.cons_append, List.cons.injEq, true_and, List.append_assoc] at h
      have st : ∀ (ms : List Tm) (r : List UInt8), stops (Tm.textArgs l 44 ms ++ (41 :: r)) := by
        intro ms r
        cases ms with
        | nil => exact .inr ⟨41, r, rfl, rfl⟩
        | cons m ms => exact .inr ⟨44, _, rfl, rfl⟩
      obtain ⟨rfl, e⟩ := ih t (by simp) u false _ _ h1.1 h2.1 h3.1 h4.1 (st ks r1) (st ls r2) h
      obtain ⟨rfl, e2⟩ := ihk (fun t ht => ih t (by simp [ht])) ls 44 r1 r2 (by simpa using hl) h1.2 h2.2 h3.2 h4.2 e
      exact ⟨rfl, e2⟩

include hw hd hx in
theorem text_inj (t : Tm) : ∀ (u : Tm) (b : Bool) (r1 r2 : List UInt8), t.low 48 = true → u.low 48 = true → t.over l b = true → u.over l b = true → stops r1 → stops r2 → t.text l ++ r1 = u.text l ++ r2 → t = u ∧ r1 = r2 := by
  induction t using Tm.ind with
  | h f ks ih =>
    intro u b r1 r2 l1 l2 o1 o2 s1 s2 h
    cases u with
    | mk g ls =>
      have hA := args_inj (l := l) ih
      clear ih
      simp only [Tm.low] at l1 l2
      simp only [Tm.text] at h
      have st : ∀ (ms : List Tm) (r : List UInt8), stops r → stops ((Tm.textArgs l 40 ms ++ (if 0 < ms.length then [41] else [])) ++ r) := by
        intro ms r hr
        cases ms with
        | nil => simpa [Tm.textArgs] using hr
        | cons m ms => exact .inr ⟨40, _, rfl, rfl⟩
      by_cases hf : f < 0
      · rw [if_pos hf] at l1 h
        simp only [Bool.and_eq_true, decide_eq_true_eq] at l1
        have hks : ks = [] := List.length_eq_zero_iff.1 l1.2
        subst hks
        have nd1 : ∀ c ∈ (88 :: Lib.decDigits (-1 - f).toNat), delim c = false := by
          intro c hc
          rcases List.mem_cons.1 hc with rfl | hc
          · rfl
          · exact digit_nd _ (by omega) c hc
        by_cases hg : g < 0
        · rw [if_pos hg] at l2 h
          simp only [Bool.and_eq_true, decide_eq_true_eq] at l2
          have hls : ls = [] := List.length_eq_zero_iff.1 l2.2
          subst hls
          have nd2 : ∀ c ∈ (88 :: Lib.decDigits (-1 - g).toNat), delim c = false := by
            intro c hc
            rcases List.mem_cons.1 hc with rfl | hc
            · rfl
            · exact digit_nd _ (by omega) c hc
          obtain ⟨e, e2⟩ := tok_eq nd1 nd2 s1 s2 h
          simp only [List.cons.injEq, true_and] at e
          have := digits_inj _ (by omega) _ (by omega) e
          have : f = g := by omega
          subst this
          exact ⟨rfl, e2⟩
        · exfalso
          rw [if_neg hg] at h
          obtain ⟨n, rfl⟩ : ∃ n : Nat, g = (n : Int) := ⟨g.toNat, by omega⟩
          obtain ⟨hn, -⟩ := over_pos o2
          obtain ⟨e1, e2⟩ := name_nd hw hn
          have e1' : nameAt l (n : Int) = l[n].name.data.toList := e1
          rw [e1', List.append_assoc] at h
          obtain ⟨e, -⟩ := tok_eq nd1 e2.2 s1 (st ls r2 s2) h
          have := hx _ (List.getElem_mem hn) _ e.symm
          exact digits_ne _ (by omega) this
      · rw [if_neg hf] at l1 h
        obtain ⟨n, rfl⟩ : ∃ n : Nat, f = (n : Int) := ⟨f.toNat, by omega⟩
        obtain ⟨hn, ar1, ov1⟩ := over_pos o1
        obtain ⟨a1, a2⟩ := name_nd hw hn
        have a1' : nameAt l (n : Int) = l[n].name.data.toList := a1
        rw [a1'] at h
        by_cases hg : g < 0
        · exfalso
          rw [if_pos hg] at l2 h
          simp only [Bool.and_eq_true, decide_eq_true_eq] at l2
          have nd2 : ∀ c ∈ (88 :: Lib.decDigits (-1 - g).toNat), delim c = false := by
            intro c hc
            rcases List.mem_cons.1 hc with rfl | hc
            · rfl
            · exact digit_nd _ (by omega) c hc
          rw [List.append_assoc] at h
          obtain ⟨e, -⟩ := tok_eq a2.2 nd2 (st ks r1 s1) s2 h
          have := hx _ (List.getElem_mem hn) _ e
          exact digits_ne _ (by omega) this
        · rw [if_neg hg] at l2 h
          obtain ⟨m, rfl⟩ : ∃ m : Nat, g = (m : Int) := ⟨g.toNat, by omega⟩
          obtain ⟨hm, ar2, ov2⟩ := over_pos o2
          obtain ⟨b1, b2⟩ := name_nd hw hm
          have b1' : nameAt l (m : Int) = l[m].name.data.toList := b1
          rw [b1', List.append_assoc (l[n].name.data.toList), List.append_assoc (l[m].name.data.toList)] at h
          obtain ⟨e, e2⟩ := tok_eq a2.2 b2.2 (st ks r1 s1) (st ls r2 s2) h
          have hnm : l[n].name = l[m].name := by
            apply ByteArray.ext
            exact Array.toList_inj.1 e
          have := hd n m hn hm hnm
          subst this
          have hlen : ks.length = ls.length := by omega
          by_cases h0 : 0 < ks.length
          · rw [if_pos h0, if_pos (by omega)] at e2
            simp only [List.append_assoc, List.cons_append, List.nil_append] at e2
            obtain ⟨rfl, e3⟩ := hA ls 40 r1 r2 hlen l1 l2 ov1 ov2 e2
            exact ⟨rfl, e3⟩
          · have k1 : ks = [] := List.length_eq_zero_iff.1 (by omega)
            have k2 : ls = [] := List.length_eq_zero_iff.1 (by omega)
            subst k1; subst k2
            simp [Tm.textArgs] at e2
            exact ⟨rfl, e2⟩
end
end Go.Proofs.YtoidhdcbemmfhaaDoor
