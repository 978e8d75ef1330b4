/- Literals and clauses read from memory; what True and pred of the clause layer and of the reference return.
Plain: how often symbols stand in clauses; which of two ranks above the other; ranks by sorting and by counting; weights. No condition. -/
import Derived.Test.YtdmiphdohfcbeaaCheck1
import Derived.Deep.RegionHeld3
namespace Go.Proofs.Ytdmiphdohfcbeaa
open Go.ChangeShapes Go.WideShapes Go.ChangeAt Go.RowKit

structure Lt where
  neg : Bool
  l : Tm
  r : Tm
def Lt.sized (x : Lt) : Prop := x.l.size ≤ 2097152 ∧ x.r.size ≤ 2097152

/-- from an address on stand the cells of literals -/
def IsLits (w : World) (a : Option Addr) (c : List Lt) : Prop :=
  ∀ i (h : i < c.length), ∃ b o la lc ra rc, a = some ⟨b, o, none⟩ ∧ w.cell? ⟨b, o + i * 5, none⟩ = some (.bool c[i].neg) ∧
    w.cell? ⟨b, o + i * 5 + 1, none⟩ = some (.int .i64 c[i].l.f) ∧ w.cell? ⟨b, o + i * 5 + 2, none⟩ = some (.slice la c[i].l.ks.length lc) ∧
    w.cell? ⟨b, o + i * 5 + 3, none⟩ = some (.int .i64 c[i].r.f) ∧ w.cell? ⟨b, o + i * 5 + 4, none⟩ = some (.slice ra c[i].r.ks.length rc) ∧
    IsTm w (.int .i64 c[i].l.f) (.slice la c[i].l.ks.length lc) c[i].l ∧ IsTm w (.int .i64 c[i].r.f) (.slice ra c[i].r.ks.length rc) c[i].r
theorem IsLits.ext {w w' : World} {a : Option Addr} {c : List Lt} (h : IsLits w a c) (hx : Ext w w') : IsLits w' a c := fun i hi => by
  obtain ⟨b, o, la, lc, ra, rc, h1, h2, h3, h4, h5, h6, h7, h8⟩ := h i hi
  exact ⟨b, o, la, lc, ra, rc, h1, hx.cell h2, hx.cell h3, hx.cell h4, hx.cell h5, hx.cell h6, h7.ext hx, h8.ext hx⟩

def Tm.isTrue (t : Tm) : Bool := (t.f == 0) && decide (t.ks.length = 0)
theorem int_len (n : Nat) : ((n : Int) == 0) = decide (n = 0) := by rw [Bool.eq_iff_iff]; simp

/-- does a predicate stand on top? -/
def predOf (l : List Sy) (t : Tm) : Bool := if t.f < 0 then false else match l[t.f.toNat]? with
  | none => false
  | some s => s.pred

end Go.Proofs.Ytdmiphdohfcbeaa
namespace Go.Proofs.Ytdmiphdohfcbeaa

mutual
/-- the symbols of a term, in order -/
def Tm.syms : Tm → List Int
  | .mk f ks => (if 0 ≤ f then [f] else []) ++ Tm.symsL ks
def Tm.symsL : List Tm → List Int
  | [] => []
  | t :: ts => t.syms ++ Tm.symsL ts
end
theorem symsL_take {ks : List Tm} {k : Nat} (h : k < ks.length) : Tm.symsL (ks.take (k + 1)) = Tm.symsL (ks.take k) ++ ks[k].syms := by
  induction ks generalizing k with
  | nil => simp at h
  | cons t ts ih =>
    cases k with
    | zero => simp [Tm.symsL]
    | succ k => simp only [List.take_succ_cons, Tm.symsL, List.getElem_cons_succ]; rw [ih (by simpa using h), List.append_assoc]
theorem symsL_split : ∀ (ks : List Tm) (k : Nat), Tm.symsL ks = Tm.symsL (ks.take k) ++ Tm.symsL (ks.drop k)
  | [], k => by simp [Tm.symsL]
  | t :: ts, 0 => by simp [Tm.symsL]
  | t :: ts, k + 1 => by simp only [List.take_succ_cons, List.drop_succ_cons, Tm.symsL]; rw [symsL_split ts k, List.append_assoc]
theorem symsL_drop {ks : List Tm} {k : Nat} (h : k < ks.length) : Tm.symsL (ks.drop k) = ks[k].syms ++ Tm.symsL (ks.drop (k + 1)) := by
  rw [List.drop_eq_getElem_cons h]; rfl
mutual
theorem syms_length : ∀ t : Tm, t.syms.length ≤ t.size
  | .mk f ks => by simp only [Tm.syms, Tm.size, List.length_append]; have := symsL_length ks; split <;> simp <;> omega
theorem symsL_length : ∀ ks : List Tm, (Tm.symsL ks).length ≤ Tm.sizes ks
  | [] => by simp [Tm.symsL]
  | t :: ts => by simp only [Tm.symsL, Tm.sizes, List.length_append]; have := syms_length t; have := symsL_length ts; omega
end
/-- the symbols of a literal's terms, but $true as the right one -/
def Lt.syms (x : Lt) : List Int := x.l.syms ++ if x.r.f = 0 then [] else x.r.syms
def clSyms (c : List Lt) : List Int := c.flatMap Lt.syms
def allSyms (cs : List (List Lt)) : List Int := cs.flatMap clSyms

/-- how often each of n symbols stands there -/
def counts (n : Nat) (s : List Int) : List Int := (List.range n).map fun f : Nat => ((s.count (f : Int) : Nat) : Int)
theorem counts_length (n : Nat) (s : List Int) : (counts n s).length = n := by simp [counts]
theorem counts_at {n : Nat} {s : List Int} {f : Nat} (h : f < n) : (counts n s)[f]'(by rw [counts_length]; exact h) = ((s.count (f : Int) : Nat) : Int) := by simp [counts]
theorem counts_nil (n : Nat) : counts n [] = List.replicate n 0 := by apply List.ext_getElem <;> simp [counts]
theorem counts_snoc {n : Nat} {s : List Int} {f : Nat} (h : f < n) : counts n (s ++ [(f : Int)]) = (counts n s).set f ((s.count (f : Int) : Nat) + 1) := by
  apply List.ext_getElem
  · simp [counts]
  · intro i h1 h2
    simp only [counts, List.getElem_map, List.getElem_range, List.getElem_set, List.count_append, List.count_singleton]
    by_cases hfi : f = i
    · subst hfi; simp
    · rw [if_neg hfi]
      have : ((f : Int) == (i : Int)) = false := by simp; omega
      rw [this]; simp

/-- by what symbols rank -/
def rankVal (l : List Sy) (by_ : Int) (n : List Int) (i : Nat) : Int :=
  if by_ = 1 then ((l[i]?).map Sy.arity).getD 0
  else if by_ = 2 then (if ((l[i]?).map Sy.arity).getD 0 = 1 then 100 else ((l[i]?).map Sy.arity).getD 0)
  else if by_ = 3 then (n[i]?).getD 0
  else if by_ = 4 then - (n[i]?).getD 0
  else 0
/-- does i rank above k? -/
def aboveB (v : Nat → Int) (i k : Nat) : Bool := decide (v k < v i ∨ (v k = v i ∧ k < i))
theorem above_irrefl (v : Nat → Int) (i : Nat) : aboveB v i i = false := by simp [aboveB]
theorem above_total {v : Nat → Int} {i k : Nat} (h : i ≠ k) : aboveB v i k = !aboveB v k i := by
  rw [Bool.eq_iff_iff]; simp only [aboveB, Bool.not_eq_true', decide_eq_true_eq, decide_eq_false_iff_not]; omega
theorem above_trans {v : Nat → Int} {i j k : Nat} (h : aboveB v i j = true) (g : aboveB v j k = true) : aboveB v i k = true := by
  simp only [aboveB, decide_eq_true_eq] at *; omega
/-- the rank of i among the symbols from 1 on -/
def rankOf (n : Nat) (v : Nat → Int) (i : Nat) : Int := if i = 0 then 0 else ((((List.range n).drop 1).countP fun k => aboveB v i k) : Nat) + 1
def rankList (n : Nat) (v : Nat → Int) : List Int := (List.range n).map (rankOf n v)

/-- in a list that rises, as many are below one as stand ahead of it -/
theorem rises_count {v : Nat → Int} : ∀ {L : List Nat}, L.Pairwise (fun a b => aboveB v a b = false) → L.Nodup → ∀ {r : Nat} (hr : r < L.length), L.countP (fun k => aboveB v L[r] k) = r
  | [], _, _, r, hr => by simp at hr
  | a :: L, hp, hn, 0, _ => by
    simp only [List.getElem_cons_zero]
    rw [List.countP_eq_zero]
    intro k hk
    rcases List.mem_cons.1 hk with rfl | hk
    · simp [above_irrefl]
    · simpa using (List.pairwise_cons.1 hp).1 k hk
  | a :: L, hp, hn, r + 1, hr => by
    simp only [List.getElem_cons_succ, List.length_cons] at hr ⊢
    have hr' : r < L.length := by omega
    have h1 := rises_count (List.pairwise_cons.1 hp).2 (List.nodup_cons.1 hn).2 hr'
    have hne : a ≠ L[r] := fun e => (List.nodup_cons.1 hn).1 (e ▸ List.getElem_mem hr')
    have h2 : aboveB v L[r] a = true := by
      have := (List.pairwise_cons.1 hp).1 _ (List.getElem_mem hr')
      rw [above_total hne] at this
      simpa using this
    rw [List.countP_cons, h1, h2]; simp
/-- ranks put one by one, in the order of a sorted list -/
def prePut (n : Nat) (v : Nat → Int) (L : List Nat) (k : Nat) : List Int := (List.range n).map fun i => if i ∈ L.take k then rankOf n v i else 0
theorem prePut_length (n : Nat) (v : Nat → Int) (L : List Nat) (k : Nat) : (prePut n v L k).length = n := by simp [prePut]
theorem prePut_zero (n : Nat) (v : Nat → Int) (L : List Nat) : prePut n v L 0 = List.replicate n 0 := by apply List.ext_getElem <;> simp [prePut]
theorem rank_at {n : Nat} {v : Nat → Int} {L : List Nat} (hp : L.Perm ((List.range n).drop 1)) (hs : L.Pairwise fun a b => aboveB v a b = false) {k : Nat} (hk : k < L.length) : rankOf n v L[k] = (k : Int) + 1 := by
  have hnd : ((List.range n).drop 1).Nodup := List.Nodup.sublist (List.drop_sublist _ _) List.nodup_range
  have h1 := rises_count hs (hp.nodup_iff.2 hnd) hk
  have hm : L[k] ∈ (List.range n).drop 1 := hp.mem_iff.1 (List.getElem_mem hk)
  have h0 : L[k] ≠ 0 := by
    intro e
    rw [e] at hm
    obtain ⟨i, hi, he⟩ := List.getElem_of_mem hm
    simp at he
  unfold rankOf
  rw [if_neg h0, ← hp.countP_eq, h1]
theorem prePut_step {n : Nat} {v : Nat → Int} {L : List Nat} (hp : L.Perm ((List.range n).drop 1)) (hs : L.Pairwise fun a b => aboveB v a b = false) {k : Nat} (hk : k < L.length) : (prePut n v L k).set L[k] ((k : Int) + 1) = prePut n v L (k + 1) := by
  apply List.ext_getElem
  · simp [prePut]
  · intro i h1 h2
    have hr := rank_at hp hs hk
    simp only [prePut, List.getElem_set, List.getElem_map, List.getElem_range, List.take_succ_eq_append_getElem hk, List.mem_append, List.mem_singleton]
    by_cases hi : L[k] = i
    · subst hi; simp [hr]
    · rw [if_neg hi]
      have : i ≠ L[k] := fun e => hi e.symm
      simp [this]
theorem prePut_done {n : Nat} {v : Nat → Int} {L : List Nat} (hp : L.Perm ((List.range n).drop 1)) : prePut n v L L.length = rankList n v := by
  apply List.ext_getElem
  · simp [prePut, rankList]
  · intro i h1 h2
    simp only [prePut, rankList, List.getElem_map, List.getElem_range, List.take_length]
    have hin : i < n := by simpa [prePut] using h1
    by_cases h0 : i = 0
    · subst h0; simp [rankOf]
    · rw [if_pos]
      rw [hp.mem_iff, List.mem_iff_getElem]
      refine ⟨i - 1, by simp; omega, by simp; omega⟩
theorem rank_len {n : Nat} {L : List Nat} (hp : L.Perm ((List.range n).drop 1)) : L.length = n - 1 := by rw [hp.length_eq]; simp
theorem rank_lt {n : Nat} {L : List Nat} (hp : L.Perm ((List.range n).drop 1)) {k : Nat} (hk : k < L.length) : L[k] < n ∧ 1 ≤ L[k] := by
  have hm : L[k] ∈ (List.range n).drop 1 := hp.mem_iff.1 (List.getElem_mem hk)
  obtain ⟨i, hi, he⟩ := List.getElem_of_mem hm
  simp at he hi
  omega
end Go.Proofs.Ytdmiphdohfcbeaa
