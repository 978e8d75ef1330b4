/- What the reference's insert, Join, Vars of layer 2 return.
What the reference's Join, Vars of layer 2 return. -/
import Derived.Test.YtdmiphdohfcbeaaRow2
namespace Go.Proofs.Ytdmiphdohfcbeaa
open Go.ChangeShapes Go.WideShapes Go.ChangeAt Go.RowKit

def insStep (v : Int) (st : Bool × List Int) (x : Int) : Bool × List Int := if v < x ∧ st.1 = false then (true, (st.2 ++ [v]) ++ [x]) else (st.1, st.2 ++ [x])
def ins (l : List Int) (v : Int) : List Int :=
  if v ∈ l then l else if (l.foldl (insStep v) (false, [])).1 then (l.foldl (insStep v) (false, [])).2 else (l.foldl (insStep v) (false, [])).2 ++ [v]

theorem fold_take {β : Type} {f : β → Int → β} {z : β} {l : List Int} {k : Nat} (h : k < l.length) : (l.take (k + 1)).foldl f z = f ((l.take k).foldl f z) l[k] := by
  rw [List.take_succ_eq_append_getElem h, List.foldl_append]; rfl
theorem insFold_length (v : Int) (l : List Int) : ∀ st : Bool × List Int, (l.foldl (insStep v) st).2.length + (if st.1 then 1 else 0) = st.2.length + l.length + (if (l.foldl (insStep v) st).1 then 1 else 0) := by
  induction l with
  | nil => intro st; rfl
  | cons x l ih =>
    intro st
    have h0 := ih (insStep v st x)
    rw [List.foldl_cons]
    by_cases h : v < x ∧ st.1 = false
    · have e : insStep v st x = (true, (st.2 ++ [v]) ++ [x]) := by unfold insStep; rw [if_pos h]
      rw [e] at h0 ⊢
      rw [h.2]
      simp at h0 ⊢
      omega
    · have e : insStep v st x = (st.1, st.2 ++ [x]) := by unfold insStep; rw [if_neg h]
      rw [e] at h0 ⊢
      simp at h0 ⊢
      omega

end Go.Proofs.Ytdmiphdohfcbeaa
namespace Go.Proofs.Ytdmiphdohfcbeaa
open Go.ChangeShapes Go.WideShapes Go.ChangeAt Go.RowKit

mutual
/-- a rising row of variables, with those of a term -/
def Tm.join : List Int → Tm → List Int
  | l, .mk f ks => Tm.joins (if f < 0 then ins l (-1 - f) else l) ks
def Tm.joins : List Int → List Tm → List Int
  | l, [] => l
  | l, t :: ts => Tm.joins (Tm.join l t) ts
end
theorem joins_step {l : List Int} {ks : List Tm} {k : Nat} (h : k < ks.length) : Tm.joins l (ks.drop k) = Tm.joins (ks[k].join l) (ks.drop (k + 1)) := by
  rw [List.drop_eq_getElem_cons h]; rfl
theorem ins_length (l : List Int) (v : Int) : (ins l v).length ≤ l.length + 1 := by
  unfold ins
  have h := insFold_length v l (false, [])
  split
  · omega
  · cases hd : (List.foldl (insStep v) (false, []) l).1 <;> rw [hd] at h <;> simp at h ⊢ <;> omega
mutual
theorem join_length : ∀ (t : Tm) (l : List Int), (t.join l).length ≤ l.length + t.size
  | .mk f ks, l => by
    simp only [Tm.join, Tm.size]
    have h := joins_length ks (if f < 0 then ins l (-1 - f) else l)
    have h2 := ins_length l (-1 - f)
    split at h <;> split <;> first | omega | contradiction
theorem joins_length : ∀ (ks : List Tm) (l : List Int), (Tm.joins l ks).length ≤ l.length + Tm.sizes ks
  | [], l => by simp only [Tm.joins, Tm.sizes]; omega
  | t :: ts, l => by
    simp only [Tm.joins, Tm.sizes]
    have h := joins_length ts (t.join l)
    have h2 := join_length t l
    omega
end

end Go.Proofs.Ytdmiphdohfcbeaa
