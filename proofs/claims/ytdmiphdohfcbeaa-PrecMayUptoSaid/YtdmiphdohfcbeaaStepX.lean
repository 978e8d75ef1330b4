/- Steps of the lexical walk of a region whose operations and callees only make memory: what is skipped, what is wanted, the end. No condition. -/
import Derived.Test.YtdmiphdohfcbeaaExtRegion
import Derived.Deep.QuietTactic
namespace Go.Proofs.Ytdmiphdohfcbeaa

section
variable {P : Program} {ops : Array Oper} {Q : Exit → Act → World → Prop}
theorem wpX_skip {k : Nat} {o : Oper} {rest : List Oper} {a : Act} {W : World} (hw : Region.wanted o (yielded ops a.tmps) = false) (h : wpX P ops Q (k + 1) rest (a.put o.dst undef) W) : wpX P ops Q k (o :: rest) a W := by
  unfold wpX
  rw [if_neg (by rw [hw]; simp)]
  exact h
theorem wpX_want {k : Nat} {o : Oper} {rest : List Oper} {a : Act} {W : World} {v : Value} (hw : Region.wanted o (yielded ops a.tmps) = true) (hq : ∀ w, Ext W w → o.quietAt P a (fun w' => Ext w w') w v) (h : wpX P ops Q (k + 1) rest (a.put o.dst v) W) : wpX P ops Q k (o :: rest) a W := by
  unfold wpX
  rw [if_pos hw]
  exact .inl ⟨v, hq, h⟩
theorem wpX_nil {k : Nat} {a : Act} {W : World} (h : ∀ w, Ext W w → Q .normal a w) : wpX P ops Q k [] a W := by
  unfold wpX; exact h
end
end Go.Proofs.Ytdmiphdohfcbeaa
