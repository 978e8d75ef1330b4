/- An append onto a row of the call's own, as a step of a walk. Conditions: the row's bytes stay below 2^47. -/
import Derived.Test.YtdmiphdohfcbeaaRow
import Derived.RegionTactic
import Derived.OwnWalk
namespace Go.Proofs.Ytdmiphdohfcbeaa
open Go.ChangeShapes Go.WideShapes Go.ChangeAt Go.RowKit

section
variable {α : Type} {E : Elt α} {P : Program} {w : World}
theorem wpList_append_row {ops : Array Oper} {rest : List Oper} {o : Oper} {a : Act} {Q : Exit → Act → World → Prop} (hgd : o.guard = none) (s x : Operand) (t : TypeId)
    (ho : o.op = .call { callee := .builtin .append, args := #[s, x], argTypes := #[t, t] })
    (e : TypeId) (i : TypeInfo) (z : Value) (bytes : Nat) (ht : P.underlying t = some (.slice e)) (hi : P.info? e = some i) (hz : i.zero = some z)
    (hsize : i.size = E.size) (hby : i.bytes = bytes) (hzs : z.cells.size = E.size) (hsz : 0 < E.size)
    (B : Nat) (v : Value) (l : List α) (hs : a.eval s = v) (w0 : World) (hrow : GRow E e B w0 v l) (hx0 : Ext w0 w)
    (blk : Nat) (hx : a.eval x = .slice (some ⟨blk, 0, none⟩) 1 1) (arr : Array Value) (ty : TypeId) (hblk : w.heap[blk]? = some (.cells arr ty (0, 0)))
    (el : α) (hc : E.is (fun b => B ≤ b ∧ v.ownBlock ≠ some b) w arr.toList el) (h63 : l.length + 1 ≤ maxLen) (hbytes : (l.length + 1) * bytes ≤ 140737488355328) (hbase : B ≤ w.heap.size)
    (h : ∀ g cap w', GRow E e B w' (.slice (some ⟨g, 0, none⟩) (l.length + 1) cap) (l ++ [el]) → w.grownBy w' v.ownBlock → (v.ownBlock = some g ∨ g = w.heap.size) → g < w'.heap.size → wpList P ops Q rest (a.put o.dst (.slice (some ⟨g, 0, none⟩) (l.length + 1) cap)) w') : wpList P ops Q (o :: rest) a w := by
  obtain ⟨cs, hcl, hown, hel⟩ := hrow
  refine wpList_append_lies w hgd s x t ho B e i z E.size bytes ht hi hz hsize hby hzs hsz v l.length cs.flatten hs (own_ext hown hx0) ⟨blk, 0, none⟩ 1 1 arr.toList hx (by rw [E.len hc]; omega) (World.news_of_block hblk) (E.one hc) (by omega) h63 hbytes hbase _ rfl ?_
  intro g cap w' hown' hgrow hat hlt
  exact h g cap w' (GRow.grow hcl hel hx0 hgrow hown' hat hc) hgrow hat hlt
theorem step_append_row {ops : Array Oper} {o : Oper} {a : Act} {K : Act → World → Prop} {Q : Exit → Act → World → Prop} {F : Prop} (hgd : o.guard = none) (s x : Operand) (t : TypeId)
    (ho : o.op = .call { callee := .builtin .append, args := #[s, x], argTypes := #[t, t] })
    (e : TypeId) (i : TypeInfo) (z : Value) (bytes : Nat) (ht : P.underlying t = some (.slice e)) (hi : P.info? e = some i) (hz : i.zero = some z)
    (hsize : i.size = E.size) (hby : i.bytes = bytes) (hzs : z.cells.size = E.size) (hsz : 0 < E.size)
    (B : Nat) (v : Value) (l : List α) (hs : a.eval s = v) (w0 : World) (hrow : GRow E e B w0 v l) (hx0 : Ext w0 w)
    (blk : Nat) (hx : a.eval x = .slice (some ⟨blk, 0, none⟩) 1 1) (arr : Array Value) (ty : TypeId) (hblk : w.heap[blk]? = some (.cells arr ty (0, 0)))
    (el : α) (hc : E.is (fun b => B ≤ b ∧ v.ownBlock ≠ some b) w arr.toList el) (h63 : l.length + 1 ≤ maxLen) (hbytes : (l.length + 1) * bytes ≤ 140737488355328) (hbase : B ≤ w.heap.size)
    (h : ∀ g cap w', GRow E e B w' (.slice (some ⟨g, 0, none⟩) (l.length + 1) cap) (l ++ [el]) → w.grownBy w' v.ownBlock → (v.ownBlock = some g ∨ g = w.heap.size) → g < w'.heap.size → K (a.put o.dst (.slice (some ⟨g, 0, none⟩) (l.length + 1) cap)) w') :
    if Region.wanted o (yielded ops a.tmps) = true then Oper.wp P o a w K Q else F := by
  obtain ⟨cs, hcl, hown, hel⟩ := hrow
  refine step_append_lies w hgd s x t ho B e i z E.size bytes ht hi hz hsize hby hzs hsz v l.length cs.flatten hs (own_ext hown hx0) ⟨blk, 0, none⟩ 1 1 arr.toList hx (by rw [E.len hc]; omega) (World.news_of_block hblk) (E.one hc) (by omega) h63 hbytes hbase _ rfl ?_
  intro g cap w' hown' hgrow hat hlt
  exact h g cap w' (GRow.grow hcl hel hx0 hgrow hown' hat hc) hgrow hat hlt
end
theorem infoInt : (Try.prog.info? 3).map (fun i => (i.zero, i.size, i.bytes)) = some (some (.int .i64 0), 1, 8) := by kernel_rfl
theorem grown_chg {w w' : World} {v : Value} {B : Nat} (hg : w.grownBy w' v.ownBlock) (hb : ∀ g, v.ownBlock = some g → B ≤ g) : Below B w w' ∨ w.heap.size < B := by
  rcases Nat.lt_or_ge w.heap.size B with h | h
  · exact .inr h
  · exact .inl ⟨hg.os, hg.tape, hg.output, hg.size, fun k hk => hg.block k (by omega) (fun e => by have := hb k e.symm; omega)⟩
theorem GRow.own_ge {α : Type} {E : Elt α} {e B : Nat} {w : World} {v : Value} {l : List α} (h : GRow E e B w v l) {g : Nat} (hg : v.ownBlock = some g) : B ≤ g ∧ g < w.heap.size := by
  obtain ⟨cs, -, h2, -⟩ := h
  exact own_lt h2 hg
/-- what an append changes is new, if the row is -/
theorem Ext.append {α : Type} {E : Elt α} {e : Nat} {w0 w w1 w2 : World} {v : Value} {l : List α} (h : Ext w0 w) (hr : GRow E e w0.heap.size w v l) (hx : Ext w w1) (hg : w1.grownBy w2 v.ownBlock) : Ext w0 w2 := by
  have h1 := h.trans hx
  exact ⟨hg.os.trans h1.os, hg.tape.trans h1.tape, hg.output.trans h1.output, Nat.le_trans h1.size hg.size, fun k hk => (hg.block k (Nat.lt_of_lt_of_le hk h1.size) (fun e => by have := (hr.own_ge e.symm).1; omega)).trans (h1.block k hk)⟩
theorem Ext.append' {α : Type} {E : Elt α} {e B : Nat} {w0 w w1 w2 : World} {v : Value} {l : List α} (h : Ext w0 w) (hr : GRow E e B w v l) (hB : w0.heap.size ≤ B) (hx : Ext w w1) (hg : w1.grownBy w2 v.ownBlock) : Ext w0 w2 := by
  have h1 := h.trans hx
  exact ⟨hg.os.trans h1.os, hg.tape.trans h1.tape, hg.output.trans h1.output, Nat.le_trans h1.size hg.size, fun k hk => (hg.block k (Nat.lt_of_lt_of_le hk h1.size) (fun e => by have := (hr.own_ge e.symm).1; omega)).trans (h1.block k hk)⟩
end Go.Proofs.Ytdmiphdohfcbeaa
