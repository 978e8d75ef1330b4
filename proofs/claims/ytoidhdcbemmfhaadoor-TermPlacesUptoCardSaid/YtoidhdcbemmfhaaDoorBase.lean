/- Terms, symbols and signatures as plain data; what it is that values read as such in a world; what stays when a world grows. No condition. -/
import Derived.Test.YtoidhdcbemmfhaaDoorRows
import Derived.WalkKit
import Derived.ProofKit
import Derived.OpenShut
import Derived.JoinedCond
import Derived.Lib.Hide
import Derived.Handy
import Derived.BigQuiet
import Derived.Deep.QuietTactic
namespace Go.Proofs.YtoidhdcbemmfhaaDoor
open Go.ChangeShapes Go.WideShapes Go.ChangeAt Go.RowKit

/-- a term: its number, its arguments -/
inductive Tm where
  | mk (f : Int) (ks : List Tm)

namespace Tm
def f : Tm → Int | .mk f _ => f
def ks : Tm → List Tm | .mk _ ks => ks
end Tm

theorem Tm.ind {P : Tm → Prop} (h : ∀ f ks, (∀ a ∈ ks, P a) → P (.mk f ks)) : ∀ t, P t := by
  intro t
  refine Tm.rec (motive_1 := P) (motive_2 := fun l => ∀ a ∈ l, P a) h ?_ ?_ t
  · intro a ha; cases ha
  · intro t ts h1 h2 a ha
    rcases List.mem_cons.1 ha with rfl | h3
    · exact h1
    · exact h2 a h3

/-- a new world in which all that was there stays -/
abbrev Ext (w w' : World) : Prop := Below w.heap.size w w'

theorem cell_lt {w : World} {p : Addr} {v : Value} (h : w.cell? p = some v) : p.block < w.heap.size := by
  unfold World.cell? at h
  rcases Nat.lt_or_ge p.block w.heap.size with h1 | h1
  · exact h1
  · simp [Array.getElem?_eq_none h1] at h

theorem Ext.cell {w w' : World} (h : Ext w w') {p : Addr} {v : Value} (hp : w.cell? p = some v) : w'.cell? p = some v := by
  rw [Below.cell h (cell_lt hp)]; exact hp
theorem Ext.frozen {w w' : World} (h : Ext w w') {p : Addr} {v : Value} {f : Bool} (hp : w.cell? p = some v) (hf : w.frozen? p = f) : w'.frozen? p = f := by
  rw [Below.frozen h (cell_lt hp)]; exact hf
theorem Ext.trans {a b c : World} (h : Ext a b) (k : Ext b c) : Ext a c := Below.trans h (Below.mono k h.size)
theorem Ext.alloc {a b : World} (h : Ext a b) (o : Obj) : Ext a (b.alloc o) := Below.alloc h h.size o
theorem ext_alloc (a : World) (o : Obj) : Ext a (a.alloc o) := Below.alloc (Below.refl _ _) (Nat.le_refl _) o
theorem Ext.drew {a b : World} (h : Ext a b) : Ext a b.drew := Below.drew h

theorem below_drewN' {B : Nat} {a b : World} (h : Below B a b) (n : Nat) : Below B a (b.drewN n) := ⟨h.os, h.tape, h.output, h.size, h.block⟩
theorem Ext.drewN {a b : World} (h : Ext a b) (n : Nat) : Ext a (b.drewN n) := below_drewN' h n
theorem drewN_cell (w : World) (n : Nat) (p : Addr) : (w.drewN n).cell? p = w.cell? p := rfl

/-- the world w' is as w was but in the blocks of S, and in new ones -/
structure Chg (S : List Nat) (w w' : World) : Prop where
  os : w'.os = w.os
  tape : w'.tape = w.tape
  output : w'.output = w.output
  size : w.heap.size ≤ w'.heap.size
  block : ∀ k, k < w.heap.size → k ∉ S → w'.heap[k]? = w.heap[k]?

theorem Chg.refl (S : List Nat) (w : World) : Chg S w w := ⟨rfl, rfl, rfl, Nat.le_refl _, fun _ _ _ => rfl⟩
theorem Chg.trans {S : List Nat} {a b c : World} (h : Chg S a b) (k : Chg S b c) : Chg S a c :=
  ⟨k.os.trans h.os, k.tape.trans h.tape, k.output.trans h.output, Nat.le_trans h.size k.size, fun i hi hs => (k.block i (Nat.lt_of_lt_of_le hi h.size) hs).trans (h.block i hi hs)⟩
theorem Chg.of_ext {S : List Nat} {a b : World} (h : Ext a b) : Chg S a b := ⟨h.os, h.tape, h.output, h.size, fun k hk _ => h.block k hk⟩
theorem Chg.mono {S T : List Nat} {a b : World} (h : Chg S a b) (hs : ∀ k, k ∈ S → k ∈ T) : Chg T a b := ⟨h.os, h.tape, h.output, h.size, fun k hk hn => h.block k hk (fun hm => hn (hs k hm))⟩
/-- what changed was new -/
theorem Chg.ext {S : List Nat} {a b c : World} (h : Ext a b) (k : Chg S b c) (hs : ∀ i, i ∈ S → a.heap.size ≤ i) : Ext a c :=
  ⟨k.os.trans h.os, k.tape.trans h.tape, k.output.trans h.output, Nat.le_trans h.size k.size, fun i hi => (k.block i (Nat.lt_of_lt_of_le hi h.size) (fun hm => by have := hs i hm; omega)).trans (h.block i hi)⟩
/-- a part of what changed was new -/
theorem Chg.drop {S T : List Nat} {a b c : World} (h : Ext a b) (k : Chg S b c) (hs : ∀ i, i ∈ S → i ∈ T ∨ a.heap.size ≤ i) : Chg T a c :=
  ⟨k.os.trans h.os, k.tape.trans h.tape, k.output.trans h.output, Nat.le_trans h.size k.size, fun i hi hn => (k.block i (Nat.lt_of_lt_of_le hi h.size) (fun hm => by rcases hs i hm with h1 | h1; exact hn h1; omega)).trans (h.block i hi)⟩
theorem Chg.cell {S : List Nat} {w w' : World} (h : Chg S w w') {p : Addr} {v : Value} (hp : w.cell? p = some v) (hs : p.block ∉ S) : w'.cell? p = some v := by
  rw [World.cell?_of_block (w := w) (h.block p.block (cell_lt hp) hs)]; exact hp
theorem Chg.frozen {S : List Nat} {w w' : World} (h : Chg S w w') {p : Addr} {v : Value} {f : Bool} (hp : w.cell? p = some v) (hs : p.block ∉ S) (hf : w.frozen? p = f) : w'.frozen? p = f := by
  rw [World.frozen?_of_block (w := w) (h.block p.block (cell_lt hp) hs)]; exact hf
theorem Chg.alloc {S : List Nat} {a b : World} (h : Chg S a b) (o : Obj) : Chg S a (b.alloc o) := h.trans (.of_ext (ext_alloc b o))
theorem Chg.drew {S : List Nat} {a b : World} (h : Chg S a b) : Chg S a b.drew := ⟨h.os, h.tape, h.output, h.size, h.block⟩
theorem Chg.setCell {S : List Nat} {a b : World} (h : Chg S a b) {p : Addr} (v : Value) (hp : p.block ∈ S ∨ a.heap.size ≤ p.block) : Chg S a (b.setCell p v) :=
  ⟨h.os, h.tape, h.output, by simp [World.setCell]; exact h.size, fun k hk hs => by
    rw [Below.heap_setCell _ _ _ _ (fun e => by rcases hp with h1 | h1; exact hs (e ▸ h1); omega)]; exact h.block k hk hs⟩

mutual
/-- two cells read as a term -/
def IsTm (w : World) (x s : Value) : Tm → Prop
  | .mk n ks => x = .int .i64 n ∧ -9223372036854775808 ≤ n ∧ n ≤ 9223372036854775807 ∧ ∃ a c, s = .slice a ks.length c ∧ ks.length ≤ c ∧ IsTms w a ks
/-- from an address on stand the cells of terms -/
def IsTms (w : World) (a : Option Addr) : List Tm → Prop
  | [] => True
  | t :: ts => ∃ b o x s, a = some ⟨b, o, none⟩ ∧ w.cell? ⟨b, o, none⟩ = some x ∧ w.cell? ⟨b, o + 1, none⟩ = some s ∧ IsTm w x s t ∧ IsTms w (some ⟨b, o + 2, none⟩) ts
end

section
variable {w w' : World}
mutual
theorem IsTm.of_cells (h : ∀ p v, w.cell? p = some v → w'.cell? p = some v) : ∀ {t : Tm} {x s : Value}, IsTm w x s t → IsTm w' x s t
  | .mk n ks, x, s, ht => by
    simp only [IsTm] at ht ⊢
    obtain ⟨h1, h2, h3, a, c, h4, h6, h5⟩ := ht
    exact ⟨h1, h2, h3, a, c, h4, h6, IsTms.of_cells h h5⟩
theorem IsTms.of_cells (h : ∀ p v, w.cell? p = some v → w'.cell? p = some v) : ∀ {ts : List Tm} {a : Option Addr}, IsTms w a ts → IsTms w' a ts
  | [], a, _ => trivial
  | t :: ts, a, ht => by
    simp only [IsTms] at ht ⊢
    obtain ⟨b, o, x, s, h1, h2, h3, h4, h5⟩ := ht
    exact ⟨b, o, x, s, h1, h _ _ h2, h _ _ h3, IsTm.of_cells h h4, IsTms.of_cells h h5⟩
end
end

theorem IsTm.ext {w w' : World} {t : Tm} {x s : Value} (ht : IsTm w x s t) (h : Ext w w') : IsTm w' x s t := ht.of_cells fun _ _ hp => Ext.cell h hp
theorem IsTms.ext {w w' : World} {ts : List Tm} {a : Option Addr} (ht : IsTms w a ts) (h : Ext w w') : IsTms w' a ts := ht.of_cells fun _ _ hp => Ext.cell h hp

theorem IsTms.at {w : World} : ∀ {ts : List Tm} {b o : Nat}, IsTms w (some ⟨b, o, none⟩) ts → ∀ {i : Nat} (hi : i < ts.length),
    ∃ x s, w.cell? ⟨b, o + i * 2, none⟩ = some x ∧ w.cell? ⟨b, o + i * 2 + 1, none⟩ = some s ∧ IsTm w x s ts[i]
  | [], _, _, _, _, hi => by simp at hi
  | t :: ts, b, o, h, i, hi => by
    simp only [IsTms] at h
    obtain ⟨b', o', x, s, h1, h2, h3, h4, h5⟩ := h
    simp only [Option.some.injEq, Addr.mk.injEq, and_true] at h1
    obtain ⟨rfl, rfl⟩ := h1
    cases i with
    | zero => exact ⟨x, s, by simpa using h2, by simpa using h3, h4⟩
    | succ i =>
      obtain ⟨x, s, g1, g2, g3⟩ := IsTms.at h5 (i := i) (by simpa using hi)
      refine ⟨x, s, ?_, ?_, by simpa using g3⟩
      · rw [show o + (i + 1) * 2 = o + 2 + i * 2 by omega]; exact g1
      · rw [show o + (i + 1) * 2 + 1 = o + 2 + i * 2 + 1 by omega]; exact g2

theorem IsTms.addr {w : World} {a : Option Addr} {ts : List Tm} (h : IsTms w a ts) (hl : 0 < ts.length) : ∃ b o, a = some ⟨b, o, none⟩ := by
  cases ts with
  | nil => simp at hl
  | cons t ts => simp only [IsTms] at h; obtain ⟨b, o, _, _, h, _⟩ := h; exact ⟨b, o, h⟩

theorem IsTm.form {w : World} {x s : Value} : ∀ {t : Tm}, IsTm w x s t → ∃ a c, x = .int .i64 t.f ∧ s = .slice a t.ks.length c ∧ -9223372036854775808 ≤ t.f ∧ t.f ≤ 9223372036854775807 ∧ t.ks.length ≤ c ∧ IsTms w a t.ks
  | .mk f ks, h => by
    simp only [IsTm] at h
    obtain ⟨h1, h2, h3, a, c, h4, h6, h5⟩ := h
    exact ⟨a, c, h1, h4, h2, h3, h6, h5⟩

/-- a term's argument, its two cells written out -/
theorem IsTms.look {w : World} {ts : List Tm} {a : Option Addr} (h : IsTms w a ts) {i : Nat} (hi : i < ts.length) :
    ∃ b o a' c', a = some ⟨b, o, none⟩ ∧ w.cell? ⟨b, o + i * 2, none⟩ = some (.int .i64 ts[i].f) ∧ w.cell? ⟨b, o + i * 2 + 1, none⟩ = some (.slice a' ts[i].ks.length c') ∧ IsTm w (.int .i64 ts[i].f) (.slice a' ts[i].ks.length c') ts[i] := by
  obtain ⟨b, o, rfl⟩ := h.addr (by omega)
  obtain ⟨x, s, h1, h2, h3⟩ := h.at hi
  obtain ⟨a', c', rfl, rfl, -⟩ := h3.form
  exact ⟨b, o, a', c', rfl, h1, h2, h3⟩

/-- two new cells -/
theorem cells2 (w : World) (x s : Value) (t : TypeId) : (w.alloc (.cells #[x, s] t)).cell? ⟨w.heap.size, 0, none⟩ = some x ∧ (w.alloc (.cells #[x, s] t)).cell? ⟨w.heap.size, 1, none⟩ = some s := by
  constructor <;> go_simp

/-! ### symbols, signatures -/
structure Sy where
  name : ByteArray
  arity : Int
  pred : Bool

/-- the three cells of a symbol -/
def Sy.cells (s : Sy) : List Value := [.string s.name, .int .i64 s.arity, .bool s.pred]
def Sy.ok (s : Sy) : Prop := s.name.size ≤ 1048576 ∧ -9223372036854775808 ≤ s.arity ∧ s.arity ≤ 9223372036854775807

/-- from an address on stand the cells of symbols -/
def IsSyms (w : World) (a : Option Addr) (l : List Sy) : Prop :=
  ∀ i (h : i < l.length), Sy.ok l[i] ∧ ∃ b o, a = some ⟨b, o, none⟩ ∧ w.cell? ⟨b, o + i * 3, none⟩ = some (.string l[i].name) ∧ w.cell? ⟨b, o + i * 3 + 1, none⟩ = some (.int .i64 l[i].arity) ∧ w.cell? ⟨b, o + i * 3 + 2, none⟩ = some (.bool l[i].pred)

theorem IsSyms.ext {w w' : World} {a : Option Addr} {l : List Sy} (h : IsSyms w a l) (hx : Ext w w') : IsSyms w' a l := fun i hi => by
  obtain ⟨h0, b, o, h1, h2, h3, h4⟩ := h i hi
  exact ⟨h0, b, o, h1, hx.cell h2, hx.cell h3, hx.cell h4⟩

theorem ret_bool {a b : Bool} (h : a = b) : Ending.returned (.bool a) = .returned (.bool b) := by rw [h]
theorem ret_int {k : IntKind} {a b : Int} (h : a = b) : Ending.returned (.int k a) = .returned (.int k b) := by rw [h]

end Go.Proofs.YtoidhdcbemmfhaaDoor
