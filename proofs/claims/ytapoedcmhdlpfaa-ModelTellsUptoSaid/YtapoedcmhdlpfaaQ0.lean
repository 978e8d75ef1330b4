/- Terms, symbols and signatures as plain data; what it is that values read as such in a world; what stays when a world grows. No condition.
What term.Size, term.Depth and the reference's Size, Depth, low, Small return, for every term of at most 2097152 parts.
Plain: all rows of n numbers below s, told one by one in the order of a counter, and by the digits of their numbers. No condition.
What the reference's Named, Truth, One and At of layer 1 return. No condition but the sizes that a symbol may have.
Terms whose arguments lie in blocks of a kind; rows of the call's own that hold terms. No condition.
Small blocks of the call's own: what stands in their cells; none of them is frozen. No condition. -/
import Derived.Test.YtapoedcmhdlpfaaRows
import Derived.WalkKit
import Derived.ProofKit
import Derived.OpenShut
import Derived.JoinedCond
import Derived.Lib.Hide
import Derived.Handy
import Derived.BigQuiet
import Derived.Deep.QuietTactic
namespace Go.Proofs.Ytapoedcmhdlpfaa
open Go.ChangeShapes Go.WideShapes Go.ChangeAt Go.RowKit
/-- a term: its number, its arguments -/
inductive Tm where
  | mk (f : Int) (ks : List Tm)

namespace Tm
def f : Tm → Int | .mk f _ => f
def ks : Tm → List Tm | .mk _ ks => ks
end Tm
theorem Tm.ind {P : Tm → Prop} (h : ∀ f ks, (∀ a ∈ ks, P a) → P (.mk f ks)) : ∀ t, P t := by
  intro t
  refine Tm.rec (motive_1 := P) (motive_2 := fun l => ∀ a ∈ l, P a) h ?_ ?_ t
  · intro a ha; cases ha
  · intro t ts h1 h2 a ha
    rcases List.mem_cons.1 ha with rfl | h3
    · exact h1
    · exact h2 a h3

/-- a new world in which all that was there stays -/
abbrev Ext (w w' : World) : Prop := Below w.heap.size w w'

theorem cell_lt {w : World} {p : Addr} {v : Value} (h : w.cell? p = some v) : p.block < w.heap.size := by
  unfold World.cell? at h
  rcases Nat.lt_or_ge p.block w.heap.size with h1 | h1
  · exact h1
  · simp [Array.getElem?_eq_none h1] at h

theorem Ext.cell {w w' : World} (h : Ext w w') {p : Addr} {v : Value} (hp : w.cell? p = some v) : w'.cell? p = some v := by
  rw [Below.cell h (cell_lt hp)]; exact hp
theorem Ext.frozen {w w' : World} (h : Ext w w') {p : Addr} {v : Value} {f : Bool} (hp : w.cell? p = some v) (hf : w.frozen? p = f) : w'.frozen? p = f := by
  rw [Below.frozen h (cell_lt hp)]; exact hf
theorem Ext.trans {a b c : World} (h : Ext a b) (k : Ext b c) : Ext a c := Below.trans h (Below.mono k h.size)
theorem Ext.alloc {a b : World} (h : Ext a b) (o : Obj) : Ext a (b.alloc o) := Below.alloc h h.size o
theorem ext_alloc (a : World) (o : Obj) : Ext a (a.alloc o) := Below.alloc (Below.refl _ _) (Nat.le_refl _) o
theorem Ext.drew {a b : World} (h : Ext a b) : Ext a b.drew := Below.drew h

theorem below_drewN' {B : Nat} {a b : World} (h : Below B a b) (n : Nat) : Below B a (b.drewN n) := ⟨h.os, h.tape, h.output, h.size, h.block⟩
theorem Ext.drewN {a b : World} (h : Ext a b) (n : Nat) : Ext a (b.drewN n) := below_drewN' h n
/-- the world w' is as w was but in the blocks of S, and in new ones -/
structure Chg (S : List Nat) (w w' : World) : Prop where
  os : w'.os = w.os
  tape : w'.tape = w.tape
  output : w'.output = w.output
  size : w.heap.size ≤ w'.heap.size
  block : ∀ k, k < w.heap.size → k ∉ S → w'.heap[k]? = w.heap[k]?

theorem Chg.refl (S : List Nat) (w : World) : Chg S w w := ⟨rfl, rfl, rfl, Nat.le_refl _, fun _ _ _ => rfl⟩
theorem Chg.trans {S : List Nat} {a b c : World} (h : Chg S a b) (k : Chg S b c) : Chg S a c :=
  ⟨k.os.trans h.os, k.tape.trans h.tape, k.output.trans h.output, Nat.le_trans h.size k.size, fun i hi hs => (k.block i (Nat.lt_of_lt_of_le hi h.size) hs).trans (h.block i hi hs)⟩
theorem Chg.of_ext {S : List Nat} {a b : World} (h : Ext a b) : Chg S a b := ⟨h.os, h.tape, h.output, h.size, fun k hk _ => h.block k hk⟩
theorem Chg.mono {S T : List Nat} {a b : World} (h : Chg S a b) (hs : ∀ k, k ∈ S → k ∈ T) : Chg T a b := ⟨h.os, h.tape, h.output, h.size, fun k hk hn => h.block k hk (fun hm => hn (hs k hm))⟩
/-- what changed was new -/
theorem Chg.ext {S : List Nat} {a b c : World} (h : Ext a b) (k : Chg S b c) (hs : ∀ i, i ∈ S → a.heap.size ≤ i) : Ext a c :=
  ⟨k.os.trans h.os, k.tape.trans h.tape, k.output.trans h.output, Nat.le_trans h.size k.size, fun i hi => (k.block i (Nat.lt_of_lt_of_le hi h.size) (fun hm => by have := hs i hm; omega)).trans (h.block i hi)⟩
/-- a part of what changed was new -/
theorem Chg.drop {S T : List Nat} {a b c : World} (h : Ext a b) (k : Chg S b c) (hs : ∀ i, i ∈ S → i ∈ T ∨ a.heap.size ≤ i) : Chg T a c :=
  ⟨k.os.trans h.os, k.tape.trans h.tape, k.output.trans h.output, Nat.le_trans h.size k.size, fun i hi hn => (k.block i (Nat.lt_of_lt_of_le hi h.size) (fun hm => by rcases hs i hm with h1 | h1; exact hn h1; omega)).trans (h.block i hi)⟩
theorem Chg.cell {S : List Nat} {w w' : World} (h : Chg S w w') {p : Addr} {v : Value} (hp : w.cell? p = some v) (hs : p.block ∉ S) : w'.cell? p = some v := by
  rw [World.cell?_of_block (w := w) (h.block p.block (cell_lt hp) hs)]; exact hp
theorem Chg.frozen {S : List Nat} {w w' : World} (h : Chg S w w') {p : Addr} {v : Value} {f : Bool} (hp : w.cell? p = some v) (hs : p.block ∉ S) (hf : w.frozen? p = f) : w'.frozen? p = f := by
  rw [World.frozen?_of_block (w := w) (h.block p.block (cell_lt hp) hs)]; exact hf
theorem Chg.alloc {S : List Nat} {a b : World} (h : Chg S a b) (o : Obj) : Chg S a (b.alloc o) := h.trans (.of_ext (ext_alloc b o))
theorem Chg.drew {S : List Nat} {a b : World} (h : Chg S a b) : Chg S a b.drew := ⟨h.os, h.tape, h.output, h.size, h.block⟩
theorem Chg.setCell {S : List Nat} {a b : World} (h : Chg S a b) {p : Addr} (v : Value) (hp : p.block ∈ S ∨ a.heap.size ≤ p.block) : Chg S a (b.setCell p v) :=
  ⟨h.os, h.tape, h.output, by simp [World.setCell]; exact h.size, fun k hk hs => by
    rw [Below.heap_setCell _ _ _ _ (fun e => by rcases hp with h1 | h1; exact hs (e ▸ h1); omega)]; exact h.block k hk hs⟩

mutual
/-- two cells read as a term -/
def IsTm (w : World) (x s : Value) : Tm → Prop
  | .mk n ks => x = .int .i64 n ∧ -9223372036854775808 ≤ n ∧ n ≤ 9223372036854775807 ∧ ∃ a c, s = .slice a ks.length c ∧ ks.length ≤ c ∧ IsTms w a ks
/-- from an address on stand the cells of terms -/
def IsTms (w : World) (a : Option Addr) : List Tm → Prop
  | [] => True
  | t :: ts => ∃ b o x s, a = some ⟨b, o, none⟩ ∧ w.cell? ⟨b, o, none⟩ = some x ∧ w.cell? ⟨b, o + 1, none⟩ = some s ∧ IsTm w x s t ∧ IsTms w (some ⟨b, o + 2, none⟩) ts
end
section
variable {w w' : World}
mutual
theorem IsTm.of_cells (h : ∀ p v, w.cell? p = some v → w'.cell? p = some v) : ∀ {t : Tm} {x s : Value}, IsTm w x s t → IsTm w' x s t
  | .mk n ks, x, s, ht => by
    simp only [IsTm] at ht ⊢
    obtain ⟨h1, h2, h3, a, c, h4, h6, h5⟩ := ht
    exact ⟨h1, h2, h3, a, c, h4, h6, IsTms.of_cells h h5⟩
theorem IsTms.of_cells (h : ∀ p v, w.cell? p = some v → w'.cell? p = some v) : ∀ {ts : List Tm} {a : Option Addr}, IsTms w a ts → IsTms w' a ts
  | [], a, _ => trivial
  | t :: ts, a, ht => by
    simp only [IsTms] at ht ⊢
    obtain ⟨b, o, x, s, h1, h2, h3, h4, h5⟩ := ht
    exact ⟨b, o, x, s, h1, h _ _ h2, h _ _ h3, IsTm.of_cells h h4, IsTms.of_cells h h5⟩
end
end
theorem IsTm.ext {w w' : World} {t : Tm} {x s : Value} (ht : IsTm w x s t) (h : Ext w w') : IsTm w' x s t := ht.of_cells fun _ _ hp => Ext.cell h hp
theorem IsTms.ext {w w' : World} {ts : List Tm} {a : Option Addr} (ht : IsTms w a ts) (h : Ext w w') : IsTms w' a ts := ht.of_cells fun _ _ hp => Ext.cell h hp

theorem IsTms.at {w : World} : ∀ {ts : List Tm} {b o : Nat}, IsTms w (some ⟨b, o, none⟩) ts → ∀ {i : Nat} (hi : i < ts.length),
    ∃ x s, w.cell? ⟨b, o + i * 2, none⟩ = some x ∧ w.cell? ⟨b, o + i * 2 + 1, none⟩ = some s ∧ IsTm w x s ts[i]
  | [], _, _, _, _, hi => by simp at hi
  | t :: ts, b, o, h, i, hi => by
    simp only [IsTms] at h
    obtain ⟨b', o', x, s, h1, h2, h3, h4, h5⟩ := h
    simp only [Option.some.injEq, Addr.mk.injEq, and_true] at h1
    obtain ⟨rfl, rfl⟩ := h1
    cases i with
    | zero => exact ⟨x, s, by simpa using h2, by simpa using h3, h4⟩
    | succ i =>
      obtain ⟨x, s, g1, g2, g3⟩ := IsTms.at h5 (i := i) (by simpa using hi)
      refine ⟨x, s, ?_, ?_, by simpa using g3⟩
      · rw [show o + (i + 1) * 2 = o + 2 + i * 2 by omega]; exact g1
      · rw [show o + (i + 1) * 2 + 1 = o + 2 + i * 2 + 1 by omega]; exact g2

theorem IsTms.addr {w : World} {a : Option Addr} {ts : List Tm} (h : IsTms w a ts) (hl : 0 < ts.length) : ∃ b o, a = some ⟨b, o, none⟩ := by
  cases ts with
  | nil => simp at hl
  | cons t ts => simp only [IsTms] at h; obtain ⟨b, o, _, _, h, _⟩ := h; exact ⟨b, o, h⟩

theorem IsTm.form {w : World} {x s : Value} : ∀ {t : Tm}, IsTm w x s t → ∃ a c, x = .int .i64 t.f ∧ s = .slice a t.ks.length c ∧ -9223372036854775808 ≤ t.f ∧ t.f ≤ 9223372036854775807 ∧ t.ks.length ≤ c ∧ IsTms w a t.ks
  | .mk f ks, h => by
    simp only [IsTm] at h
    obtain ⟨h1, h2, h3, a, c, h4, h6, h5⟩ := h
    exact ⟨a, c, h1, h4, h2, h3, h6, h5⟩

/-- a term's argument, its two cells written out -/
theorem IsTms.look {w : World} {ts : List Tm} {a : Option Addr} (h : IsTms w a ts) {i : Nat} (hi : i < ts.length) :
    ∃ b o a' c', a = some ⟨b, o, none⟩ ∧ w.cell? ⟨b, o + i * 2, none⟩ = some (.int .i64 ts[i].f) ∧ w.cell? ⟨b, o + i * 2 + 1, none⟩ = some (.slice a' ts[i].ks.length c') ∧ IsTm w (.int .i64 ts[i].f) (.slice a' ts[i].ks.length c') ts[i] := by
  obtain ⟨b, o, rfl⟩ := h.addr (by omega)
  obtain ⟨x, s, h1, h2, h3⟩ := h.at hi
  obtain ⟨a', c', rfl, rfl, -⟩ := h3.form
  exact ⟨b, o, a', c', rfl, h1, h2, h3⟩

/-- two new cells -/
theorem cells2 (w : World) (x s : Value) (t : TypeId) : (w.alloc (.cells #[x, s] t)).cell? ⟨w.heap.size, 0, none⟩ = some x ∧ (w.alloc (.cells #[x, s] t)).cell? ⟨w.heap.size, 1, none⟩ = some s := by
  constructor <;> go_simp

/-! ### symbols, signatures -/
structure Sy where
  name : ByteArray
  arity : Int
  pred : Bool

/-- the three cells of a symbol -/
def Sy.cells (s : Sy) : List Value := [.string s.name, .int .i64 s.arity, .bool s.pred]
def Sy.ok (s : Sy) : Prop := s.name.size ≤ 1048576 ∧ -9223372036854775808 ≤ s.arity ∧ s.arity ≤ 9223372036854775807

/-- from an address on stand the cells of symbols -/
def IsSyms (w : World) (a : Option Addr) (l : List Sy) : Prop :=
  ∀ i (h : i < l.length), Sy.ok l[i] ∧ ∃ b o, a = some ⟨b, o, none⟩ ∧ w.cell? ⟨b, o + i * 3, none⟩ = some (.string l[i].name) ∧ w.cell? ⟨b, o + i * 3 + 1, none⟩ = some (.int .i64 l[i].arity) ∧ w.cell? ⟨b, o + i * 3 + 2, none⟩ = some (.bool l[i].pred)

theorem IsSyms.ext {w w' : World} {a : Option Addr} {l : List Sy} (h : IsSyms w a l) (hx : Ext w w') : IsSyms w' a l := fun i hi => by
  obtain ⟨h0, b, o, h1, h2, h3, h4⟩ := h i hi
  exact ⟨h0, b, o, h1, hx.cell h2, hx.cell h3, hx.cell h4⟩

theorem ret_bool {a b : Bool} (h : a = b) : Ending.returned (.bool a) = .returned (.bool b) := by rw [h]
theorem ret_int {k : IntKind} {a b : Int} (h : a = b) : Ending.returned (.int k a) = .returned (.int k b) := by rw [h]

end Go.Proofs.Ytapoedcmhdlpfaa
namespace Go.Proofs.Ytapoedcmhdlpfaa
open Go.ChangeShapes Go.WideShapes Go.ChangeAt Go.RowKit
theorem int_zero (n : Nat) : ((n : Int) == 0) = decide (n = 0) := by
  rw [Bool.eq_iff_iff]; simp
mutual
def Tm.size : Tm → Nat
  | .mk _ ks => Tm.sizes ks + 1
def Tm.sizes : List Tm → Nat
  | [] => 0
  | t :: ts => Tm.size t + Tm.sizes ts
end
mutual
def Tm.depth : Tm → Nat
  | .mk _ ks => Tm.depths ks + 1
def Tm.depths : List Tm → Nat
  | [] => 0
  | t :: ts => max (Tm.depth t) (Tm.depths ts)
end
mutual
def Tm.low (m : Int) : Tm → Bool
  | .mk f ks => if f < 0 then decide (-m ≤ f) && decide (ks.length = 0) else Tm.lows m ks
def Tm.lows (m : Int) : List Tm → Bool
  | [] => true
  | t :: ts => Tm.low m t && Tm.lows m ts
end
theorem sizes_take {ks : List Tm} {k : Nat} (h : k < ks.length) : Tm.sizes (ks.take (k+1)) = Tm.sizes (ks.take k) + ks[k].size := by
  induction ks generalizing k with
  | nil => simp at h
  | cons t ts ih =>
    cases k with
    | zero => simp [Tm.sizes]
    | succ k => simp only [List.take_succ_cons, Tm.sizes, List.getElem_cons_succ]; rw [ih (by simpa using h)]; omega
theorem sizes_take_le (ks : List Tm) (k : Nat) : Tm.sizes (ks.take k) ≤ Tm.sizes ks := by
  induction ks generalizing k with
  | nil => simp
  | cons t ts ih =>
    cases k with
    | zero => simp [Tm.sizes]
    | succ k => simp only [List.take_succ_cons, Tm.sizes]; have := ih k; omega
theorem size_pos (t : Tm) : 1 ≤ t.size := by cases t; simp [Tm.size]
theorem length_le_sizes (ks : List Tm) : ks.length ≤ Tm.sizes ks := by
  induction ks with
  | nil => simp [Tm.sizes]
  | cons t ts ih => simp only [List.length_cons, Tm.sizes]; have := size_pos t; omega
theorem size_le_sizes {ks : List Tm} {k : Nat} (h : k < ks.length) : ks[k].size ≤ Tm.sizes ks := by
  have := sizes_take h; have := sizes_take_le ks (k+1); omega
theorem depths_take {ks : List Tm} {k : Nat} (h : k < ks.length) : Tm.depths (ks.take (k+1)) = max (Tm.depths (ks.take k)) ks[k].depth := by
  induction ks generalizing k with
  | nil => simp at h
  | cons t ts ih =>
    cases k with
    | zero => simp [Tm.depths]
    | succ k => simp only [List.take_succ_cons, Tm.depths, List.getElem_cons_succ]; rw [ih (by simpa using h)]; omega
theorem depth_le_size (t : Tm) : t.depth ≤ t.size := by
  refine Tm.rec (motive_1 := fun t => t.depth ≤ t.size) (motive_2 := fun l => Tm.depths l ≤ Tm.sizes l) ?_ ?_ ?_ t
  · intro f ks h; simp only [Tm.depth, Tm.size]; omega
  · simp [Tm.depths]
  · intro t ts h1 h2; simp only [Tm.depths, Tm.sizes]; omega
theorem lows_take {m : Int} {ks : List Tm} {k : Nat} (h : k < ks.length) : Tm.lows m (ks.take (k+1)) = (Tm.lows m (ks.take k) && ks[k].low m) := by
  induction ks generalizing k with
  | nil => simp at h
  | cons t ts ih =>
    cases k with
    | zero => simp [Tm.lows]
    | succ k => simp only [List.take_succ_cons, Tm.lows, List.getElem_cons_succ]; rw [ih (by simpa using h), Bool.and_assoc]
theorem lows_false {m : Int} {ks : List Tm} {k : Nat} (h : Tm.lows m (ks.take k) = false) : Tm.lows m ks = false := by
  induction ks generalizing k with
  | nil => simp [Tm.lows] at h
  | cons t ts ih =>
    cases k with
    | zero => simp [Tm.lows] at h
    | succ k =>
      simp only [List.take_succ_cons, Tm.lows, Bool.and_eq_false_iff] at h ⊢
      exact h.imp id (fun h => ih h)

set_option maxHeartbeats 400000 in
theorem refSize_any (t : Tm) : ∀ (w : World) (x s : Value), IsTm w x s t → t.size ≤ 2097152 →
    Calls Try.prog 5 #[.agg #[x, s]] w fun e w' => e = .returned (.int .i64 t.size) ∧ Ext w w' := by
  induction t using Tm.ind with
  | h f ks ih =>
    intro w x s ht hs
    simp only [IsTm] at ht
    obtain ⟨rfl, hf1, hf2, a, c, rfl, hc, hk⟩ := ht
    simp only [Tm.size] at hs
    have hkl := length_le_sizes ks
    obtain ⟨-, hc1⟩ := cells2 w (.int .i64 f) (.slice a ks.length c) 30
    go_enter Try.func5, Try.ntmps5
    go_wp2_with fail
    go_loopw [3, 4] (fun n i wr => ∃ k : Nat, k ≤ ks.length ∧ i = .int .i64 k ∧ n = .int .i64 ((Tm.sizes (ks.take k) + 1 : Nat) : Int) ∧ Ext w wr ∧ wr.cell? ⟨w.heap.size, 1, none⟩ = some (.slice a ks.length c)) (fun _ i _ => ks.length - (intOf i).toNat)
    case atStart => exact ⟨0, Nat.zero_le _, rfl, rfl, by go_grown, hc1⟩
    case round =>
      obtain ⟨k, hkk, rfl, rfl, hext, hcell⟩ := hrel
      clear hc1
      by_cases hlt : k < ks.length
      · have hm := ih _ (List.getElem_mem hlt)
        obtain ⟨b, o, a', c', rfl, h1, h2, h3⟩ := (hk.ext hext).look hlt
        have hst := sizes_take hlt
        have hsl := sizes_take_le ks (k+1)
        have hp : Tm.size ks[k] ≤ 2097152 := by omega
        have hb : Tm.sizes (ks.take k) + ks[k].size ≤ 2097152 := by omega
        have Hst := Lib.hid hst; clear hst
        go_wp2_with ((with_reducible refine (hm _ _ _ h3 hp).mono ?_); rintro e w' ⟨rfl, hw'⟩)
        go_roundw
        case rel => exact ⟨k + 1, by omega, by go_num, by rw [Hst.out]; go_num, Ext.trans hext hw', hw'.cell hcell⟩
        case measure => simp [intOf]; omega
      · go_wp2_with fail
        have : k = ks.length := by omega
        subst this
        go_ret
        exact ⟨by simp [Tm.size], hext⟩

set_option maxHeartbeats 400000 in
theorem refDepth_any (t : Tm) : ∀ (w : World) (x s : Value), IsTm w x s t → t.size ≤ 2097152 →
    Calls Try.prog 73 #[.agg #[x, s]] w fun e w' => e = .returned (.int .i64 t.depth) ∧ Ext w w' := by
  induction t using Tm.ind with
  | h f ks ih =>
    intro w x s ht hs
    simp only [IsTm] at ht
    obtain ⟨rfl, hf1, hf2, a, c, rfl, hc, hk⟩ := ht
    have hsz := depth_le_size (.mk f ks)
    simp only [Tm.size, Tm.depth] at hs hsz
    have hkl := length_le_sizes ks
    obtain ⟨-, hc1⟩ := cells2 w (.int .i64 f) (.slice a ks.length c) 30
    go_enter Try.func73, Try.ntmps73
    go_wp2_with fail
    go_loopw [3, 4] (fun n i wr => ∃ k : Nat, k ≤ ks.length ∧ i = .int .i64 k ∧ n = .int .i64 ((Tm.depths (ks.take k) : Nat) : Int) ∧ Ext w wr ∧ wr.cell? ⟨w.heap.size, 1, none⟩ = some (.slice a ks.length c)) (fun _ i _ => ks.length - (intOf i).toNat)
    case atStart => exact ⟨0, Nat.zero_le _, rfl, rfl, by go_grown, hc1⟩
    case round =>
      obtain ⟨k, hkk, rfl, rfl, hext, hcell⟩ := hrel
      clear hc1
      by_cases hlt : k < ks.length
      · have hm := ih _ (List.getElem_mem hlt)
        obtain ⟨b, o, a', c', rfl, h1, h2, h3⟩ := (hk.ext hext).look hlt
        have hst := depths_take hlt
        have hp : Tm.size ks[k] ≤ 2097152 := by have := size_le_sizes hlt; omega
        have Hst := Lib.hid hst; clear hst
        go_wp2_with ((with_reducible refine (hm _ _ _ h3 hp).mono ?_); rintro e w' ⟨rfl, hw'⟩)
        all_goals
          go_roundw
          case rel => exact ⟨k + 1, by omega, by go_num, by rw [Hst.out]; congr 1; first | omega | (simp; omega), Ext.trans hext hw', hw'.cell hcell⟩
          case measure => simp [intOf]; omega
      · go_wp2_with fail
        have : k = ks.length := by omega
        subst this
        go_ret
        simp only [List.take_length] at hsz ⊢
        have hd : Tm.depths ks + 1 ≤ 2097152 := by omega
        exact ⟨by simp only [Tm.depth]; exact ret_int (by rw [IntWalk.wrap64_in _ (by omega)]; rfl), hext⟩

set_option maxHeartbeats 400000 in
theorem low_any (m : Int) (hm1 : -1048576 ≤ m) (hm2 : m ≤ 1048576) (t : Tm) : ∀ (w : World) (x s : Value), IsTm w x s t → t.size ≤ 2097152 →
    Calls Try.prog 74 #[.agg #[x, s], .int .i64 m] w fun e w' => e = .returned (.bool (t.low m)) ∧ Ext w w' := by
  induction t using Tm.ind with
  | h f ks ih =>
    intro w x s ht hs
    simp only [IsTm] at ht
    obtain ⟨rfl, hf1, hf2, a, c, rfl, hc, hk⟩ := ht
    simp only [Tm.size] at hs
    have hkl := length_le_sizes ks
    obtain ⟨-, hc1⟩ := cells2 w (.int .i64 f) (.slice a ks.length c) 30
    by_cases hneg : f < 0
    · go_enter Try.func74, Try.ntmps74
      go_wp2_with fail
      all_goals
        go_ret
        refine ⟨?_, by go_grown⟩
        first
          | (have h : -m ≤ f := by assumption
             simp [Tm.low, hneg, h, int_zero]; done)
          | (have h : f < -m := by assumption
             simp [Tm.low, hneg, Int.not_le.2 h]; done)
    · go_enter Try.func74, Try.ntmps74
      go_wp2_with fail
      go_loopw [5] (fun i wr => ∃ k : Nat, k ≤ ks.length ∧ i = .int .i64 k ∧ Tm.lows m (ks.take k) = true ∧ Ext w wr ∧ wr.cell? ⟨w.heap.size, 1, none⟩ = some (.slice a ks.length c)) (fun i _ => ks.length - (intOf i).toNat)
      case atStart => exact ⟨0, Nat.zero_le _, rfl, rfl, by go_grown, hc1⟩
      case round =>
        obtain ⟨k, hkk, rfl, hall, hext, hcell⟩ := hrel
        clear hc1
        have Hall := Lib.hid hall; clear hall
        by_cases hlt : k < ks.length
        · have hm := ih _ (List.getElem_mem hlt)
          obtain ⟨b, o, a', c', rfl, h1, h2, h3⟩ := (hk.ext hext).look hlt
          have hst := lows_take (m := m) hlt
          have hp : Tm.size ks[k] ≤ 2097152 := by have := size_le_sizes hlt; omega
          have Hst := Lib.hid hst; clear hst
          go_wp2_with ((with_reducible refine (hm _ _ _ h3 hp).mono ?_); rintro e w' ⟨rfl, hw'⟩)
          · go_ret
            have hf : Tm.low m ks[k] = false := by simpa using ‹(!Tm.low m ks[k]) = true›
            refine ⟨?_, Ext.trans hext hw'⟩
            have h1 := Hst.out
            rw [hf, Bool.and_false] at h1
            simp [Tm.low, Int.not_lt.2 hneg, lows_false h1]
          · have hf : Tm.low m ks[k] = true := by simpa using ‹(!Tm.low m ks[k]) = false›
            go_roundw
            case rel => exact ⟨k + 1, by omega, by go_num, by rw [Hst.out, Hall.out, hf]; rfl, Ext.trans hext hw', hw'.cell hcell⟩
            case measure => simp [intOf]; omega
        · go_wp2_with fail
          have : k = ks.length := by omega
          subst this
          go_ret
          refine ⟨?_, hext⟩
          have := Hall.out
          simp only [List.take_length] at this
          simp [Tm.low, Int.not_lt.2 hneg, this]
end Go.Proofs.Ytapoedcmhdlpfaa
namespace Go.Proofs.Ytapoedcmhdlpfaa
/-- the digits of k, n of them, the low one first -/
def digs (s : Nat) : Nat → Nat → List Nat
  | 0, _ => []
  | n + 1, k => k % s :: digs s n (k / s)
theorem digs_length (s : Nat) : ∀ n k, (digs s n k).length = n
  | 0, _ => rfl
  | n + 1, k => by rw [digs, List.length_cons, digs_length s n]
theorem digs_lt {s : Nat} (hs : 0 < s) : ∀ n k, ∀ x ∈ digs s n k, x < s
  | 0, _, x, h => by simp [digs] at h
  | n + 1, k, x, h => by
    rw [digs] at h
    rcases List.mem_cons.1 h with rfl | h
    · exact Nat.mod_lt _ hs
    · exact digs_lt hs n _ x h
theorem digs_zero (s : Nat) : ∀ n, digs s n 0 = List.replicate n 0
  | 0 => rfl
  | n + 1 => by rw [digs, Nat.zero_mod, Nat.zero_div, digs_zero s n]; rfl
/-- each row of numbers below s is the digits of a number -/
theorem digs_all {s : Nat} (hs : 0 < s) : ∀ (row : List Nat), (∀ x ∈ row, x < s) → ∃ k, k < s ^ row.length ∧ digs s row.length k = row
  | [], _ => ⟨0, by simp, rfl⟩
  | x :: row, h => by
    obtain ⟨k, hk, e⟩ := digs_all hs row fun y hy => h y (List.mem_cons_of_mem _ hy)
    have hx := h x List.mem_cons_self
    have h1 : s * (k + 1) ≤ s * s ^ row.length := Nat.mul_le_mul_left _ hk
    rw [Nat.mul_add, Nat.mul_one] at h1
    refine ⟨x + s * k, ?_, ?_⟩
    · rw [List.length_cons, Nat.pow_succ, Nat.mul_comm _ s]; omega
    · rw [List.length_cons, digs, Nat.add_mul_mod_self_left, Nat.mod_eq_of_lt hx, Nat.add_mul_div_left _ _ hs, Nat.div_eq_of_lt hx, Nat.zero_add, e]

/-- one more, the low one first; does it run over? -/
def incs (s : Nat) : List Nat → List Nat × Bool
  | [] => ([], true)
  | d :: ds => if d + 1 < s then ((d + 1) :: ds, false) else (0 :: (incs s ds).1, (incs s ds).2)
theorem incs_more {s : Nat} (hs : 0 < s) : ∀ n k, k + 1 < s ^ n → incs s (digs s n k) = (digs s n (k + 1), false)
  | 0, k, h => by simp at h
  | n + 1, k, h => by
    rw [Nat.pow_succ, Nat.mul_comm] at h
    have hm := Nat.div_add_mod k s
    have hr := Nat.mod_lt k hs
    rw [digs, digs, incs]
    by_cases h1 : k % s + 1 < s
    · have e : k + 1 = (k % s + 1) + s * (k / s) := by omega
      rw [if_pos h1, e, Nat.add_mul_mod_self_left, Nat.mod_eq_of_lt h1, Nat.add_mul_div_left _ _ hs, Nat.div_eq_of_lt h1, Nat.zero_add]
    · have e : k + 1 = s * (k / s + 1) := by rw [Nat.mul_add]; omega
      have h2 : k / s + 1 < s ^ n := by
        rw [e] at h
        exact Nat.lt_of_mul_lt_mul_left h
      rw [if_neg h1, incs_more hs n _ h2, e, Nat.mul_mod_right, Nat.mul_div_cancel_left _ hs]
theorem incs_last {s : Nat} (hs : 0 < s) : ∀ n k, k < s ^ n → ¬ k + 1 < s ^ n → (incs s (digs s n k)).2 = true
  | 0, k, _, _ => rfl
  | n + 1, k, h0, h => by
    rw [Nat.pow_succ, Nat.mul_comm] at h h0
    have hm := Nat.div_add_mod k s
    have hr := Nat.mod_lt k hs
    have e0 : k + 1 = s * s ^ n := by omega
    have h3 : k / s < s ^ n := Nat.div_lt_of_lt_mul h0
    rw [digs, incs]
    by_cases h1 : k % s + 1 < s
    · exfalso
      have h4 : s * (k / s + 1) ≤ s * s ^ n := Nat.mul_le_mul_left _ h3
      rw [Nat.mul_add] at h4
      omega
    · rw [if_neg h1]
      refine incs_last hs n _ h3 fun h2 => ?_
      have h4 : s * (k / s + 1 + 1) ≤ s * s ^ n := Nat.mul_le_mul_left _ h2
      rw [Nat.mul_add, Nat.mul_add] at h4
      omega

/-- what a variable is told to be by rows of variables and of values: the last one counts -/
def told (vs : List Int) (row : List Nat) (env : Int → Int) (v : Int) : Int :=
  ((vs.zip row).foldl (fun e p => fun x => if x = p.1 then (p.2 : Int) else e x) env) v
theorem told_nil (row : List Nat) (env : Int → Int) (v : Int) : told [] row env v = env v := by simp [told]
theorem told_out : ∀ (vs : List Int) (row : List Nat) (env : Int → Int) (v : Int), v ∉ vs → told vs row env v = env v
  | [], row, env, v, _ => told_nil row env v
  | x :: vs, [], env, v, _ => by simp [told]
  | x :: vs, d :: row, env, v, h => by
    have h1 : v ≠ x := fun e => h (e ▸ List.mem_cons_self)
    have h2 : v ∉ vs := fun e => h (List.mem_cons_of_mem _ e)
    have := told_out vs row (fun y => if y = x then (d : Int) else env y) v h2
    rw [if_neg h1] at this
    exact this
/-- what a row of elements tells of a table's place -/
def placeAt (sz : Int) (row : List Int) : Int := row.foldl (fun at' a => at' * sz + a) 0
mutual
/-- what a term is -/
def Tm.val (sz : Int) (tb : List (List Int)) (env : Int → Int) : Tm → Int
  | .mk f ks => if f < 0 then env (-1 - f) else (tb.getD f.toNat []).getD (placeAt sz (Tm.vals sz tb env ks)).toNat 0
def Tm.vals (sz : Int) (tb : List (List Int)) (env : Int → Int) : List Tm → List Int
  | [] => []
  | t :: ts => Tm.val sz tb env t :: Tm.vals sz tb env ts
end
end Go.Proofs.Ytapoedcmhdlpfaa
namespace Go.Proofs.Ytapoedcmhdlpfaa
open Go.ChangeShapes Go.WideShapes Go.ChangeAt Go.RowKit
/-- may a byte stand in a name? -/
def letterB (c : UInt8) : Bool := decide ((97 ≤ c.toNat ∧ c.toNat ≤ 122) ∨ (65 ≤ c.toNat ∧ c.toNat ≤ 90) ∨ (48 ≤ c.toNat ∧ c.toNat ≤ 57) ∨ c.toNat = 95)
def lettersB (s : ByteArray) : Bool := s.data.toList.all letterB
def named (s : ByteArray) : Bool := decide (1 ≤ s.size ∧ s.size ≤ 40) && lettersB s
def Sy.eqB (a b : Sy) : Bool := decide (a.name = b.name ∧ a.arity = b.arity ∧ a.pred = b.pred)
def truthName : ByteArray := ⟨#[36, 116, 114, 117, 101]⟩
def Sy.truth : Sy := ⟨truthName, 0, true⟩
def Sy.one (x : Sy) : Int := if named x.name = false then 111 else if x.arity < 0 ∨ 6 < x.arity then 112 else 0
/-- the place of the first symbol that is x; -1 -/
def atSy (x : Sy) : List Sy → Nat → Int
  | [], _ => -1
  | y :: r, k => if y.eqB x then k else atSy x r (k + 1)

theorem all_take (p : UInt8 → Bool) (s : ByteArray) (k : Nat) (h : k < s.size) : (s.data.toList.take (k + 1)).all p = ((s.data.toList.take k).all p && p s[k]) := by
  rw [List.take_succ_eq_append_getElem (by simpa using h), List.all_append]
  simp only [List.all_cons, List.all_nil, Bool.and_true]
  rfl
theorem all_false (p : UInt8 → Bool) (l : List UInt8) (k : Nat) (h : (l.take k).all p = false) : l.all p = false := by
  rw [← List.take_append_drop k l, List.all_append, h]; rfl

/-- '==' between symbols -/
theorem eql_sym (w : World) (n n' : ByteArray) (a a' : Int) (p p' : Bool) :
    (binOp .eql 63 (.agg #[.string n, .int .i64 a, .bool p]) (.agg #[.string n', .int .i64 a', .bool p'])).run Try.prog w = .ok (.bool (Sy.eqB ⟨n, a, p⟩ ⟨n', a', p'⟩)) w := by
  rw [run_eql_struct]
  simp only [Sy.eqB]
  go_simp
  have e : (n.toList = n'.toList) = (n = n') := by
    rw [ByteArray.toList_eq, ByteArray.toList_eq]
    refine propext ⟨fun h => ?_, fun h => by rw [h]⟩
    exact ByteArray.ext (Array.ext' h)
  simp only [e]
  by_cases h1 : n = n' <;> by_cases h2 : a = a' <;> by_cases h3 : p = p' <;> simp [h1, h2, h3]

set_option maxHeartbeats 400000 in
theorem refNamed_any (s : ByteArray) (w : World) (hs : s.size ≤ 1048576) :
    Calls Try.prog 78 #[.string s] w fun e w' => e = .returned (.bool (named s)) ∧ w = w' := by
  by_cases hsz : 1 ≤ s.size ∧ s.size ≤ 40
  · obtain ⟨h1, h2⟩ := hsz
    go_enter Try.func78, Try.ntmps78
    go_wp2_with fail
    go_loop [3] (fun i => ∃ k : Nat, k ≤ s.size ∧ i = .int .i64 k ∧ (s.data.toList.take k).all letterB = true) (fun i => s.size - (intOf i).toNat)
    case atStart => exact ⟨0, Nat.zero_le _, rfl, rfl⟩
    case round =>
      obtain ⟨k, hk, rfl, hall⟩ := hrel
      have Hall := Lib.hid hall; clear hall
      by_cases hlt : k < s.size
      · have Hst := Lib.hid (all_take letterB s k hlt)
        go_wp2_with fail
        all_goals (try simp only [Bool.not_eq_eq_eq_not, Bool.not_true, Bool.not_false, beq_eq_false_iff_ne, beq_iff_eq, decide_eq_false_iff_not, decide_eq_true_eq, ne_eq] at *)
        all_goals first
          | (have hf : letterB s[k] = false := by unfold letterB; rw [decide_eq_false_iff_not]; omega
             go_ret
             refine ⟨?_, rfl⟩
             have h1 := Hst.out
             rw [hf, Bool.and_false] at h1
             simp [named, show lettersB s = false from all_false _ _ _ h1]; done)
          | (have hf : letterB s[k] = true := by unfold letterB; rw [decide_eq_true_iff]; omega
             go_round
             case rel => exact ⟨k + 1, by omega, by go_num, by rw [Hst.out, Hall.out, hf]; rfl⟩
             case measure => simp [intOf]; omega)
      · go_wp2_with fail
        have : k = s.size := by omega
        subst this
        go_ret
        have h3 := Hall.out
        rw [List.take_of_length_le (by simp)] at h3
        exact ⟨by simp [named, h1, h2, show lettersB s = true from h3], rfl⟩
  · go_enter Try.func78, Try.ntmps78
    go_wp2_with fail
    all_goals
      go_ret
      exact ⟨by simp [named, hsz], rfl⟩

set_option maxHeartbeats 400000 in
theorem refOne_any (x : Sy) (hx : x.ok) (w : World) :
    Calls Try.prog 64 #[.agg #[.string x.name, .int .i64 x.arity, .bool x.pred]] w fun e w' => e = .returned (.int .i64 x.one) ∧ Ext w w' := by
  obtain ⟨n, a, p⟩ := x
  obtain ⟨h1, h2, h3⟩ := hx
  simp only at h1 h2 h3
  go_enter Try.func64, Try.ntmps64
  go_wp2_with ((with_reducible refine (refNamed_any _ _ h1).mono ?_); rintro e w' ⟨rfl, rfl⟩)
  all_goals
    go_ret
    refine ⟨?_, by go_grown⟩
    first
      | (have h : (!named n) = true := by assumption
         have h : named n = false := by simpa using h
         simp [Sy.one, h]; done)
      | (have h : (!named n) = false := by assumption
         have h : named n = true := by simpa using h
         simp [Sy.one, h]; omega)

set_option maxHeartbeats 400000 in
theorem refTruth_any (w : World) :
    Calls Try.prog 37 #[] w fun e w' => e = .returned (.agg #[.string truthName, .int .i64 0, .bool true]) ∧ Ext w w' := by
  go_enter Try.func37, Try.ntmps37
  go_wp2_with fail
  go_returns
  exact ⟨rfl, by go_grown⟩
end Go.Proofs.Ytapoedcmhdlpfaa
namespace Go.Proofs.Ytapoedcmhdlpfaa
open Go.ChangeShapes Go.WideShapes Go.ChangeAt Go.RowKit
mutual
/-- two cells read as a term all of whose arguments lie in blocks of P -/
def AtTm (P : Nat → Prop) (w : World) (x s : Value) : Tm → Prop
  | .mk n ks => x = .int .i64 n ∧ -9223372036854775808 ≤ n ∧ n ≤ 9223372036854775807 ∧ ∃ a c, s = .slice a ks.length c ∧ ks.length ≤ c ∧ AtTms P w a ks
def AtTms (P : Nat → Prop) (w : World) (a : Option Addr) : List Tm → Prop
  | [] => True
  | t :: ts => ∃ b o x s, a = some ⟨b, o, none⟩ ∧ P b ∧ w.cell? ⟨b, o, none⟩ = some x ∧ w.cell? ⟨b, o + 1, none⟩ = some s ∧ AtTm P w x s t ∧ AtTms P w (some ⟨b, o + 2, none⟩) ts
end
section
variable {w w' : World} {P Q : Nat → Prop}
mutual
theorem AtTm.of_cells (hQ : ∀ b, P b → b < w.heap.size → Q b) (h : ∀ p v, P p.block → w.cell? p = some v → w'.cell? p = some v) : ∀ {t : Tm} {x s : Value}, AtTm P w x s t → AtTm Q w' x s t
  | .mk n ks, x, s, ht => by
    simp only [AtTm] at ht ⊢
    obtain ⟨h1, h2, h3, a, c, h4, h6, h5⟩ := ht
    exact ⟨h1, h2, h3, a, c, h4, h6, AtTms.of_cells hQ h h5⟩
theorem AtTms.of_cells (hQ : ∀ b, P b → b < w.heap.size → Q b) (h : ∀ p v, P p.block → w.cell? p = some v → w'.cell? p = some v) : ∀ {ts : List Tm} {a : Option Addr}, AtTms P w a ts → AtTms Q w' a ts
  | [], a, _ => trivial
  | t :: ts, a, ht => by
    simp only [AtTms] at ht ⊢
    obtain ⟨b, o, x, s, h1, h0, h2, h3, h4, h5⟩ := ht
    exact ⟨b, o, x, s, h1, hQ b h0 (cell_lt h2), h _ _ h0 h2, h _ _ h0 h3, AtTm.of_cells hQ h h4, AtTms.of_cells hQ h h5⟩
end
end
theorem AtTm.ext {P : Nat → Prop} {w w' : World} {t : Tm} {x s : Value} (h : AtTm P w x s t) (hx : Ext w w') : AtTm P w' x s t := h.of_cells (fun _ h _ => h) fun _ _ _ hp => hx.cell hp
theorem AtTm.chg {P : Nat → Prop} {S : List Nat} {w w' : World} {t : Tm} {x s : Value} (h : AtTm P w x s t) (hx : Chg S w w') (hS : ∀ i ∈ S, ¬ P i) : AtTm P w' x s t :=
  h.of_cells (fun _ h _ => h) fun _p _ hB hp => hx.cell hp (fun hm => hS _ hm hB)
theorem AtTm.mono {P Q : Nat → Prop} {w : World} {t : Tm} {x s : Value} (h : AtTm P w x s t) (hQ : ∀ b, P b → b < w.heap.size → Q b) : AtTm Q w x s t := h.of_cells hQ fun _ _ _ h => h

end Go.Proofs.Ytapoedcmhdlpfaa
namespace Go.Proofs.Ytapoedcmhdlpfaa
open Go.ChangeShapes Go.WideShapes Go.ChangeAt Go.RowKit
/-- a block's first cells, none of them frozen -/
def Own (w : World) (b : Nat) (vs : List Value) : Prop := ∀ i v, vs[i]? = some v → w.cell? ⟨b, i, none⟩ = some v ∧ w.frozen? ⟨b, i, none⟩ = false

theorem Own.ext {w w' : World} {b : Nat} {vs : List Value} (h : Own w b vs) (hx : Ext w w') : Own w' b vs := fun i v hv => by
  obtain ⟨h1, h2⟩ := h i v hv
  exact ⟨hx.cell h1, hx.frozen h1 h2⟩
theorem Own.chg {S : List Nat} {w w' : World} {b : Nat} {vs : List Value} (h : Own w b vs) (hx : Chg S w w') (hb : b ∉ S) : Own w' b vs := fun i v hv => by
  obtain ⟨h1, h2⟩ := h i v hv
  exact ⟨hx.cell h1 hb, hx.frozen h1 hb h2⟩
theorem Own.set {w : World} {b : Nat} {vs : List Value} (h : Own w b vs) {i : Nat} (hi : i < vs.length) (x : Value) : Own (w.setCell ⟨b, i, none⟩ x) b (vs.set i x) := fun j v hv => by
  by_cases hj : j = i
  · subst hj
    rw [List.getElem?_set_self hi] at hv
    injection hv with hv
    subst hv
    obtain ⟨h1, h2⟩ := h j vs[j] (List.getElem?_eq_getElem hi)
    exact ⟨World.cell?_setCell_same _ _ _ h1, by rw [World.frozen?_setCell]; exact h2⟩
  · rw [List.getElem?_set_ne (Ne.symm hj)] at hv
    obtain ⟨h1, h2⟩ := h j v hv
    exact ⟨by rw [World.cell?_setCell_other _ _ _ _ (by simp [])]; exact h1, by rw [World.frozen?_setCell]; exact h2⟩
theorem Own.lt {w : World} {b : Nat} {v : Value} {vs : List Value} (h : Own w b (v :: vs)) : b < w.heap.size := cell_lt (h 0 v rfl).1

theorem own1 (w : World) (x : Value) (t : TypeId) : Own (w.alloc (.cells #[x] t)) w.heap.size [x] := fun i v hv => by
  match i, hv with
  | 0, hv => injection hv with hv; subst hv; constructor <;> go_simp
  | n + 1, hv => simp at hv
theorem own2 (w : World) (x y : Value) (t : TypeId) : Own (w.alloc (.cells #[x, y] t)) w.heap.size [x, y] := fun i v hv => by
  match i, hv with
  | 0, hv => injection hv with hv; subst hv; constructor <;> go_simp
  | 1, hv => injection hv with hv; subst hv; constructor <;> go_simp
  | n + 2, hv => simp at hv
end Go.Proofs.Ytapoedcmhdlpfaa
