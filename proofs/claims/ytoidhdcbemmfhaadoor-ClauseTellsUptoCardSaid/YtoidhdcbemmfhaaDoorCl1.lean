/- Literals and clauses read from memory; what True and pred of the clause layer and of the reference return. -/
import Derived.Test.YtoidhdcbemmfhaaDoorRefCheck
import Derived.Deep.RegionHeld3
namespace Go.Proofs.YtoidhdcbemmfhaaDoor
open Go.ChangeShapes Go.WideShapes Go.ChangeAt Go.RowKit

structure Lt where
  neg : Bool
  l : Tm
  r : Tm
def Lt.sized (x : Lt) : Prop := x.l.size ≤ 2097152 ∧ x.r.size ≤ 2097152

/-- from an address on stand the cells of literals -/
def IsLits (w : World) (a : Option Addr) (c : List Lt) : Prop :=
  ∀ i (h : i < c.length), ∃ b o la lc ra rc, a = some ⟨b, o, none⟩ ∧ w.cell? ⟨b, o + i * 5, none⟩ = some (.bool c[i].neg) ∧
    w.cell? ⟨b, o + i * 5 + 1, none⟩ = some (.int .i64 c[i].l.f) ∧ w.cell? ⟨b, o + i * 5 + 2, none⟩ = some (.slice la c[i].l.ks.length lc) ∧
    w.cell? ⟨b, o + i * 5 + 3, none⟩ = some (.int .i64 c[i].r.f) ∧ w.cell? ⟨b, o + i * 5 + 4, none⟩ = some (.slice ra c[i].r.ks.length rc) ∧
    IsTm w (.int .i64 c[i].l.f) (.slice la c[i].l.ks.length lc) c[i].l ∧ IsTm w (.int .i64 c[i].r.f) (.slice ra c[i].r.ks.length rc) c[i].r
theorem IsLits.ext {w w' : World} {a : Option Addr} {c : List Lt} (h : IsLits w a c) (hx : Ext w w') : IsLits w' a c := fun i hi => by
  obtain ⟨b, o, la, lc, ra, rc, h1, h2, h3, h4, h5, h6, h7, h8⟩ := h i hi
  exact ⟨b, o, la, lc, ra, rc, h1, hx.cell h2, hx.cell h3, hx.cell h4, hx.cell h5, hx.cell h6, h7.ext hx, h8.ext hx⟩

def Tm.isTrue (t : Tm) : Bool := (t.f == 0) && decide (t.ks.length = 0)
theorem int_len (n : Nat) : ((n : Int) == 0) = decide (n = 0) := by rw [Bool.eq_iff_iff]; simp

set_option maxHeartbeats 400000 in
theorem clTrue_any (t : Tm) (w : World) (x s : Value) (ht : IsTm w x s t) :
    Calls Tryd.prog 68 #[.agg #[x, s]] w fun e w' => e = .returned (.bool t.isTrue) ∧ Ext w w' := by
  obtain ⟨a, c, rfl, rfl, -, -, -, -⟩ := ht.form
  have hx := ext_alloc w (.cells #[.int .i64 t.f, .slice a t.ks.length c] 27)
  have Hx := Lib.hid hx; clear hx
  unfold Tm.isTrue
  rw [← int_len]
  cases h0 : (t.f == 0)
  all_goals
    go_enter Tryd.func68, Tryd.ntmps68
    go_wp2_with fail
    go_ret
    exact ⟨by simp, Hx.out⟩
set_option maxHeartbeats 400000 in
theorem refTrue_any (t : Tm) (w : World) (x s : Value) (ht : IsTm w x s t) :
    Calls Tryd.prog 70 #[.agg #[x, s]] w fun e w' => e = .returned (.bool t.isTrue) ∧ Ext w w' := by
  obtain ⟨a, c, rfl, rfl, -, -, -, -⟩ := ht.form
  have hx := ext_alloc w (.cells #[.int .i64 t.f, .slice a t.ks.length c] 27)
  have Hx := Lib.hid hx; clear hx
  unfold Tm.isTrue
  rw [← int_len]
  cases h0 : (t.f == 0)
  all_goals
    go_enter Tryd.func70, Tryd.ntmps70
    go_wp2_with fail
    go_ret
    exact ⟨by simp, Hx.out⟩

/-- does a predicate stand on top? -/
def predOf (l : List Sy) (t : Tm) : Bool := if t.f < 0 then false else match l[t.f.toNat]? with
  | none => false
  | some s => s.pred

set_option maxHeartbeats 400000 in
set_option maxRecDepth 100000 in
theorem clPred_any (l : List Sy) (hl : l.length ≤ 1048576) (t : Tm) (hf : t.f < (l.length : Int)) (w : World) (bs : Nat) (a : Option Addr) (c : Nat) (hs : w.cell? ⟨bs, 0, none⟩ = some (.slice a l.length c)) (hsy : IsSyms w a l) (x s : Value) (ht : IsTm w x s t) :
    Calls Tryd.prog 71 #[.agg #[x, s], .pointer (some ⟨bs, 0, none⟩)] w fun e w' => e = .returned (.bool (predOf l t)) ∧ Ext w w' := by
  obtain ⟨a', c', rfl, rfl, hf1, hf2, -, -⟩ := ht.form
  have hx := ext_alloc w (.cells #[.int .i64 t.f, .slice a' t.ks.length c'] 27)
  have hs' := hx.cell hs
  have hsy' := hsy.ext hx
  have Hx := Lib.hid hx; clear hx
  unfold predOf
  by_cases h0 : t.f < 0
  · rw [if_pos h0]
    go_enter Tryd.func71, Tryd.ntmps71
    go_wp2_with fail
    go_ret
    exact ⟨by simp, Hx.out⟩
  · rw [if_neg h0]
    obtain ⟨i, hi⟩ : ∃ i : Nat, t.f = i := ⟨t.f.toNat, by omega⟩
    rw [hi] at hs' Hx hf ⊢
    have hil : i < l.length := by omega
    obtain ⟨b2, o2, rfl, hok2, g0, g1, g2⟩ := hsy'.look hil
    have hil' : (i : Int) < l.length := by omega
    rw [Int.toNat_natCast, List.getElem?_eq_getElem hil]
    rw [hi] at g0 g1 g2
    have hge : (0 : Int) ≤ (i : Int) := by omega
    clear hsy hsy' hs h0 ht
    go_enter Tryd.func71, Tryd.ntmps71
    go_wp2_with fail
    go_ret
    exact ⟨by simp, Hx.out⟩
end Go.Proofs.YtoidhdcbemmfhaaDoor
