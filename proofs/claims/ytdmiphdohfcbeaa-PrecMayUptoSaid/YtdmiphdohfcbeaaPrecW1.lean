/- The law's small signature, its clause g(a) = a; which orders may not be, where the length is another one. Conditions: lengths fit.
What syllogismlaw07.wakes returns, given what prec.Make returns. -/
import Derived.Test.YtdmiphdohfcbeaaPrecL1
import Derived.Test.YtdmiphdohfcbeaaSign3
namespace Go.Proofs.Ytdmiphdohfcbeaa
open Go.ChangeShapes Go.WideShapes Go.ChangeAt Go.RowKit

def sig07 : List Sy := [⟨⟨#[36, 116, 114, 117, 101]⟩, 0, true⟩, ⟨⟨#[97]⟩, 0, false⟩, ⟨⟨#[102]⟩, 2, false⟩, ⟨⟨#[103]⟩, 1, false⟩]
def cls07 : List (List Lt) := [[⟨false, .mk 3 [.mk 1 []], .mk 1 []⟩]]
theorem sig07_syms {w : World} {b o : Nat} (h : ∀ i (hi : i < 4), w.cell? ⟨b, o + i * 3, none⟩ = some (.string (sig07[i]'hi).name) ∧ w.cell? ⟨b, o + i * 3 + 1, none⟩ = some (.int .i64 (sig07[i]'hi).arity) ∧ w.cell? ⟨b, o + i * 3 + 2, none⟩ = some (.bool (sig07[i]'hi).pred)) : IsSyms w (some ⟨b, o, none⟩) sig07 := by
  intro i hi
  refine ⟨?_, b, o, rfl, h i hi⟩
  have hi' : i < 4 := hi
  have hall : ∀ s ∈ sig07, s.name.size ≤ 1048576 ∧ -9223372036854775808 ≤ s.arity ∧ s.arity ≤ 9223372036854775807 := by decide +kernel
  exact hall _ (List.getElem_mem hi)

set_option maxHeartbeats 1000000 in
set_option maxRecDepth 100000 in
theorem small07_any (w : World) : Calls Try.prog 28 #[] w fun e w' => (∃ a, e = .returned (.agg #[.slice a 4 4]) ∧ IsSyms w' a sig07) ∧ Ext w w' := by
  obtain ⟨W1, hW1⟩ : ∃ W1, W1 = w.alloc (.cells #[.slice none 0 0] 24) := ⟨_, rfl⟩
  have hx1 : Ext w W1 := by subst hW1; go_grown
  have hS1 : W1.heap.size = w.heap.size + 1 := by subst hW1; simp
  have j0 : W1.cell? ⟨w.heap.size, 0, none⟩ = some (.slice none 0 0) := by subst hW1; go_simp
  have jf : W1.frozen? ⟨w.heap.size, 0, none⟩ = false := by subst hW1; go_simp
  have hT := Lib.hid (refTruth_any W1)
  go_enter Try.func28, Try.ntmps28
  go_wp2_with ((go_at_call 42; rw [← hW1]; clear hW1; refine (hT.out).mono ?_; rintro e w2 ⟨rfl, hx2⟩; replace jf := hx2.frozen j0 jf; replace j0 := hx2.cell j0; (have jfa : ∀ o, (w2.alloc o).frozen? ⟨w.heap.size, 0, none⟩ = false := fun o => (ext_alloc w2 o).frozen j0 jf); (have j0a : ∀ o, (w2.alloc o).cell? ⟨w.heap.size, 0, none⟩ = some (.slice none 0 0) := fun o => (ext_alloc w2 o).cell j0)))
  obtain ⟨W, hW⟩ : ∃ W, W = w2.alloc (.cells #[.string truthName, .int .i64 0, .bool true, .string ⟨#[97]⟩, .int .i64 0, .bool false, .string ⟨#[102]⟩, .int .i64 2, .bool false, .string ⟨#[103]⟩, .int .i64 1, .bool false] 57) := ⟨_, rfl⟩
  have hx : Ext w2 W := by subst hW; go_grown
  have hc : ∀ i (hi : i < 4), W.cell? ⟨w2.heap.size, 0 + i * 3, none⟩ = some (.string (sig07[i]'hi).name) ∧ W.cell? ⟨w2.heap.size, 0 + i * 3 + 1, none⟩ = some (.int .i64 (sig07[i]'hi).arity) ∧ W.cell? ⟨w2.heap.size, 0 + i * 3 + 2, none⟩ = some (.bool (sig07[i]'hi).pred) := by
    intro i hi
    subst hW
    have : i = 0 ∨ i = 1 ∨ i = 2 ∨ i = 3 := by omega
    rcases this with rfl | rfl | rfl | rfl <;> (refine ⟨?_, ?_, ?_⟩ <;> go_simp <;> rfl)
  replace j0 := hx.cell j0
  have hs1 : w.heap.size + 1 ≤ w2.heap.size := by have := hx2.size; have : W1.heap.size = w.heap.size + 1 := hS1; omega
  rw [← hW]
  clear hW
  have hE : Ext w W := (hx1.trans hx2).trans hx
  have hch : Chg [w.heap.size] W (W.setCell ⟨w.heap.size, 0, none⟩ (.slice (some ⟨w2.heap.size, 0, none⟩) 4 4)) := (Chg.refl _ _).setCell _ (.inl (by simp))
  have k1 := World.cell?_setCell_same (u := .slice none 0 0) W ⟨w.heap.size, 0, none⟩ (.slice (some ⟨w2.heap.size, 0, none⟩) 4 4) j0
  refine bodyPost_ret (v := .agg #[.slice (some ⟨w2.heap.size, 0, none⟩) 4 4]) (by simp [results, Try.results28, go_sem, k1]) rfl ?_
  refine ⟨⟨_, rfl, sig07_syms fun i hi => ?_⟩, Chg.ext hE hch (by simp)⟩
  obtain ⟨c1, c2, c3⟩ := hc i hi
  exact ⟨hch.cell c1 (by simp; omega), hch.cell c2 (by simp; omega), hch.cell c3 (by simp; omega)⟩

set_option maxHeartbeats 1000000 in
set_option maxRecDepth 100000 in
theorem check_len (l : List Sy) (hl : l.length ≤ 1048576) (o : Ord) (hne : o.prec.length ≠ l.length) (hp : o.prec.length ≤ 1048576) (w : World) (a : Option Addr) (n : Nat) (v : Value) (hln : l.length ≤ n) (hn63 : n ≤ 9223372036854775807) (hsy : IsSyms w a l) (ho : IsOrd w v o) :
    Calls Try.prog 7 #[.agg #[.slice a l.length n], v] w fun e w' => e = .returned (.int .i64 2) ∧ Ext w w' := by
  obtain ⟨lpo, prec, wts, var⟩ := o
  obtain ⟨pa, pc, wa, wc, rfl, h1, h2, -⟩ := ho
  simp only at *
  obtain ⟨W, hW⟩ : ∃ W, W = (w.alloc (.cells #[.slice a l.length n] 24)).alloc (.cells #[.bool lpo, .slice pa prec.length pc, .slice wa wts.length wc, .int .i64 var] 27) := ⟨_, rfl⟩
  have hx : Ext w W := by subst hW; go_grown
  have k0 : W.cell? ⟨w.heap.size, 0, none⟩ = some (.slice a l.length n) := by subst hW; go_simp
  have k1 : W.cell? ⟨w.heap.size + 1, 1, none⟩ = some (.slice pa prec.length pc) := by subst hW; go_simp
  have hck := sigCheck_any l hl W a n hln hn63 (hsy.ext hx)
  have hlb : ((prec.length : Int) != (l.length : Int)) = true := by rw [bne_iff_ne]; omega
  rcases (by by_cases h : sigCheck l = 0; exact .inl h; exact .inr h : sigCheck l = 0 ∨ ¬ sigCheck l = 0) with hz | hz
  · rw [hz] at hck
    have Hck := Lib.hid hck; clear hck hz h1 h2 hsy
    go_enter Try.func7, Try.ntmps7
    go_wp2_with ((go_at_call 19; rw [← hW]; clear hW; refine (Hck.out).mono ?_; rintro e w1 ⟨rfl, hx1⟩; replace k0 := hx1.cell k0; replace k1 := hx1.cell k1))
    go_ret
    exact ⟨rfl, Ext.trans hx hx1⟩
  · have hzb : (sigCheck l != 0) = true := by simpa using hz
    have Hck := Lib.hid hck; clear hck hz h1 h2 hsy
    go_enter Try.func7, Try.ntmps7
    go_wp2_with ((go_at_call 19; rw [← hW]; clear hW; refine (Hck.out).mono ?_; rintro e w1 ⟨rfl, hx1⟩; replace k0 := hx1.cell k0; replace k1 := hx1.cell k1))
    go_ret
    exact ⟨rfl, Ext.trans hx hx1⟩
end Go.Proofs.Ytdmiphdohfcbeaa
namespace Go.Proofs.Ytdmiphdohfcbeaa
open Go.ChangeShapes Go.WideShapes Go.ChangeAt Go.RowKit

/-- what prec.Make returns -/
def MakeSays : Prop := ∀ (l : List Sy) (_ : l.length ≤ 1048576) (cs : List (List Lt)) (_ : cs.length ≤ 100) (_ : sizedCls cs) (y : Way) (_ : y.fits) (w : World) (a ca : Option Addr) (n cn : Nat) (_ : l.length ≤ n) (_ : n ≤ 9223372036854775807) (_ : IsSyms w a l) (_ : IsCls w ca cs),
  Calls Try.prog 11 #[.agg #[.slice a l.length n], .slice ca cs.length cn, y.val] w fun e w' => (∃ v, e = .returned v ∧ OrderGiven w' v l cs y) ∧ Ext w w'

def way71 : Way := ⟨false, 1, 1, true⟩
def way72 : Way := ⟨false, 3, 3, false⟩
theorem fits71 : way71.fits := by simp [Way.fits, way71]
theorem fits72 : way72.fits := by simp [Way.fits, way72]
theorem make71_err : makeErr sig07 cls07 way71 = 0 := by decide +kernel
theorem make72_err : makeErr sig07 cls07 way72 = 0 := by decide +kernel
theorem made71 : madeOrd sig07 cls07 way71 = ⟨false, [0, 1, 3, 2], [1, 1, 3, 2], 1⟩ := by
  have h1 : (madeOrd sig07 cls07 way71).prec = [0, 1, 3, 2] := by decide +kernel
  have h2 : (madeOrd sig07 cls07 way71).wts = [1, 1, 3, 2] := by decide +kernel
  have h3 : (madeOrd sig07 cls07 way71).lpo = false := by decide +kernel
  have h4 : (madeOrd sig07 cls07 way71).var = 1 := by decide +kernel
  cases h : madeOrd sig07 cls07 way71
  rw [h] at h1 h2 h3 h4
  simp only at h1 h2 h3 h4
  rw [h1, h2, h3, h4]
theorem made72 : madeOrd sig07 cls07 way72 = ⟨false, [0, 3, 1, 2], [1, 3, 1, 2], 1⟩ := by
  have h1 : (madeOrd sig07 cls07 way72).prec = [0, 3, 1, 2] := by decide +kernel
  have h2 : (madeOrd sig07 cls07 way72).wts = [1, 3, 1, 2] := by decide +kernel
  have h3 : (madeOrd sig07 cls07 way72).lpo = false := by decide +kernel
  have h4 : (madeOrd sig07 cls07 way72).var = 1 := by decide +kernel
  cases h : madeOrd sig07 cls07 way72
  rw [h] at h1 h2 h3 h4
  simp only at h1 h2 h3 h4
  rw [h1, h2, h3, h4]

theorem isInts4 (w : World) (x y z u : Int) (hx : -9223372036854775808 ≤ x ∧ x ≤ 9223372036854775807) (hy : -9223372036854775808 ≤ y ∧ y ≤ 9223372036854775807) (hz : -9223372036854775808 ≤ z ∧ z ≤ 9223372036854775807) (hu : -9223372036854775808 ≤ u ∧ u ≤ 9223372036854775807) (t : TypeId) :
    IsInts (w.alloc (.cells #[.int .i64 x, .int .i64 y, .int .i64 z, .int .i64 u] t)) (some ⟨w.heap.size, 0, none⟩) [x, y, z, u] := by
  obtain ⟨c0, c1, c2, c3⟩ := cells4 w (.int .i64 x) (.int .i64 y) (.int .i64 z) (.int .i64 u) t
  intro i hi
  have hi' : i < 4 := hi
  have : i = 0 ∨ i = 1 ∨ i = 2 ∨ i = 3 := by omega
  rcases this with rfl | rfl | rfl | rfl
  · exact ⟨hx.1, hx.2, _, _, rfl, c0⟩
  · exact ⟨hy.1, hy.2, _, _, rfl, c1⟩
  · exact ⟨hz.1, hz.2, _, _, rfl, c2⟩
  · exact ⟨hu.1, hu.2, _, _, rfl, c3⟩

theorem ord_form {w : World} {u : Value} {lpo : Bool} {prec wts : List Int} {var : Int} (h : IsOrd w u ⟨lpo, prec, wts, var⟩) : ∃ pa pc wa wc, u = .agg #[.bool lpo, .slice pa prec.length pc, .slice wa wts.length wc, .int .i64 var] := by
  obtain ⟨pa, pc, wa, wc, h1, -⟩ := h
  exact ⟨pa, pc, wa, wc, h1⟩
/-- a call that compares a row with a literal one -/
theorem row_lit (w w0 : World) (x y z u : Int) (hx : -9223372036854775808 ≤ x ∧ x ≤ 9223372036854775807) (hy : -9223372036854775808 ≤ y ∧ y ≤ 9223372036854775807) (hz : -9223372036854775808 ≤ z ∧ z ≤ 9223372036854775807) (hu : -9223372036854775808 ≤ u ∧ u ≤ 9223372036854775807) (pa : Option Addr) (pc : Nat) (h : IsInts w0 pa [x, y, z, u]) (hE : Ext w0 w) (b : Nat) (hb : b = w.heap.size) :
    Calls Try.prog 16 #[.slice pa 4 pc, .slice (some ⟨b, 0, none⟩) 4 4] (w.alloc (.cells #[.int .i64 x, .int .i64 y, .int .i64 z, .int .i64 u] 3)) fun e w' => e = .returned (.bool true) ∧ Ext w w' := by
  subst hb
  refine (row_true [x, y, z, u] (by simp) _ _ _ pc 4 (h.ext (hE.trans (ext_alloc _ _))) (isInts4 w x y z u hx hy hz hu _)).mono ?_
  rintro e w' ⟨rfl, h1⟩
  exact ⟨rfl, Ext.trans (ext_alloc _ _) h1⟩

theorem sig07_len : sig07.length = 4 := rfl
theorem zero_len : Ord.zero.prec.length = 0 := rfl
theorem check07_any (w : World) (a : Option Addr) (hs : IsSyms w a sig07) :
    Calls Try.prog 7 #[.agg #[.slice a 4 4], .agg #[.bool false, .slice none 0 0, .slice none 0 0, .int .i64 0]] w fun e w' => e = .returned (.int .i64 2) ∧ Ext w w' :=
  check_len sig07 (by rw [sig07_len]; omega) .zero (by rw [sig07_len, zero_len]; omega) (by rw [zero_len]; omega) w a 4 _ (by rw [sig07_len]; exact Nat.le_refl _) (by omega) hs (IsOrd.zero w)

set_option maxHeartbeats 1000000 in
set_option maxRecDepth 100000 in
theorem wakes07_any (HMK : MakeSays) (w : World) : Calls Try.prog 10 #[] w fun e w' => e = .returned (.bool true) ∧ Ext w w' := by
  have Hsig := Lib.hid small07_any
  obtain ⟨W, hW⟩ : ∃ W, W = ((((w.alloc (.cells #[.int .i64 1, .slice none 0 0] 62)).alloc (.cells #[.int .i64 1, .slice none 0 0] 62)).alloc (.cells #[.bool false, .int .i64 3, .slice (some ⟨w.heap.size + 1, 0, none⟩) 1 1, .int .i64 1, .slice none 0 0] 64)).alloc (.cells #[.slice (some ⟨w.heap.size + 1 + 1, 0, none⟩) 1 1] 46)) := ⟨_, rfl⟩
  have hx : Ext w W := by subst hW; go_grown
  have k0 : W.cell? ⟨w.heap.size + 1, 0, none⟩ = some (.int .i64 1) := by subst hW; go_simp
  have k1 : W.cell? ⟨w.heap.size + 1, 1, none⟩ = some (.slice none 0 0) := by subst hW; go_simp
  have l0 : W.cell? ⟨w.heap.size + 1 + 1, 0, none⟩ = some (.bool false) := by subst hW; go_simp
  have l1 : W.cell? ⟨w.heap.size + 1 + 1, 1, none⟩ = some (.int .i64 3) := by subst hW; go_simp
  have l2 : W.cell? ⟨w.heap.size + 1 + 1, 2, none⟩ = some (.slice (some ⟨w.heap.size + 1, 0, none⟩) 1 1) := by subst hW; go_simp
  have l3 : W.cell? ⟨w.heap.size + 1 + 1, 3, none⟩ = some (.int .i64 1) := by subst hW; go_simp
  have l4 : W.cell? ⟨w.heap.size + 1 + 1, 4, none⟩ = some (.slice none 0 0) := by subst hW; go_simp
  have m0 : W.cell? ⟨w.heap.size + 1 + 1 + 1, 0, none⟩ = some (.slice (some ⟨w.heap.size + 1 + 1, 0, none⟩) 1 1) := by subst hW; go_simp
  have t1 : IsTm W (.int .i64 1) (.slice none 0 0) (.mk 1 []) := by
    simp only [IsTm, IsTms]; exact ⟨trivial, by omega, by omega, none, 0, rfl, Nat.le_refl _, trivial⟩
  have t2 : IsTm W (.int .i64 3) (.slice (some ⟨w.heap.size + 1, 0, none⟩) 1 1) (.mk 3 [.mk 1 []]) := by
    simp only [IsTm, IsTms]
    exact ⟨trivial, by omega, by omega, _, 1, rfl, by simp, _, _, _, _, rfl, k0, k1, ⟨rfl, by omega, by omega, none, 0, rfl, Nat.le_refl _, trivial⟩, trivial⟩
  have hls : IsLits W (some ⟨w.heap.size + 1 + 1, 0, none⟩) [⟨false, .mk 3 [.mk 1 []], .mk 1 []⟩] := by
    intro i hi
    have : i = 0 := by simpa using hi
    subst this
    exact ⟨_, _, _, _, _, _, rfl, l0, l1, l2, l3, l4, t2, t1⟩
  have hcl : IsCls W (some ⟨w.heap.size + 1 + 1 + 1, 0, none⟩) cls07 := by
    intro i hi
    have : i = 0 := by simpa [cls07] using hi
    subst this
    exact ⟨_, _, _, _, rfl, m0, Nat.le_refl _, hls⟩
  have hsz : sizedCls cls07 := by
    intro i hi
    have : i = 0 := by simpa [cls07] using hi
    subst this
    refine ⟨by simp [cls07], fun k hk => ?_⟩
    have : k = 0 := by simpa [cls07] using hk
    subst this
    simp [cls07, Lt.sized, Tm.size, Tm.sizes]
  have H1 := Lib.hid (fun w' (h1 : Ext W w') a (hs : IsSyms w' a sig07) => by
    have h := HMK sig07 (by decide) cls07 (by decide) hsz way71 fits71 w' a (some ⟨w.heap.size + 1 + 1 + 1, 0, none⟩) 4 1 (by decide) (by decide) hs (hcl.ext h1)
    simp only [OrderGiven, make71_err, made71] at h
    exact h)
  have H2 := Lib.hid (fun w' (h1 : Ext W w') a (hs : IsSyms w' a sig07) => by
    have h := HMK sig07 (by decide) cls07 (by decide) hsz way72 fits72 w' a (some ⟨w.heap.size + 1 + 1 + 1, 0, none⟩) 4 1 (by decide) (by decide) hs (hcl.ext h1)
    simp only [OrderGiven, make72_err, made72] at h
    exact h)
  have HC := Lib.hid check07_any
  clear k0 k1 l0 l1 l2 l3 l4 m0 t1 t2 hls hcl hsz
  go_enter Try.func10, Try.ntmps10
  go_wp2_with (first
    | (go_at_call 28; have hE8' := hE8; refine (Hsig.out _).mono ?_; rintro e w9 ⟨⟨a9, rfl, hs9⟩, hx9⟩)
    | (go_at_call 28; rw [← hW]; clear hW; refine (Hsig.out _).mono ?_; rintro e w1 ⟨⟨a1, rfl, hs1⟩, hx1⟩)
    | (go_at_call 28; refine (Hsig.out _).mono ?_; rintro e w3 ⟨⟨a3, rfl, hs3⟩, hx3⟩; obtain ⟨-, o1, o2, -⟩ := cells4 w2 (.bool false) (.slice pa 4 pc) (.slice wa 4 wc) (.int .i64 1) 27; replace o1 := hx3.cell o1; replace o2 := hx3.cell o2; (have hE23 : Ext w2 w3 := Ext.trans (ext_alloc w2 _) hx3); (have hE3 := (hx1.trans hx2).trans hE23); clear hx3)
    | (go_at_call 11; refine (H2.out _ hE3 _ hs3).mono ?_; rintro e w4 ⟨⟨v, rfl, u, rfl, qa, qc, xa, xc, rfl, hqa, hxa, -⟩, hx4⟩; obtain ⟨-, p1, p2, -⟩ := cells4 w4 (.bool false) (.slice qa 4 qc) (.slice xa 4 xc) (.int .i64 1) 27; (have hA4 := ext_alloc w4 (.cells #[.bool false, .slice qa 4 qc, .slice xa 4 xc, .int .i64 1] 27)); replace o1 := (hx4.trans hA4).cell o1; replace o2 := (hx4.trans hA4).cell o2; (have hE24 : Ext w2 _ := (hE23.trans hx4).trans hA4); (have hE4 := (hE3.trans hx4).trans hA4); replace hpa := hpa.ext hE24; replace hwa := hwa.ext hE24; replace hqa := hqa.ext hA4; replace hxa := hxa.ext hA4; clear hE24)
    | (go_at_call 11; refine (H1.out _ hx1 _ hs1).mono ?_; rintro e w2 ⟨⟨v, rfl, u, rfl, pa, pc, wa, wc, rfl, hpa, hwa, -⟩, hx2⟩)
    | (go_at_call 16; with_reducible refine (row_lit _ _ 0 1 3 2 (by omega) (by omega) (by omega) (by omega) pa pc hpa (Below.refl _ _) _ (by simp)).mono ?_; rintro e w5 ⟨rfl, hx5⟩; clear hpa; replace o2 := hx5.cell o2; replace p1 := hx5.cell p1; replace p2 := hx5.cell p2)
    | (go_at_call 16; with_reducible refine (row_lit w5 _ 1 1 3 2 (by omega) (by omega) (by omega) (by omega) wa wc hwa hx5 _ rfl).mono ?_; rintro e w6 ⟨rfl, hx6⟩; clear hwa; replace p1 := hx6.cell p1; replace p2 := hx6.cell p2; (have hE6 := hx5.trans hx6))
    | (go_at_call 16; with_reducible refine (row_lit w6 _ 0 3 1 2 (by omega) (by omega) (by omega) (by omega) qa qc hqa hE6 _ rfl).mono ?_; rintro e w7 ⟨rfl, hx7⟩; clear hqa; replace p2 := hx7.cell p2; (have hE7 := hE6.trans hx7))
    | (go_at_call 16; with_reducible refine (row_lit w7 _ 1 3 1 2 (by omega) (by omega) (by omega) (by omega) xa xc hxa hE7 _ rfl).mono ?_; rintro e w8 ⟨rfl, hx8⟩; clear hxa; (have hE8 := hE7.trans hx8))
    | (go_at_call 7; refine (HC.out _ _ hs9).mono ?_; rintro e w10 ⟨rfl, hx10⟩))
  go_ret
  exact ⟨rfl, ((hx.trans (hE4.trans hE8)).trans hx9).trans hx10⟩
end Go.Proofs.Ytdmiphdohfcbeaa
