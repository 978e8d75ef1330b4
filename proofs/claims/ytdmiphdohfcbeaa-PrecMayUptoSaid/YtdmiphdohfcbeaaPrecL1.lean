/- Rows of numbers and orders told to be the same; which of two symbols ranks above the other one. Conditions: lengths fit. -/
import Derived.Test.YtdmiphdohfcbeaaPrecO
import Derived.Deep.QuietTactic
namespace Go.Proofs.Ytdmiphdohfcbeaa
open Go.ChangeShapes Go.WideShapes Go.ChangeAt Go.RowKit

set_option maxHeartbeats 1000000 in
set_option maxRecDepth 100000 in
theorem row_true (l : List Int) (hl : l.length ≤ 1048576) (w : World) (a1 a2 : Option Addr) (c1 c2 : Nat) (h1 : IsInts w a1 l) (h2 : IsInts w a2 l) :
    Calls Try.prog 16 #[.slice a1 l.length c1, .slice a2 l.length c2] w fun e w' => e = .returned (.bool true) ∧ Ext w w' := by
  go_enter Try.func16, Try.ntmps16
  go_wp2_with fail
  go_loopw [5] (fun i wr => ∃ k : Nat, k ≤ l.length ∧ i = .int .i64 k ∧ Ext w wr) (fun i _ => l.length - (intOf i).toNat)
  case atStart => exact ⟨0, Nat.zero_le _, rfl, Below.refl _ _⟩
  case round =>
    obtain ⟨k, hkk, rfl, hext⟩ := hrel
    by_cases hlt : k < l.length
    · have hk1 : (k : Int) < l.length := by omega
      obtain ⟨b, o, rfl, m1⟩ := h1.look hlt
      obtain ⟨b2, o2, rfl, m2⟩ := h2.look hlt
      have g1 := hext.cell m1
      have g2 := hext.cell m2
      generalize l[k] = z at g1 g2
      clear m1 m2
      go_wp2_with fail
      go_quiet (fail)
      go_wp2_with fail
      go_roundw
      case rel => exact ⟨k + 1, by omega, by go_num, hext.drewN _⟩
      case measure => simp [intOf]; omega
    · have hk1 : ¬ (k : Int) < l.length := by omega
      have hke : k = l.length := by omega
      go_wp2_with fail
      go_ret
      exact ⟨rfl, hext⟩

set_option maxHeartbeats 1000000 in
set_option maxRecDepth 100000 in
theorem same_true (o : Ord) (w : World) (v1 v2 : Value) (h1 : IsOrd w v1 o) (h2 : IsOrd w v2 o) (hp : o.prec.length ≤ 1048576) (hw : o.wts.length ≤ 1048576) :
    Calls Try.prog 15 #[v1, v2] w fun e w' => e = .returned (.bool true) ∧ Ext w w' := by
  obtain ⟨lpo, prec, wts, var⟩ := o
  obtain ⟨pa, pc, wa, wc, rfl, a1, a2, -⟩ := h1
  obtain ⟨qa, qc, xa, xc, rfl, b1, b2, -⟩ := h2
  simp only at *
  have H1 := Lib.hid (fun w' (hx : Ext w w') => row_true prec hp w' pa qa pc qc (a1.ext hx) (b1.ext hx))
  have H2 := Lib.hid (fun w' (hx : Ext w w') => row_true wts hw w' wa xa wc xc (a2.ext hx) (b2.ext hx))
  obtain ⟨W, hW⟩ : ∃ W, W = (w.alloc (.cells #[.bool lpo, .slice pa prec.length pc, .slice wa wts.length wc, .int .i64 var] 27)).alloc (.cells #[.bool lpo, .slice qa prec.length qc, .slice xa wts.length xc, .int .i64 var] 27) := ⟨_, rfl⟩
  have hx : Ext w W := by subst hW; go_grown
  have k0 : W.cell? ⟨w.heap.size, 0, none⟩ = some (.bool lpo) := by subst hW; go_simp
  have k1 : W.cell? ⟨w.heap.size, 1, none⟩ = some (.slice pa prec.length pc) := by subst hW; go_simp
  have k2 : W.cell? ⟨w.heap.size, 2, none⟩ = some (.slice wa wts.length wc) := by subst hW; go_simp
  have k3 : W.cell? ⟨w.heap.size, 3, none⟩ = some (.int .i64 var) := by subst hW; go_simp
  have j0 : W.cell? ⟨w.heap.size + 1, 0, none⟩ = some (.bool lpo) := by subst hW; go_simp
  have j1 : W.cell? ⟨w.heap.size + 1, 1, none⟩ = some (.slice qa prec.length qc) := by subst hW; go_simp
  have j2 : W.cell? ⟨w.heap.size + 1, 2, none⟩ = some (.slice xa wts.length xc) := by subst hW; go_simp
  have j3 : W.cell? ⟨w.heap.size + 1, 3, none⟩ = some (.int .i64 var) := by subst hW; go_simp
  have hbb : (lpo == lpo) = true := by simp
  have hvv : (var == var) = true := by simp
  clear a1 a2 b1 b2
  go_enter Try.func15, Try.ntmps15
  go_wp2_with (first
    | (go_at_call 16; rw [← hW]; clear hW; refine (H1.out _ hx).mono ?_; rintro e w1 ⟨rfl, hx1⟩; have i2 := hx1.cell k2; have i5 := hx1.cell j2)
    | (go_at_call 16; refine (H2.out _ (hx.trans hx1)).mono ?_; rintro e w2 ⟨rfl, hx2⟩))
  go_ret
  exact ⟨rfl, (hx.trans hx1).trans hx2⟩

/-- does f rank above g? -/
def hiAbove (p : List Int) (f g : Int) : Bool := decide (0 ≤ f ∧ 0 ≤ g ∧ f < p.length ∧ g < p.length ∧ (p[g.toNat]?).getD 0 < (p[f.toNat]?).getD 0)
theorem hiAbove_irrefl (p : List Int) (f : Int) : hiAbove p f f = false := by
  unfold hiAbove; exact decide_eq_false (fun h => by omega)
theorem hiAbove_asymm (p : List Int) (f g : Int) : (hiAbove p f g && hiAbove p g f) = false := by
  unfold hiAbove
  rw [Bool.and_eq_false_iff]
  by_cases h : 0 ≤ f ∧ 0 ≤ g ∧ f < p.length ∧ g < p.length ∧ (p[g.toNat]?).getD 0 < (p[f.toNat]?).getD 0
  · exact .inr (decide_eq_false (fun h' => by omega))
  · exact .inl (decide_eq_false h)
theorem hiAbove_in (p : List Int) {i k : Nat} (hi : i < p.length) (hk : k < p.length) : hiAbove p i k = decide (p[k] < p[i]) := by
  unfold hiAbove
  rw [Bool.eq_iff_iff, decide_eq_true_eq, decide_eq_true_eq]
  simp only [Int.toNat_natCast, List.getElem?_eq_getElem hi, List.getElem?_eq_getElem hk, Option.getD_some]
  omega

set_option maxHeartbeats 1000000 in
set_option maxRecDepth 100000 in
theorem refHigher_any (o : Ord) (w : World) (v : Value) (h : IsOrd w v o) (hp : o.prec.length ≤ 1048576) (f g : Int) (hf : -9223372036854775808 ≤ f ∧ f ≤ 9223372036854775807) (hg : -9223372036854775808 ≤ g ∧ g ≤ 9223372036854775807) :
    Calls Try.prog 18 #[v, .int .i64 f, .int .i64 g] w fun e w' => e = .returned (.bool (hiAbove o.prec f g)) ∧ Ext w w' := by
  obtain ⟨lpo, prec, wts, var⟩ := o
  obtain ⟨pa, pc, wa, wc, rfl, h1, h2, -⟩ := h
  simp only at *
  obtain ⟨W, hW⟩ : ∃ W, W = w.alloc (.cells #[.bool lpo, .slice pa prec.length pc, .slice wa wts.length wc, .int .i64 var] 27) := ⟨_, rfl⟩
  have hx : Ext w W := by subst hW; go_grown
  have k1 : W.cell? ⟨w.heap.size, 1, none⟩ = some (.slice pa prec.length pc) := by subst hW; go_simp
  by_cases c1 : f < 0
  · have hr : hiAbove prec f g = false := by unfold hiAbove; exact decide_eq_false (fun h => by omega)
    rw [hr]
    clear hr
    go_enter Try.func18, Try.ntmps18
    go_wp2_with fail
    go_ret
    exact ⟨rfl, by first | exact hx | (rw [← hW]; exact hx)⟩
  by_cases c2 : g < 0
  · have hr : hiAbove prec f g = false := by unfold hiAbove; exact decide_eq_false (fun h => by omega)
    rw [hr]
    clear hr
    go_enter Try.func18, Try.ntmps18
    go_wp2_with fail
    go_ret
    exact ⟨rfl, by first | exact hx | (rw [← hW]; exact hx)⟩
  by_cases c3 : (prec.length : Int) ≤ f
  · have hr : hiAbove prec f g = false := by unfold hiAbove; exact decide_eq_false (fun h => by omega)
    rw [hr]
    clear hr
    go_enter Try.func18, Try.ntmps18
    go_wp2_with fail
    go_ret
    exact ⟨rfl, by first | exact hx | (rw [← hW]; exact hx)⟩
  by_cases c4 : (prec.length : Int) ≤ g
  · have hr : hiAbove prec f g = false := by unfold hiAbove; exact decide_eq_false (fun h => by omega)
    rw [hr]
    clear hr
    go_enter Try.func18, Try.ntmps18
    go_wp2_with fail
    go_ret
    exact ⟨rfl, by first | exact hx | (rw [← hW]; exact hx)⟩
  obtain ⟨i, rfl⟩ : ∃ i : Nat, f = i := ⟨f.toNat, by omega⟩
  obtain ⟨k, rfl⟩ : ∃ k : Nat, g = k := ⟨g.toNat, by omega⟩
  have hi : i < prec.length := by omega
  have hk : k < prec.length := by omega
  obtain ⟨b, q, rfl, m1⟩ := h1.look hi
  obtain ⟨b', q', e, m2⟩ := h1.look hk
  injection e with e; injection e with e1 e2; subst e1; subst e2
  have n1 := hx.cell m1
  have n2 := hx.cell m2
  rw [hiAbove_in prec hi hk]
  generalize prec[i] = x at n1
  generalize prec[k] = y at n2
  have i1 : (i : Int) < prec.length := by omega
  have i2 : (k : Int) < prec.length := by omega
  clear m1 m2
  rw [hW] at k1 n1 n2
  go_enter Try.func18, Try.ntmps18
  go_wp2_with fail
  go_quiet (fail)
  go_wp2_with fail
  go_ret
  exact ⟨rfl, by first | exact Ext.drewN hx _ | (rw [← hW]; exact Ext.drewN hx _)⟩
end Go.Proofs.Ytdmiphdohfcbeaa
