/- prec.Higher. Conditions: lengths fit. -/
import Derived.Test.YtdmiphdohfcbeaaPrecL1
namespace Go.Proofs.Ytdmiphdohfcbeaa
open Go.ChangeShapes Go.WideShapes Go.ChangeAt Go.RowKit
attribute [local go_sem] undef

set_option maxHeartbeats 1000000 in
set_option maxRecDepth 100000 in
theorem higher_any (o : Ord) (w : World) (v : Value) (h : IsOrd w v o) (hp : o.prec.length ≤ 1048576) (f g : Int) (hf : -9223372036854775808 ≤ f ∧ f ≤ 9223372036854775807) (hg : -9223372036854775808 ≤ g ∧ g ≤ 9223372036854775807) :
    Calls Try.prog 17 #[v, .int .i64 f, .int .i64 g] w fun e w' => e = .returned (.bool (hiAbove o.prec f g)) ∧ Ext w w' := by
  obtain ⟨lpo, prec, wts, var⟩ := o
  obtain ⟨pa, pc, wa, wc, rfl, h1, h2, -⟩ := h
  simp only at *
  obtain ⟨W, hW⟩ : ∃ W, W = w.alloc (.cells #[.bool lpo, .slice pa prec.length pc, .slice wa wts.length wc, .int .i64 var] 27) := ⟨_, rfl⟩
  have hx : Ext w W := by subst hW; go_grown
  have k1 : W.cell? ⟨w.heap.size, 1, none⟩ = some (.slice pa prec.length pc) := by subst hW; go_simp
  rw [hW] at k1
  rcases (by omega : f < g ∨ g < f ∨ f = g) with hfg | hgf | hfg
  · have hmin : (if g < f then g else f) = f := by rw [if_neg (by omega)]
    have hmax : (if f < g then g else f) = g := by rw [if_pos hfg]
    by_cases c1 : f < 0
    · have c1' : decide (0 ≤ f) = false := decide_eq_false (by omega)
      have hr : hiAbove prec f g = false := by unfold hiAbove; exact decide_eq_false (fun h => by omega)
      rw [hr]
      clear hr
      go_enter Try.func17, Try.ntmps17
      go_wp2_with fail
      go_quiet (fail)
      go_wp2_with fail
      go_ret
      exact ⟨rfl, by first | exact Ext.drewN hx _ | (rw [← hW]; exact Ext.drewN hx _)⟩
    have c1' : decide (0 ≤ f) = true := decide_eq_true (by omega)
    by_cases c2 : g < prec.length
    · have c2' : decide (g < (prec.length : Int)) = true := decide_eq_true c2
      obtain ⟨i, rfl⟩ : ∃ i : Nat, f = i := ⟨f.toNat, by omega⟩
      obtain ⟨k, rfl⟩ : ∃ k : Nat, g = k := ⟨g.toNat, by omega⟩
      have hi : i < prec.length := by omega
      have hk : k < prec.length := by omega
      obtain ⟨b, q, rfl, m1⟩ := h1.look hi
      obtain ⟨b', q', e, m2⟩ := h1.look hk
      injection e with e; injection e with e1 e2; subst e1; subst e2
      have n1 := hx.cell m1
      have n2 := hx.cell m2
      rw [hiAbove_in prec hi hk]
      generalize prec[i] = x at n1
      generalize prec[k] = y at n2
      have i1 : (i : Int) < prec.length := by omega
      have i2 : (k : Int) < prec.length := by omega
      clear m1 m2
      rw [hW] at n1 n2
      go_enter Try.func17, Try.ntmps17
      go_wp2_with fail
      go_quiet (fail)
      go_wp2_with fail
      go_ret
      exact ⟨rfl, by first | exact Ext.drewN hx _ | (rw [← hW]; exact Ext.drewN hx _)⟩
    have c2' : decide (g < (prec.length : Int)) = false := decide_eq_false c2
    have hr : hiAbove prec f g = false := by unfold hiAbove; exact decide_eq_false (fun h => by omega)
    rw [hr]
    clear hr
    go_enter Try.func17, Try.ntmps17
    go_wp2_with fail
    go_quiet (fail)
    go_wp2_with fail
    go_ret
    exact ⟨rfl, by first | exact Ext.drewN hx _ | (rw [← hW]; exact Ext.drewN hx _)⟩
  · have hmin : (if g < f then g else f) = g := by rw [if_pos hgf]
    have hmax : (if f < g then g else f) = f := by rw [if_neg (by omega)]
    by_cases c1 : g < 0
    · have c1' : decide (0 ≤ g) = false := decide_eq_false (by omega)
      have hr : hiAbove prec f g = false := by unfold hiAbove; exact decide_eq_false (fun h => by omega)
      rw [hr]
      clear hr
      go_enter Try.func17, Try.ntmps17
      go_wp2_with fail
      go_quiet (fail)
      go_wp2_with fail
      go_ret
      exact ⟨rfl, by first | exact Ext.drewN hx _ | (rw [← hW]; exact Ext.drewN hx _)⟩
    have c1' : decide (0 ≤ g) = true := decide_eq_true (by omega)
    by_cases c2 : f < prec.length
    · have c2' : decide (f < (prec.length : Int)) = true := decide_eq_true c2
      obtain ⟨i, rfl⟩ : ∃ i : Nat, f = i := ⟨f.toNat, by omega⟩
      obtain ⟨k, rfl⟩ : ∃ k : Nat, g = k := ⟨g.toNat, by omega⟩
      have hi : i < prec.length := by omega
      have hk : k < prec.length := by omega
      obtain ⟨b, q, rfl, m1⟩ := h1.look hi
      obtain ⟨b', q', e, m2⟩ := h1.look hk
      injection e with e; injection e with e1 e2; subst e1; subst e2
      have n1 := hx.cell m1
      have n2 := hx.cell m2
      rw [hiAbove_in prec hi hk]
      generalize prec[i] = x at n1
      generalize prec[k] = y at n2
      have i1 : (i : Int) < prec.length := by omega
      have i2 : (k : Int) < prec.length := by omega
      clear m1 m2
      rw [hW] at n1 n2
      go_enter Try.func17, Try.ntmps17
      go_wp2_with fail
      go_quiet (fail)
      go_wp2_with fail
      go_ret
      exact ⟨rfl, by first | exact Ext.drewN hx _ | (rw [← hW]; exact Ext.drewN hx _)⟩
    have c2' : decide (f < (prec.length : Int)) = false := decide_eq_false c2
    have hr : hiAbove prec f g = false := by unfold hiAbove; exact decide_eq_false (fun h => by omega)
    rw [hr]
    clear hr
    go_enter Try.func17, Try.ntmps17
    go_wp2_with fail
    go_quiet (fail)
    go_wp2_with fail
    go_ret
    exact ⟨rfl, by first | exact Ext.drewN hx _ | (rw [← hW]; exact Ext.drewN hx _)⟩
  · subst hfg
    have hmin : (if f < f then f else f) = f := by simp
    have hmax : (if f < f then f else f) = f := by simp
    by_cases c1 : f < 0
    · have c1' : decide (0 ≤ f) = false := decide_eq_false (by omega)
      have hr : hiAbove prec f f = false := by unfold hiAbove; exact decide_eq_false (fun h => by omega)
      rw [hr]
      clear hr
      go_enter Try.func17, Try.ntmps17
      go_wp2_with fail
      go_quiet (fail)
      go_wp2_with fail
      go_ret
      exact ⟨rfl, by first | exact Ext.drewN hx _ | (rw [← hW]; exact Ext.drewN hx _)⟩
    have c1' : decide (0 ≤ f) = true := decide_eq_true (by omega)
    by_cases c2 : f < prec.length
    · have c2' : decide (f < (prec.length : Int)) = true := decide_eq_true c2
      obtain ⟨i, rfl⟩ : ∃ i : Nat, f = i := ⟨f.toNat, by omega⟩
      have hi : i < prec.length := by omega
      obtain ⟨b, q, rfl, m1⟩ := h1.look hi
      have n1 := hx.cell m1
      rw [hiAbove_in prec hi hi]
      generalize prec[i] = x at n1
      rw [show decide (x < x) = false by simp]
      have i1 : (i : Int) < prec.length := by omega
      clear m1
      rw [hW] at n1
      go_enter Try.func17, Try.ntmps17
      go_wp2_with fail
      go_quiet (fail)
      go_wp2_with fail
      go_ret
      exact ⟨rfl, by first | exact Ext.drewN hx _ | (rw [← hW]; exact Ext.drewN hx _)⟩
    have c2' : decide (f < (prec.length : Int)) = false := decide_eq_false c2
    have hr : hiAbove prec f f = false := by unfold hiAbove; exact decide_eq_false (fun h => by omega)
    rw [hr]
    clear hr
    go_enter Try.func17, Try.ntmps17
    go_wp2_with fail
    go_quiet (fail)
    go_wp2_with fail
    go_ret
    exact ⟨rfl, by first | exact Ext.drewN hx _ | (rw [← hW]; exact Ext.drewN hx _)⟩
end Go.Proofs.Ytdmiphdohfcbeaa
