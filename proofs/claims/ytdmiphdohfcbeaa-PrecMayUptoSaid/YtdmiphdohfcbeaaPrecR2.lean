/- The reference of chapter 7: above; and Higher, of the program and of the reference. No condition but that numbers fit. -/
import Derived.Test.YtdmiphdohfcbeaaPrecR1
namespace Go.Proofs.Ytdmiphdohfcbeaa
open Go.ChangeShapes Go.WideShapes Go.ChangeAt Go.RowKit

theorem above4 (x y : Int) (i k : Nat) : (decide (y < x) = true ∧ decide (y < x ∨ (y = x ∧ k < i)) = true) ∨ (decide (y < x) = false ∧ (x == y) = false ∧ decide (y < x ∨ (y = x ∧ k < i)) = false) ∨
    (decide (y < x) = false ∧ (x == y) = true ∧ decide (k < i) = true ∧ decide (y < x ∨ (y = x ∧ k < i)) = true) ∨ (decide (y < x) = false ∧ (x == y) = true ∧ decide (k < i) = false ∧ decide (y < x ∨ (y = x ∧ k < i)) = false) := by
  simp only [decide_eq_true_eq, decide_eq_false_iff_not, beq_iff_eq, beq_eq_false_iff_ne, ne_eq]
  omega

set_option maxHeartbeats 2000000 in
set_option maxRecDepth 100000 in
theorem above_any (l : List Sy) (hl : l.length ≤ 1048576) (by_ : Int) (hb0 : 0 ≤ by_) (hb4 : by_ ≤ 4) (ns : List Int) (hnl : ns.length = l.length) (hn : ∀ x ∈ ns, 0 ≤ x ∧ x ≤ 4611686018427387904) (i k : Nat) (hi : i < l.length) (hk : k < l.length)
    (w : World) (a na : Option Addr) (c nc : Nat) (hsy : IsSyms w a l) (hns : IsInts w na ns) :
    Calls Try.prog 31 #[.agg #[.slice a l.length c], .int .i64 by_, .slice na ns.length nc, .int .i64 i, .int .i64 k] w fun e w' => e = .returned (.bool (aboveB (rankVal l by_ ns) i k)) ∧ Ext w w' := by
  obtain ⟨b2, o2, rfl, -, g0, g1, g2⟩ := hsy.look hi
  obtain ⟨b3, o3, e, -, j0, j1, j2⟩ := hsy.look hk
  injection e with e
  injection e with e1 e2 e3
  subst e1; subst e2
  clear e3
  obtain ⟨nb, no, rfl, n1⟩ := hns.look (i := i) (by omega)
  obtain ⟨nb', no', e, n2⟩ := hns.look (i := k) (by omega)
  injection e with e
  injection e with e1 e2 e3
  subst e1; subst e2
  clear e3
  obtain ⟨x1, x2⟩ := hn ns[i] (List.getElem_mem _)
  obtain ⟨y1, y2⟩ := hn ns[k] (List.getElem_mem _)
  have hi1 : (i : Int) < l.length := by omega
  have hk1 : (k : Int) < l.length := by omega
  have hi2 : (i : Int) < ns.length := by omega
  have hk2 : (k : Int) < ns.length := by omega
  obtain ⟨W, hW⟩ : ∃ W, W = w.alloc (.cells #[.slice (some ⟨b2, o2, none⟩) l.length c] 24) := ⟨_, rfl⟩
  have hx : Ext w W := by subst hW; exact ext_alloc _ _
  have k0 : W.cell? ⟨w.heap.size, 0, none⟩ = some (.slice (some ⟨b2, o2, none⟩) l.length c) := by subst hW; go_simp
  replace g1 := hx.cell g1
  replace j1 := hx.cell j1
  replace n1 := hx.cell n1
  replace n2 := hx.cell n2
  have hwi : ∀ z, z = -ns[i] → IntKind.i64.wrap (-ns[i]) = z := fun z hz => hz ▸ IntWalk.i64_in _ (by omega)
  have hwk : ∀ z, z = -ns[k] → IntKind.i64.wrap (-ns[k]) = z := fun z hz => hz ▸ IntWalk.i64_in _ (by omega)
  have hval : ∀ q (hq : q < l.length), (l[q]?).getD ⟨truthName, 0, false⟩ = l[q] := fun q hq => by rw [List.getElem?_eq_getElem hq]; rfl
  have hv : ∀ q (hq : q < l.length), rankVal l by_ ns q = if by_ = 1 then l[q].arity else if by_ = 2 then (if l[q].arity = 1 then 100 else l[q].arity) else if by_ = 3 then ns[q]'(by omega) else if by_ = 4 then -(ns[q]'(by omega)) else 0 := fun q hq => by
    unfold rankVal
    rw [List.getElem?_eq_getElem hq, List.getElem?_eq_getElem (show q < ns.length by omega)]
    rfl
  have hvi := hv i hi
  have hvk := hv k hk
  have Hr : aboveB (rankVal l by_ ns) i k = decide (rankVal l by_ ns k < rankVal l by_ ns i ∨ (rankVal l by_ ns k = rankVal l by_ ns i ∧ k < i)) := rfl
  rw [hvi, hvk] at Hr
  clear hv hvi hvk hval hsy hns hn g0 g2 j0 j2
  have HR := Lib.hid Hr; clear Hr
  have HX := Lib.hid hx; clear hx
  generalize ns[i] = x at n1 x1 x2 hwi HR
  generalize ns[k] = y at n2 y1 y2 hwk HR
  generalize l[i].arity = p at g1 HR
  generalize l[k].arity = q at j1 HR
  have hbs : by_ = 0 ∨ by_ = 1 ∨ by_ = 2 ∨ by_ = 3 ∨ by_ = 4 := by omega
  clear hb0 hb4
  rcases hbs with rfl | rfl | rfl | rfl | rfl
  · simp only [Int.reduceEq, if_false, Int.lt_irrefl, false_or, true_and] at HR
    go_enter Try.func31, Try.ntmps31
    go_wp2_with fail
    rw [← hW]
    clear hW
    go_quiet (fail)
    go_wp2_with fail
    go_ret
    exact ⟨ret_bool (by rw [HR.out]), Ext.drewN HX.out _⟩
  · simp only [Int.reduceEq, if_true, if_false] at HR
    rcases above4 (p) (q) i k with ⟨h1, h2⟩ | ⟨h1, h2, h3⟩ | ⟨h1, h2, h3, h4⟩ | ⟨h1, h2, h3, h4⟩
    · rw [h2] at HR; clear h2
      go_enter Try.func31, Try.ntmps31
      go_wp2_with fail
      rw [← hW]
      clear hW
      go_quiet (fail)
      go_wp2_with fail
      go_ret
      exact ⟨ret_bool (by rw [HR.out]), Ext.drewN HX.out _⟩
    · rw [h3] at HR; clear h3
      go_enter Try.func31, Try.ntmps31
      go_wp2_with fail
      rw [← hW]
      clear hW
      go_quiet (fail)
      go_wp2_with fail
      go_ret
      exact ⟨ret_bool (by rw [HR.out]), Ext.drewN HX.out _⟩
    · rw [h4] at HR; clear h4
      go_enter Try.func31, Try.ntmps31
      go_wp2_with fail
      rw [← hW]
      clear hW
      go_quiet (fail)
      go_wp2_with fail
      go_ret
      exact ⟨ret_bool (by rw [HR.out]), Ext.drewN HX.out _⟩
    · rw [h4] at HR; clear h4
      go_enter Try.func31, Try.ntmps31
      go_wp2_with fail
      rw [← hW]
      clear hW
      go_quiet (fail)
      go_wp2_with fail
      go_ret
      exact ⟨ret_bool (by rw [HR.out]), Ext.drewN HX.out _⟩
  · simp only [Int.reduceEq, if_true, if_false] at HR
    by_cases hp : p = 1 <;> by_cases hq : q = 1
    · rw [if_pos hp, if_pos hq] at HR
      have hpb : (p == 1) = true := by simpa using hp
      have hqb : (q == 1) = true := by simpa using hq
      clear hp hq
      simp only [Int.lt_irrefl, false_or, true_and] at HR
      go_enter Try.func31, Try.ntmps31
      go_wp2_with fail
      rw [← hW]
      clear hW
      go_quiet (fail)
      go_wp2_with fail
      go_ret
      exact ⟨ret_bool (by rw [HR.out]), Ext.drewN HX.out _⟩
    · rw [if_pos hp, if_neg hq] at HR
      have hpb : (p == 1) = true := by simpa using hp
      have hqb : (q == 1) = false := by simpa using hq
      clear hp hq
      rcases above4 (100) (q) i k with ⟨h1, h2⟩ | ⟨h1, h2, h3⟩ | ⟨h1, h2, h3, h4⟩ | ⟨h1, h2, h3, h4⟩
      · rw [h2] at HR; clear h2
        go_enter Try.func31, Try.ntmps31
        go_wp2_with fail
        rw [← hW]
        clear hW
        go_quiet (fail)
        go_wp2_with fail
        go_ret
        exact ⟨ret_bool (by rw [HR.out]), Ext.drewN HX.out _⟩
      · rw [h3] at HR; clear h3
        go_enter Try.func31, Try.ntmps31
        go_wp2_with fail
        rw [← hW]
        clear hW
        go_quiet (fail)
        go_wp2_with fail
        go_ret
        exact ⟨ret_bool (by rw [HR.out]), Ext.drewN HX.out _⟩
      · rw [h4] at HR; clear h4
        go_enter Try.func31, Try.ntmps31
        go_wp2_with fail
        rw [← hW]
        clear hW
        go_quiet (fail)
        go_wp2_with fail
        go_ret
        exact ⟨ret_bool (by rw [HR.out]), Ext.drewN HX.out _⟩
      · rw [h4] at HR; clear h4
        go_enter Try.func31, Try.ntmps31
        go_wp2_with fail
        rw [← hW]
        clear hW
        go_quiet (fail)
        go_wp2_with fail
        go_ret
        exact ⟨ret_bool (by rw [HR.out]), Ext.drewN HX.out _⟩
    · rw [if_neg hp, if_pos hq] at HR
      have hpb : (p == 1) = false := by simpa using hp
      have hqb : (q == 1) = true := by simpa using hq
      clear hp hq
      rcases above4 (p) (100) i k with ⟨h1, h2⟩ | ⟨h1, h2, h3⟩ | ⟨h1, h2, h3, h4⟩ | ⟨h1, h2, h3, h4⟩
      · rw [h2] at HR; clear h2
        go_enter Try.func31, Try.ntmps31
        go_wp2_with fail
        rw [← hW]
        clear hW
        go_quiet (fail)
        go_wp2_with fail
        go_ret
        exact ⟨ret_bool (by rw [HR.out]), Ext.drewN HX.out _⟩
      · rw [h3] at HR; clear h3
        go_enter Try.func31, Try.ntmps31
        go_wp2_with fail
        rw [← hW]
        clear hW
        go_quiet (fail)
        go_wp2_with fail
        go_ret
        exact ⟨ret_bool (by rw [HR.out]), Ext.drewN HX.out _⟩
      · rw [h4] at HR; clear h4
        go_enter Try.func31, Try.ntmps31
        go_wp2_with fail
        rw [← hW]
        clear hW
        go_quiet (fail)
        go_wp2_with fail
        go_ret
        exact ⟨ret_bool (by rw [HR.out]), Ext.drewN HX.out _⟩
      · rw [h4] at HR; clear h4
        go_enter Try.func31, Try.ntmps31
        go_wp2_with fail
        rw [← hW]
        clear hW
        go_quiet (fail)
        go_wp2_with fail
        go_ret
        exact ⟨ret_bool (by rw [HR.out]), Ext.drewN HX.out _⟩
    · rw [if_neg hp, if_neg hq] at HR
      have hpb : (p == 1) = false := by simpa using hp
      have hqb : (q == 1) = false := by simpa using hq
      clear hp hq
      rcases above4 (p) (q) i k with ⟨h1, h2⟩ | ⟨h1, h2, h3⟩ | ⟨h1, h2, h3, h4⟩ | ⟨h1, h2, h3, h4⟩
      · rw [h2] at HR; clear h2
        go_enter Try.func31, Try.ntmps31
        go_wp2_with fail
        rw [← hW]
        clear hW
        go_quiet (fail)
        go_wp2_with fail
        go_ret
        exact ⟨ret_bool (by rw [HR.out]), Ext.drewN HX.out _⟩
      · rw [h3] at HR; clear h3
        go_enter Try.func31, Try.ntmps31
        go_wp2_with fail
        rw [← hW]
        clear hW
        go_quiet (fail)
        go_wp2_with fail
        go_ret
        exact ⟨ret_bool (by rw [HR.out]), Ext.drewN HX.out _⟩
      · rw [h4] at HR; clear h4
        go_enter Try.func31, Try.ntmps31
        go_wp2_with fail
        rw [← hW]
        clear hW
        go_quiet (fail)
        go_wp2_with fail
        go_ret
        exact ⟨ret_bool (by rw [HR.out]), Ext.drewN HX.out _⟩
      · rw [h4] at HR; clear h4
        go_enter Try.func31, Try.ntmps31
        go_wp2_with fail
        rw [← hW]
        clear hW
        go_quiet (fail)
        go_wp2_with fail
        go_ret
        exact ⟨ret_bool (by rw [HR.out]), Ext.drewN HX.out _⟩
  · simp only [Int.reduceEq, if_true, if_false] at HR
    rcases above4 (x) (y) i k with ⟨h1, h2⟩ | ⟨h1, h2, h3⟩ | ⟨h1, h2, h3, h4⟩ | ⟨h1, h2, h3, h4⟩
    · rw [h2] at HR; clear h2
      go_enter Try.func31, Try.ntmps31
      go_wp2_with fail
      rw [← hW]
      clear hW
      go_quiet (fail)
      go_wp2_with fail
      go_quiet (fail)
      go_wp2_with fail
      go_ret
      exact ⟨ret_bool (by rw [HR.out]), Ext.drewN HX.out _⟩
    · rw [h3] at HR; clear h3
      go_enter Try.func31, Try.ntmps31
      go_wp2_with fail
      rw [← hW]
      clear hW
      go_quiet (fail)
      go_wp2_with fail
      go_quiet (fail)
      go_wp2_with fail
      go_ret
      exact ⟨ret_bool (by rw [HR.out]), Ext.drewN HX.out _⟩
    · rw [h4] at HR; clear h4
      go_enter Try.func31, Try.ntmps31
      go_wp2_with fail
      rw [← hW]
      clear hW
      go_quiet (fail)
      go_wp2_with fail
      go_quiet (fail)
      go_wp2_with fail
      go_ret
      exact ⟨ret_bool (by rw [HR.out]), Ext.drewN HX.out _⟩
    · rw [h4] at HR; clear h4
      go_enter Try.func31, Try.ntmps31
      go_wp2_with fail
      rw [← hW]
      clear hW
      go_quiet (fail)
      go_wp2_with fail
      go_quiet (fail)
      go_wp2_with fail
      go_ret
      exact ⟨ret_bool (by rw [HR.out]), Ext.drewN HX.out _⟩
  · simp only [Int.reduceEq, if_true, if_false] at HR
    obtain ⟨x', hx'⟩ : ∃ z, z = -x := ⟨_, rfl⟩
    obtain ⟨y', hy'⟩ : ∃ z, z = -y := ⟨_, rfl⟩
    replace hwi := hwi x' hx'
    replace hwk := hwk y' hy'
    rw [← hx', ← hy'] at HR
    clear hx' hy'
    rcases above4 x' y' i k with ⟨h1, h2⟩ | ⟨h1, h2, h3⟩ | ⟨h1, h2, h3, h4⟩ | ⟨h1, h2, h3, h4⟩
    · rw [h2] at HR; clear h2
      go_enter Try.func31, Try.ntmps31
      go_wp2_with fail
      rw [← hW]
      clear hW
      go_quiet (fail)
      go_wp2_with fail
      go_quiet (fail)
      go_wp2_with fail
      go_ret
      exact ⟨ret_bool (by rw [HR.out]), Ext.drewN HX.out _⟩
    · rw [h3] at HR; clear h3
      go_enter Try.func31, Try.ntmps31
      go_wp2_with fail
      rw [← hW]
      clear hW
      go_quiet (fail)
      go_wp2_with fail
      go_quiet (fail)
      go_wp2_with fail
      go_ret
      exact ⟨ret_bool (by rw [HR.out]), Ext.drewN HX.out _⟩
    · rw [h4] at HR; clear h4
      go_enter Try.func31, Try.ntmps31
      go_wp2_with fail
      rw [← hW]
      clear hW
      go_quiet (fail)
      go_wp2_with fail
      go_quiet (fail)
      go_wp2_with fail
      go_ret
      exact ⟨ret_bool (by rw [HR.out]), Ext.drewN HX.out _⟩
    · rw [h4] at HR; clear h4
      go_enter Try.func31, Try.ntmps31
      go_wp2_with fail
      rw [← hW]
      clear hW
      go_quiet (fail)
      go_wp2_with fail
      go_quiet (fail)
      go_wp2_with fail
      go_ret
      exact ⟨ret_bool (by rw [HR.out]), Ext.drewN HX.out _⟩

def higherB (prec : List Int) (f g : Int) : Bool := decide (0 ≤ f ∧ 0 ≤ g ∧ f < prec.length ∧ g < prec.length ∧ (prec[g.toNat]?).getD 0 < (prec[f.toNat]?).getD 0)
end Go.Proofs.Ytdmiphdohfcbeaa
