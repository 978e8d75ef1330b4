/- highest: is a number the greatest of a row? No condition but that lengths fit.
Plain: which orders may be, as the program looks at it. No condition but those said. -/
import Derived.Test.YtdmiphdohfcbeaaPrecO
import Derived.Test.YtdmiphdohfcbeaaPrecR1
import Derived.Test.YtdmiphdohfcbeaaShelf
namespace Go.Proofs.Ytdmiphdohfcbeaa
open Go.ChangeShapes Go.WideShapes Go.ChangeAt Go.RowKit

theorem foldl_max (zs : List Int) : ∀ (x y : Int), zs.foldl max x ≤ y ↔ x ≤ y ∧ ∀ z ∈ zs, z ≤ y := by
  induction zs with
  | nil => intro x y; simp
  | cons z zs ih =>
    intro x y
    rw [List.foldl_cons, ih]
    simp only [List.mem_cons, forall_eq_or_imp]
    constructor
    · rintro ⟨h1, h2⟩; exact ⟨by omega, by omega, h2⟩
    · rintro ⟨h1, h2, h3⟩; exact ⟨by omega, h3⟩
theorem maxOf_le {zs : List Int} (h : 0 < zs.length) (y : Int) : Lib.maxOf zs ≤ y ↔ ∀ z ∈ zs, z ≤ y := by
  unfold Lib.maxOf
  rw [foldl_max]
  cases zs with
  | nil => simp at h
  | cons z zs => simp
theorem maxOf_high {l : List Int} {i : Nat} (hi : i < l.length) : (Lib.maxOf l == l[i]) = highB l i := by
  have h0 : 0 < l.length := by omega
  have h1 := (maxOf_le h0 (Lib.maxOf l)).1 (Int.le_refl _) _ (List.getElem_mem hi)
  rw [Bool.eq_iff_iff, beq_iff_eq, highB_iff hi]
  constructor
  · intro h k hk
    exact (maxOf_le h0 l[i]).1 (by omega) _ (List.getElem_mem hk)
  · intro h
    have := (maxOf_le h0 l[i]).2 (fun z hz => by obtain ⟨k, hk, rfl⟩ := List.getElem_of_mem hz; exact h k hk)
    omega

set_option maxHeartbeats 1000000 in
set_option maxRecDepth 100000 in
theorem high_any (l : List Int) (i : Nat) (hi : i < l.length) (hl : l.length ≤ 1048576) (w : World) (a : Option Addr) (c : Nat) (h : IsInts w a l) :
    Calls Try.prog 24 #[.slice a l.length c, .int .i64 i] w fun e w' => e = .returned (.bool (highB l i)) ∧ Ext w w' := by
  obtain ⟨b, o, rfl, m2⟩ := h.look hi
  have hcells : ∀ j, j < l.length → w.cell? ⟨b, o + j, none⟩ = some (.int .i64 (l.getD j 0)) := fun j hj => by
    obtain ⟨b', o', e, m⟩ := h.look hj
    injection e with e
    injection e with e1 e2 e3
    subst e1; subst e2
    rw [m, List.getD, List.getElem?_eq_getElem hj]; rfl
  have hm := fun n => Try.slices_Max_int b o l.length c l (w.drewN n) (by omega) (Nat.le_refl _) (by omega) (fun j hj => hcells j hj)
  change ∀ n, Calls Try.prog 41 _ _ _ at hm
  have hmh := maxOf_high hi
  rw [List.take_length] at hm
  have hi1 : (i : Int) < l.length := by omega
  have HM := Lib.hid hm
  clear hm hcells
  cases hb : (Lib.maxOf l == l[i]) with
  | true =>
    rw [hb] at hmh
    rw [← hmh]
    clear hmh
    generalize Lib.maxOf l = mx at HM hb
    generalize l[i] = x at m2 hb
    go_enter Try.func24, Try.ntmps24
    go_wp2_with fail
    go_quiet ((go_at_call 41; exact Calls.quiet_of_same (HM.out _)))
    go_wp2_with fail
    go_ret
    exact ⟨rfl, Ext.drewN (Below.refl _ _) _⟩
  | false =>
    rw [hb] at hmh
    rw [← hmh]
    clear hmh
    generalize Lib.maxOf l = mx at HM hb
    generalize l[i] = x at m2 hb
    go_enter Try.func24, Try.ntmps24
    go_wp2_with fail
    go_quiet ((go_at_call 41; exact Calls.quiet_of_same (HM.out _)))
    go_wp2_with fail
    go_ret
    exact ⟨rfl, Ext.drewN (Below.refl _ _) _⟩
end Go.Proofs.Ytdmiphdohfcbeaa
namespace Go.Proofs.Ytdmiphdohfcbeaa

theorem foldl_min (zs : List Int) : ∀ (x y : Int), y ≤ zs.foldl min x ↔ y ≤ x ∧ ∀ z ∈ zs, y ≤ z := by
  induction zs with
  | nil => intro x y; simp
  | cons z zs ih =>
    intro x y
    rw [List.foldl_cons, ih]
    simp only [List.mem_cons, forall_eq_or_imp]
    constructor
    · rintro ⟨h1, h2⟩; exact ⟨by omega, by omega, h2⟩
    · rintro ⟨h1, h2, h3⟩; exact ⟨by omega, h3⟩
theorem le_minOf {zs : List Int} (h : 0 < zs.length) (y : Int) : y ≤ Lib.minOf zs ↔ ∀ z ∈ zs, y ≤ z := by
  unfold Lib.minOf
  rw [foldl_min]
  cases zs with
  | nil => simp at h
  | cons z zs => simp
theorem minOf_first {l : List Int} (h : 0 < l.length) : (Lib.minOf l = l[0]) ↔ ∀ x ∈ l, l[0] ≤ x := by
  have h1 := (le_minOf h (Lib.minOf l)).1 (Int.le_refl _) _ (List.getElem_mem h)
  constructor
  · intro e x hx
    have := (le_minOf h l[0]).1 (by omega) x hx
    exact this
  · intro e
    have := (le_minOf h l[0]).2 e
    omega
theorem ranks_nodup {l : List Int} {n : Nat} (h : ¬ l.Nodup) : ranksB l n = false := by
  unfold ranksB; exact decide_eq_false (fun h' => h h'.2.1)
theorem ranks_first {l : List Int} (h0 : 0 < l.length) (h : l.Nodup) : ranksB l l.length = decide (Lib.minOf l = l[0]) := by
  unfold ranksB
  rw [Bool.eq_iff_iff, decide_eq_true_iff, decide_eq_true_iff, minOf_first h0]
  cases l with
  | nil => simp at h0
  | cons y r =>
    rw [List.nodup_cons] at h
    simp only [List.drop_succ_cons, List.drop_zero, List.head?_cons, Option.mem_some_iff, List.getElem_cons_zero, List.mem_cons, forall_eq_or_imp]
    constructor
    · rintro ⟨-, -, h3⟩
      exact ⟨Int.le_refl _, fun x hx => by have := h3 x hx y rfl; omega⟩
    · rintro ⟨-, h3⟩
      refine ⟨trivial, List.nodup_cons.2 h, fun x hx z hz => ?_⟩
      subst hz
      have h4 := h3 x hx
      have h5 : x ≠ y := fun e => h.1 (e ▸ hx)
      omega
/-- the weights are looked at one by one -/
theorem weights_all {l : List Sy} {prec wts : List Int} {var : Int} (h : ∀ j, j < l.length → weightB l prec wts var j = true) : (List.range l.length).all (weightB l prec wts var) = true := by
  rw [List.all_eq_true]; intro j hj; exact h j (List.mem_range.1 hj)
theorem weights_not {l : List Sy} {prec wts : List Int} {var : Int} {j : Nat} (hj : j < l.length) (h : weightB l prec wts var j = false) : (List.range l.length).all (weightB l prec wts var) = false := by
  rw [Bool.eq_false_iff]
  intro h'
  have := List.all_eq_true.1 h' j (List.mem_range.2 hj)
  rw [h] at this; cases this
theorem weight_at {l : List Sy} {prec wts : List Int} {var : Int} {i : Nat} (h1 : i < l.length) (h2 : i < wts.length) : weightB l prec wts var i = (decide (0 ≤ wts[i] ∧ wts[i] ≤ 1000 ∧ (l[i].arity = 0 → var ≤ wts[i])) && (!decide (l[i].arity = 1 ∧ wts[i] = 0) || highB prec i)) := by
  unfold weightB
  simp only [List.getElem?_eq_getElem h1, List.getElem?_eq_getElem h2, Option.map_some, Option.getD_some]
theorem ordCheck_sig {l : List Sy} {lpo : Bool} {prec wts : List Int} {var : Int} (h : sigCheck l ≠ 0) : ordCheck l lpo prec wts var = 2 := by
  unfold ordCheck; rw [if_pos h]
theorem ordCheck_ranks {l : List Sy} {lpo : Bool} {prec wts : List Int} {var : Int} (h : ranksB prec l.length = false) : ordCheck l lpo prec wts var = 2 := by
  unfold ordCheck
  by_cases h1 : sigCheck l ≠ 0
  · rw [if_pos h1]
  · rw [if_neg h1, if_pos h]
theorem ordCheck_len {l : List Sy} {lpo : Bool} {prec wts : List Int} {var : Int} (h : prec.length ≠ l.length) : ordCheck l lpo prec wts var = 2 :=
  ordCheck_ranks (by unfold ranksB; exact decide_eq_false (fun h' => h h'.1))
theorem ordCheck_lpo {l : List Sy} {prec wts : List Int} {var : Int} (h1 : sigCheck l = 0) (h2 : ranksB prec l.length = true) : ordCheck l true prec wts var = 0 := by
  unfold ordCheck; rw [if_neg (by simp [h1]), if_neg (by simp [h2]), if_pos rfl]
theorem ordCheck_head {l : List Sy} {prec wts : List Int} {var : Int} (h1 : sigCheck l = 0) (h2 : ranksB prec l.length = true) (h : wts.length ≠ l.length ∨ var < 1 ∨ 1000 < var ∨ (wts[0]?).getD 0 ≠ var) : ordCheck l false prec wts var = 2 := by
  unfold ordCheck; rw [if_neg (by simp [h1]), if_neg (by simp [h2]), if_neg (by simp), if_pos h]
theorem ordCheck_rest {l : List Sy} {prec wts : List Int} {var : Int} (h1 : sigCheck l = 0) (h2 : ranksB prec l.length = true) (h : ¬ (wts.length ≠ l.length ∨ var < 1 ∨ 1000 < var ∨ (wts[0]?).getD 0 ≠ var)) : ordCheck l false prec wts var = if (List.range l.length).all (weightB l prec wts var) = true then 0 else 2 := by
  unfold ordCheck; rw [if_neg (by simp [h1]), if_neg (by simp [h2]), if_neg (by simp), if_neg h]
end Go.Proofs.Ytdmiphdohfcbeaa
