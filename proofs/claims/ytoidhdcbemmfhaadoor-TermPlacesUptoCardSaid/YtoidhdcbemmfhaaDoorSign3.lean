/- What the program's sign.Check returns, for every signature that lies in memory: the first fault, or 0. -/
import Derived.Test.YtoidhdcbemmfhaaDoorSign2
import Derived.Maps.Own
import Derived.Maps.OwnOps
import Derived.Maps.OwnSet
import Derived.Maps.Views
namespace Go.Proofs.YtoidhdcbemmfhaaDoor
open Go.ChangeShapes Go.WideShapes Go.ChangeAt Go.RowKit Go.Maps

theorem symKeyed : Keyed Tryd.prog 38 := Keyed.of_law (deep_law_laid (by kernel_rfl) (m := 3) (by omega) (of_decide_eq_true (by kernel_rfl)) (by kernel_rfl) (by kernel_rfl))

theorem keyType38 : (Tryd.prog).keyType 38 = true := by kernel_rfl
theorem key_some (x : Sy) (hx : x.ok) : ∃ l, keyOf Tryd.prog 38 (.agg #[.string x.name, .int .i64 x.arity, .bool x.pred]) = some l := by
  obtain ⟨n, a, p⟩ := x
  obtain ⟨h1, h2, h3⟩ := hx
  simp only at h1 h2 h3
  have hw : (Lit.int .i64 a).wf = true := by exact WalkArith.wf_i64 (by omega)
  have hn : n.size ≤ maxLen := by unfold maxLen; omega
  obtain ⟨d, hd⟩ : ∃ d, (Tryd.prog).types.size + 1 = d + 2 := ⟨(Tryd.prog).types.size - 1, by have : 1 ≤ (Tryd.prog).types.size := of_decide_eq_true (by kernel_rfl); omega⟩
  have hc : (Tryd.prog).cellsOf 38 = 3 := by kernel_rfl
  have hc1 : (Tryd.prog).cellsOf 9 = 1 := by kernel_rfl
  have hc2 : (Tryd.prog).cellsOf 3 = 1 := by kernel_rfl
  have hc3 : (Tryd.prog).cellsOf 4 = 1 := by kernel_rfl
  simp only [keyOf, Tryd.underlying38, keyType38, Bool.true_and, hd, Value.formed, hc, Value.cells]
  simp [Program.keyLits, Tryd.underlying38, Tryd.underlying9, Tryd.underlying3, Tryd.underlying4, hc, hc1, hc2, hc3, hw, hn]

noncomputable def klit (x : Sy) : Lit := (keyOf Tryd.prog 38 (.agg #[.string x.name, .int .i64 x.arity, .bool x.pred])).getD (.bool true)
theorem klit_eq {x : Sy} (hx : x.ok) : keyOf Tryd.prog 38 (.agg #[.string x.name, .int .i64 x.arity, .bool x.pred]) = some (klit x) := by
  obtain ⟨l, hl⟩ := key_some x hx
  unfold klit; rw [hl]; rfl
theorem klit_inj {x y : Sy} (hx : x.ok) (hy : y.ok) (h : klit x = klit y) : x.eqB y = true := by
  have := symKeyed.inj (klit_eq hx) (by rw [h]; exact klit_eq hy)
  simp only [Value.agg.injEq, Array.mk.injEq, List.cons.injEq, Value.string.injEq, Value.int.injEq, Value.bool.injEq, true_and, and_true] at this
  simp [Sy.eqB, this]
theorem eqB_eq {x y : Sy} (h : x.eqB y = true) : x = y := by
  obtain ⟨a, b, c⟩ := x
  obtain ⟨a', b', c'⟩ := y
  simp only [Sy.eqB, decide_eq_true_eq] at h
  obtain ⟨rfl, rfl, rfl⟩ := h
  rfl
theorem eqB_self (x : Sy) : x.eqB x = true := by simp [Sy.eqB]

set_option maxHeartbeats 400000 in
theorem letter_any (c : UInt8) (w : World) :
    Calls Tryd.prog 145 #[.int .u8 c.toNat] w fun e w' => e = .returned (.bool (letterB c)) ∧ w = w' := by
  have hc : c.toNat < 256 := c.toNat_lt
  go_enter Tryd.func145, Tryd.ntmps145
  go_wp2_with fail
  all_goals
    go_ret
    refine ⟨ret_bool ?_, rfl⟩
    unfold letterB
    rw [Bool.eq_iff_iff]
    simp
    omega

set_option maxHeartbeats 400000 in
theorem every_any (s : ByteArray) (w : World) (hs : s.size ≤ 1048576) :
    Calls Tryd.prog 144 #[.string s, .func (.func 145) #[] #[]] w fun e w' => e = .returned (.bool (lettersB s)) ∧ w = w' := by
  go_enter Tryd.func144, Tryd.ntmps144
  go_wp2_with fail
  go_loop [8] (fun i => ∃ k : Nat, k ≤ s.size ∧ i = .int .i64 k ∧ (s.data.toList.take k).all letterB = true) (fun i => s.size - (intOf i).toNat)
  case atStart => exact ⟨0, Nat.zero_le _, rfl, rfl⟩
  case round =>
    obtain ⟨k, hk, rfl, hall⟩ := hrel
    have Hall := Lib.hid hall; clear hall
    by_cases hlt : k < s.size
    · have Hst := Lib.hid (all_take letterB s k hlt)
      cases hl : letterB s[k] with
      | false =>
        go_wp2_with ((with_reducible refine (letter_any _ _).mono ?_); rintro e w' ⟨rfl, rfl⟩)
        go_ret
        have h1 := Hst.out
        rw [hl, Bool.and_false] at h1
        exact ⟨ret_bool (all_false _ _ _ h1).symm, rfl⟩
      | true =>
        go_wp2_with ((with_reducible refine (letter_any _ _).mono ?_); rintro e w' ⟨rfl, rfl⟩)
        go_round
        case rel => exact ⟨k + 1, by omega, by go_num, by rw [Hst.out, Hall.out, hl]; rfl⟩
        case measure => simp [intOf]; omega
    · go_wp2_with fail
      have : k = s.size := by omega
      subst this
      go_ret
      have h3 := Hall.out
      rw [List.take_of_length_le (by simp)] at h3
      exact ⟨ret_bool h3.symm, rfl⟩

set_option maxHeartbeats 400000 in
theorem named_any (s : ByteArray) (w : World) (hs : s.size ≤ 1048576) :
    Calls Tryd.prog 115 #[.string s] w fun e w' => e = .returned (.bool (named s)) ∧ w = w' := by
  go_enter Tryd.func115, Tryd.ntmps115
  go_wp2_with ((with_reducible refine (every_any _ _ hs).mono ?_); rintro e w' ⟨rfl, rfl⟩)
  all_goals
    go_ret
    refine ⟨ret_bool ?_, rfl⟩
    unfold named
  · have h : s.toList = [] := by assumption
    have : s.size = 0 := by rw [ByteArray.toList_eq] at h; have := congrArg List.length h; simpa using this
    simp [this]
  · have h : ¬ s.toList = [] := by assumption
    have h0 : s.size ≠ 0 := fun h0 => h (by rw [ByteArray.toList_eq]; exact List.eq_nil_of_length_eq_zero (by simpa using h0))
    have h40 : (s.size : Int) ≤ 40 := by assumption
    have : 1 ≤ s.size ∧ s.size ≤ 40 := by omega
    simp [this, h]
  · have h40 : (40 : Int) < s.size := by assumption
    have : ¬ (1 ≤ s.size ∧ s.size ≤ 40) := by omega
    simp [this]

set_option maxHeartbeats 400000 in
theorem one_any (x : Sy) (hx : x.ok) (w : World) :
    Calls Tryd.prog 98 #[.agg #[.string x.name, .int .i64 x.arity, .bool x.pred]] w fun e w' => e = .returned (.int .i64 x.one) ∧ Ext w w' := by
  obtain ⟨n, a, p⟩ := x
  obtain ⟨h1, h2, h3⟩ := hx
  simp only at h1 h2 h3
  go_enter Tryd.func98, Tryd.ntmps98
  go_wp2_with ((with_reducible refine (named_any _ _ h1).mono ?_); rintro e w' ⟨rfl, rfl⟩)
  all_goals
    go_ret
    refine ⟨?_, by go_grown⟩
    first
      | (have h : (!named n) = true := by assumption
         have h : named n = false := by simpa using h
         simp [Sy.one, h]; done)
      | (have h : (!named n) = false := by assumption
         have h : named n = true := by simpa using h
         simp [Sy.one, h]; omega)

set_option maxHeartbeats 400000 in
theorem truth_any (w : World) :
    Calls Tryd.prog 97 #[] w fun e w' => e = .returned (.agg #[.string truthName, .int .i64 0, .bool true]) ∧ Ext w w' := by
  go_enter Tryd.func97, Tryd.ntmps97
  go_wp2_with fail
  go_returns
  exact ⟨rfl, by go_grown⟩
end Go.Proofs.YtoidhdcbemmfhaaDoor
