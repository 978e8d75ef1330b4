/- What the reference's Named, Truth, One and At of layer 1 return. No condition but the sizes that a symbol may have. -/
import Derived.Test.YtoidhdcbemmfhaaDoorBase
namespace Go.Proofs.YtoidhdcbemmfhaaDoor
open Go.ChangeShapes Go.WideShapes Go.ChangeAt Go.RowKit

/-- may a byte stand in a name? -/
def letterB (c : UInt8) : Bool := decide ((97 ≤ c.toNat ∧ c.toNat ≤ 122) ∨ (65 ≤ c.toNat ∧ c.toNat ≤ 90) ∨ (48 ≤ c.toNat ∧ c.toNat ≤ 57) ∨ c.toNat = 95)
def lettersB (s : ByteArray) : Bool := s.data.toList.all letterB
def named (s : ByteArray) : Bool := decide (1 ≤ s.size ∧ s.size ≤ 40) && lettersB s
def Sy.eqB (a b : Sy) : Bool := decide (a.name = b.name ∧ a.arity = b.arity ∧ a.pred = b.pred)
def truthName : ByteArray := ⟨#[36, 116, 114, 117, 101]⟩
def Sy.truth : Sy := ⟨truthName, 0, true⟩
def Sy.one (x : Sy) : Int := if named x.name = false then 111 else if x.arity < 0 ∨ 6 < x.arity then 112 else 0
/-- the place of the first symbol that is x; -1 -/
def atSy (x : Sy) : List Sy → Nat → Int
  | [], _ => -1
  | y :: r, k => if y.eqB x then k else atSy x r (k + 1)

theorem all_take (p : UInt8 → Bool) (s : ByteArray) (k : Nat) (h : k < s.size) : (s.data.toList.take (k + 1)).all p = ((s.data.toList.take k).all p && p s[k]) := by
  rw [List.take_succ_eq_append_getElem (by simpa using h), List.all_append]
  simp only [List.all_cons, List.all_nil, Bool.and_true]
  rfl
theorem all_false (p : UInt8 → Bool) (l : List UInt8) (k : Nat) (h : (l.take k).all p = false) : l.all p = false := by
  rw [← List.take_append_drop k l, List.all_append, h]; rfl

/-- '==' between symbols -/
theorem eql_sym (w : World) (n n' : ByteArray) (a a' : Int) (p p' : Bool) :
    (binOp .eql 38 (.agg #[.string n, .int .i64 a, .bool p]) (.agg #[.string n', .int .i64 a', .bool p'])).run Tryd.prog w = .ok (.bool (Sy.eqB ⟨n, a, p⟩ ⟨n', a', p'⟩)) w := by
  rw [run_eql_struct]
  simp only [Sy.eqB]
  go_simp
  have e : (n.toList = n'.toList) = (n = n') := by
    rw [ByteArray.toList_eq, ByteArray.toList_eq]
    refine propext ⟨fun h => ?_, fun h => by rw [h]⟩
    exact ByteArray.ext (Array.ext' h)
  simp only [e]
  by_cases h1 : n = n' <;> by_cases h2 : a = a' <;> by_cases h3 : p = p' <;> simp [h1, h2, h3]

set_option maxHeartbeats 400000 in
theorem refNamed_any (s : ByteArray) (w : World) (hs : s.size ≤ 1048576) :
    Calls Tryd.prog 116 #[.string s] w fun e w' => e = .returned (.bool (named s)) ∧ w = w' := by
  by_cases hsz : 1 ≤ s.size ∧ s.size ≤ 40
  · obtain ⟨h1, h2⟩ := hsz
    go_enter Tryd.func116, Tryd.ntmps116
    go_wp2_with fail
    go_loop [3] (fun i => ∃ k : Nat, k ≤ s.size ∧ i = .int .i64 k ∧ (s.data.toList.take k).all letterB = true) (fun i => s.size - (intOf i).toNat)
    case atStart => exact ⟨0, Nat.zero_le _, rfl, rfl⟩
    case round =>
      obtain ⟨k, hk, rfl, hall⟩ := hrel
      have Hall := Lib.hid hall; clear hall
      by_cases hlt : k < s.size
      · have Hst := Lib.hid (all_take letterB s k hlt)
        go_wp2_with fail
        all_goals (try simp only [Bool.not_eq_eq_eq_not, Bool.not_true, Bool.not_false, beq_eq_false_iff_ne, beq_iff_eq, decide_eq_false_iff_not, decide_eq_true_eq, ne_eq] at *)
        all_goals first
          | (have hf : letterB s[k] = false := by unfold letterB; rw [decide_eq_false_iff_not]; omega
             go_ret
             refine ⟨?_, rfl⟩
             have h1 := Hst.out
             rw [hf, Bool.and_false] at h1
             simp [named, show lettersB s = false from all_false _ _ _ h1]; done)
          | (have hf : letterB s[k] = true := by unfold letterB; rw [decide_eq_true_iff]; omega
             go_round
             case rel => exact ⟨k + 1, by omega, by go_num, by rw [Hst.out, Hall.out, hf]; rfl⟩
             case measure => simp [intOf]; omega)
      · go_wp2_with fail
        have : k = s.size := by omega
        subst this
        go_ret
        have h3 := Hall.out
        rw [List.take_of_length_le (by simp)] at h3
        exact ⟨by simp [named, h1, h2, show lettersB s = true from h3], rfl⟩
  · go_enter Tryd.func116, Tryd.ntmps116
    go_wp2_with fail
    all_goals
      go_ret
      exact ⟨by simp [named, hsz], rfl⟩

set_option maxHeartbeats 400000 in
theorem refOne_any (x : Sy) (hx : x.ok) (w : World) :
    Calls Tryd.prog 101 #[.agg #[.string x.name, .int .i64 x.arity, .bool x.pred]] w fun e w' => e = .returned (.int .i64 x.one) ∧ Ext w w' := by
  obtain ⟨n, a, p⟩ := x
  obtain ⟨h1, h2, h3⟩ := hx
  simp only at h1 h2 h3
  go_enter Tryd.func101, Tryd.ntmps101
  go_wp2_with ((with_reducible refine (refNamed_any _ _ h1).mono ?_); rintro e w' ⟨rfl, rfl⟩)
  all_goals
    go_ret
    refine ⟨?_, by go_grown⟩
    first
      | (have h : (!named n) = true := by assumption
         have h : named n = false := by simpa using h
         simp [Sy.one, h]; done)
      | (have h : (!named n) = false := by assumption
         have h : named n = true := by simpa using h
         simp [Sy.one, h]; omega)

set_option maxHeartbeats 400000 in
theorem refTruth_any (w : World) :
    Calls Tryd.prog 100 #[] w fun e w' => e = .returned (.agg #[.string truthName, .int .i64 0, .bool true]) ∧ Ext w w' := by
  go_enter Tryd.func100, Tryd.ntmps100
  go_wp2_with fail
  go_returns
  exact ⟨rfl, by go_grown⟩
end Go.Proofs.YtoidhdcbemmfhaaDoor
