/- Names in quotes; where quoted tokens, remarks end: token.Quote, quoted, remark; the reference's Name, Quote, word, quoted, remark. Condition: a text of at most 2^30 bytes. -/
import Derived.Test.YtnclgkdpafhogaaQi0
import Derived.Test.YtnclgkdpafhogaaQi3
import Derived.Test.YtnclgkdpafhogaaQi11
namespace Go.Proofs.Ytnclgkdpafhogaa
open Go.ChangeShapes Go.WideShapes Go.ChangeAt Go.RowKit
theorem named_pos {s : ByteArray} (h : named s = true) : 1 ≤ s.size ∧ s.size ≤ 40 := by
  unfold named at h
  rw [Bool.and_eq_true] at h
  exact of_decide_eq_true h.1

/-- where a quoted token ends that begins at a place; the place itself: none does -/
def quotedEnd (s : ByteArray) (k : Nat) : Nat := if runTo innerB s (k + 1) = k + 1 ∨ byt s (runTo innerB s (k + 1)) ≠ 39 then k else runTo innerB s (k + 1) + 1
set_option maxHeartbeats 1000000 in
theorem tokQuoted_any (s : ByteArray) (hs : s.size ≤ 1073741824) (k : Nat) (hk : k < s.size) (w : World) :
    Calls Try.prog 107 #[.string s, .int .i64 k] w fun e w' => e = .returned (.int .i64 (quotedEnd s k : Nat)) ∧ w = w' := by
  have H := Lib.hid (fun w => whileInner_any s hs (k + 1) (by omega) w)
  have h1 := runTo_ge innerB s (k + 1)
  have h2 : runTo innerB s (k + 1) ≤ s.size := runTo_le (by omega)
  unfold quotedEnd
  generalize runTo innerB s (k + 1) = r at H h1 h2
  have hw : IntKind.i64.wrap ((k : Int) + 1) = (k : Int) + 1 := IntWalk.i64_in _ (by omega)
  have hke : ((k + 1 : Nat) : Int) = (k : Int) + 1 := by omega
  rw [hke] at H
  clear hke
  by_cases c1 : r = k + 1
  · subst c1
    rw [if_pos (.inl rfl)]
    have d1 : (((k + 1 : Nat) : Int) == (k : Int) + 1) = true := by rw [beq_iff_eq]; omega
    go_enter Try.func107, Try.ntmps107
    go_wp2_with (refine (H.out _).mono ?_; rintro e w' ⟨rfl, rfl⟩)
    go_ret
    exact ⟨rfl, rfl⟩
  · have d1 : ((r : Int) == (k : Int) + 1) = false := by rw [beq_eq_false_iff_ne]; omega
    by_cases c2 : r = s.size
    · rw [if_pos (.inr (by rw [byt_none (by omega)]; omega))]
      have d2 : ((r : Int) == (s.size : Nat)) = true := by rw [beq_iff_eq]; omega
      clear c2
      go_enter Try.func107, Try.ntmps107
      go_wp2_with (refine (H.out _).mono ?_; rintro e w' ⟨rfl, rfl⟩)
      go_ret
      exact ⟨rfl, rfl⟩
    · have hr : r < s.size := by omega
      have d2 : ((r : Int) == (s.size : Nat)) = false := by rw [beq_eq_false_iff_ne]; omega
      rw [byt_of hr]
      have hr' : (r : Int) < (s.size : Nat) := by omega
      by_cases c3 : ((s[r].toNat : Nat) : Int) = 39
      · rw [if_neg (by rintro (h | h); exact c1 h; exact h c3)]
        have d3 : ((s[r].toNat : Int) != 39) = false := by rw [bne_eq_false_iff_eq]; exact c3
        clear c1 c2 c3
        go_enter Try.func107, Try.ntmps107
        go_wp2_with (refine (H.out _).mono ?_; rintro e w' ⟨rfl, rfl⟩)
        go_ret
        exact ⟨ret_int (by omega), rfl⟩
      · rw [if_pos (.inr c3)]
        have d3 : ((s[r].toNat : Int) != 39) = true := by rw [bne_iff_ne]; exact c3
        clear c1 c2 c3
        go_enter Try.func107, Try.ntmps107
        go_wp2_with (refine (H.out _).mono ?_; rintro e w' ⟨rfl, rfl⟩)
        go_ret
        exact ⟨rfl, rfl⟩
end Go.Proofs.Ytnclgkdpafhogaa
