/- Names in quotes; where quoted tokens, remarks end: token.Quote, quoted, remark; the reference's Name, Quote, word, quoted, remark. Condition: a text of at most 2^30 bytes.
The reference's Named, Name, Quote. Condition: a text of at most 2^30 bytes. -/
import Derived.Test.YtnclgkdpafhogaaGreatQa0
import Derived.Test.YtnclgkdpafhogaaGreatQa3
import Derived.Test.YtnclgkdpafhogaaGreatQa12
namespace Go.Proofs.YtnclgkdpafhogaaGreat
open Go.ChangeShapes Go.WideShapes Go.ChangeAt Go.RowKit
theorem named_pos {s : ByteArray} (h : named s = true) : 1 ≤ s.size ∧ s.size ≤ 40 := by
  unfold named at h
  rw [Bool.and_eq_true] at h
  exact of_decide_eq_true h.1

/-- where a quoted token ends that begins at a place; the place itself: none does -/
def quotedEnd (s : ByteArray) (k : Nat) : Nat := if runTo innerB s (k + 1) = k + 1 ∨ byt s (runTo innerB s (k + 1)) ≠ 39 then k else runTo innerB s (k + 1) + 1
set_option maxHeartbeats 1000000 in
theorem tokQuoted_any (s : ByteArray) (hs : s.size ≤ 1073741824) (k : Nat) (hk : k < s.size) (w : World) :
    Calls Tryz.prog 190 #[.string s, .int .i64 k] w fun e w' => e = .returned (.int .i64 (quotedEnd s k : Nat)) ∧ w = w' := by
  have H := Lib.hid (fun w => whileInner_any s hs (k + 1) (by omega) w)
  have h1 := runTo_ge innerB s (k + 1)
  have h2 : runTo innerB s (k + 1) ≤ s.size := runTo_le (by omega)
  unfold quotedEnd
  generalize runTo innerB s (k + 1) = r at H h1 h2
  have hw : IntKind.i64.wrap ((k : Int) + 1) = (k : Int) + 1 := IntWalk.i64_in _ (by omega)
  have hke : ((k + 1 : Nat) : Int) = (k : Int) + 1 := by omega
  rw [hke] at H
  clear hke
  by_cases c1 : r = k + 1
  · subst c1
    rw [if_pos (.inl rfl)]
    have d1 : (((k + 1 : Nat) : Int) == (k : Int) + 1) = true := by rw [beq_iff_eq]; omega
    go_enter Tryz.func190, Tryz.ntmps190
    go_wp2_with (refine (H.out _).mono ?_; rintro e w' ⟨rfl, rfl⟩)
    go_ret
    exact ⟨rfl, rfl⟩
  · have d1 : ((r : Int) == (k : Int) + 1) = false := by rw [beq_eq_false_iff_ne]; omega
    by_cases c2 : r = s.size
    · rw [if_pos (.inr (by rw [byt_none (by omega)]; omega))]
      have d2 : ((r : Int) == (s.size : Nat)) = true := by rw [beq_iff_eq]; omega
      clear c2
      go_enter Tryz.func190, Tryz.ntmps190
      go_wp2_with (refine (H.out _).mono ?_; rintro e w' ⟨rfl, rfl⟩)
      go_ret
      exact ⟨rfl, rfl⟩
    · have hr : r < s.size := by omega
      have d2 : ((r : Int) == (s.size : Nat)) = false := by rw [beq_eq_false_iff_ne]; omega
      rw [byt_of hr]
      have hr' : (r : Int) < (s.size : Nat) := by omega
      by_cases c3 : ((s[r].toNat : Nat) : Int) = 39
      · rw [if_neg (by rintro (h | h); exact c1 h; exact h c3)]
        have d3 : ((s[r].toNat : Int) != 39) = false := by rw [bne_eq_false_iff_eq]; exact c3
        clear c1 c2 c3
        go_enter Tryz.func190, Tryz.ntmps190
        go_wp2_with (refine (H.out _).mono ?_; rintro e w' ⟨rfl, rfl⟩)
        go_ret
        exact ⟨ret_int (by omega), rfl⟩
      · rw [if_pos (.inr c3)]
        have d3 : ((s[r].toNat : Int) != 39) = true := by rw [bne_iff_ne]; exact c3
        clear c1 c2 c3
        go_enter Tryz.func190, Tryz.ntmps190
        go_wp2_with (refine (H.out _).mono ?_; rintro e w' ⟨rfl, rfl⟩)
        go_ret
        exact ⟨rfl, rfl⟩
end Go.Proofs.YtnclgkdpafhogaaGreat
namespace Go.Proofs.YtnclgkdpafhogaaGreat
open Go.ChangeShapes Go.WideShapes Go.ChangeAt Go.RowKit
set_option maxHeartbeats 400000 in
theorem refNamedB_any (s : ByteArray) (w : World) (hs : s.size ≤ 1073741824) :
    Calls Tryz.prog 125 #[.string s] w fun e w' => e = .returned (.bool (named s)) ∧ w = w' := by
  by_cases hsz : 1 ≤ s.size ∧ s.size ≤ 40
  · obtain ⟨h1, h2⟩ := hsz
    go_enter Tryz.func125, Tryz.ntmps125
    go_wp2_with fail
    go_loop [3] (fun i => ∃ k : Nat, k ≤ s.size ∧ i = .int .i64 k ∧ (s.data.toList.take k).all letterB = true) (fun i => s.size - (intOf i).toNat)
    case atStart => exact ⟨0, Nat.zero_le _, rfl, rfl⟩
    case round =>
      obtain ⟨k, hk, rfl, hall⟩ := hrel
      have Hall := Lib.hid hall; clear hall
      by_cases hlt : k < s.size
      · have Hst := Lib.hid (all_take letterB s k hlt)
        go_wp2_with fail
        all_goals (try simp only [Bool.not_eq_eq_eq_not, Bool.not_true, Bool.not_false, beq_eq_false_iff_ne, beq_iff_eq, decide_eq_false_iff_not, decide_eq_true_eq, ne_eq] at *)
        all_goals first
          | (have hf : letterB s[k] = false := by unfold letterB; rw [decide_eq_false_iff_not]; omega
             go_ret
             refine ⟨?_, rfl⟩
             have h1 := Hst.out
             rw [hf, Bool.and_false] at h1
             simp [named, show lettersB s = false from all_false _ _ _ h1]; done)
          | (have hf : letterB s[k] = true := by unfold letterB; rw [decide_eq_true_iff]; omega
             go_round
             case rel => exact ⟨k + 1, by omega, by go_num, by rw [Hst.out, Hall.out, hf]; rfl⟩
             case measure => simp [intOf]; omega)
      · go_wp2_with fail
        have : k = s.size := by omega
        subst this
        go_ret
        have h3 := Hall.out
        rw [List.take_of_length_le (by simp)] at h3
        exact ⟨by simp [named, h1, h2, show lettersB s = true from h3], rfl⟩
  · go_enter Tryz.func125, Tryz.ntmps125
    go_wp2_with fail
    all_goals
      go_ret
      exact ⟨by simp [named, hsz], rfl⟩

set_option maxHeartbeats 400000 in
theorem refNameB_any (s : ByteArray) (hs : s.size ≤ 1073741824) (w : World) :
    Calls Tryz.prog 72 #[.string s] w fun e w' => e = .returned (.bool (named s)) ∧ w = w' := by
  go_enter Tryz.func72, Tryz.ntmps72
  go_wp2_with (refine (refNamedB_any s _ hs).mono ?_; rintro e w' ⟨rfl, rfl⟩)
  go_ret
  exact ⟨rfl, rfl⟩

end Go.Proofs.YtnclgkdpafhogaaGreat
