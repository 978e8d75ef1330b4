/- Where quoted tokens, remarks end: the reference's quoted, remark, token.remark. Condition: a text of at most 2^30 bytes; for token.remark the library's variable holds a number.
How long a sign is: token.sign. Condition: a text of at most 2^30 bytes.
How long a sign is: the reference's Sign. Condition: a text of at most 2^30 bytes.
The token at a place: token.one, the reference's one. Condition: a text of at most 2^30 bytes.
Plain: how a text is cut into tokens, step by step. No condition.
The reference's Tokens. Condition: a text of at most 1048576 bytes.
The reference's Cut. Condition: a text of at most 1048576 bytes.
Plain: a reading leaves the last token, if it is an end; a text read as a formula. No condition.
formula.counts, Upper, mayExpr. Condition: at most 4194304 parts.
The reference's table, counted, exprMay, varsMay, narrow. Condition: at most 4194304 parts.
The reference's narrow, May, Check. Condition: at most 4194304 parts.
The reference's May, Check. Condition: at most 4194304 parts. -/
import Derived.Test.YtnclgkdpafhogaaQi12
import Derived.Deep.Light
import Derived.Test.YtnclgkdpafhogaaQi0
import Derived.Test.YtnclgkdpafhogaaQi3
import Derived.Test.YtnclgkdpafhogaaQi1
namespace Go.Proofs.Ytnclgkdpafhogaa
open Go.ChangeShapes Go.WideShapes Go.ChangeAt Go.RowKit
/-! ### remarks -/
def lineB (c : UInt8) : Bool := decide (c.toNat ≠ 10)
/-- where, from a place on, the bytes 42, 47 end first -/
def closeAt (s : ByteArray) (i : Nat) : Option Nat := if 0 ≤ Lib.index (s.data.toList.drop i) [42, 47] then some (i + (Lib.index (s.data.toList.drop i) [42, 47]).toNat + 2) else none
/-- where a remark ends that begins at a place; the place itself: none does -/
def remarkEnd (s : ByteArray) (k : Nat) : Nat := if byt s k = 37 then runTo lineB s k else if byt s k = 47 ∧ byt s (k + 1) = 42 then (closeAt s (k + 2)).getD k else k

theorem runTo_line {s : ByteArray} {k : Nat} (hk : k ≤ s.size) : (runTo lineB s k : Nat) = if 0 ≤ Lib.indexByte (s.data.toList.drop k) 10 then (k : Int) + Lib.indexByte (s.data.toList.drop k) 10 else s.size := by
  unfold runTo
  have hl : (s.data.toList.drop k).length = s.size - k := by simp
  generalize s.data.toList.drop k = l at hl
  have hk2 : (s.size : Int) = (k : Int) + l.length := by omega
  rw [hk2]
  clear hk2 hl hk
  suffices h : ((l.takeWhile lineB).length : Int) = if 0 ≤ Lib.indexByte l 10 then Lib.indexByte l 10 else l.length by
    split at h <;> split <;> first | omega | contradiction
  induction l with
  | nil => decide
  | cons c l ih =>
    rw [List.takeWhile_cons]
    unfold Lib.indexByte
    have hg := Lib.indexByte_ge l 10
    cases h : lineB c with
    | false =>
      have : c = 10 := by unfold lineB at h; have := of_decide_eq_false h; exact UInt8.toNat_inj.1 (by simpa using this)
      simp [this]
    | true =>
      have hc : (c == 10) = false := by
        unfold lineB at h
        have := of_decide_eq_true h
        rw [beq_eq_false_iff_ne]; rintro rfl; exact this rfl
      rw [hc]
      simp only [Bool.false_eq_true, if_false, if_true, List.length_cons]
      generalize Lib.indexByte l 10 = n at ih hg
      by_cases hn : n = -1
      · subst hn; simp at ih ⊢; omega
      · have : (n == -1) = false := by rw [beq_eq_false_iff_ne]; exact hn
        rw [this]
        rw [if_pos (by omega)] at ih
        simp only [Bool.false_eq_true, if_false]
        rw [if_pos (by omega)]; omega

theorem drop_cons {s : ByteArray} {k : Nat} (h : k < s.size) : s.data.toList.drop k = s[k] :: s.data.toList.drop (k + 1) := by
  rw [List.drop_eq_getElem_cons (by simpa using h)]; rfl
theorem prefix_two {s : ByteArray} {k : Nat} (a b : UInt8) : Lib.hasPrefix (s.data.toList.drop k) [a, b] = decide (byt s k = a.toNat ∧ byt s (k + 1) = b.toNat) := by
  unfold Lib.hasPrefix
  rcases Nat.lt_or_ge k s.size with h | h
  · rw [drop_cons h, byt_of h]
    rcases Nat.lt_or_ge (k + 1) s.size with h2 | h2
    · rw [drop_cons h2, byt_of h2]
      rw [Bool.eq_iff_iff]
      simp only [List.isPrefixOf, Bool.and_true, Bool.and_eq_true, beq_iff_eq, decide_eq_true_eq]
      constructor
      · rintro ⟨rfl, rfl⟩; exact ⟨rfl, rfl⟩
      · rintro ⟨h3, h4⟩; exact ⟨UInt8.toNat_inj.1 (by omega), UInt8.toNat_inj.1 (by omega)⟩
    · rw [List.drop_eq_nil_of_le (by simpa using h2), byt_none h2]
      simp [List.isPrefixOf]
  · rw [List.drop_eq_nil_of_le (by simpa using h), byt_none h]
    simp [List.isPrefixOf]
theorem drop_drop_to (s : ByteArray) (k : Nat) : ((s.extract k s.size).extract 2 (s.extract k s.size).size).data.toList = s.data.toList.drop (k + 2) := by
  rw [Lib.extract_to_end, Lib.extract_to_end, List.drop_drop]
theorem extract_zero {s : ByteArray} {k : Nat} (hk : k < s.size) (h : 0 < (s.extract k s.size).size) : (s.extract k s.size)[0]'h = s[k] := by
  have h1 : (s.extract k s.size).data.toList[0]'(by simpa using h) = s.data.toList[k]'(by simpa using hk) := by
    have h2 := Lib.extract_to_end s k
    have h3 : (s.data.toList.drop k)[0]'(by simp; omega) = s.data.toList[k]'(by simpa using hk) := by simp
    rw [← h3]
    congr 1
  exact h1
set_option maxRecDepth 100000 in
set_option maxHeartbeats 2000000 in
theorem tokRemark_any (s : ByteArray) (hs : s.size ≤ 1073741824) (k : Nat) (hk : k < s.size) (w : World) (m : Int) (hm : w.cell? ⟨0, 0, none⟩ = some (.int .i64 m)) :
    Calls Try.prog 88 #[.string s, .int .i64 k] w fun e w' => e = .returned (.int .i64 (remarkEnd s k : Nat)) ∧ w = w' := by
  have hk' : (k : Int) < (s.size : Nat) := by omega
  have HI := Lib.hid (show ∀ w, _ from fun w => Try.strings_IndexByte (s.extract k s.size) 10 w)
  rw [Lib.extract_to_end] at HI
  have HP := Lib.hid (show ∀ w, _ from fun w => Try.strings_HasPrefix (s.extract k s.size) ⟨#[47, 42]⟩ w)
  rw [Lib.extract_to_end, show (⟨#[47, 42]⟩ : ByteArray).data.toList = [47, 42] from rfl, prefix_two] at HP
  have hsz : (s.extract k s.size).size = s.size - k := by simp
  have HX := Lib.hid (Try.strings_Index ((s.extract k s.size).extract 2 (s.extract k s.size).size) ⟨#[42, 47]⟩ m w (by simp; omega) hm)
  rw [drop_drop_to, show (⟨#[42, 47]⟩ : ByteArray).data.toList = [42, 47] from rfl, hsz] at HX
  have hx0 := extract_zero hk
  have HR := Lib.hid (show remarkEnd s k = _ from rfl : remarkEnd s k = if byt s k = 37 then runTo lineB s k else if byt s k = 47 ∧ byt s (k + 1) = 42 then (closeAt s (k + 2)).getD k else k)
  generalize remarkEnd s k = q at HR ⊢
  by_cases c1 : byt s k = 37
  · have d1 : ((s[k].toNat : Int) == 37) = true := by rw [beq_iff_eq, ← byt_of hk]; exact c1
    have HQ : Hid ((q : Int) = if 0 ≤ Lib.indexByte (s.data.toList.drop k) 10 then (k : Int) + Lib.indexByte (s.data.toList.drop k) 10 else s.size) := Lib.hid (by
      rw [← runTo_line (by omega), HR.out, if_pos c1])
    have hg := Lib.indexByte_ge (s.data.toList.drop k) 10
    have hle : Lib.indexByte (s.data.toList.drop k) 10 ≤ s.size := by
      have h1 := runTo_line (s := s) (k := k) (by omega)
      have h2 := runTo_le (p := lineB) (s := s) (k := k) (by omega)
      split at h1 <;> omega
    change Hid (∀ w, Calls _ _ _ w fun e w' => e = .returned (.int .i64 (Lib.indexByte (s.data.toList.drop k) 10)) ∧ w' = w) at HI
    generalize Lib.indexByte (s.data.toList.drop k) 10 = n at HI HQ hg hle
    clear c1 HR HP HX
    by_cases c2 : 0 ≤ n
    · have d2 : decide (0 ≤ n) = true := decide_eq_true c2
      go_enter Try.func88, Try.ntmps88
      go_wp2_with (refine (HI.out _).mono ?_; rintro e w' ⟨rfl, rfl⟩)
      go_ret
      exact ⟨ret_int (by rw [HQ.out, if_pos (by omega)]), rfl⟩
    · have d2 : decide (0 ≤ n) = false := decide_eq_false c2
      go_enter Try.func88, Try.ntmps88
      go_wp2_with (refine (HI.out _).mono ?_; rintro e w' ⟨rfl, rfl⟩)
      go_ret
      exact ⟨ret_int (by rw [HQ.out, if_neg (by omega)]), rfl⟩
  · have d1 : ((s[k].toNat : Int) == 37) = false := by rw [beq_eq_false_iff_ne, ← byt_of hk]; exact c1
    by_cases c2 : byt s k = 47 ∧ byt s (k + 1) = 42
    · rw [decide_eq_true (by exact c2)] at HP
      have HQ := Lib.hid (show q = (closeAt s (k + 2)).getD k by rw [HR.out, if_neg c1, if_pos c2])
      unfold closeAt at HQ
      have hs2 : 2 ≤ s.size - k := by
        have := c2.2
        rcases Nat.lt_or_ge (k + 1) s.size with h | h
        · omega
        · rw [byt_none h] at this; omega
      have hs2' : (2 : Int) ≤ ((s.size - k : Nat) : Int) := by omega
      have hg := Lib.index_ge (s.data.toList.drop (k + 2)) [42, 47]
      have hle : Lib.index (s.data.toList.drop (k + 2)) [42, 47] ≤ s.size := by
        have := Lib.index_le (s.data.toList.drop (k + 2)) [42, 47]
        simp at this
        omega
      generalize Lib.index (s.data.toList.drop (k + 2)) [42, 47] = n at HX HQ hg hle
      clear c1 c2 HR HI
      by_cases c3 : 0 ≤ n
      · have d3 : decide (0 ≤ n) = true := decide_eq_true c3
        go_enter Try.func88, Try.ntmps88
        go_wp2_with (first | (go_at_call 103; refine (HP.out _).mono ?_; rintro e w' ⟨rfl, rfl⟩) | (go_at_call 104; refine (HX.out).mono ?_; rintro e w' ⟨rfl, rfl⟩))
        go_ret
        exact ⟨ret_int (by rw [HQ.out, if_pos (by omega), Option.getD_some]; omega), rfl⟩
      · have d3 : decide (0 ≤ n) = false := decide_eq_false c3
        go_enter Try.func88, Try.ntmps88
        go_wp2_with (first | (go_at_call 103; refine (HP.out _).mono ?_; rintro e w' ⟨rfl, rfl⟩) | (go_at_call 104; refine (HX.out).mono ?_; rintro e w' ⟨rfl, rfl⟩))
        go_ret
        exact ⟨ret_int (by rw [HQ.out, if_neg (by omega), Option.getD_none]), rfl⟩
    · rw [decide_eq_false (by exact c2)] at HP
      have HQ := Lib.hid (show q = k by rw [HR.out, if_neg c1, if_neg c2])
      clear c1 c2 HR HI HX
      go_enter Try.func88, Try.ntmps88
      go_wp2_with (go_at_call 103; refine (HP.out _).mono ?_; rintro e w' ⟨rfl, rfl⟩)
      go_ret
      exact ⟨ret_int (by rw [HQ.out]), rfl⟩

theorem closeAt_step {s : ByteArray} {i : Nat} (h : i < s.size) : closeAt s i = if byt s i = 42 ∧ byt s (i + 1) = 47 then some (i + 2) else closeAt s (i + 1) := by
  have hp := prefix_two (s := s) (k := i) 42 47
  unfold Lib.hasPrefix at hp
  unfold closeAt
  rw [drop_cons h] at hp ⊢
  have hg := Lib.index_ge (s.data.toList.drop (i + 1)) [42, 47]
  have e : Lib.index (s[i] :: s.data.toList.drop (i + 1)) [42, 47] = if byt s i = 42 ∧ byt s (i + 1) = 47 then 0 else if Lib.index (s.data.toList.drop (i + 1)) [42, 47] == -1 then -1 else Lib.index (s.data.toList.drop (i + 1)) [42, 47] + 1 := by
    rw [Lib.index, hp]
    by_cases hc : byt s i = 42 ∧ byt s (i + 1) = 47
    · rw [if_pos hc, if_pos (decide_eq_true (by exact hc))]
    · rw [if_neg hc, if_neg (by rw [decide_eq_false (by exact hc)]; decide)]
  rw [e]
  generalize Lib.index (s.data.toList.drop (i + 1)) [42, 47] = n at hg
  by_cases hc : byt s i = 42 ∧ byt s (i + 1) = 47
  · rw [if_pos hc, if_pos hc]; rfl
  · rw [if_neg hc, if_neg hc]
    by_cases hn : n = -1
    · subst hn; rfl
    · have : (n == -1) = false := by rw [beq_eq_false_iff_ne]; exact hn
      rw [this]
      simp only [Bool.false_eq_true, if_false]
      rw [if_pos (by omega), if_pos (by omega)]
      congr 1; omega
theorem closeAt_end {s : ByteArray} {i : Nat} (h : s.size ≤ i + 1) : closeAt s i = none := by
  rcases Nat.lt_or_ge i s.size with h1 | h1
  · rw [closeAt_step h1, if_neg (by rintro ⟨-, h2⟩; rw [byt_none h] at h2; omega)]
    unfold closeAt
    rw [List.drop_eq_nil_of_le (by simpa using h)]; rfl
  · unfold closeAt
    rw [List.drop_eq_nil_of_le (by simpa using h1)]; rfl

end Go.Proofs.Ytnclgkdpafhogaa
namespace Go.Proofs.Ytnclgkdpafhogaa
open Go.ChangeShapes Go.WideShapes Go.ChangeAt Go.RowKit
def signs7 : List (List UInt8) := [[60, 61, 62], [60, 126, 62], [61, 62], [60, 61], [126, 124], [126, 38], [33, 61]]
def signs1 : List UInt8 := [40, 41, 91, 93, 44, 46, 58, 38, 124, 126, 61, 33, 63]
/-- how long a sign is with which bytes go on; 0: none -/
def signLen (l : List UInt8) : Nat :=
  match signs7.find? fun x => x.isPrefixOf l with
  | some x => x.length
  | none => match l with
    | [] => 0
    | c :: _ => if signs1.contains c then 1 else 0

theorem index_sign0 (w : World) : (Instr.index 171 (.agg #[.string ⟨#[60, 61, 62]⟩, .string ⟨#[60, 126, 62]⟩, .string ⟨#[61, 62]⟩, .string ⟨#[60, 61]⟩, .string ⟨#[126, 124]⟩, .string ⟨#[126, 38]⟩, .string ⟨#[33, 61]⟩]) (.int .i64 0)).run Try.prog w = .ok (.string ⟨#[60, 61, 62]⟩) w := by
  have h1 := Try.isAgg9
  have h2 := Try.sizeOf9
  simp [Instr.index, asIntOf, run_underlying (Try.underlying171), part, h1, h2, Result.andThen]
theorem index_sign1 (w : World) : (Instr.index 171 (.agg #[.string ⟨#[60, 61, 62]⟩, .string ⟨#[60, 126, 62]⟩, .string ⟨#[61, 62]⟩, .string ⟨#[60, 61]⟩, .string ⟨#[126, 124]⟩, .string ⟨#[126, 38]⟩, .string ⟨#[33, 61]⟩]) (.int .i64 1)).run Try.prog w = .ok (.string ⟨#[60, 126, 62]⟩) w := by
  have h1 := Try.isAgg9
  have h2 := Try.sizeOf9
  simp [Instr.index, asIntOf, run_underlying (Try.underlying171), part, h1, h2, Result.andThen]
theorem index_sign2 (w : World) : (Instr.index 171 (.agg #[.string ⟨#[60, 61, 62]⟩, .string ⟨#[60, 126, 62]⟩, .string ⟨#[61, 62]⟩, .string ⟨#[60, 61]⟩, .string ⟨#[126, 124]⟩, .string ⟨#[126, 38]⟩, .string ⟨#[33, 61]⟩]) (.int .i64 2)).run Try.prog w = .ok (.string ⟨#[61, 62]⟩) w := by
  have h1 := Try.isAgg9
  have h2 := Try.sizeOf9
  simp [Instr.index, asIntOf, run_underlying (Try.underlying171), part, h1, h2, Result.andThen]
theorem index_sign3 (w : World) : (Instr.index 171 (.agg #[.string ⟨#[60, 61, 62]⟩, .string ⟨#[60, 126, 62]⟩, .string ⟨#[61, 62]⟩, .string ⟨#[60, 61]⟩, .string ⟨#[126, 124]⟩, .string ⟨#[126, 38]⟩, .string ⟨#[33, 61]⟩]) (.int .i64 3)).run Try.prog w = .ok (.string ⟨#[60, 61]⟩) w := by
  have h1 := Try.isAgg9
  have h2 := Try.sizeOf9
  simp [Instr.index, asIntOf, run_underlying (Try.underlying171), part, h1, h2, Result.andThen]
theorem index_sign4 (w : World) : (Instr.index 171 (.agg #[.string ⟨#[60, 61, 62]⟩, .string ⟨#[60, 126, 62]⟩, .string ⟨#[61, 62]⟩, .string ⟨#[60, 61]⟩, .string ⟨#[126, 124]⟩, .string ⟨#[126, 38]⟩, .string ⟨#[33, 61]⟩]) (.int .i64 4)).run Try.prog w = .ok (.string ⟨#[126, 124]⟩) w := by
  have h1 := Try.isAgg9
  have h2 := Try.sizeOf9
  simp [Instr.index, asIntOf, run_underlying (Try.underlying171), part, h1, h2, Result.andThen]
theorem index_sign5 (w : World) : (Instr.index 171 (.agg #[.string ⟨#[60, 61, 62]⟩, .string ⟨#[60, 126, 62]⟩, .string ⟨#[61, 62]⟩, .string ⟨#[60, 61]⟩, .string ⟨#[126, 124]⟩, .string ⟨#[126, 38]⟩, .string ⟨#[33, 61]⟩]) (.int .i64 5)).run Try.prog w = .ok (.string ⟨#[126, 38]⟩) w := by
  have h1 := Try.isAgg9
  have h2 := Try.sizeOf9
  simp [Instr.index, asIntOf, run_underlying (Try.underlying171), part, h1, h2, Result.andThen]
theorem index_sign6 (w : World) : (Instr.index 171 (.agg #[.string ⟨#[60, 61, 62]⟩, .string ⟨#[60, 126, 62]⟩, .string ⟨#[61, 62]⟩, .string ⟨#[60, 61]⟩, .string ⟨#[126, 124]⟩, .string ⟨#[126, 38]⟩, .string ⟨#[33, 61]⟩]) (.int .i64 6)).run Try.prog w = .ok (.string ⟨#[33, 61]⟩) w := by
  have h1 := Try.isAgg9
  have h2 := Try.sizeOf9
  simp [Instr.index, asIntOf, run_underlying (Try.underlying171), part, h1, h2, Result.andThen]
theorem find_at {p : List UInt8 → Bool} {L : List (List UInt8)} {x : List UInt8} : ∀ {k : Nat}, L[k]? = some x → p x = true → (∀ j, j < k → ∀ y, L[j]? = some y → p y = false) → L.find? p = some x := by
  induction L with
  | nil => intro k h; simp at h
  | cons a L ih =>
    intro k h1 h2 h3
    cases k with
    | zero => injection h1 with h1; subst h1; rw [List.find?_cons, h2]
    | succ k =>
      rw [List.find?_cons, h3 0 (by omega) a rfl]
      exact ih (k := k) (by simpa using h1) h2 fun j hj y hy => h3 (j + 1) (by omega) y (by simpa using hy)
theorem find_none {p : List UInt8 → Bool} {L : List (List UInt8)} (h : ∀ j, j < L.length → ∀ y, L[j]? = some y → p y = false) : L.find? p = none := by
  rw [List.find?_eq_none]
  intro x hx
  obtain ⟨j, hj, rfl⟩ := List.getElem_of_mem hx
  rw [h j hj _ (List.getElem?_eq_getElem hj)]
  decide
theorem indexByte_pos (l : List UInt8) (c : UInt8) : decide (0 ≤ Lib.indexByte l c) = l.contains c := by
  induction l with
  | nil => rfl
  | cons b l ih =>
    have hg := Lib.indexByte_ge l c
    rw [Lib.indexByte, List.contains_cons, ← ih]
    generalize Lib.indexByte l c = n at hg
    by_cases hb : b = c
    · subst hb; simp
    · have h1 : (b == c) = false := by rw [beq_eq_false_iff_ne]; exact hb
      have h2 : (c == b) = false := by rw [beq_eq_false_iff_ne]; exact fun h => hb h.symm
      rw [h1, h2]
      by_cases hn : n = -1
      · subst hn; rfl
      · have h3 : (n == -1) = false := by rw [beq_eq_false_iff_ne]; exact hn
        rw [h3, Bool.eq_iff_iff]
        simp; omega
theorem u8_back (c : UInt8) : ((c.toNat : Int)).toNat.toUInt8 = c := by
  apply UInt8.toNat_inj.1
  simp
set_option maxRecDepth 100000 in
set_option maxHeartbeats 4000000 in
theorem tokSign_any (s : ByteArray) (hs : s.size ≤ 1073741824) (h0 : 0 < s.size) (w : World) :
    Calls Try.prog 108 #[.string s] w fun e w' => e = .returned (.int .i64 (signLen s.data.toList : Nat)) ∧ Ext w w' := by
  have HP0 := Lib.hid (fun w => show Calls Try.prog 103 #[.string s, .string ⟨#[60, 61, 62]⟩] w (fun e w' => e = .returned (.bool (List.isPrefixOf [60, 61, 62] s.data.toList)) ∧ w' = w) from Try.strings_HasPrefix s ⟨#[60, 61, 62]⟩ w)
  have HP1 := Lib.hid (fun w => show Calls Try.prog 103 #[.string s, .string ⟨#[60, 126, 62]⟩] w (fun e w' => e = .returned (.bool (List.isPrefixOf [60, 126, 62] s.data.toList)) ∧ w' = w) from Try.strings_HasPrefix s ⟨#[60, 126, 62]⟩ w)
  have HP2 := Lib.hid (fun w => show Calls Try.prog 103 #[.string s, .string ⟨#[61, 62]⟩] w (fun e w' => e = .returned (.bool (List.isPrefixOf [61, 62] s.data.toList)) ∧ w' = w) from Try.strings_HasPrefix s ⟨#[61, 62]⟩ w)
  have HP3 := Lib.hid (fun w => show Calls Try.prog 103 #[.string s, .string ⟨#[60, 61]⟩] w (fun e w' => e = .returned (.bool (List.isPrefixOf [60, 61] s.data.toList)) ∧ w' = w) from Try.strings_HasPrefix s ⟨#[60, 61]⟩ w)
  have HP4 := Lib.hid (fun w => show Calls Try.prog 103 #[.string s, .string ⟨#[126, 124]⟩] w (fun e w' => e = .returned (.bool (List.isPrefixOf [126, 124] s.data.toList)) ∧ w' = w) from Try.strings_HasPrefix s ⟨#[126, 124]⟩ w)
  have HP5 := Lib.hid (fun w => show Calls Try.prog 103 #[.string s, .string ⟨#[126, 38]⟩] w (fun e w' => e = .returned (.bool (List.isPrefixOf [126, 38] s.data.toList)) ∧ w' = w) from Try.strings_HasPrefix s ⟨#[126, 38]⟩ w)
  have HP6 := Lib.hid (fun w => show Calls Try.prog 103 #[.string s, .string ⟨#[33, 61]⟩] w (fun e w' => e = .returned (.bool (List.isPrefixOf [33, 61] s.data.toList)) ∧ w' = w) from Try.strings_HasPrefix s ⟨#[33, 61]⟩ w)
  have HX := Lib.hid (fun w => Try.strings_IndexByte ⟨#[40, 41, 91, 93, 44, 46, 58, 38, 124, 126, 61, 33, 63]⟩ (s[0].toNat : Int) w)
  rw [u8_back] at HX
  have HL := Lib.hid (show s.data.toList = s[0] :: s.data.toList.drop 1 by rw [← drop_cons h0, List.drop_zero])
  have HQ := Lib.hid (show signLen s.data.toList = _ from rfl : signLen s.data.toList = match signs7.find? fun x => x.isPrefixOf s.data.toList with | some x => x.length | none => match s.data.toList with | [] => 0 | c :: _ => if signs1.contains c then 1 else 0)
  have hcl := s[0].toNat_lt
  have h0' : (0 : Int) < (s.size : Nat) := by omega
  generalize signLen s.data.toList = q at HQ ⊢
  obtain ⟨W, hW⟩ : ∃ W, W = w.alloc (.cells #[.string ⟨#[60, 61, 62]⟩, .string ⟨#[60, 126, 62]⟩, .string ⟨#[61, 62]⟩, .string ⟨#[60, 61]⟩, .string ⟨#[126, 124]⟩, .string ⟨#[126, 38]⟩, .string ⟨#[33, 61]⟩] 171) := ⟨_, rfl⟩
  have hx : Ext w W := by subst hW; go_grown
  go_enter Try.func108, Try.ntmps108
  go_wp2_with fail
  rw [← hW]
  clear hW
  go_loopw [8] (fun i wr => ∃ k : Nat, k ≤ 7 ∧ ∃ z : Int, z = k ∧ i = .int .i64 z ∧ (∀ j, j < k → ∀ x, signs7[j]? = some x → List.isPrefixOf x s.data.toList = false) ∧ Ext W wr) (fun i _ => 7 - (intOf i).toNat)
  case atStart => exact ⟨0, by omega, 0, rfl, rfl, fun j hj => absurd hj (Nat.not_lt_zero j), Below.refl _ _⟩
  case round =>
    obtain ⟨k, hk, z, hz, rfl, hno, hext⟩ := hrel
    have hk8 : k = 0 ∨ k = 1 ∨ k = 2 ∨ k = 3 ∨ k = 4 ∨ k = 5 ∨ k = 6 ∨ k = 7 := by omega
    rcases hk8 with rfl | rfl | rfl | rfl | rfl | rfl | rfl | rfl
    · have hz' : z = 0 := by omega
      subst hz'
      clear hz hk
      have HN := Lib.hid (hno : ∀ j, j < 0 → ∀ x, signs7[j]? = some x → List.isPrefixOf x s.data.toList = false)
      have hix := index_sign0
      clear hno
      cases hp : List.isPrefixOf [60, 61, 62] s.data.toList with
      | true =>
        rw [hp] at HP0
        have Hp := Lib.hid hp
        go_wp2_with (refine (HP0.out _).mono ?_; rintro e w' ⟨rfl, rfl⟩)
        go_ret
        exact ⟨ret_int (by rw [HQ.out, find_at (p := fun x => x.isPrefixOf s.data.toList) (k := 0) rfl Hp.out HN.out]; rfl), hx.trans hext⟩
      | false =>
        rw [hp] at HP0
        have Hp := Lib.hid hp
        go_wp2_with (refine (HP0.out _).mono ?_; rintro e w' ⟨rfl, rfl⟩)
        go_roundw
        case rel => exact ⟨1, by omega, 1, rfl, rfl, fun j hj x hxj => by
          rcases Nat.lt_or_ge j 0 with h | h
          · exact HN.out j h x hxj
          · obtain rfl : j = 0 := by omega
            injection hxj with hxj; subst hxj; exact Hp.out, hext⟩
        case measure => simp [intOf]
    · have hz' : z = 1 := by omega
      subst hz'
      clear hz hk
      have HN := Lib.hid (hno : ∀ j, j < 1 → ∀ x, signs7[j]? = some x → List.isPrefixOf x s.data.toList = false)
      have hix := index_sign1
      clear hno
      cases hp : List.isPrefixOf [60, 126, 62] s.data.toList with
      | true =>
        rw [hp] at HP1
        have Hp := Lib.hid hp
        go_wp2_with (refine (HP1.out _).mono ?_; rintro e w' ⟨rfl, rfl⟩)
        go_ret
        exact ⟨ret_int (by rw [HQ.out, find_at (p := fun x => x.isPrefixOf s.data.toList) (k := 1) rfl Hp.out HN.out]; rfl), hx.trans hext⟩
      | false =>
        rw [hp] at HP1
        have Hp := Lib.hid hp
        go_wp2_with (refine (HP1.out _).mono ?_; rintro e w' ⟨rfl, rfl⟩)
        go_roundw
        case rel => exact ⟨2, by omega, 2, rfl, rfl, fun j hj x hxj => by
          rcases Nat.lt_or_ge j 1 with h | h
          · exact HN.out j h x hxj
          · obtain rfl : j = 1 := by omega
            injection hxj with hxj; subst hxj; exact Hp.out, hext⟩
        case measure => simp [intOf]
    · have hz' : z = 2 := by omega
      subst hz'
      clear hz hk
      have HN := Lib.hid (hno : ∀ j, j < 2 → ∀ x, signs7[j]? = some x → List.isPrefixOf x s.data.toList = false)
      have hix := index_sign2
      clear hno
      cases hp : List.isPrefixOf [61, 62] s.data.toList with
      | true =>
        rw [hp] at HP2
        have Hp := Lib.hid hp
        go_wp2_with (refine (HP2.out _).mono ?_; rintro e w' ⟨rfl, rfl⟩)
        go_ret
        exact ⟨ret_int (by rw [HQ.out, find_at (p := fun x => x.isPrefixOf s.data.toList) (k := 2) rfl Hp.out HN.out]; rfl), hx.trans hext⟩
      | false =>
        rw [hp] at HP2
        have Hp := Lib.hid hp
        go_wp2_with (refine (HP2.out _).mono ?_; rintro e w' ⟨rfl, rfl⟩)
        go_roundw
        case rel => exact ⟨3, by omega, 3, rfl, rfl, fun j hj x hxj => by
          rcases Nat.lt_or_ge j 2 with h | h
          · exact HN.out j h x hxj
          · obtain rfl : j = 2 := by omega
            injection hxj with hxj; subst hxj; exact Hp.out, hext⟩
        case measure => simp [intOf]
    · have hz' : z = 3 := by omega
      subst hz'
      clear hz hk
      have HN := Lib.hid (hno : ∀ j, j < 3 → ∀ x, signs7[j]? = some x → List.isPrefixOf x s.data.toList = false)
      have hix := index_sign3
      clear hno
      cases hp : List.isPrefixOf [60, 61] s.data.toList with
      | true =>
        rw [hp] at HP3
        have Hp := Lib.hid hp
        go_wp2_with (refine (HP3.out _).mono ?_; rintro e w' ⟨rfl, rfl⟩)
        go_ret
        exact ⟨ret_int (by rw [HQ.out, find_at (p := fun x => x.isPrefixOf s.data.toList) (k := 3) rfl Hp.out HN.out]; rfl), hx.trans hext⟩
      | false =>
        rw [hp] at HP3
        have Hp := Lib.hid hp
        go_wp2_with (refine (HP3.out _).mono ?_; rintro e w' ⟨rfl, rfl⟩)
        go_roundw
        case rel => exact ⟨4, by omega, 4, rfl, rfl, fun j hj x hxj => by
          rcases Nat.lt_or_ge j 3 with h | h
          · exact HN.out j h x hxj
          · obtain rfl : j = 3 := by omega
            injection hxj with hxj; subst hxj; exact Hp.out, hext⟩
        case measure => simp [intOf]
    · have hz' : z = 4 := by omega
      subst hz'
      clear hz hk
      have HN := Lib.hid (hno : ∀ j, j < 4 → ∀ x, signs7[j]? = some x → List.isPrefixOf x s.data.toList = false)
      have hix := index_sign4
      clear hno
      cases hp : List.isPrefixOf [126, 124] s.data.toList with
      | true =>
        rw [hp] at HP4
        have Hp := Lib.hid hp
        go_wp2_with (refine (HP4.out _).mono ?_; rintro e w' ⟨rfl, rfl⟩)
        go_ret
        exact ⟨ret_int (by rw [HQ.out, find_at (p := fun x => x.isPrefixOf s.data.toList) (k := 4) rfl Hp.out HN.out]; rfl), hx.trans hext⟩
      | false =>
        rw [hp] at HP4
        have Hp := Lib.hid hp
        go_wp2_with (refine (HP4.out _).mono ?_; rintro e w' ⟨rfl, rfl⟩)
        go_roundw
        case rel => exact ⟨5, by omega, 5, rfl, rfl, fun j hj x hxj => by
          rcases Nat.lt_or_ge j 4 with h | h
          · exact HN.out j h x hxj
          · obtain rfl : j = 4 := by omega
            injection hxj with hxj; subst hxj; exact Hp.out, hext⟩
        case measure => simp [intOf]
    · have hz' : z = 5 := by omega
      subst hz'
      clear hz hk
      have HN := Lib.hid (hno : ∀ j, j < 5 → ∀ x, signs7[j]? = some x → List.isPrefixOf x s.data.toList = false)
      have hix := index_sign5
      clear hno
      cases hp : List.isPrefixOf [126, 38] s.data.toList with
      | true =>
        rw [hp] at HP5
        have Hp := Lib.hid hp
        go_wp2_with (refine (HP5.out _).mono ?_; rintro e w' ⟨rfl, rfl⟩)
        go_ret
        exact ⟨ret_int (by rw [HQ.out, find_at (p := fun x => x.isPrefixOf s.data.toList) (k := 5) rfl Hp.out HN.out]; rfl), hx.trans hext⟩
      | false =>
        rw [hp] at HP5
        have Hp := Lib.hid hp
        go_wp2_with (refine (HP5.out _).mono ?_; rintro e w' ⟨rfl, rfl⟩)
        go_roundw
        case rel => exact ⟨6, by omega, 6, rfl, rfl, fun j hj x hxj => by
          rcases Nat.lt_or_ge j 5 with h | h
          · exact HN.out j h x hxj
          · obtain rfl : j = 5 := by omega
            injection hxj with hxj; subst hxj; exact Hp.out, hext⟩
        case measure => simp [intOf]
    · have hz' : z = 6 := by omega
      subst hz'
      clear hz hk
      have HN := Lib.hid (hno : ∀ j, j < 6 → ∀ x, signs7[j]? = some x → List.isPrefixOf x s.data.toList = false)
      have hix := index_sign6
      clear hno
      cases hp : List.isPrefixOf [33, 61] s.data.toList with
      | true =>
        rw [hp] at HP6
        have Hp := Lib.hid hp
        go_wp2_with (refine (HP6.out _).mono ?_; rintro e w' ⟨rfl, rfl⟩)
        go_ret
        exact ⟨ret_int (by rw [HQ.out, find_at (p := fun x => x.isPrefixOf s.data.toList) (k := 6) rfl Hp.out HN.out]; rfl), hx.trans hext⟩
      | false =>
        rw [hp] at HP6
        have Hp := Lib.hid hp
        go_wp2_with (refine (HP6.out _).mono ?_; rintro e w' ⟨rfl, rfl⟩)
        go_roundw
        case rel => exact ⟨7, by omega, 7, rfl, rfl, fun j hj x hxj => by
          rcases Nat.lt_or_ge j 6 with h | h
          · exact HN.out j h x hxj
          · obtain rfl : j = 6 := by omega
            injection hxj with hxj; subst hxj; exact Hp.out, hext⟩
        case measure => simp [intOf]
    · have hz' : z = 7 := by omega
      subst hz'
      clear hz hk
      have HN := Lib.hid (hno : ∀ j, j < 7 → ∀ x, signs7[j]? = some x → List.isPrefixOf x s.data.toList = false)
      clear hno
      have HQ2 := Lib.hid (show q = if signs1.contains s[0] then 1 else 0 by rw [HQ.out, find_none (L := signs7) (p := fun x => x.isPrefixOf s.data.toList) HN.out, HL.out])
      have Hd := Lib.hid (indexByte_pos signs1 s[0])
      change Hid (∀ w, Calls _ _ _ w fun e w' => e = .returned (.int .i64 (Lib.indexByte signs1 s[0])) ∧ w' = w) at HX
      generalize Lib.indexByte signs1 s[0] = n at HX Hd
      cases hd : signs1.contains s[0] with
      | true =>
        have hd2 : decide (0 ≤ n) = true := by rw [Hd.out, hd]
        have HQ3 := Lib.hid (show q = 1 by rw [HQ2.out, hd]; rfl)
        clear hd
        go_wp2_with (refine (HX.out _).mono ?_; rintro e w' ⟨rfl, rfl⟩)
        go_ret
        exact ⟨ret_int (by rw [HQ3.out]; rfl), hx.trans hext⟩
      | false =>
        have hd2 : decide (0 ≤ n) = false := by rw [Hd.out, hd]
        have HQ3 := Lib.hid (show q = 0 by rw [HQ2.out, hd]; rfl)
        clear hd
        go_wp2_with (refine (HX.out _).mono ?_; rintro e w' ⟨rfl, rfl⟩)
        go_ret
        exact ⟨ret_int (by rw [HQ3.out]; rfl), hx.trans hext⟩
end Go.Proofs.Ytnclgkdpafhogaa
namespace Go.Proofs.Ytnclgkdpafhogaa
open Go.ChangeShapes Go.WideShapes Go.ChangeAt Go.RowKit
def signs20 : List (List UInt8) := signs7 ++ signs1.map fun c => [c]
theorem find_single (l : List UInt8) : ∀ L : List UInt8, ((L.map fun c => [c]).find? fun x => x.isPrefixOf l) = match l with | [] => none | c :: _ => if L.contains c then some [c] else none
  | [] => by cases l <;> rfl
  | a :: L => by
    rw [List.map_cons, List.find?_cons, find_single l L]
    cases l with
    | nil => rfl
    | cons c l =>
      by_cases h : a = c
      · subst h; simp [List.isPrefixOf]
      · have h1 : (a == c) = false := by rw [beq_eq_false_iff_ne]; exact h
        have h2 : (c == a) = false := by rw [beq_eq_false_iff_ne]; exact fun e => h e.symm
        simp only [List.isPrefixOf, h1, Bool.false_and, List.contains_cons, h2, Bool.false_or]
theorem signLen_eq (l : List UInt8) : signLen l = match signs20.find? fun x => x.isPrefixOf l with | some x => x.length | none => 0 := by
  unfold signLen signs20
  rw [List.find?_append, find_single]
  cases signs7.find? fun x => x.isPrefixOf l with
  | some x => rfl
  | none =>
    cases l with
    | nil => rfl
    | cons c l =>
      cases hc : signs1.contains c
      · simp only [hc, Bool.false_eq_true, if_false, Option.none_or]
      · simp only [hc, if_true, Option.none_or]; rfl
end Go.Proofs.Ytnclgkdpafhogaa
namespace Go.Proofs.Ytnclgkdpafhogaa
open Go.ChangeShapes Go.WideShapes Go.ChangeAt Go.RowKit
/-- the kind of the token at a place, and where it ends; the place itself: there is none -/
def oneKind (s : ByteArray) (k : Nat) : Int × Nat :=
  if 97 ≤ byt s k ∧ byt s k ≤ 122 then (1, runTo letterB s k)
  else if 65 ≤ byt s k ∧ byt s k ≤ 90 then (2, runTo letterB s k)
  else if 48 ≤ byt s k ∧ byt s k ≤ 57 then (5, runTo digitB s k)
  else if byt s k = 36 then (3, if 97 ≤ byt s (k + 1) ∧ byt s (k + 1) ≤ 122 then runTo letterB s (k + 1) else k)
  else if byt s k = 39 then (4, quotedEnd s k)
  else (6, k + signLen (s.data.toList.drop k))
def oneEnd (s : ByteArray) (k : Nat) : Nat := (oneKind s k).2
/-- the token at a place -/
def oneTok (s : ByteArray) (k : Nat) : Tok := ⟨(oneKind s k).1, if (oneKind s k).1 = 4 then s.extract (k + 1) (oneEnd s k - 1) else s.extract k (oneEnd s k), k⟩
/-- what both hand back: a token, which is the right one if there is one, and its end -/
def OneSays (s : ByteArray) (k : Nat) (w : World) (e : Ending) (w' : World) : Prop :=
  (∃ t : Tok, e = .returned (.tuple #[.agg t.vals, .int .i64 (oneEnd s k : Nat)]) ∧ (k < oneEnd s k → t = oneTok s k)) ∧ Ext w w'

theorem signLen_le (l : List UInt8) : signLen l ≤ l.length := by
  rw [signLen_eq]
  cases h : signs20.find? fun x => x.isPrefixOf l with
  | none => exact Nat.zero_le _
  | some x =>
    have := List.find?_some h
    exact (List.isPrefixOf_iff_prefix.1 this).length_le
theorem quotedEnd_ge (s : ByteArray) (k : Nat) : k ≤ quotedEnd s k := by
  unfold quotedEnd
  have := runTo_ge innerB s (k + 1)
  split <;> omega
theorem quotedEnd_le {s : ByteArray} {k : Nat} (hk : k < s.size) : quotedEnd s k ≤ s.size := by
  unfold quotedEnd
  have h2 := runTo_le (p := innerB) (s := s) (k := k + 1) (by omega)
  split
  · omega
  · rename_i h
    rcases Nat.lt_or_ge (runTo innerB s (k + 1)) s.size with h3 | h3
    · omega
    · exact absurd (.inr (by rw [byt_none h3]; omega)) h
theorem quotedEnd_two {s : ByteArray} {k : Nat} (h : k < quotedEnd s k) : k + 2 < quotedEnd s k := by
  unfold quotedEnd at h ⊢
  have h1 := runTo_ge innerB s (k + 1)
  split at h
  · omega
  · rename_i hc
    rw [if_neg hc]
    have : runTo innerB s (k + 1) ≠ k + 1 := fun e => hc (.inl e)
    omega
theorem oneEnd_ge (s : ByteArray) (k : Nat) : k ≤ oneEnd s k := by
  unfold oneEnd oneKind
  have h1 := runTo_ge letterB s k
  have h2 := runTo_ge digitB s k
  have h3 := runTo_ge letterB s (k + 1)
  have h4 := quotedEnd_ge s k
  repeat' split
  all_goals first | exact h1 | exact h2 | exact h4 | (simp only; omega)
theorem oneEnd_le {s : ByteArray} {k : Nat} (hk : k < s.size) : oneEnd s k ≤ s.size := by
  unfold oneEnd oneKind
  have h1 := runTo_le (p := letterB) (s := s) (k := k) (by omega)
  have h2 := runTo_le (p := digitB) (s := s) (k := k) (by omega)
  have h3 := runTo_le (p := letterB) (s := s) (k := k + 1) (by omega)
  have h4 := quotedEnd_le hk
  have h5 := signLen_le (s.data.toList.drop k)
  have h6 : (s.data.toList.drop k).length = s.size - k := by simp
  repeat' split
  all_goals first | exact h1 | exact h2 | exact h4 | (simp only; omega)

theorem oneTok_of {s : ByteArray} {k r : Nat} {n : Int} (h : oneKind s k = (n, r)) (h4 : n ≠ 4) : oneEnd s k = r ∧ oneTok s k = ⟨n, s.extract k r, k⟩ := by
  have h1 : oneEnd s k = r := by unfold oneEnd; rw [h]
  refine ⟨h1, ?_⟩
  unfold oneTok
  rw [h1, h]
  simp only
  rw [if_neg h4]
theorem oneTok_four {s : ByteArray} {k r : Nat} (h : oneKind s k = (4, r)) : oneEnd s k = r ∧ oneTok s k = ⟨4, s.extract (k + 1) (r - 1), k⟩ := by
  have h1 : oneEnd s k = r := by unfold oneEnd; rw [h]
  refine ⟨h1, ?_⟩
  unfold oneTok
  rw [h1, h]
  simp only
  rw [if_pos trivial]

theorem slice_to (s : ByteArray) (i j : Nat) (a b : Int) (ha : a = i) (hb : b = j) (hij : i ≤ j) (hj : j ≤ s.size) (w : World) :
    (Instr.slice 9 (.string s) (some (.int .i64 a)) (some (.int .i64 b)) none).run Try.prog w = .ok (.string (s.extract i j)) w := by
  subst ha; subst hb
  have h1 : (i : Int) ≤ (j : Nat) := by omega
  have h2 : (j : Int) ≤ (s.size : Nat) := by omega
  first | (go_simp; done) | simp [Instr.slice, run_underlying (Try.underlying9), Instr.sliceBounds, run_sliceBound, sliced, *]
theorem small_iff (s : ByteArray) (k : Nat) (hk : k < s.size) : smallB s[k] = decide (97 ≤ byt s k ∧ byt s k ≤ 122) := by
  rw [byt_of hk]; unfold smallB; rw [Bool.eq_iff_iff]; simp; omega
theorem great_iff (s : ByteArray) (k : Nat) (hk : k < s.size) : greatC s[k] = decide (65 ≤ byt s k ∧ byt s k ≤ 90) := by
  rw [byt_of hk]; unfold greatC; rw [Bool.eq_iff_iff]; simp; omega
theorem digit_iff (s : ByteArray) (k : Nat) (hk : k < s.size) : digitB s[k] = decide (48 ≤ byt s k ∧ byt s k ≤ 57) := by
  rw [byt_of hk]; unfold digitB; rw [Bool.eq_iff_iff]; simp; omega
set_option maxRecDepth 100000 in
set_option maxHeartbeats 2000000 in
theorem one_small (s : ByteArray) (hs : s.size ≤ 1073741824) (k : Nat) (hk : k < s.size) (w : World) (c1 : 97 ≤ byt s k ∧ byt s k ≤ 122) :
    Calls Try.prog 89 #[.string s, .int .i64 k] w (OneSays s k w) := by
  have hk' : (k : Int) < (s.size : Nat) := by omega
  have hwk : IntKind.i64.wrap ((k : Int) + 1) = (k : Int) + 1 := IntWalk.i64_in _ (by omega)
  have hcl := s[k].toNat_lt
  have HS := Lib.hid (fun w => tokSmall_any s[k] w)
  have HG := Lib.hid (fun w => tokGreat_any s[k] w)
  have HD := Lib.hid (fun w => tokDigit_any s[k] w)
  rw [small_iff s k hk] at HS
  rw [great_iff s k hk] at HG
  rw [digit_iff s k hk] at HD
  rw [decide_eq_true c1] at HS
  have HW := Lib.hid (fun w => whileWord_any s hs k (by omega) w)
  have h1 := runTo_ge letterB s k
  have h2 := runTo_le (p := letterB) (s := s) (k := k) (by omega)
  have HO := Lib.hid (oneTok_of (s := s) (k := k) (r := runTo letterB s k) (n := 1) (by unfold oneKind; simp only [*, if_true, and_self]) (by decide))
  unfold OneSays
  generalize runTo letterB s k = r at HW h1 h2 HO
  have h1' : (k : Int) ≤ (r : Nat) := by omega
  have h2' : (r : Int) ≤ (s.size : Nat) := by omega
  go_enter Try.func89, Try.ntmps89
  go_wp2_with (first | (go_at_call 86; refine (HS.out _).mono ?_; rintro e w' ⟨rfl, rfl⟩) | (go_at_call 105; refine (HG.out _).mono ?_; rintro e w' ⟨rfl, rfl⟩) | (go_at_call 106; refine (HD.out _).mono ?_; rintro e w' ⟨rfl, rfl⟩) | (go_at_call 92; refine (HW.out _).mono ?_; rintro e w' ⟨rfl, rfl⟩))
  refine bodyPost_ret (v := .tuple #[.agg #[.int .i64 1, .string (s.extract k r), .int .i64 k], .int .i64 r]) (by simp [results, Try.results89, go_sem]) rfl ?_
  exact ⟨⟨⟨1, s.extract k r, k⟩, by rw [HO.out.1]; rfl, fun _ => HO.out.2.symm⟩, by go_grown⟩
set_option maxRecDepth 100000 in
set_option maxHeartbeats 2000000 in
theorem one_great (s : ByteArray) (hs : s.size ≤ 1073741824) (k : Nat) (hk : k < s.size) (w : World) (c1 : ¬ (97 ≤ byt s k ∧ byt s k ≤ 122)) (c2 : 65 ≤ byt s k ∧ byt s k ≤ 90) :
    Calls Try.prog 89 #[.string s, .int .i64 k] w (OneSays s k w) := by
  have hk' : (k : Int) < (s.size : Nat) := by omega
  have hwk : IntKind.i64.wrap ((k : Int) + 1) = (k : Int) + 1 := IntWalk.i64_in _ (by omega)
  have hcl := s[k].toNat_lt
  have HS := Lib.hid (fun w => tokSmall_any s[k] w)
  have HG := Lib.hid (fun w => tokGreat_any s[k] w)
  have HD := Lib.hid (fun w => tokDigit_any s[k] w)
  rw [small_iff s k hk] at HS
  rw [great_iff s k hk] at HG
  rw [digit_iff s k hk] at HD
  rw [(show decide (97 ≤ byt s k ∧ byt s k ≤ 122) = false from decide_eq_false c1)] at HS
  rw [decide_eq_true c2] at HG
  have HW := Lib.hid (fun w => whileWord_any s hs k (by omega) w)
  have h1 := runTo_ge letterB s k
  have h2 := runTo_le (p := letterB) (s := s) (k := k) (by omega)
  have HO := Lib.hid (oneTok_of (s := s) (k := k) (r := runTo letterB s k) (n := 2) (by unfold oneKind; simp only [*, if_true, if_false, and_self]) (by decide))
  unfold OneSays
  generalize runTo letterB s k = r at HW h1 h2 HO
  have h1' : (k : Int) ≤ (r : Nat) := by omega
  have h2' : (r : Int) ≤ (s.size : Nat) := by omega
  go_enter Try.func89, Try.ntmps89
  go_wp2_with (first | (go_at_call 86; refine (HS.out _).mono ?_; rintro e w' ⟨rfl, rfl⟩) | (go_at_call 105; refine (HG.out _).mono ?_; rintro e w' ⟨rfl, rfl⟩) | (go_at_call 106; refine (HD.out _).mono ?_; rintro e w' ⟨rfl, rfl⟩) | (go_at_call 92; refine (HW.out _).mono ?_; rintro e w' ⟨rfl, rfl⟩))
  refine bodyPost_ret (v := .tuple #[.agg #[.int .i64 2, .string (s.extract k r), .int .i64 k], .int .i64 r]) (by simp [results, Try.results89, go_sem]) rfl ?_
  exact ⟨⟨⟨2, s.extract k r, k⟩, by rw [HO.out.1]; rfl, fun _ => HO.out.2.symm⟩, by go_grown⟩
set_option maxRecDepth 100000 in
set_option maxHeartbeats 2000000 in
theorem one_digit (s : ByteArray) (hs : s.size ≤ 1073741824) (k : Nat) (hk : k < s.size) (w : World) (c1 : ¬ (97 ≤ byt s k ∧ byt s k ≤ 122)) (c2 : ¬ (65 ≤ byt s k ∧ byt s k ≤ 90)) (c3 : 48 ≤ byt s k ∧ byt s k ≤ 57) :
    Calls Try.prog 89 #[.string s, .int .i64 k] w (OneSays s k w) := by
  have hk' : (k : Int) < (s.size : Nat) := by omega
  have hwk : IntKind.i64.wrap ((k : Int) + 1) = (k : Int) + 1 := IntWalk.i64_in _ (by omega)
  have hcl := s[k].toNat_lt
  have HS := Lib.hid (fun w => tokSmall_any s[k] w)
  have HG := Lib.hid (fun w => tokGreat_any s[k] w)
  have HD := Lib.hid (fun w => tokDigit_any s[k] w)
  rw [small_iff s k hk] at HS
  rw [great_iff s k hk] at HG
  rw [digit_iff s k hk] at HD
  rw [(show decide (97 ≤ byt s k ∧ byt s k ≤ 122) = false from decide_eq_false c1)] at HS
  rw [(show decide (65 ≤ byt s k ∧ byt s k ≤ 90) = false from decide_eq_false c2)] at HG
  rw [decide_eq_true c3] at HD
  have HW := Lib.hid (fun w => whileDigit_any s hs k (by omega) w)
  have h1 := runTo_ge digitB s k
  have h2 := runTo_le (p := digitB) (s := s) (k := k) (by omega)
  have HO := Lib.hid (oneTok_of (s := s) (k := k) (r := runTo digitB s k) (n := 5) (by unfold oneKind; simp only [*, if_true, if_false, and_self]) (by decide))
  unfold OneSays
  generalize runTo digitB s k = r at HW h1 h2 HO
  have h1' : (k : Int) ≤ (r : Nat) := by omega
  have h2' : (r : Int) ≤ (s.size : Nat) := by omega
  go_enter Try.func89, Try.ntmps89
  go_wp2_with (first | (go_at_call 86; refine (HS.out _).mono ?_; rintro e w' ⟨rfl, rfl⟩) | (go_at_call 105; refine (HG.out _).mono ?_; rintro e w' ⟨rfl, rfl⟩) | (go_at_call 106; refine (HD.out _).mono ?_; rintro e w' ⟨rfl, rfl⟩) | (go_at_call 92; refine (HW.out _).mono ?_; rintro e w' ⟨rfl, rfl⟩))
  refine bodyPost_ret (v := .tuple #[.agg #[.int .i64 5, .string (s.extract k r), .int .i64 k], .int .i64 r]) (by simp [results, Try.results89, go_sem]) rfl ?_
  exact ⟨⟨⟨5, s.extract k r, k⟩, by rw [HO.out.1]; rfl, fun _ => HO.out.2.symm⟩, by go_grown⟩
set_option maxRecDepth 100000 in
set_option maxHeartbeats 2000000 in
theorem one_dollar1 (s : ByteArray) (hs : s.size ≤ 1073741824) (k : Nat) (hk : k < s.size) (w : World) (c1 : ¬ (97 ≤ byt s k ∧ byt s k ≤ 122)) (c2 : ¬ (65 ≤ byt s k ∧ byt s k ≤ 90)) (c3 : ¬ (48 ≤ byt s k ∧ byt s k ≤ 57)) (c4 : byt s k = 36) (hk1 : k + 1 < s.size) (c5 : 97 ≤ byt s (k + 1) ∧ byt s (k + 1) ≤ 122) :
    Calls Try.prog 89 #[.string s, .int .i64 k] w (OneSays s k w) := by
  have hk' : (k : Int) < (s.size : Nat) := by omega
  have hwk : IntKind.i64.wrap ((k : Int) + 1) = (k : Int) + 1 := IntWalk.i64_in _ (by omega)
  have hcl := s[k].toNat_lt
  have HS := Lib.hid (fun w => tokSmall_any s[k] w)
  have HG := Lib.hid (fun w => tokGreat_any s[k] w)
  have HD := Lib.hid (fun w => tokDigit_any s[k] w)
  rw [small_iff s k hk] at HS
  rw [great_iff s k hk] at HG
  rw [digit_iff s k hk] at HD
  rw [(show decide (97 ≤ byt s k ∧ byt s k ≤ 122) = false from decide_eq_false c1)] at HS
  rw [(show decide (65 ≤ byt s k ∧ byt s k ≤ 90) = false from decide_eq_false c2)] at HG
  rw [(show decide (48 ≤ byt s k ∧ byt s k ≤ 57) = false from decide_eq_false c3)] at HD
  have HW := Lib.hid (fun w => whileWord_any s hs (k + 1) (by omega) w)
  rw [show ((k + 1 : Nat) : Int) = (k : Int) + 1 by omega] at HW
  have HS2 := Lib.hid (fun w => tokSmall_any s[k + 1] w)
  rw [small_iff s (k + 1) hk1, decide_eq_true c5] at HS2
  have h1 := runTo_ge letterB s (k + 1)
  have h2 := runTo_le (p := letterB) (s := s) (k := k + 1) (by omega)
  have HO := Lib.hid (oneTok_of (s := s) (k := k) (r := runTo letterB s (k + 1)) (n := 3) (by unfold oneKind; rw [if_neg c1, if_neg c2, if_neg c3, if_pos c4, if_pos c5]) (by decide))
  have d4 : ((s[k].toNat : Int) == 36) = true := by rw [beq_iff_eq, ← byt_of hk]; exact c4
  have d5 : decide ((k : Int) + 1 < (s.size : Nat)) = true := decide_eq_true (by omega)
  have d6 : (k : Int) + 1 < (s.size : Nat) := by omega
  unfold OneSays
  generalize runTo letterB s (k + 1) = r at HW h1 h2 HO
  have h1' : (k : Int) ≤ (r : Nat) := by omega
  have h2' : (r : Int) ≤ (s.size : Nat) := by omega
  clear c1 c2 c3 c4 c5
  go_enter Try.func89, Try.ntmps89
  go_wp2_with (first | (go_at_call 86; with_reducible refine (HS2.out _).mono ?_; rintro e w' ⟨rfl, rfl⟩) | (go_at_call 86; refine (HS.out _).mono ?_; rintro e w' ⟨rfl, rfl⟩) | (go_at_call 105; refine (HG.out _).mono ?_; rintro e w' ⟨rfl, rfl⟩) | (go_at_call 106; refine (HD.out _).mono ?_; rintro e w' ⟨rfl, rfl⟩) | (go_at_call 92; refine (HW.out _).mono ?_; rintro e w' ⟨rfl, rfl⟩))
  refine bodyPost_ret (v := .tuple #[.agg #[.int .i64 3, .string (s.extract k r), .int .i64 k], .int .i64 r]) (by simp [results, Try.results89, go_sem]) rfl ?_
  exact ⟨⟨⟨3, s.extract k r, k⟩, by rw [HO.out.1]; rfl, fun _ => HO.out.2.symm⟩, by go_grown⟩
set_option maxRecDepth 100000 in
set_option maxHeartbeats 2000000 in
theorem one_dollar2 (s : ByteArray) (hs : s.size ≤ 1073741824) (k : Nat) (hk : k < s.size) (w : World) (c1 : ¬ (97 ≤ byt s k ∧ byt s k ≤ 122)) (c2 : ¬ (65 ≤ byt s k ∧ byt s k ≤ 90)) (c3 : ¬ (48 ≤ byt s k ∧ byt s k ≤ 57)) (c4 : byt s k = 36) (hk1 : k + 1 < s.size) (c5 : ¬ (97 ≤ byt s (k + 1) ∧ byt s (k + 1) ≤ 122)) :
    Calls Try.prog 89 #[.string s, .int .i64 k] w (OneSays s k w) := by
  have hk' : (k : Int) < (s.size : Nat) := by omega
  have hwk : IntKind.i64.wrap ((k : Int) + 1) = (k : Int) + 1 := IntWalk.i64_in _ (by omega)
  have hcl := s[k].toNat_lt
  have HS := Lib.hid (fun w => tokSmall_any s[k] w)
  have HG := Lib.hid (fun w => tokGreat_any s[k] w)
  have HD := Lib.hid (fun w => tokDigit_any s[k] w)
  rw [small_iff s k hk] at HS
  rw [great_iff s k hk] at HG
  rw [digit_iff s k hk] at HD
  rw [(show decide (97 ≤ byt s k ∧ byt s k ≤ 122) = false from decide_eq_false c1)] at HS
  rw [(show decide (65 ≤ byt s k ∧ byt s k ≤ 90) = false from decide_eq_false c2)] at HG
  rw [(show decide (48 ≤ byt s k ∧ byt s k ≤ 57) = false from decide_eq_false c3)] at HD
  have HS2 := Lib.hid (fun w => tokSmall_any s[k + 1] w)
  rw [small_iff s (k + 1) hk1, (show decide (97 ≤ byt s (k + 1) ∧ byt s (k + 1) ≤ 122) = false from decide_eq_false c5)] at HS2
  have HO := Lib.hid (oneTok_of (s := s) (k := k) (r := k) (n := 3) (by unfold oneKind; rw [if_neg c1, if_neg c2, if_neg c3, if_pos c4, if_neg c5]) (by decide))
  have d4 : ((s[k].toNat : Int) == 36) = true := by rw [beq_iff_eq, ← byt_of hk]; exact c4
  have d5 : decide ((k : Int) + 1 < (s.size : Nat)) = true := decide_eq_true (by omega)
  have d6 : (k : Int) + 1 < (s.size : Nat) := by omega
  unfold OneSays
  clear c1 c2 c3 c4 c5
  have hsl := fun w => slice_to s k k k k rfl rfl (Nat.le_refl _) (by omega) w
  generalize s.extract k k = tx at hsl
  go_enter Try.func89, Try.ntmps89
  go_wp2_with (first | (go_at_call 86; with_reducible refine (HS2.out _).mono ?_; rintro e w' ⟨rfl, rfl⟩) | (go_at_call 86; refine (HS.out _).mono ?_; rintro e w' ⟨rfl, rfl⟩) | (go_at_call 105; refine (HG.out _).mono ?_; rintro e w' ⟨rfl, rfl⟩) | (go_at_call 106; refine (HD.out _).mono ?_; rintro e w' ⟨rfl, rfl⟩))
  refine bodyPost_ret (v := .tuple #[.agg #[.int .i64 3, .string tx, .int .i64 k], .int .i64 k]) (by simp [results, Try.results89, go_sem]) rfl ?_
  exact ⟨⟨⟨3, tx, k⟩, by rw [HO.out.1]; rfl, fun h => by rw [HO.out.1] at h; exact absurd h (Nat.lt_irrefl _)⟩, by go_grown⟩
set_option maxRecDepth 100000 in
set_option maxHeartbeats 2000000 in
theorem one_dollar3 (s : ByteArray) (hs : s.size ≤ 1073741824) (k : Nat) (hk : k < s.size) (w : World) (c1 : ¬ (97 ≤ byt s k ∧ byt s k ≤ 122)) (c2 : ¬ (65 ≤ byt s k ∧ byt s k ≤ 90)) (c3 : ¬ (48 ≤ byt s k ∧ byt s k ≤ 57)) (c4 : byt s k = 36) (hk1 : ¬ k + 1 < s.size) (c5 : ¬ (97 ≤ byt s (k + 1) ∧ byt s (k + 1) ≤ 122)) :
    Calls Try.prog 89 #[.string s, .int .i64 k] w (OneSays s k w) := by
  have hk' : (k : Int) < (s.size : Nat) := by omega
  have hwk : IntKind.i64.wrap ((k : Int) + 1) = (k : Int) + 1 := IntWalk.i64_in _ (by omega)
  have hcl := s[k].toNat_lt
  have HS := Lib.hid (fun w => tokSmall_any s[k] w)
  have HG := Lib.hid (fun w => tokGreat_any s[k] w)
  have HD := Lib.hid (fun w => tokDigit_any s[k] w)
  rw [small_iff s k hk] at HS
  rw [great_iff s k hk] at HG
  rw [digit_iff s k hk] at HD
  rw [(show decide (97 ≤ byt s k ∧ byt s k ≤ 122) = false from decide_eq_false c1)] at HS
  rw [(show decide (65 ≤ byt s k ∧ byt s k ≤ 90) = false from decide_eq_false c2)] at HG
  rw [(show decide (48 ≤ byt s k ∧ byt s k ≤ 57) = false from decide_eq_false c3)] at HD
  have HO := Lib.hid (oneTok_of (s := s) (k := k) (r := k) (n := 3) (by unfold oneKind; rw [if_neg c1, if_neg c2, if_neg c3, if_pos c4, if_neg c5]) (by decide))
  have d4 : ((s[k].toNat : Int) == 36) = true := by rw [beq_iff_eq, ← byt_of hk]; exact c4
  have d5 : decide ((k : Int) + 1 < (s.size : Nat)) = false := decide_eq_false (by omega)
  unfold OneSays
  clear c1 c2 c3 c4 c5
  have hsl := fun w => slice_to s k k k k rfl rfl (Nat.le_refl _) (by omega) w
  generalize s.extract k k = tx at hsl
  go_enter Try.func89, Try.ntmps89
  go_wp2_with (first | (go_at_call 86; refine (HS.out _).mono ?_; rintro e w' ⟨rfl, rfl⟩) | (go_at_call 105; refine (HG.out _).mono ?_; rintro e w' ⟨rfl, rfl⟩) | (go_at_call 106; refine (HD.out _).mono ?_; rintro e w' ⟨rfl, rfl⟩))
  refine bodyPost_ret (v := .tuple #[.agg #[.int .i64 3, .string tx, .int .i64 k], .int .i64 k]) (by simp [results, Try.results89, go_sem]) rfl ?_
  exact ⟨⟨⟨3, tx, k⟩, by rw [HO.out.1]; rfl, fun h => by rw [HO.out.1] at h; exact absurd h (Nat.lt_irrefl _)⟩, by go_grown⟩
set_option maxRecDepth 100000 in
set_option maxHeartbeats 2000000 in
theorem one_quote1 (s : ByteArray) (hs : s.size ≤ 1073741824) (k : Nat) (hk : k < s.size) (w : World) (c1 : ¬ (97 ≤ byt s k ∧ byt s k ≤ 122)) (c2 : ¬ (65 ≤ byt s k ∧ byt s k ≤ 90)) (c3 : ¬ (48 ≤ byt s k ∧ byt s k ≤ 57)) (c4 : byt s k = 39) (c5 : k < quotedEnd s k) :
    Calls Try.prog 89 #[.string s, .int .i64 k] w (OneSays s k w) := by
  have hk' : (k : Int) < (s.size : Nat) := by omega
  have hwk : IntKind.i64.wrap ((k : Int) + 1) = (k : Int) + 1 := IntWalk.i64_in _ (by omega)
  have hcl := s[k].toNat_lt
  have HS := Lib.hid (fun w => tokSmall_any s[k] w)
  have HG := Lib.hid (fun w => tokGreat_any s[k] w)
  have HD := Lib.hid (fun w => tokDigit_any s[k] w)
  rw [small_iff s k hk] at HS
  rw [great_iff s k hk] at HG
  rw [digit_iff s k hk] at HD
  rw [(show decide (97 ≤ byt s k ∧ byt s k ≤ 122) = false from decide_eq_false c1)] at HS
  rw [(show decide (65 ≤ byt s k ∧ byt s k ≤ 90) = false from decide_eq_false c2)] at HG
  rw [(show decide (48 ≤ byt s k ∧ byt s k ≤ 57) = false from decide_eq_false c3)] at HD
  have HW := Lib.hid (fun w => tokQuoted_any s hs k hk w)
  have hq2 := @quotedEnd_two s k
  have hq1 := quotedEnd_le hk
  have hq0 := quotedEnd_ge s k
  have HO := Lib.hid (oneTok_four (s := s) (k := k) (r := quotedEnd s k) (by unfold oneKind; rw [if_neg c1, if_neg c2, if_neg c3, if_neg (by omega), if_pos c4]))
  have d4 : ((s[k].toNat : Int) == 36) = false := by rw [beq_eq_false_iff_ne, ← byt_of hk]; omega
  have d5 : ((s[k].toNat : Int) == 39) = true := by rw [beq_iff_eq, ← byt_of hk]; exact c4
  unfold OneSays
  generalize quotedEnd s k = r at *
  clear c1 c2 c3 c4
  have h2 := hq2 c5
  have d6 : decide ((k : Int) < (r : Nat)) = true := decide_eq_true (by omega)
  have d7 : (k : Int) + 1 ≤ (r : Int) - 1 := by omega
  have d8 : (r : Int) - 1 ≤ (s.size : Nat) := by omega
  have d9 : IntKind.i64.wrap ((r : Int) - 1) = (r : Int) - 1 := IntWalk.i64_in _ (by omega)
  have d10 : ((r : Int) - 1).toNat = r - 1 := by omega
  have d11 : ((k : Int) + 1).toNat = k + 1 := by omega
  have hsl := fun w => slice_to s (k + 1) (r - 1) ((k : Int) + 1) ((r : Int) - 1) (by omega) (by omega) (by omega) (by omega) w
  generalize s.extract (k + 1) (r - 1) = tx at hsl HO
  clear hq2 d10 d11 d7 d8
  go_enter Try.func89, Try.ntmps89
  go_wp2_with (first | (go_at_call 107; refine (HW.out _).mono ?_; rintro e w' ⟨rfl, rfl⟩) | (go_at_call 86; refine (HS.out _).mono ?_; rintro e w' ⟨rfl, rfl⟩) | (go_at_call 105; refine (HG.out _).mono ?_; rintro e w' ⟨rfl, rfl⟩) | (go_at_call 106; refine (HD.out _).mono ?_; rintro e w' ⟨rfl, rfl⟩))
  refine bodyPost_ret (v := .tuple #[.agg #[.int .i64 4, .string (tx), .int .i64 k], .int .i64 r]) (by simp [results, Try.results89, go_sem]) rfl ?_
  exact ⟨⟨⟨4, tx, k⟩, by rw [HO.out.1]; rfl, fun _ => HO.out.2.symm⟩, by go_grown⟩
set_option maxRecDepth 100000 in
set_option maxHeartbeats 2000000 in
theorem one_quote2 (s : ByteArray) (hs : s.size ≤ 1073741824) (k : Nat) (hk : k < s.size) (w : World) (c1 : ¬ (97 ≤ byt s k ∧ byt s k ≤ 122)) (c2 : ¬ (65 ≤ byt s k ∧ byt s k ≤ 90)) (c3 : ¬ (48 ≤ byt s k ∧ byt s k ≤ 57)) (c4 : byt s k = 39) (c5 : ¬ k < quotedEnd s k) :
    Calls Try.prog 89 #[.string s, .int .i64 k] w (OneSays s k w) := by
  have hk' : (k : Int) < (s.size : Nat) := by omega
  have hwk : IntKind.i64.wrap ((k : Int) + 1) = (k : Int) + 1 := IntWalk.i64_in _ (by omega)
  have hcl := s[k].toNat_lt
  have HS := Lib.hid (fun w => tokSmall_any s[k] w)
  have HG := Lib.hid (fun w => tokGreat_any s[k] w)
  have HD := Lib.hid (fun w => tokDigit_any s[k] w)
  rw [small_iff s k hk] at HS
  rw [great_iff s k hk] at HG
  rw [digit_iff s k hk] at HD
  rw [(show decide (97 ≤ byt s k ∧ byt s k ≤ 122) = false from decide_eq_false c1)] at HS
  rw [(show decide (65 ≤ byt s k ∧ byt s k ≤ 90) = false from decide_eq_false c2)] at HG
  rw [(show decide (48 ≤ byt s k ∧ byt s k ≤ 57) = false from decide_eq_false c3)] at HD
  have HW := Lib.hid (fun w => tokQuoted_any s hs k hk w)
  have hq2 := @quotedEnd_two s k
  have hq1 := quotedEnd_le hk
  have hq0 := quotedEnd_ge s k
  have HO := Lib.hid (oneTok_four (s := s) (k := k) (r := quotedEnd s k) (by unfold oneKind; rw [if_neg c1, if_neg c2, if_neg c3, if_neg (by omega), if_pos c4]))
  have d4 : ((s[k].toNat : Int) == 36) = false := by rw [beq_eq_false_iff_ne, ← byt_of hk]; omega
  have d5 : ((s[k].toNat : Int) == 39) = true := by rw [beq_iff_eq, ← byt_of hk]; exact c4
  unfold OneSays
  generalize quotedEnd s k = r at *
  clear c1 c2 c3 c4
  have d6 : decide ((k : Int) < (r : Nat)) = false := decide_eq_false (by omega)
  clear hq2
  go_enter Try.func89, Try.ntmps89
  go_wp2_with (first | (go_at_call 107; refine (HW.out _).mono ?_; rintro e w' ⟨rfl, rfl⟩) | (go_at_call 86; refine (HS.out _).mono ?_; rintro e w' ⟨rfl, rfl⟩) | (go_at_call 105; refine (HG.out _).mono ?_; rintro e w' ⟨rfl, rfl⟩) | (go_at_call 106; refine (HD.out _).mono ?_; rintro e w' ⟨rfl, rfl⟩))
  refine bodyPost_ret (v := .tuple #[.agg #[.int .i64 4, .string (⟨#[]⟩), .int .i64 k], .int .i64 r]) (by simp [results, Try.results89, go_sem]) rfl ?_
  exact ⟨⟨⟨4, ⟨#[]⟩, k⟩, by rw [HO.out.1]; rfl, fun h => by rw [HO.out.1] at h; exact absurd h c5⟩, by go_grown⟩
set_option maxRecDepth 100000 in
set_option maxHeartbeats 2000000 in
theorem one_sign (s : ByteArray) (hs : s.size ≤ 1073741824) (k : Nat) (hk : k < s.size) (w : World) (c1 : ¬ (97 ≤ byt s k ∧ byt s k ≤ 122)) (c2 : ¬ (65 ≤ byt s k ∧ byt s k ≤ 90)) (c3 : ¬ (48 ≤ byt s k ∧ byt s k ≤ 57)) (c4 : ¬ byt s k = 36) (c5 : ¬ byt s k = 39) :
    Calls Try.prog 89 #[.string s, .int .i64 k] w (OneSays s k w) := by
  have hk' : (k : Int) < (s.size : Nat) := by omega
  have hwk : IntKind.i64.wrap ((k : Int) + 1) = (k : Int) + 1 := IntWalk.i64_in _ (by omega)
  have hcl := s[k].toNat_lt
  have HS := Lib.hid (fun w => tokSmall_any s[k] w)
  have HG := Lib.hid (fun w => tokGreat_any s[k] w)
  have HD := Lib.hid (fun w => tokDigit_any s[k] w)
  rw [small_iff s k hk] at HS
  rw [great_iff s k hk] at HG
  rw [digit_iff s k hk] at HD
  rw [(show decide (97 ≤ byt s k ∧ byt s k ≤ 122) = false from decide_eq_false c1)] at HS
  rw [(show decide (65 ≤ byt s k ∧ byt s k ≤ 90) = false from decide_eq_false c2)] at HG
  rw [(show decide (48 ≤ byt s k ∧ byt s k ≤ 57) = false from decide_eq_false c3)] at HD
  have hsz : (s.extract k s.size).size = s.size - k := by simp
  have hsl := signLen_le (s.data.toList.drop k)
  rw [show (s.data.toList.drop k).length = s.size - k by simp] at hsl
  have HX := Lib.hid (fun w => tokSign_any (s.extract k s.size) (by omega) (by omega) w)
  rw [Lib.extract_to_end] at HX
  have HO := Lib.hid (oneTok_of (s := s) (k := k) (r := k + signLen (s.data.toList.drop k)) (n := 6) (by unfold oneKind; rw [if_neg c1, if_neg c2, if_neg c3, if_neg c4, if_neg c5]) (by decide))
  have d4 : ((s[k].toNat : Int) == 36) = false := by rw [beq_eq_false_iff_ne, ← byt_of hk]; exact c4
  have d5 : ((s[k].toNat : Int) == 39) = false := by rw [beq_eq_false_iff_ne, ← byt_of hk]; exact c5
  unfold OneSays
  generalize signLen (s.data.toList.drop k) = n at HX hsl HO
  have hn : (k : Int) + (n : Nat) ≤ (s.size : Nat) := by omega
  have hn0 : (0 : Int) ≤ (n : Nat) := by omega
  have hsl2 := fun w => slice_to s k (k + n) (k : Int) ((k : Int) + (n : Nat)) rfl (by omega) (by omega) (by omega) w
  generalize s.extract k (k + n) = tx at hsl2 HO
  have hwn : IntKind.i64.wrap ((k : Int) + (n : Nat)) = (k : Int) + (n : Nat) := IntWalk.i64_in _ (by omega)
  clear c1 c2 c3 c4 c5 hsl
  obtain ⟨W, hW⟩ : ∃ W, W = w.alloc (.cells #[.int .i64 0, .string ⟨#[]⟩, .int .i64 k] 63) := ⟨_, rfl⟩
  have hx : Ext w W := by subst hW; go_grown
  have ho := own3 w (.int .i64 0) (.string ⟨#[]⟩) (.int .i64 k) 63
  rw [← hW] at ho
  go_enter Try.func89, Try.ntmps89
  go_wp2_with (first | (go_at_call 108; rw [← hW]; clear hW; refine (HX.out _).mono ?_; rintro e w' ⟨rfl, hw'⟩; have ho1 := ho.ext hw'; obtain ⟨t0, u0⟩ := ho1 0 _ rfl; obtain ⟨t1, u1⟩ := ho1 1 _ rfl; obtain ⟨t2, u2⟩ := ho1 2 _ rfl) | (go_at_call 86; refine (HS.out _).mono ?_; rintro e w' ⟨rfl, rfl⟩) | (go_at_call 105; refine (HG.out _).mono ?_; rintro e w' ⟨rfl, rfl⟩) | (go_at_call 106; refine (HD.out _).mono ?_; rintro e w' ⟨rfl, rfl⟩))
  have hf := ((((ho1.set (i := 0) (by simp) (.int .i64 6)).set (i := 1) (by simp) (.string tx)).set (i := 0) (by simp) (.int .i64 6)).set (i := 1) (by simp) (.string tx)).set (i := 2) (by simp) (.int .i64 k)
  have r0 := (hf 0 (.int .i64 6) rfl).1
  have r1 := (hf 1 (.string tx) rfl).1
  have r2 := (hf 2 (.int .i64 k) rfl).1
  refine bodyPost_ret (v := .tuple #[.agg #[.int .i64 6, .string tx, .int .i64 k], .int .i64 ((k : Int) + (n : Nat))]) (by simp [results, Try.results89, go_sem, r0, r1, r2]) rfl ?_
  refine ⟨⟨⟨6, tx, k⟩, by rw [HO.out.1]; rfl, fun _ => HO.out.2.symm⟩, Chg.ext (S := [w.heap.size]) (hx.trans hw') ?_ (by simp)⟩
  exact (((((Chg.refl _ _).setCell _ (.inl (by simp))).setCell _ (.inl (by simp))).setCell _ (.inl (by simp))).setCell _ (.inl (by simp))).setCell _ (.inl (by simp))
theorem token_any (s : ByteArray) (hs : s.size ≤ 1073741824) (k : Nat) (hk : k < s.size) (w : World) : Calls Try.prog 89 #[.string s, .int .i64 k] w (OneSays s k w) := by
  by_cases c1 : 97 ≤ byt s k ∧ byt s k ≤ 122
  · exact one_small s hs k hk w c1
  by_cases c2 : 65 ≤ byt s k ∧ byt s k ≤ 90
  · exact one_great s hs k hk w c1 c2
  by_cases c3 : 48 ≤ byt s k ∧ byt s k ≤ 57
  · exact one_digit s hs k hk w c1 c2 c3
  by_cases c4 : byt s k = 36
  · by_cases h1 : k + 1 < s.size
    · by_cases c5 : 97 ≤ byt s (k + 1) ∧ byt s (k + 1) ≤ 122
      · exact one_dollar1 s hs k hk w c1 c2 c3 c4 h1 c5
      · exact one_dollar2 s hs k hk w c1 c2 c3 c4 h1 c5
    · exact one_dollar3 s hs k hk w c1 c2 c3 c4 h1 (by rw [byt_none (by omega)]; omega)
  by_cases c5 : byt s k = 39
  · by_cases h1 : k < quotedEnd s k
    · exact one_quote1 s hs k hk w c1 c2 c3 c5 h1
    · exact one_quote2 s hs k hk w c1 c2 c3 c5 h1
  · exact one_sign s hs k hk w c1 c2 c3 c4 c5
end Go.Proofs.Ytnclgkdpafhogaa
namespace Go.Proofs.Ytnclgkdpafhogaa
inductive CStep where
  | done
  | skip (k : Nat)
  | bad (e : Int)
  | tok (t : Tok) (k : Nat)
/-- what stands at a place -/
def cutStep (s : ByteArray) (k : Nat) : CStep :=
  if s.size ≤ k then .done
  else if byt s k = 32 ∨ byt s k = 9 ∨ byt s k = 10 ∨ byt s k = 13 then .skip (k + 1)
  else if remarkEnd s k ≠ k then .skip (remarkEnd s k)
  else if oneEnd s k = k then .bad 220
  else if (oneTok s k).kind ≠ 6 ∧ 40 < (oneTok s k).text.size then .bad 3
  else .tok (oneTok s k) (oneEnd s k)
def endTok (s : ByteArray) : Tok := ⟨7, ⟨#[]⟩, s.size⟩
/-- the tokens from a place on, up to a fault; its place and the error -/
def cutRun (s : ByteArray) : Nat → Nat → List Tok × Nat × Int
  | 0, _ => ([], 0, 0)
  | f + 1, k => match cutStep s k with
    | .done => ([endTok s], 0, 0)
    | .skip k' => cutRun s f k'
    | .bad e => ([], k, e)
    | .tok t k' => (t :: (cutRun s f k').1, (cutRun s f k').2)

theorem closeAt_ge {s : ByteArray} {i j : Nat} (h : closeAt s i = some j) : i + 2 ≤ j := by
  unfold closeAt at h
  split at h
  · injection h with h; omega
  · cases h
theorem closeAt_le {s : ByteArray} {i j : Nat} (hi : i ≤ s.size) (h : closeAt s i = some j) : j ≤ s.size := by
  by_cases h1 : i < s.size
  · rw [closeAt_step h1] at h
    split at h
    · rename_i hc
      injection h with h
      rcases Nat.lt_or_ge (i + 1) s.size with h2 | h2
      · omega
      · have := hc.2; rw [byt_none h2] at this; omega
    · exact closeAt_le (by omega) h
  · rw [closeAt_end (by omega)] at h; cases h
termination_by s.size - i
theorem remarkEnd_ge (s : ByteArray) (k : Nat) : k ≤ remarkEnd s k := by
  unfold remarkEnd
  split
  · exact runTo_ge _ _ _
  · split
    · cases h : closeAt s (k + 2) with
      | none => exact Nat.le_refl _
      | some j => have := closeAt_ge h; simp; omega
    · exact Nat.le_refl _
theorem remarkEnd_le {s : ByteArray} {k : Nat} (hk : k < s.size) : remarkEnd s k ≤ s.size := by
  unfold remarkEnd
  split
  · exact runTo_le (by omega)
  · split
    · rename_i hc
      cases h : closeAt s (k + 2) with
      | none => simp; omega
      | some j =>
        have : k + 1 < s.size := by
          rcases Nat.lt_or_ge (k + 1) s.size with h2 | h2
          · exact h2
          · have := hc.2; rw [byt_none h2] at this; omega
        exact closeAt_le (by omega) h
    · omega
theorem remarkEnd_other {s : ByteArray} {k : Nat} (h1 : byt s k ≠ 37) (h2 : byt s k ≠ 47) : remarkEnd s k = k := by
  unfold remarkEnd
  rw [if_neg h1, if_neg (fun h => h2 h.1)]
theorem cutStep_skip {s : ByteArray} {k k' : Nat} (h : cutStep s k = .skip k') : k < k' ∧ k' ≤ s.size := by
  unfold cutStep at h
  split at h
  · cases h
  · rename_i hk
    split at h
    · injection h with h; omega
    · split at h
      · rename_i hr
        injection h with h
        have := remarkEnd_ge s k
        have := remarkEnd_le (s := s) (k := k) (by omega)
        omega
      · split at h
        · cases h
        · split at h <;> cases h
theorem cutStep_tok {s : ByteArray} {k k' : Nat} {t : Tok} (h : cutStep s k = .tok t k') : k < k' ∧ k' ≤ s.size ∧ k < s.size ∧ t = oneTok s k ∧ k' = oneEnd s k := by
  unfold cutStep at h
  split at h
  · cases h
  · rename_i hk
    split at h
    · cases h
    · split at h
      · cases h
      · split at h
        · cases h
        · rename_i ho
          split at h
          · cases h
          · injection h with h1 h2
            have := oneEnd_ge s k
            have := oneEnd_le (s := s) (k := k) (by omega)
            exact ⟨by omega, by omega, by omega, h1.symm, h2.symm⟩
/-- more fuel makes no difference -/
theorem cutRun_more {s : ByteArray} : ∀ {f g k : Nat}, s.size < f + k → s.size < g + k → k ≤ s.size → cutRun s f k = cutRun s g k
  | 0, _, _, h, _, _ => by omega
  | _ + 1, 0, _, _, h, _ => by omega
  | f + 1, g + 1, k, h1, h2, hk => by
    unfold cutRun
    cases hc : cutStep s k with
    | done => rfl
    | skip k' => obtain ⟨h3, h4⟩ := cutStep_skip hc; exact cutRun_more (by omega) (by omega) h4
    | bad e => rfl
    | tok t k' =>
      obtain ⟨h3, h4, -⟩ := cutStep_tok hc
      simp only
      rw [cutRun_more (f := f) (g := g) (by omega) (by omega) h4]
def cutFrom (s : ByteArray) (k : Nat) : List Tok × Nat × Int := cutRun s (s.size + 1 - k) k
theorem cutFrom_eq {s : ByteArray} {k : Nat} (hk : k ≤ s.size) : cutFrom s k = match cutStep s k with
    | .done => ([endTok s], 0, 0)
    | .skip k' => cutFrom s k'
    | .bad e => ([], k, e)
    | .tok t k' => (t :: (cutFrom s k').1, (cutFrom s k').2) := by
  unfold cutFrom
  rw [show s.size + 1 - k = (s.size - k) + 1 by omega]
  conv => lhs; unfold cutRun
  cases hc : cutStep s k with
  | done => rfl
  | skip k' =>
    obtain ⟨h3, h4⟩ := cutStep_skip hc
    exact cutRun_more (by omega) (by omega) h4
  | bad e => rfl
  | tok t k' =>
    obtain ⟨h3, h4, -⟩ := cutStep_tok hc
    simp only
    rw [cutRun_more (f := s.size - k) (g := s.size + 1 - k') (by omega) (by omega) h4]
end Go.Proofs.Ytnclgkdpafhogaa
namespace Go.Proofs.Ytnclgkdpafhogaa
open Go.ChangeShapes Go.WideShapes Go.ChangeAt Go.RowKit
theorem oneKind_some (s : ByteArray) (k : Nat) : 1 ≤ (oneKind s k).1 ∧ (oneKind s k).1 ≤ 6 := by
  unfold oneKind
  repeat' split
  all_goals (simp only; omega)
theorem oneTok_ok {s : ByteArray} (hs : s.size ≤ 1073741824) {k : Nat} (hk : k < s.size) : (oneTok s k).ok := by
  obtain ⟨h1, h2⟩ := oneKind_some s k
  refine ⟨⟨by unfold oneTok; simp only; omega, by unfold oneTok; simp only; omega⟩, ?_, by unfold oneTok; simp only; omega, by unfold oneTok; simp only; omega⟩
  unfold oneTok
  simp only
  split <;> simp <;> omega
theorem endTok_ok {s : ByteArray} (hs : s.size ≤ 1073741824) : (endTok s).ok := ⟨by unfold endTok; simp, by unfold endTok; exact Nat.zero_le _, by unfold endTok; simp only; omega, by unfold endTok; simp only; omega⟩
/-- what both hand back: a row of tokens, a place, an error -/
def TokRow (B : Nat) (w : World) (v : Value) (l : List Tok) : Prop := GRow (eltDat 3) 63 B w v (l.map Tok.dat)

end Go.Proofs.Ytnclgkdpafhogaa
namespace Go.Proofs.Ytnclgkdpafhogaa
open Go.ChangeShapes Go.WideShapes Go.ChangeAt Go.RowKit
/-- a text's tokens, or the first fault's place and the error -/
def cutAll (s : ByteArray) : List Tok × Nat × Int := if (cutFrom s 0).2.2 = 0 then ((cutFrom s 0).1, 0, 0) else ([], (cutFrom s 0).2)
def cutS (s : ByteArray) : List Tok × Nat × Int := if 8000 < s.size then ([], 0, 3) else cutAll s
def CutSays (c : List Tok × Nat × Int) (w : World) (e : Ending) (w' : World) : Prop := (∃ v, e = .returned (.tuple #[v, .int .i64 (c.2.1 : Nat), .int .i64 c.2.2]) ∧ TokRow w.heap.size w' v c.1) ∧ Ext w w'
theorem CutSays.mk {c : List Tok × Nat × Int} {w w' : World} {v : Value} {e : Ending} (h1 : e = .returned (.tuple #[v, .int .i64 (c.2.1 : Nat), .int .i64 c.2.2])) (h2 : TokRow w.heap.size w' v c.1) (h3 : Ext w w') : CutSays c w e w' := ⟨⟨v, h1, h2⟩, h3⟩

end Go.Proofs.Ytnclgkdpafhogaa
namespace Go.Proofs.Ytnclgkdpafhogaa
/-- the last token is an end -/
def Ends (ks : List Tok) : Prop := ∃ p t, ks = p ++ [t] ∧ t.kind = 7
theorem Ends.tail {t : Tok} {r : List Tok} (h : Ends (t :: r)) (ht : t.kind ≠ 7) : Ends r := by
  obtain ⟨p, u, h1, h2⟩ := h
  cases p with
  | nil =>
    simp only [List.nil_append, List.cons.injEq] at h1
    rw [h1.1] at ht; exact absurd h2 ht
  | cons x p =>
    rw [List.cons_append] at h1
    injection h1 with _ h1
    exact ⟨p, u, h1, h2⟩
def Pres {α : Type} (one : List Tok → Rd α) : Prop := ∀ ks x r, Ends ks → one ks = .ok x r → Ends r
theorem takeS_ends {s : ByteArray} {ks r : List Tok} (he : Ends ks) (h : takeS s ks = some r) : Ends r := by
  cases ks with
  | nil => cases h
  | cons t ks =>
    rw [takeS_cons] at h
    split at h
    · rename_i ht
      injection h with h; subst h
      refine he.tail ?_
      unfold Tok.sign at ht
      rw [Bool.and_eq_true, decide_eq_true_eq] at ht
      rw [ht.1]; decide
    · cases h
theorem mustS_pres (s : ByteArray) : Pres (mustS s) := fun ks x r he h => by
  unfold mustS at h
  split at h
  · rename_i h'; injection h with _ h; subst h; exact takeS_ends he h'
  · cases h
theorem kindK_pres {k : Int} (hk : k ≠ 7) : Pres (kindK k) := fun ks x r he h => by
  cases ks with
  | nil => cases h
  | cons t ks =>
    rw [kindK_cons] at h
    split at h
    · rename_i ht; injection h with _ h; subst h; exact he.tail (by rw [ht]; exact hk)
    · cases h
theorem moreF_pres {α : Type} {one : List Tok → Rd α} {sep : ByteArray} (h1 : Pres one) : ∀ f, Pres (moreF one sep f)
  | 0 => fun ks x r he h => by cases h
  | f + 1 => fun ks x r he h => by
    unfold moreF at h
    split at h
    · injection h with _ h; subst h; exact he
    · rename_i r1 ht
      obtain ⟨y, r2, h2, h⟩ := bind_ok h
      obtain ⟨z, h3, -⟩ := map_ok h
      exact moreF_pres h1 f r2 z r (h1 _ _ _ (takeS_ends he ht) h2) h3
theorem more_pres {α : Type} {one : List Tok → Rd α} {sep : ByteArray} (h1 : Pres one) : Pres (more one sep) := fun ks x r he h => moreF_pres h1 _ ks x r he h
theorem rowR_pres {α : Type} {one : List Tok → Rd α} {sep : ByteArray} (h1 : Pres one) : Pres (rowR one sep) := fun ks x r he h => by
  unfold rowR at h
  obtain ⟨y, r2, h2, h⟩ := bind_ok h
  obtain ⟨z, h3, -⟩ := map_ok h
  exact more_pres h1 r2 z r (h1 _ _ _ he h2) h3
theorem named_kind {t : Tok} (h : t.named = true) : t.kind ≠ 7 := fun h7 => by
  unfold Tok.named at h; rw [h7] at h; simp at h
theorem termStep_pres {one : List Tok → Rd Ex} (h1 : Pres one) : Pres (termStep one) := fun ks x r he h => by
  cases ks with
  | nil => cases h
  | cons t ks =>
    rw [termStep_cons] at h
    split at h
    · rename_i h2; injection h with _ h; subst h; exact he.tail (by rw [h2]; decide)
    · split at h
      · rename_i hn
        have he2 := he.tail (named_kind hn)
        split at h
        · injection h with _ h; subst h; exact he2
        · rename_i r1 ht
          obtain ⟨y, r2, h2, h⟩ := bind_ok h
          obtain ⟨z, h3, -⟩ := map_ok h
          exact mustS_pres _ _ _ _ (rowR_pres h1 _ _ _ (takeS_ends he2 ht) h2) h3
      · cases h
theorem rTermF_pres : ∀ f, Pres (rTermF f)
  | 0 => fun ks x r he h => by cases h
  | f + 1 => termStep_pres (rTermF_pres f)
theorem rTerm_pres : Pres rTerm := fun ks x r he h => rTermF_pres _ ks x r he h
theorem rAtomic_pres : Pres rAtomic := fun ks x r he h => by
  have tl : ∀ tx : ByteArray, (ks.head?.map fun t => decide (t.kind = 3) && decide (t.text = tx)) = some true → Ends ks.tail := fun tx ht => by
    cases ks with
    | nil => cases ht
    | cons t ks =>
      simp only [List.head?_cons, Option.map_some, Option.some.injEq, Bool.and_eq_true, decide_eq_true_eq] at ht
      exact he.tail (by rw [ht.1]; decide)
  unfold rAtomic at h
  split at h
  · rename_i ht; injection h with _ h; subst h; exact tl _ ht
  · split at h
    · rename_i ht; injection h with _ h; subst h; exact tl _ ht
    · obtain ⟨y, r2, h2, h⟩ := bind_ok h
      have he2 := rTerm_pres _ _ _ he h2
      split at h
      · rename_i ht
        obtain ⟨z, h3, -⟩ := map_ok h
        exact rTerm_pres _ _ _ (takeS_ends he2 ht) h3
      · split at h
        · rename_i ht
          obtain ⟨z, h3, -⟩ := map_ok h
          exact rTerm_pres _ _ _ (takeS_ends he2 ht) h3
        · split at h
          · cases h
          · injection h with _ h; subst h; exact he2
theorem boundStep_pres {u : List Tok → Rd Fm} (h1 : Pres u) (op : Int) : Pres (boundStep u op) := fun ks x r he h => by
  unfold boundStep at h
  obtain ⟨_, r1, h2, h⟩ := bind_ok h
  obtain ⟨_, r2, h3, h⟩ := bind_ok h
  obtain ⟨_, r3, h4, h⟩ := bind_ok h
  obtain ⟨_, r4, h5, h⟩ := bind_ok h
  obtain ⟨z, h6, -⟩ := map_ok h
  exact h1 _ _ _ (mustS_pres _ _ _ _ (mustS_pres _ _ _ _ (rowR_pres (kindK_pres (by decide)) _ _ _ (mustS_pres _ _ _ _ he h2) h3) h4) h5) h6
theorem behindStep_pres {u : List Tok → Rd Fm} (h1 : Pres u) (f : Fm) : Pres (behindStep u f) := fun ks x r he h => by
  cases ks with
  | nil => injection h with _ h; subst h; exact he
  | cons t ks =>
    rw [behindStep_cons] at h
    split at h
    · injection h with _ h; subst h; exact he
    · rename_i h6
      split at h
      · obtain ⟨z, h3, -⟩ := map_ok h; exact more_pres h1 _ _ _ he h3
      · split at h
        · obtain ⟨z, h3, -⟩ := map_ok h; exact more_pres h1 _ _ _ he h3
        · split at h
          · obtain ⟨z, h3, -⟩ := map_ok h
            exact h1 _ _ _ (he.tail (by have : t.kind = 6 := Classical.not_not.1 h6; rw [this]; decide)) h3
          · injection h with _ h; subst h; exact he
theorem formStep_pres {u : List Tok → Rd Fm} (h1 : Pres u) : Pres (formStep u) := fun ks x r he h => by
  unfold formStep at h
  obtain ⟨y, r2, h2, h⟩ := bind_ok h
  exact behindStep_pres h1 y _ _ _ (h1 _ _ _ he h2) h
theorem unitStep_pres {u : List Tok → Rd Fm} (h1 : Pres u) : Pres (unitStep u) := fun ks x r he h => by
  unfold unitStep at h
  split at h
  · rename_i ht
    obtain ⟨z, h3, -⟩ := map_ok h
    exact h1 _ _ _ (takeS_ends he ht) h3
  · split at h
    · rename_i ht; exact boundStep_pres h1 _ _ _ _ (takeS_ends he ht) h
    · split at h
      · rename_i ht; exact boundStep_pres h1 _ _ _ _ (takeS_ends he ht) h
      · split at h
        · rename_i ht
          obtain ⟨y, r2, h2, h⟩ := bind_ok h
          obtain ⟨z, h3, -⟩ := map_ok h
          exact mustS_pres _ _ _ _ (formStep_pres h1 _ _ _ (takeS_ends he ht) h2) h3
        · exact rAtomic_pres _ _ _ he h
theorem rUnitF_pres : ∀ f, Pres (rUnitF f)
  | 0 => fun ks x r he h => by cases h
  | f + 1 => unitStep_pres (rUnitF_pres f)
theorem rUnit_pres : Pres rUnit := fun ks x r he h => rUnitF_pres _ ks x r he h
theorem rForm_pres : Pres rForm := fun ks x r he h => formStep_pres rUnit_pres ks x r he h

/-- a text's tokens end with an end -/
theorem cutFrom_ends {s : ByteArray} : ∀ {k : Nat}, k ≤ s.size → (cutFrom s k).2.2 = 0 → Ends (cutFrom s k).1 := by
  suffices h : ∀ n k, n = s.size - k → k ≤ s.size → (cutFrom s k).2.2 = 0 → Ends (cutFrom s k).1 from fun {k} hk h0 => h _ k rfl hk h0
  intro n
  induction n using Nat.strongRecOn with
  | ind n ih =>
    intro k hn hk h0
    rw [cutFrom_eq hk] at h0 ⊢
    cases hc : cutStep s k with
    | done => exact ⟨[], endTok s, rfl, rfl⟩
    | skip k' =>
      rw [hc] at h0
      obtain ⟨h1, h2⟩ := cutStep_skip hc
      exact ih _ (by omega) k' rfl h2 h0
    | bad e =>
      rw [hc] at h0
      unfold cutStep at hc
      have : e = 220 ∨ e = 3 := by
        repeat' (split at hc)
        all_goals first
          | (cases hc; done)
          | (injection hc with hc; exact .inl hc.symm)
          | (injection hc with hc; exact .inr hc.symm)
      simp only at h0
      omega
    | tok t k' =>
      rw [hc] at h0
      obtain ⟨h1, h2, -⟩ := cutStep_tok hc
      obtain ⟨p, u, h3, h4⟩ := ih _ (by omega) k' rfl h2 h0
      exact ⟨t :: p, u, by simp only [h3, List.cons_append], h4⟩
theorem cutFrom_len {s : ByteArray} : ∀ {k : Nat}, k ≤ s.size → (cutFrom s k).1.length ≤ s.size + 1 - k := by
  suffices h : ∀ n k, n = s.size - k → k ≤ s.size → (cutFrom s k).1.length ≤ s.size + 1 - k from fun {k} hk => h _ k rfl hk
  intro n
  induction n using Nat.strongRecOn with
  | ind n ih =>
    intro k hn hk
    rw [cutFrom_eq hk]
    cases hc : cutStep s k with
    | done => simp; omega
    | skip k' =>
      obtain ⟨h1, h2⟩ := cutStep_skip hc
      have := ih _ (by omega) k' rfl h2
      simp only
      omega
    | bad e => simp
    | tok t k' =>
      obtain ⟨h1, h2, -⟩ := cutStep_tok hc
      have := ih _ (by omega) k' rfl h2
      simp only [List.length_cons]
      omega
end Go.Proofs.Ytnclgkdpafhogaa
namespace Go.Proofs.Ytnclgkdpafhogaa
open Go.ChangeShapes Go.WideShapes Go.ChangeAt Go.RowKit
set_option maxHeartbeats 1000000 in
theorem counts_any (n : Nat) (want : Int) (hn : n ≤ 1073741824) (hw : -1000 ≤ want) (hw' : want ≤ 1000) (w : World) :
    Calls Try.prog 46 #[.int .i64 n, .int .i64 want] w fun e w' => e = .returned (.bool (counted n want)) ∧ w = w' := by
  by_cases h1 : (n : Int) = want
  · have q1 : ((n : Int) == want) = true := by rw [beq_iff_eq]; exact h1
    have HR := Lib.hid (show counted n want = true by unfold counted; rw [if_neg (by omega), decide_eq_true h1])
    clear h1
    go_enter Try.func46, Try.ntmps46
    go_wp2
    go_ret
    exact ⟨ret_bool HR.out.symm, rfl⟩
  have q1 : ((n : Int) == want) = false := by rw [beq_eq_false_iff_ne]; exact h1
  by_cases h2 : want < 0
  · have q2 : decide (want < 0) = true := decide_eq_true h2
    have hneg : IntKind.i64.wrap (-want) = -want := IntWalk.i64_in _ (by omega)
    by_cases h3 : -want ≤ n
    · have q3 : decide (-want ≤ n) = true := decide_eq_true h3
      have HR := Lib.hid (show counted n want = true by unfold counted; rw [if_pos h2, decide_eq_true h3])
      clear h1 h2 h3
      go_enter Try.func46, Try.ntmps46
      go_wp2
      go_ret
      exact ⟨ret_bool (by rw [HR.out]), rfl⟩
    · have q3 : decide (-want ≤ n) = false := decide_eq_false h3
      have HR := Lib.hid (show counted n want = false by unfold counted; rw [if_pos h2, decide_eq_false h3])
      clear h1 h2 h3
      go_enter Try.func46, Try.ntmps46
      go_wp2
      go_ret
      exact ⟨ret_bool (by rw [HR.out]), rfl⟩
  · have q2 : decide (want < 0) = false := decide_eq_false h2
    have HR := Lib.hid (show counted n want = false by unfold counted; rw [if_neg h2, decide_eq_false h1])
    clear h1 h2
    go_enter Try.func46, Try.ntmps46
    go_wp2
    go_ret
    exact ⟨ret_bool (by rw [HR.out]), rfl⟩
set_option maxHeartbeats 1000000 in
theorem upper_any (s : ByteArray) (hs : s.size ≤ 1073741824) (w : World) :
    Calls Try.prog 47 #[.string s] w fun e w' => e = .returned (.bool (upperS s)) ∧ w = w' := by
  have HN := Lib.hid (fun w => tokName_any s hs w)
  unfold upperS
  cases hn : named s with
  | false =>
    rw [hn] at HN
    go_enter Try.func47, Try.ntmps47
    go_wp2_with (go_at_call 68; refine (HN.out _).mono ?_; rintro e w' ⟨rfl, rfl⟩)
    go_ret
    exact ⟨rfl, rfl⟩
  | true =>
    rw [hn] at HN
    have h1 := (named_pos hn).1
    have hi : (0 : Int) < (s.size : Nat) := by omega
    have hi' : 0 < s.size := by omega
    have hb := byt_of hi'
    have hcl := s[0].toNat_lt
    by_cases h65 : 65 ≤ (s[0].toNat : Int)
    · have q1 : decide ((65 : Int) ≤ s[0].toNat) = true := decide_eq_true h65
      by_cases h90 : (s[0].toNat : Int) ≤ 90
      · have q2 : decide ((s[0].toNat : Int) ≤ 90) = true := decide_eq_true h90
        have HR := Lib.hid (show (true && decide (65 ≤ byt s 0 ∧ byt s 0 ≤ 90)) = true by rw [hb, decide_eq_true ⟨h65, h90⟩]; rfl)
        clear hb h65 h90
        go_enter Try.func47, Try.ntmps47
        go_wp2_with (go_at_call 68; refine (HN.out _).mono ?_; rintro e w' ⟨rfl, rfl⟩)
        go_ret
        exact ⟨ret_bool (by rw [HR.out]), rfl⟩
      · have q2 : decide ((s[0].toNat : Int) ≤ 90) = false := decide_eq_false h90
        have HR := Lib.hid (show (true && decide (65 ≤ byt s 0 ∧ byt s 0 ≤ 90)) = false by rw [hb, decide_eq_false (fun h => h90 h.2)]; rfl)
        clear hb h65 h90
        go_enter Try.func47, Try.ntmps47
        go_wp2_with (go_at_call 68; refine (HN.out _).mono ?_; rintro e w' ⟨rfl, rfl⟩)
        go_ret
        exact ⟨ret_bool (by rw [HR.out]), rfl⟩
    · have q1 : decide ((65 : Int) ≤ s[0].toNat) = false := decide_eq_false h65
      have HR := Lib.hid (show (true && decide (65 ≤ byt s 0 ∧ byt s 0 ≤ 90)) = false by rw [hb, decide_eq_false (fun h => h65 h.1)]; rfl)
      clear hb h65
      go_enter Try.func47, Try.ntmps47
      go_wp2_with (go_at_call 68; refine (HN.out _).mono ?_; rintro e w' ⟨rfl, rfl⟩)
      go_ret
      exact ⟨ret_bool (by rw [HR.out]), rfl⟩
/-- a term of a row, by its contract -/
def MayOK (x : Ex) : Prop := ∀ (P : Nat → Prop) (w : World) (a b c : Value), IsEx P w a b c x → Calls Try.prog 48 #[.agg #[a, b, c]] w fun e w' => e = .returned (.bool x.may) ∧ Ext w w'
set_option maxHeartbeats 1000000 in
theorem mayFn_any {x : Ex} (hx : MayOK x) {P : Nat → Prop} {w : World} {a b c : Value} (h : IsEx P w a b c x) : Calls Try.prog 70 #[.agg #[a, b, c]] w fun e w' => e = .returned (.bool (!x.may)) ∧ Ext w w' := by
  have H := Lib.hid (fun w' (hx' : Ext w w') => hx P w' a b c (h.ext hx'))
  obtain ⟨aa, cc, rfl, rfl, rfl, -⟩ := h.form
  clear hx
  go_enter Try.func70, Try.ntmps70
  go_wp2_with (go_at_call 48; refine (H.out _ (ext_alloc _ _)).mono ?_; rintro e w' ⟨rfl, hx1⟩)
  go_ret
  exact ⟨rfl, (ext_alloc _ _).trans hx1⟩
set_option maxHeartbeats 2000000 in
theorem mayIndex_any {l : List Ex} (hl : ∀ x ∈ l, MayOK x) (hn : l.length ≤ 1073741824) {P : Nat → Prop} {w : World} {a : Option Addr} {c : Nat} (h : IsExs P w a l) :
    Calls Try.prog 94 #[.slice a l.length c, .func (.func 70) #[] #[]] w fun e w' => (∃ k : Int, e = .returned (.int .i64 k) ∧ decide (0 ≤ k) = !(Ex.mays l)) ∧ Ext w w' := by
  have HL := Lib.hid (fun w' k (hk : k < l.length) (P : Nat → Prop) a b c (h : IsEx P w' a b c l[k]) => mayFn_any (hl _ (List.getElem_mem hk)) h)
  clear hl
  go_enter Try.func94, Try.ntmps94
  go_wp2_with fail
  go_loopw [8] (fun i wr => ∃ k : Nat, k ≤ l.length ∧ i = .int .i64 k ∧ Ext w wr ∧ Ex.mays (l.take k) = true) (fun i _ => l.length - (intOf i).toNat)
  case atStart => exact ⟨0, Nat.zero_le _, rfl, Below.refl _ _, rfl⟩
  case round =>
    obtain ⟨k, hk, rfl, hx, hm⟩ := hrel
    have HM := Lib.hid hm; clear hm
    by_cases hlt : k < l.length
    · obtain ⟨b, o, a', c', rfl, hb, g1, g2, g3, hi⟩ := (h.ext hx).look hlt
      have hlt' : (k : Int) < l.length := by omega
      have HE := Lib.hid (HL.out wr k hlt P _ _ _ hi)
      have hst : Ex.mays (l.take (k + 1)) = (Ex.mays (l.take k) && l[k].may) := by
        rw [Ex.mays_all, Ex.mays_all, List.take_succ_eq_append_getElem hlt, List.all_append]; simp
      have HST := Lib.hid hst; clear hst
      cases hm : l[k].may with
      | true =>
        rw [hm] at HE HST
        have HMK := Lib.hid hm
        clear hm
        go_wp2_with (go_at_call 70; refine (HE.out).mono ?_; rintro e w1 ⟨rfl, hx1⟩)
        go_roundw
        case rel => exact ⟨k + 1, by omega, by go_num, hx.trans hx1, by rw [HST.out, HM.out]; rfl⟩
        case measure => simp [intOf]; omega
      | false =>
        rw [hm] at HE
        have HMK := Lib.hid hm
        clear hm
        go_wp2_with (go_at_call 70; refine (HE.out).mono ?_; rintro e w1 ⟨rfl, hx1⟩)
        go_ret
        refine ⟨⟨k, rfl, ?_⟩, hx.trans hx1⟩
        have h1 : Ex.mays l = false := by
          rw [Ex.mays_all]
          cases h2 : l.all Ex.may with
          | false => rfl
          | true => have := List.all_eq_true.1 h2 l[k] (List.getElem_mem hlt); rw [HMK.out] at this; cases this
        rw [h1, decide_eq_true (by omega)]; rfl
    · have hlt' : ¬ (k : Int) < l.length := by omega
      go_wp2_with fail
      go_ret
      refine ⟨⟨-1, rfl, ?_⟩, hx⟩
      have : k = l.length := by omega
      subst this
      have := HM.out
      rw [List.take_length] at this
      rw [this]; rfl
set_option maxHeartbeats 2000000 in
theorem mayAny_any {l : List Ex} (hl : ∀ x ∈ l, MayOK x) (hn : l.length ≤ 1073741824) {P : Nat → Prop} {w : World} {a : Option Addr} {c : Nat} (h : IsExs P w a l) :
    Calls Try.prog 69 #[.slice a l.length c, .func (.func 70) #[] #[]] w fun e w' => e = .returned (.bool (!(Ex.mays l))) ∧ Ext w w' := by
  have H := Lib.hid (mayIndex_any hl hn (c := c) h)
  clear h hl
  go_enter Try.func69, Try.ntmps69
  go_wp2_with (go_at_call 94; refine (H.out).mono ?_; rintro e w1 ⟨⟨k, rfl, hk⟩, hx1⟩; have HK := Lib.hid hk; clear hk)
  go_ret
  exact ⟨ret_bool HK.out, hx1⟩
set_option maxHeartbeats 2000000 in
theorem mayExpr_any (t : Ex) (hsz : t.size ≤ 4194304) : MayOK t := by
  induction t using Ex.ind with
  | h v nm l ih =>
    intro P w x y z ht
    have hkl := Ex.length_le_sizes l
    simp only [Ex.size] at hsz
    have ih' : ∀ a ∈ l, MayOK a := fun a ha => by
      obtain ⟨i, hi, rfl⟩ := List.getElem_of_mem ha
      exact ih _ ha (by have := Ex.size_le_sizes hi; omega)
    obtain ⟨a, c, rfl, rfl, rfl, hn, hc1, hk⟩ := ht.form
    simp only [Ex.var, Ex.name, Ex.args] at hn hc1 hk ⊢
    have HU := Lib.hid (fun w => upper_any nm hn w)
    have HN := Lib.hid (fun w => tokName_any nm hn w)
    have HA := Lib.hid (fun w' (hx : Ext w w') => mayAny_any ih' (show l.length ≤ 1073741824 by omega) (c := c) (IsExs.ext hk hx))
    clear ih ih' ht hk
    simp only [Ex.may]
    cases v with
    | true =>
      have hp : l.length = 0 ∨ 0 < l.length := by omega
      rcases hp with hp | hp
      · have q1 : ((l.length : Int) == 0) = true := by rw [beq_iff_eq]; omega
        have HD := Lib.hid (show decide (l.length = 0) = true from decide_eq_true hp)
        clear hp
        go_enter Try.func48, Try.ntmps48
        go_wp2_with (go_at_call 47; refine (HU.out _).mono ?_; rintro e w1 ⟨rfl, rfl⟩)
        go_ret
        exact ⟨ret_bool (by have h0 := of_decide_eq_true HD.out; have h1 : l = [] := List.eq_nil_of_length_eq_zero h0; simp [h1]), ext_alloc _ _⟩
      · have q1 : ((l.length : Int) == 0) = false := by rw [beq_eq_false_iff_ne]; omega
        have HD := Lib.hid (show decide (l.length = 0) = false from decide_eq_false (by omega))
        clear hp
        go_enter Try.func48, Try.ntmps48
        go_wp2_with fail
        go_ret
        exact ⟨ret_bool (by have h0 := of_decide_eq_false HD.out; have h1 : l ≠ [] := fun h => h0 (by rw [h]; rfl); simp [h1]), ext_alloc _ _⟩
    | false =>
      cases hnm : named nm with
      | false =>
        rw [hnm] at HN
        clear hnm
        go_enter Try.func48, Try.ntmps48
        go_wp2_with (go_at_call 68; refine (HN.out _).mono ?_; rintro e w1 ⟨rfl, rfl⟩)
        go_ret
        exact ⟨rfl, ext_alloc _ _⟩
      | true =>
        rw [hnm] at HN
        clear hnm
        go_enter Try.func48, Try.ntmps48
        go_wp2_with (first | (go_at_call 68; refine (HN.out _).mono ?_; rintro e w1 ⟨rfl, rfl⟩) | (go_at_call 69; refine (HA.out _ (ext_alloc _ _)).mono ?_; rintro e w2 ⟨rfl, hx2⟩))
        go_ret
        exact ⟨ret_bool (by simp), (ext_alloc _ _).trans hx2⟩
end Go.Proofs.Ytnclgkdpafhogaa
namespace Go.Proofs.Ytnclgkdpafhogaa
open Go.ChangeShapes Go.WideShapes Go.ChangeAt Go.RowKit
theorem bytes_ne' {a b : ByteArray} (h : a ≠ b) : (a.toList == b.toList) = false := by
  rw [beq_eq_false_iff_ne]; intro he; apply h; apply ByteArray.ext; apply Array.toList_inj.1
  rw [Go.ByteArray.toList_eq, Go.ByteArray.toList_eq] at he; exact he
theorem bytes_eq' {a b : ByteArray} (h : a = b) : (a.toList == b.toList) = true := by subst h; exact beq_self_eq_true _
end Go.Proofs.Ytnclgkdpafhogaa
namespace Go.Proofs.Ytnclgkdpafhogaa
open Go.ChangeShapes Go.WideShapes Go.ChangeAt Go.RowKit
theorem narrowTs_step {t : List Ex} {k : Nat} (h : k < t.length) : narrowTs (t.take (k + 1)) = (narrowTs (t.take k) && (decide (t[k].depth ≤ 30) && decide (t[k].wide ≤ 6))) := by
  unfold narrowTs
  rw [List.take_succ_eq_append_getElem h, List.all_append]; simp
theorem narrowTs_bad {t : List Ex} {k : Nat} (h : k < t.length) (hb : ¬ (t[k].depth ≤ 30 ∧ t[k].wide ≤ 6)) : narrowTs t = false := by
  unfold narrowTs
  cases h2 : t.all fun x => decide (x.depth ≤ 30) && decide (x.wide ≤ 6) with
  | false => rfl
  | true => have := List.all_eq_true.1 h2 t[k] (List.getElem_mem h); simp only [Bool.and_eq_true, decide_eq_true_eq] at this; exact absurd this hb
end Go.Proofs.Ytnclgkdpafhogaa
namespace Go.Proofs.Ytnclgkdpafhogaa
open Go.ChangeShapes Go.WideShapes Go.ChangeAt Go.RowKit
theorem shape_bounds {op a b c : Int} (h : shapeOf op = some (a, b, c)) : (-1000 ≤ a ∧ a ≤ 1000) ∧ (-1000 ≤ b ∧ b ≤ 1000) ∧ (-1000 ≤ c ∧ c ≤ 1000) := by
  unfold shapeOf at h
  repeat' split at h
  all_goals first
    | (cases h; done)
    | (simp only [Option.some.injEq, Prod.mk.injEq] at h; omega)
/-- may a term stand in a formula of an op? -/
def termOk (op : Int) (x : Ex) : Bool := x.may && !(decide (op = 3) && x.var)
theorem topMay_some {op a b c : Int} {v : List ByteArray} {t : List Ex} {n : Nat} (h : shapeOf op = some (a, b, c)) : topMay op v t n = (counted v.length a && counted t.length b && counted n c && varsMay v && t.all (termOk op)) := by
  unfold topMay; rw [h]; rfl
theorem topMay_none {op : Int} {v : List ByteArray} {t : List Ex} {n : Nat} (h : shapeOf op = none) : topMay op v t n = false := by
  unfold topMay; rw [h]
theorem terms_step {op : Int} {t : List Ex} {k : Nat} (h : k < t.length) : (t.take (k + 1)).all (termOk op) = ((t.take k).all (termOk op) && termOk op t[k]) := by
  rw [List.take_succ_eq_append_getElem h, List.all_append]; simp
theorem terms_bad {op : Int} {t : List Ex} {k : Nat} (h : k < t.length) (hb : termOk op t[k] = false) : t.all (termOk op) = false := by
  cases h2 : t.all (termOk op) with
  | false => rfl
  | true => have := List.all_eq_true.1 h2 t[k] (List.getElem_mem h); rw [hb] at this; cases this
end Go.Proofs.Ytnclgkdpafhogaa
