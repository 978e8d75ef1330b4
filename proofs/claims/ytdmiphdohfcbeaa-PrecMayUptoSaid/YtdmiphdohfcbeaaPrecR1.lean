/- The reference of chapter 7: ranks, highest, above. No condition but that lengths are no greater than 1048576. -/
import Derived.Test.YtdmiphdohfcbeaaPrecQ
import Derived.Test.YtdmiphdohfcbeaaInts
import Derived.Test.YtdmiphdohfcbeaaSign2
namespace Go.Proofs.Ytdmiphdohfcbeaa
open Go.ChangeShapes Go.WideShapes Go.ChangeAt Go.RowKit

theorem highB_iff {l : List Int} {i : Nat} (hi : i < l.length) : highB l i = true ↔ ∀ k (h : k < l.length), l[k] ≤ l[i] := by
  unfold highB
  rw [decide_eq_true_iff, List.getElem?_eq_getElem hi]
  constructor
  · intro h k hk; exact h _ (List.getElem_mem hk)
  · intro h x hx
    obtain ⟨k, hk, rfl⟩ := List.getElem_of_mem hx
    exact h k hk
theorem ranksB_iff {l : List Int} {n : Nat} : ranksB l n = true ↔ l.length = n ∧ ∀ i (hi : i < l.length), (∀ h0 : 0 < i, l[0]'(by omega) < l[i]) ∧ ∀ j (hj : j < i), l[i] ≠ l[j]'(by omega) := by
  unfold ranksB
  rw [decide_eq_true_iff]
  constructor
  · rintro ⟨h1, h2, h3⟩
    refine ⟨h1, fun i hi => ⟨fun h0 => ?_, fun j hj => ?_⟩⟩
    · refine h3 _ ?_ _ ?_
      · rw [List.mem_iff_getElem]
        exact ⟨i - 1, by simp; omega, by simp; congr 1; omega⟩
      · rw [List.head?_eq_getElem?]
        exact List.getElem?_eq_getElem (by omega)
    · intro e
      exact (List.pairwise_iff_getElem.1 (List.nodup_iff_pairwise_ne.1 h2)) j i (by omega) hi hj e.symm
  · rintro ⟨h1, h2⟩
    refine ⟨h1, ?_, ?_⟩
    · rw [List.nodup_iff_pairwise_ne, List.pairwise_iff_getElem]
      intro i j hi hj hij
      exact fun e => (h2 j hj).2 i hij e.symm
    · intro x hx y hy
      rw [List.mem_iff_getElem] at hx
      obtain ⟨i, hi, rfl⟩ := hx
      simp at hi
      rw [List.head?_eq_getElem?, List.getElem?_eq_getElem (by omega)] at hy
      simp at hy
      subst hy
      have := (h2 (1 + i) (by omega)).1 (by omega)
      simpa [Nat.add_comm] using this

set_option maxHeartbeats 1000000 in
theorem refHigh_any (l : List Int) (i : Nat) (hi : i < l.length) (hl : l.length ≤ 1048576) (w : World) (a : Option Addr) (c : Nat) (h : IsInts w a l) :
    Calls Try.prog 27 #[.slice a l.length c, .int .i64 i] w fun e w' => e = .returned (.bool (highB l i)) ∧ Ext w w' := by
  obtain ⟨b, o, rfl, m2⟩ := h.look hi
  go_enter Try.func27, Try.ntmps27
  go_wp2_with fail
  go_loopw [5] (fun s wr => ∃ k : Nat, k ≤ l.length ∧ s = .int .i64 k ∧ (∀ j (hj : j < l.length), j < k → l[j] ≤ l[i]) ∧ Ext w wr) (fun s _ => l.length - (intOf s).toNat)
  case atStart => exact ⟨0, Nat.zero_le _, rfl, fun j _ h => by omega, Below.refl _ _⟩
  case round =>
    obtain ⟨k, hkk, rfl, hck, hext⟩ := hrel
    have Hck := Lib.hid hck; clear hck
    by_cases hlt : k < l.length
    · have hk1 : (k : Int) < l.length := by omega
      have hi1 : (i : Int) < l.length := by omega
      obtain ⟨b', o', e, m1⟩ := h.look hlt
      injection e with e
      injection e with e1 e2 e3
      subst e1; subst e2
      clear e3
      have g1 := hext.cell m1
      have g2 := hext.cell m2
      by_cases hki : k = i
      · have hb : ((k : Int) != (i : Int)) = false := by rw [bne_eq_false_iff_eq]; omega
        have He := Lib.hid hki; clear hki
        go_wp2_with fail
        go_quiet (fail)
        go_wp2_with fail
        go_roundw
        case rel => exact ⟨k + 1, by omega, by go_num, fun j hj hjk => by
          by_cases hjk' : j < k
          · exact Hck.out j hj hjk'
          · have : j = i := by have := He.out; omega
            subst this; exact Int.le_refl _, hext.drewN _⟩
        case measure => simp [intOf]; omega
      · have hb : ((k : Int) != (i : Int)) = true := by simp; omega
        by_cases hgt : l[i] < l[k]
        · have hd : decide (l[i] < l[k]) = true := decide_eq_true hgt
          have Hgt := Lib.hid hgt; clear hgt hki
          go_wp2_with fail
          go_quiet (fail)
          go_wp2_with fail
          go_ret
          have hn : highB l i = false := by
            cases hh : highB l i with
            | false => rfl
            | true => have := (highB_iff hi).1 hh k hlt; have := Hgt.out; omega
          exact ⟨ret_bool hn.symm, hext.drewN _⟩
        · have hd : decide (l[i] < l[k]) = false := decide_eq_false hgt
          have Hgt := Lib.hid hgt; clear hgt hki
          go_wp2_with fail
          go_quiet (fail)
          go_wp2_with fail
          go_roundw
          case rel => exact ⟨k + 1, by omega, by go_num, fun j hj hjk => by
            by_cases hjk' : j < k
            · exact Hck.out j hj hjk'
            · obtain rfl : j = k := by omega
              have := Hgt.out; omega, hext.drewN _⟩
          case measure => simp [intOf]; omega
    · have hk1 : ¬ (k : Int) < l.length := by omega
      go_wp2_with fail
      go_ret
      have hn : highB l i = true := (highB_iff hi).2 fun j hj => Hck.out j hj (by omega)
      exact ⟨ret_bool hn.symm, hext⟩

set_option maxHeartbeats 2000000 in
theorem refRanks_any (l : List Int) (n : Nat) (hl : l.length ≤ 1048576) (hn : n ≤ 1048576) (w : World) (a : Option Addr) (c : Nat) (h : IsInts w a l) :
    Calls Try.prog 26 #[.slice a l.length c, .int .i64 n] w fun e w' => e = .returned (.bool (ranksB l n)) ∧ Ext w w' := by
  by_cases hln : l.length = n
  case neg =>
    have hne : ((l.length : Int) != (n : Int)) = true := by simp; omega
    have hr : ranksB l n = false := by
      cases hh : ranksB l n with
      | false => rfl
      | true => exact absurd (ranksB_iff.1 hh).1 hln
    have Hr := Lib.hid hr; clear hr hln
    go_enter Try.func26, Try.ntmps26
    go_wp2_with fail
    go_ret
    exact ⟨ret_bool Hr.out.symm, Below.refl _ _⟩
  subst hln
  go_enter Try.func26, Try.ntmps26
  go_wp2_with fail
  go_loopw [5] (fun s wr => ∃ k : Nat, k ≤ l.length ∧ s = .int .i64 k ∧ (∀ i (hi : i < l.length), i < k → (∀ h0 : 0 < i, l[0]'(by omega) < l[i]) ∧ ∀ j (hj : j < i), l[i] ≠ l[j]'(by omega)) ∧ Ext w wr) (fun s _ => l.length - (intOf s).toNat)
  case atStart => exact ⟨0, Nat.zero_le _, rfl, fun j _ h => by omega, Below.refl _ _⟩
  case round =>
    obtain ⟨k, hkk, rfl, hck, hext⟩ := hrel
    have Hck := Lib.hid hck; clear hck
    by_cases hlt : k < l.length
    · have hk1 : (k : Int) < l.length := by omega
      obtain ⟨b, o, rfl, m1⟩ := h.look hlt
      obtain ⟨b', o', e, m0⟩ := h.look (i := 0) (by omega)
      injection e with e
      injection e with e1 e2 e3
      subst e1; subst e2
      clear e3
      have g1 := hext.cell m1
      have g0 := hext.cell m0
      simp only [Nat.add_zero] at g0
      have hpos : (0 : Int) < l.length := by omega
      have inner : ∀ (wr' : World), Ext w wr' → (∀ h0 : 0 < k, l[0]'(by omega) < l[k]) → True := fun _ _ _ => trivial
      by_cases hbad : 0 < k ∧ l[k] ≤ l[0]'(by omega)
      · have hb : decide (0 < k) = true := decide_eq_true (by omega)
        have hd : decide (l[k] ≤ l[0]'(by omega)) = true := decide_eq_true hbad.2
        have Hb := Lib.hid hbad; clear hbad
        go_wp2_with fail
        go_quiet (fail)
        go_wp2_with fail
        go_ret
        have hr : ranksB l l.length = false := by
          cases hh : ranksB l l.length with
          | false => rfl
          | true => have := ((ranksB_iff.1 hh).2 k hlt).1 Hb.out.1; have := Hb.out.2; omega
        exact ⟨ret_bool hr.symm, hext.drewN _⟩
      · have Hb := Lib.hid hbad
        have hpre : ∃ wr', Ext w wr' ∧ True := ⟨wr, hext, trivial⟩
        clear hpre
        rcases Nat.eq_zero_or_pos k with hk0 | hk0
        · have hb : decide (0 < k) = false := decide_eq_false (by omega)
          have Hk0 := Lib.hid hk0; clear hk0 hbad
          go_wp2_with fail
          go_quiet (fail)
          go_wp2_with fail
          go_loopw [6] (fun s wr => s = .int .i64 0 ∧ Ext w wr) (fun s _ => 0)
          case atStart => exact ⟨rfl, hext.drewN _⟩
          case round =>
            obtain ⟨rfl, hext2⟩ := hrel
            have hk2 : ¬ (0 : Int) < (k : Int) := by have := Hk0.out; omega
            go_wp2_with fail
            go_roundw
            case rel => exact ⟨k + 1, by omega, by go_num, fun i hi hik => by
              by_cases hik' : i < k
              · exact Hck.out i hi hik'
              · have := Hk0.out
                exact ⟨fun h0 => by omega, fun j hj => by omega⟩, hext2⟩
            case measure => simp [intOf]; omega
        · have hb : decide (0 < k) = true := decide_eq_true (by omega)
          have hlt0 : ¬ l[k] ≤ l[0]'(by omega) := fun h' => hbad ⟨hk0, h'⟩
          have hd : decide (l[k] ≤ l[0]'(by omega)) = false := decide_eq_false hlt0
          have Hk0 := Lib.hid hk0
          have Hlt0 := Lib.hid hlt0
          clear hbad hlt0
          go_wp2_with fail
          go_quiet (fail)
          go_wp2_with fail
          go_loopw [6] (fun s wr => ∃ m : Nat, m ≤ k ∧ s = .int .i64 m ∧ (∀ j (hj : j < k), j < m → l[k] ≠ l[j]'(by omega)) ∧ Ext w wr) (fun s _ => k - (intOf s).toNat)
          case atStart => exact ⟨0, Nat.zero_le _, rfl, fun j _ h => by omega, hext.drewN _⟩
          case round =>
            obtain ⟨m, hmm, rfl, hcm, hext2⟩ := hrel
            have Hcm := Lib.hid hcm; clear hcm
            by_cases hmk : m < k
            · have hm1 : (m : Int) < (k : Int) := by omega
              have hml : (m : Int) < l.length := by omega
              obtain ⟨b', o', e, m2⟩ := h.look (i := m) (by omega)
              injection e with e
              injection e with e1 e2 e3
              subst e1; subst e2
              clear e3
              have g2 := hext2.cell m2
              have g3 := hext2.cell m1
              clear g1 g0
              by_cases he : l[k] = l[m]'(by omega)
              · have hq : (l[k] == l[m]'(by omega)) = true := by simpa using he
                have He := Lib.hid he; clear he
                go_wp2_with fail
                go_quiet (fail)
                go_wp2_with fail
                go_ret
                have hr : ranksB l l.length = false := by
                  cases hh : ranksB l l.length with
                  | false => rfl
                  | true => exact absurd He.out (((ranksB_iff.1 hh).2 k hlt).2 m hmk)
                exact ⟨ret_bool hr.symm, hext2.drewN _⟩
              · have hq : (l[k] == l[m]'(by omega)) = false := by simpa using he
                have He := Lib.hid he; clear he
                go_wp2_with fail
                go_quiet (fail)
                go_wp2_with fail
                go_roundw
                case rel => exact ⟨m + 1, by omega, by go_num, fun j hj hjm => by
                  by_cases hjm' : j < m
                  · exact Hcm.out j hj hjm'
                  · obtain rfl : j = m := by omega
                    exact He.out, hext2.drewN _⟩
                case measure => simp [intOf]; omega
            · have hm1 : ¬ (m : Int) < (k : Int) := by omega
              go_wp2_with fail
              go_roundw
              case rel => exact ⟨k + 1, by omega, by go_num, fun i hi hik => by
                by_cases hik' : i < k
                · exact Hck.out i hi hik'
                · obtain rfl : i = k := by omega
                  refine ⟨fun _ => by have := Hlt0.out; omega, fun j hj => Hcm.out j hj (by omega)⟩, hext2⟩
              case measure => simp [intOf]; omega
    · have hk1 : ¬ (k : Int) < l.length := by omega
      go_wp2_with fail
      go_ret
      have hr : ranksB l l.length = true := ranksB_iff.2 ⟨rfl, fun i hi => Hck.out i hi (by omega)⟩
      exact ⟨ret_bool hr.symm, hext⟩
end Go.Proofs.Ytdmiphdohfcbeaa
