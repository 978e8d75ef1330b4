/- slices.Values: an iterator over a row of numbers; slices.AppendSeq, Collect, Sorted over it. Conditions: lengths fit. -/
import Derived.Test.YtdmiphdohfcbeaaPrecO
import Derived.Test.YtdmiphdohfcbeaaShelf
import Derived.Test.YtdmiphdohfcbeaaRF
import Derived.Test.YtdmiphdohfcbeaaAnI
import Derived.Laws.Append
import Derived.Laws.EntriesVeiled
import Derived.OwnWalkIn
import Derived.TacticsInMore
import Derived.LoopNIn
import Derived.LoopIn
namespace Go.Proofs.Ytdmiphdohfcbeaa
open Go.ChangeShapes Go.WideShapes Go.ChangeAt Go.RowKit

theorem fw_round (ro : Option Nat) : (Fw ro).round = ro := rfl
theorem fw_depth (ro : Option Nat) : (Fw ro).depth = none := rfl
theorem fw_fn (ro : Option Nat) (f : FuncId) : (Fw ro).fn f = True := rfl
attribute [local go_sem] fw_round fw_depth fw_fn Oper.semAt_some

def GivesI (x : Int) (args : Array Value) (_ : World) : Prop := args = #[.int .i64 x] ∧ -9223372036854775808 ≤ x ∧ x ≤ 9223372036854775807

set_option maxHeartbeats 1000000 in
set_option maxRecDepth 100000 in
theorem values1_ok (l : List Int) (hl : l.length ≤ 1048576) (bo : Nat) : IterOK 40 #[.pointer (some ⟨bo, 0, none⟩)] l GivesI (fun S W => ∃ a c, W.cell? ⟨bo, 0, none⟩ = some (.slice a l.length c) ∧ AtInts (Av S W) W a l) := by
  intro y J W S0 hD hlt hj hJ hR m
  obtain ⟨a, c, c0, hat⟩ := hD
  refine callsIn_of_wp Try.func40 rfl trivial ?_ rfl
  simp only [Try.ntmps40, List.size_toArray, List.length_cons, List.length_nil, Nat.reduceAdd, Nat.reduceSub, Array.replicate_succ, Array.replicate_zero, List.push_toArray, List.append_toArray, List.nil_append, List.cons_append]
  gi_wp2
  gi_loopw [7] (fun i wr => ∃ (k : Nat) (S' : List Nat), k ≤ l.length ∧ i = .int .i64 k ∧ Mv S0 W S' wr ∧ J true wr (l.take k) S') (fun i _ => l.length - (intOf i).toNat)
  case atStart => exact ⟨0, S0, Nat.zero_le _, rfl, Mv.refl _ _, by simpa using hj⟩
  case round =>
    obtain ⟨k, S', hkk, rfl, hmr, hjr⟩ := hrel
    by_cases hlt2 : k < l.length
    · have hk1 : (k : Int) < l.length := by omega
      obtain ⟨z1, z2, b, o, rfl, hbP, z3⟩ := hat k hlt2
      have z3' := hmr.cell z3 hbP.1
      obtain ⟨fn, tmps, assign, body, hyd, hRd⟩ := hR (l.take k) l[k] (l.drop (k + 1)) (by rw [← List.drop_eq_getElem_cons hlt2, List.take_append_drop]) #[.int .i64 l[k]] wr S' ⟨rfl, z1, z2⟩ hjr (m - 1)
      have HJ := Lib.hid hjr; clear hjr hj
      have HT := Lib.hid (List.take_succ_eq_append_getElem hlt2)
      gi_wp2
      refine hRd.mono ?_
      clear hRd hyd
      rintro e w6 ⟨b1, S6, rfl, hmv, hj6⟩
      rw [← HT.out] at hj6
      cases b1 with
      | false =>
        have Hpost := Lib.hid (show PostR J S0 W [] l false w6 from ⟨S6, hmr.trans hmv, .inr ⟨rfl, l.take (k + 1), List.take_prefix _ _, hj6⟩⟩)
        clear hj6
        gi_wp2
        go_returns
        exact ⟨⟨_, rfl⟩, _, Hpost.out⟩
      | true =>
        gi_wp2
        go_roundw
        case rel => exact ⟨k + 1, S6, by omega, by go_num, hmr.trans hmv, hj6⟩
        case measure => simp [intOf]; omega
    · have hk1 : ¬ (k : Int) < l.length := by omega
      have hke : k = l.length := by omega
      have Hpost := Lib.hid (show PostR J S0 W [] l true wr from ⟨S', hmr, .inl ⟨rfl, by rw [hke, List.take_length] at hjr; exact hjr⟩⟩)
      clear hke hjr
      gi_wp2
      go_returns
      first | exact ⟨⟨_, rfl⟩, _, Hpost.out⟩ | exact ⟨⟨_, rfl⟩, .inr Hpost.out⟩
end Go.Proofs.Ytdmiphdohfcbeaa
