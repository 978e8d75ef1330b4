/- What term.Depth returns, for every term of at most 2097152 parts. -/
import Derived.Test.YtoidhdcbemmfhaaDoorSize
namespace Go.Proofs.YtoidhdcbemmfhaaDoor
open Go.ChangeShapes Go.WideShapes Go.ChangeAt Go.RowKit

set_option maxHeartbeats 400000 in
theorem depth_any (t : Tm) : ∀ (w : World) (x s : Value), IsTm w x s t → t.size ≤ 2097152 →
    Calls Tryd.prog 41 #[.agg #[x, s]] w fun e w' => e = .returned (.int .i64 t.depth) ∧ Ext w w' := by
  induction t using Tm.ind with
  | h f ks ih =>
    intro w x s ht hs
    simp only [IsTm] at ht
    obtain ⟨rfl, hf1, hf2, a, c, rfl, hc, hk⟩ := ht
    have hsz := depth_le_size (.mk f ks)
    simp only [Tm.size, Tm.depth] at hs hsz
    have hkl := length_le_sizes ks
    go_enter Tryd.func41, Tryd.ntmps41
    go_wp2_with fail
    go_loopw [3, 9] (fun n i wr => ∃ k : Nat, k ≤ ks.length ∧ i = .int .i64 k ∧ n = .int .i64 ((Tm.depths (ks.take k) : Nat) : Int) ∧ Ext w wr) (fun _ i _ => ks.length - (intOf i).toNat)
    case atStart => exact ⟨0, Nat.zero_le _, rfl, rfl, by go_grown⟩
    case round =>
      obtain ⟨k, hkk, rfl, rfl, hext⟩ := hrel
      by_cases hlt : k < ks.length
      · have hm := ih _ (List.getElem_mem hlt)
        obtain ⟨b, o, a', c', rfl, h1, h2, h3⟩ := (hk.ext hext).look hlt
        have hst := depths_take hlt
        have hp : Tm.size ks[k] ≤ 2097152 := by have := size_le_sizes hlt; omega
        have Hst := Lib.hid hst; clear hst
        go_wp2_with ((with_reducible refine (hm _ _ _ (h3.ext (by go_grown)) hp).mono ?_); rintro e w' ⟨rfl, hw'⟩)
        all_goals
          go_roundw
          case rel => exact ⟨k + 1, by omega, by go_num, by rw [Hst.out]; congr 1; first | omega | (simp; omega), Ext.trans (hext.alloc _) hw'⟩
          case measure => simp [intOf]; omega
      · go_wp2_with fail
        have : k = ks.length := by omega
        subst this
        go_ret
        simp only [List.take_length] at hsz ⊢
        have hd : Tm.depths ks + 1 ≤ 2097152 := by omega
        exact ⟨by simp only [Tm.depth]; exact ret_int (by rw [IntWalk.wrap64_in _ (by omega)]; rfl), hext⟩
end Go.Proofs.YtoidhdcbemmfhaaDoor
