/- What Back does to a matcher of one number. -/
import Derived.Test.YtoidhdcbemmfhaaDoorMat1
namespace Go.Proofs.YtoidhdcbemmfhaaDoor
open Go.ChangeShapes Go.WideShapes Go.ChangeAt Go.RowKit

set_option maxHeartbeats 1000000 in
set_option maxRecDepth 100000 in
/-- back over the one number of a matcher -/
theorem back_one (w : World) (B g bm : Nat) (x : Int) (hx1 : -9223372036854775808 ≤ x) (hx2 : x ≤ 9223372036854775807) (val : Value) (born : Nat) (v : Value) (h : Mt w B g bm #[⟨.int .i64 x, val, born⟩] [x] v) :
    Calls Tryd.prog 84 #[.pointer (some ⟨g, 0, none⟩), .int .i64 0] w fun e w' => e = .returned (.tuple #[]) ∧ (∃ v', Mt w' B g bm #[] [] v' ∧ (v'.ownBlock = v.ownBlock)) ∧ Chg [g, bm] w w' := by
  obtain ⟨b, c, cs, hv, hb, hlt, hc, ⟨hcs, -, -⟩, -, hcell⟩ := h.row.at (show 0 < [x].length by simp)
  subst hv
  have r0 := hcell 0 (.int .i64 x) (by rw [hcs]; rfl)
  have k0 := h.at0
  have k1 := h.at1
  have k2 := h.free
  obtain ⟨clock, k3⟩ := h.map
  have hne := h.ne
  have hlow := h.low
  have hlow2 := h.low2
  have Hm := Lib.hid h; clear h
  simp only [List.length_cons, List.length_nil, Nat.zero_add, Nat.zero_mul] at k1 r0 hc ⊢ 
  have hci : (1 : Int) ≤ (c : Int) := by omega
  have hc0 : c ≠ 0 := by omega
  have hxw := wf64 hx1 hx2
  obtain ⟨W, hW⟩ : ∃ W, W = setO w bm (.map #[] clock) := ⟨_, rfl⟩
  have hWc : Chg [bm] w W := by subst hW; exact setO_chg _ _ _
  have hWm : W.heap[bm]? = some (.map #[] clock) := by subst hW; exact setO_same (map_lt k3)
  have j0 := hWc.cell k0 (by simp; omega)
  have j1 := hWc.cell k1 (by simp; omega)
  have j2 := hWc.frozen k1 (by simp; omega) k2
  have HMW := Lib.hid (Mt.mk j0 j1 j2 ⟨clock, hWm⟩ (Hm.out.row.chg hWc (by simp; omega)) hlow hlow2)
  go_enter Tryd.func84, Tryd.ntmps84
  go_wp2_with fail
  go_loopw [28] (fun i wr => (i = .int .i64 0 ∧ wr = w) ∨ (i = .int .i64 1 ∧ wr = W)) (fun i _ => 1 - (intOf i).toNat)
  case atStart => exact .inl ⟨rfl, rfl⟩
  case round =>
    rcases hrel with ⟨rfl, rfl⟩ | ⟨rfl, rfl⟩
    · have hdel := run_delete_one (P := Tryd.prog) (t := 137) (ty := 0) Tryd.underlying137 Tryd.underlying3 hxw val born k3
      rw [← hW] at hdel
      clear hW
      go_wp2_with fail
      go_roundw
      case rel => simp
      case measure => simp [intOf]
    · clear hW
      go_wp2_with fail
      go_returns
      exact ⟨rfl, ⟨_, HMW.out.put HMW.out.row.cut0, rfl⟩, (hWc.mono (by simp)).trans ((Chg.refl [g, bm] _).setCell _ (.inl (by simp)))⟩
end Go.Proofs.YtoidhdcbemmfhaaDoor
