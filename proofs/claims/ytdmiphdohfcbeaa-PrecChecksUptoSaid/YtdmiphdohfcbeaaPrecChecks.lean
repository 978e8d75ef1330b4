/- The law PrecChecks: its row, from the walk. Condition: what it reads is of bulk at most 1048576 (the statement's own). -/
import Derived.Test.YtdmiphdohfcbeaaFrameP
import Derived.Test.YtdmiphdohfcbeaaPrecL6
import Derived.Test.YtdmiphdohfcbeaaPrecOpen
import Derived.Test.YtdmiphdohfcbeaaPrecM4
namespace Go.Proofs.Ytdmiphdohfcbeaa.precChecks
open Go.ChangeShapes Go.WideShapes Go.ChangeAt Go.RowKit

set_option maxRecDepth 100000 in
theorem contract (H : Type) (enc : TypeId × Value → H) (W : World) (base : Nat) (args : Array Value) (ds gs : List (DataW H)) (before : List MemPlace)
    (hval : ∀ (j : Nat) t v, Try.f3.params[j]? = some t → args[j]? = some v → Value.okWide Try.prog W .any base t v)
    (hW : DataW.Whole enc Try.prog Try.f3.params.toList Rows.precChecksSpec.vars false W args.toList ds gs before) (hk : Rows.uptoSmall H (ds ++ gs) = true) :
    Calls Try.prog 3 args W fun e W' => ∃ v, e = .returned v ∧ Rows.precChecksSpec.post enc Try.prog Try.f3 false true false false W args v W' := by
  have hW' := hW
  obtain ⟨p, q, hA0, hV, -, hfz, hnd⟩ := hW
  have hA : DataW.TrodAll enc Try.prog W 0 (fun _ => true) true Try.f3.params.toList args.toList ds p := hA0
  rw [Try.params3] at hA hval
  obtain ⟨v0, vs0, d0, ds0, p0, q0, hargs, rfl, rfl, h0, r0⟩ := trodAll_cons hA
  obtain ⟨v1, vs1, d1, ds1, p1, q1, rfl, rfl, rfl, h1, r1⟩ := trodAll_cons r0
  obtain ⟨rfl, rfl, rfl⟩ := trodAll_nil r1
  obtain rfl : args = #[v0, v1] := by cases args; simp_all
  obtain ⟨rfl, rfl⟩ := trodVars_none hV
  have hk' : Rows.uptoBulkAll ([d0, d1] ++ []) ≤ 1048576 := of_decide_eq_true hk
  simp only [List.append_nil, Rows.uptoBulkAll] at hk'
  have hk2 : Rows.uptoBulk d0 + Rows.uptoBulk d1 ≤ 1048576 := by omega
  clear hk hk' 
  obtain ⟨a0, l0, c0, rfl, lc0, cc0, sy0, ll0⟩ := open_sig (hval 0 24 v0 rfl rfl) h0 (by omega)
  obtain ⟨o1, io1, op1, ow1⟩ := open_order (hval 1 27 v1 rfl rfl) h1 (by omega)
  refine (precChecks_any make_says l0 ll0 o1 op1 ow1 W a0 c0 v1 lc0 cc0 sy0 io1).mono fun e W' ⟨he, hg⟩ => ?_
  subst he
  refine ⟨_, rfl, post_true (by kernel_rfl) rfl rfl hW' ?_ hg⟩
  rw [Try.params3]
  intro t ht
  have hc : ∀ t ∈ [24, 27], Try.prog.readableRec t = true ∧ t < Try.prog.types.size := by decide +kernel
  exact hc t ht

set_option maxRecDepth 100000 in
theorem lifted (os : Os) (started : os.Started) (H : Type) (enc : TypeId × Value → H) (F : Stop.Interp) :
    ReturnsInHanded {} Try.checked os 3 .any ((Rows.OpenSpec.upto Rows.precChecksSpec).pre6 enc Try.prog Try.f3 Rows.precChecksUptoRow.domain false) (((Rows.OpenSpec.upto Rows.precChecksSpec).at F).post enc Try.prog Try.f3 false true false false) := by
  refine returnsInHanded_of_cond (C := Try.checked) (s := Rows.OpenSpec.upto Rows.precChecksSpec) (k := Rows.uptoSmall) rfl ownG started (by kernel_rfl) Try.func3
    (OpenSpec.witness (enc := enc) (C := Try.checked) (s := Rows.OpenSpec.upto Rows.precChecksSpec) (k := Rows.uptoSmall) rfl false ⟨#[], #[.agg #[.slice none 0 0], .agg #[.bool false, .slice none 0 0, .slice none 0 0, .int .i64 0]], []⟩ 8 (by kernel_rfl) (by kernel_rfl) (by kernel_rfl)
      (x := ([.agg [.nil], .agg [.lit (.bool false), .nil, .nil, .lit (.int .i64 0)]], [], [])) (by kernel_rfl) rfl (by kernel_rfl)) ?_
  intro W base args ds gs before hval hW _ hk _
  exact contract H enc W base args ds gs before hval hW hk

theorem over : Rows.precChecksUptoRow.holds Try.pinned (Rows.OpenSpec.upto Rows.precChecksSpec) :=
  OpenClaim.holds_of_cond 3 Try.f3 rfl rfl rfl rfl rfl rfl rfl ⟨rfl, rfl, rfl, rfl, rfl⟩ rfl rfl rfl rfl rfl (by kernel_rfl) Try.func3 (by kernel_rfl)
    (of_decide_eq_true (by kernel_rfl)) (by unfold Func.isWrapper; first | (rw [if_pos (by decide +kernel)]; kernel_rfl) | (rw [if_neg (by decide +kernel)]; exact ⟨rfl, rfl⟩))
    (fun os started H enc _ F => lifted os started H enc F)
end Go.Proofs.Ytdmiphdohfcbeaa.precChecks
namespace Go.Proofs.Ytdmiphdohfcbeaa
theorem precChecksHolds : Rows.PrecChecksUptoSaid := precChecks.over
end Go.Proofs.Ytdmiphdohfcbeaa
