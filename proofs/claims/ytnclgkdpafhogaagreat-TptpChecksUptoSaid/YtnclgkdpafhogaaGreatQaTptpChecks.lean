/- The law TptpChecks: its row, from the walk. Condition: what it reads is of bulk at most 1048576 (the statement's own). -/
import Derived.Test.YtnclgkdpafhogaaGreatQa5
import Derived.Test.YtnclgkdpafhogaaGreatQa32
import Derived.Test.YtnclgkdpafhogaaGreatQa33
namespace Go.Proofs.YtnclgkdpafhogaaGreat.tptpChecks
open Go.ChangeShapes Go.WideShapes Go.ChangeAt Go.RowKit
set_option maxRecDepth 100000 in
theorem contract (H : Type) (enc : TypeId × Value → H) (W : World) (base : Nat) (args : Array Value) (ds gs : List (DataW H)) (before : List MemPlace)
    (hval : ∀ (j : Nat) t v, Tryz.f8.params[j]? = some t → args[j]? = some v → Value.okWide Tryz.prog W .any base t v)
    (hW : DataW.Whole enc Tryz.prog Tryz.f8.params.toList Rows.tptpChecksSpec.vars false W args.toList ds gs before) (hk : Rows.uptoSmall H (ds ++ gs) = true) (hsh : W.ShapedOpen Tryz.prog) :
    Calls Tryz.prog 8 args W fun e W' => ∃ v, e = .returned v ∧ Rows.tptpChecksSpec.post enc Tryz.prog Tryz.f8 false true false false W args v W' := by
  have hW' := hW
  obtain ⟨m, hm⟩ := maxLen_of hsh
  obtain ⟨p, q, hA0, hV, -, hfz, hnd⟩ := hW
  have hA : DataW.TrodAll enc Tryz.prog W 0 (fun _ => true) true Tryz.f8.params.toList args.toList ds p := hA0
  rw [Tryz.params8] at hA hval
  obtain ⟨v0, vs0, d0, ds0, p0, q0, hargs, rfl, rfl, h0, r0⟩ := trodAll_cons hA
  obtain ⟨rfl, rfl, rfl⟩ := trodAll_nil r0
  obtain rfl : args = #[v0] := by cases args; simp_all
  obtain ⟨rfl, rfl⟩ := trodVars_none hV
  have hk' : Rows.uptoBulkAll ([d0] ++ []) ≤ 1048576 := of_decide_eq_true hk
  simp only [List.append_nil, Rows.uptoBulkAll] at hk'
  have hk2 : Rows.uptoBulk d0 ≤ 1048576 := by omega
  clear hk hk'
  obtain ⟨x, x0, y, z, u, rfl, hf, hsz⟩ := open_entry (hval 0 53 v0 rfl rfl) h0 (by omega)
  refine (tptpChecks_any x _ W m hm x0 y z u hf (by omega)).mono fun e W' ⟨he, hg⟩ => ?_
  subst he
  refine ⟨_, rfl, post_true (by kernel_rfl) rfl rfl hW' ?_ hg⟩
  rw [Tryz.params8]
  intro t ht
  have hc : ∀ t ∈ [53], Tryz.prog.readableRec t = true ∧ t < Tryz.prog.types.size := by decide +kernel
  exact hc t ht

set_option maxRecDepth 100000 in
theorem lifted (os : Os) (started : os.Started) (H : Type) (enc : TypeId × Value → H) (F : Stop.Interp) :
    ReturnsInHanded {} Tryz.checked os 8 .any ((Rows.OpenSpec.upto Rows.tptpChecksSpec).pre6 enc Tryz.prog Tryz.f8 Rows.tptpChecksUptoRow.domain false) (((Rows.OpenSpec.upto Rows.tptpChecksSpec).at F).post enc Tryz.prog Tryz.f8 false true false false) := by
  refine returnsInHanded_of_cond_shaped (C := Tryz.checked) (s := Rows.OpenSpec.upto Rows.tptpChecksSpec) (k := Rows.uptoSmall) rfl ownG started (by kernel_rfl) Tryz.func8
    (OpenSpec.witness (enc := enc) (C := Tryz.checked) (s := Rows.OpenSpec.upto Rows.tptpChecksSpec) (k := Rows.uptoSmall) rfl false ⟨#[], #[.agg #[.bool false, .string ⟨#[]⟩, .string ⟨#[]⟩, .int .i64 0, .slice none 0 0, .slice none 0 0, .slice none 0 0]], []⟩ 8 (by kernel_rfl) (by kernel_rfl) (by kernel_rfl)
      (x := ([.agg [.lit (.bool false), .lit (.string []), .lit (.string []), .agg [.lit (.int .i64 0), .nil, .nil, .nil]]], [], [])) (by kernel_rfl) rfl (by kernel_rfl)) ?_
  intro W base args ds gs before hval hW hk hsh
  exact contract H enc W base args ds gs before hval hW hk hsh

theorem over : Rows.tptpChecksUptoRow.holds Tryz.pinned (Rows.OpenSpec.upto Rows.tptpChecksSpec) :=
  OpenClaim.holds_of_cond 8 Tryz.f8 rfl rfl rfl rfl rfl rfl rfl ⟨rfl, rfl, rfl, rfl, rfl⟩ rfl rfl rfl rfl rfl (by kernel_rfl) Tryz.func8 (by kernel_rfl)
    (of_decide_eq_true (by kernel_rfl)) (by unfold Func.isWrapper; first | (rw [if_pos (by decide +kernel)]; kernel_rfl) | (rw [if_neg (by decide +kernel)]; exact ⟨rfl, rfl⟩))
    (fun os started H enc _ F => lifted os started H enc F)
end Go.Proofs.YtnclgkdpafhogaaGreat.tptpChecks
namespace Go.Proofs.YtnclgkdpafhogaaGreat
theorem tptpChecksHolds : Rows.TptpChecksUptoSaid := tptpChecks.over
end Go.Proofs.YtnclgkdpafhogaaGreat
