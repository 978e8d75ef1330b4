/- The law FormParses: its row, from the walk. Condition: what it reads is of bulk at most 1048576 (the statement's own). -/
import Derived.Test.YtnclgkdpafhogaaGreatQ5
import Derived.Test.YtnclgkdpafhogaaGreatQ35
namespace Go.Proofs.YtnclgkdpafhogaaGreat.formParses
open Go.ChangeShapes Go.WideShapes Go.ChangeAt Go.RowKit
set_option maxRecDepth 100000 in
theorem contract (H : Type) (enc : TypeId × Value → H) (W : World) (base : Nat) (args : Array Value) (ds gs : List (DataW H)) (before : List MemPlace)
    (hval : ∀ (j : Nat) t v, Tryz.f4.params[j]? = some t → args[j]? = some v → Value.okWide Tryz.prog W .any base t v)
    (hW : DataW.Whole enc Tryz.prog Tryz.f4.params.toList Rows.formParsesSpec.vars false W args.toList ds gs before) (hk : Rows.uptoSmall H (ds ++ gs) = true) (hsh : W.ShapedOpen Tryz.prog) :
    Calls Tryz.prog 4 args W fun e W' => ∃ v, e = .returned v ∧ Rows.formParsesSpec.post enc Tryz.prog Tryz.f4 false true false false W args v W' := by
  have hW' := hW
  obtain ⟨m, hm⟩ := maxLen_of hsh
  obtain ⟨p, q, hA0, hV, -, hfz, hnd⟩ := hW
  have hA : DataW.TrodAll enc Tryz.prog W 0 (fun _ => true) true Tryz.f4.params.toList args.toList ds p := hA0
  rw [Tryz.params4] at hA hval
  obtain ⟨v0, vs0, d0, ds0, p0, q0, hargs, rfl, rfl, h0, r0⟩ := trodAll_cons hA
  obtain ⟨rfl, rfl, rfl⟩ := trodAll_nil r0
  obtain rfl : args = #[v0] := by cases args; simp_all
  obtain ⟨rfl, rfl⟩ := trodVars_none hV
  have hk' : Rows.uptoBulkAll ([d0] ++ []) ≤ 1048576 := of_decide_eq_true hk
  simp only [List.append_nil, Rows.uptoBulkAll] at hk'
  have hk2 : Rows.uptoBulk d0 ≤ 1048576 := by omega
  clear hk hk'
  obtain ⟨s, rfl⟩ := okWide_string Tryz.underlying9 (hval 0 9 v0 rfl rfl)
  obtain ⟨fuel, hf⟩ := h0
  obtain ⟨s', h, hx, -⟩ := DataW.trod_string Tryz.underlying9 hf
  obtain rfl : s = s' := by simpa [Value.cells] using h
  obtain ⟨rfl, rfl⟩ := Prod.mk.inj hx
  have hsz : s.data.toList.length = s.size := by simp
  simp only [Rows.uptoBulk] at hk2
  refine (formParses_any s (by omega) W m hm).mono fun e W' ⟨he, hg⟩ => ?_
  subst he
  refine ⟨_, rfl, post_true (by kernel_rfl) rfl rfl hW' ?_ hg⟩
  rw [Tryz.params4]
  intro t ht
  have hc : ∀ t ∈ [9], Tryz.prog.readableRec t = true ∧ t < Tryz.prog.types.size := by decide +kernel
  exact hc t ht

set_option maxRecDepth 100000 in
theorem lifted (os : Os) (started : os.Started) (H : Type) (enc : TypeId × Value → H) (F : Stop.Interp) :
    ReturnsInHanded {} Tryz.checked os 4 .any ((Rows.OpenSpec.upto Rows.formParsesSpec).pre6 enc Tryz.prog Tryz.f4 Rows.formParsesUptoRow.domain false) (((Rows.OpenSpec.upto Rows.formParsesSpec).at F).post enc Tryz.prog Tryz.f4 false true false false) := by
  refine returnsInHanded_of_cond_shaped (C := Tryz.checked) (s := Rows.OpenSpec.upto Rows.formParsesSpec) (k := Rows.uptoSmall) rfl ownG started (by kernel_rfl) Tryz.func4
    (OpenSpec.witness (enc := enc) (C := Tryz.checked) (s := Rows.OpenSpec.upto Rows.formParsesSpec) (k := Rows.uptoSmall) rfl false ⟨#[], #[.string ⟨#[]⟩], []⟩ 8 (by kernel_rfl) (by kernel_rfl) (by kernel_rfl)
      (x := ([.lit (.string [])], [], [])) (by kernel_rfl) rfl (by kernel_rfl)) ?_
  intro W base args ds gs before hval hW hk hsh
  exact contract H enc W base args ds gs before hval hW hk hsh

theorem over : Rows.formParsesUptoRow.holds Tryz.pinned (Rows.OpenSpec.upto Rows.formParsesSpec) :=
  OpenClaim.holds_of_cond 4 Tryz.f4 rfl rfl rfl rfl rfl rfl rfl ⟨rfl, rfl, rfl, rfl, rfl⟩ rfl rfl rfl rfl rfl (by kernel_rfl) Tryz.func4 (by kernel_rfl)
    (of_decide_eq_true (by kernel_rfl)) (by unfold Func.isWrapper; first | (rw [if_pos (by decide +kernel)]; kernel_rfl) | (rw [if_neg (by decide +kernel)]; exact ⟨rfl, rfl⟩))
    (fun os started H enc _ F => lifted os started H enc F)
end Go.Proofs.YtnclgkdpafhogaaGreat.formParses
namespace Go.Proofs.YtnclgkdpafhogaaGreat
theorem formParsesHolds : Rows.FormParsesUptoSaid := formParses.over
end Go.Proofs.YtnclgkdpafhogaaGreat
