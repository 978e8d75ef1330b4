/- The law TptpWrites: its row, from the walk. Condition: what it reads is of bulk at most 1048576 (the statement's own). -/
import Derived.Test.YtnclgkdpafhogaaGreatQe5
import Derived.Test.YtnclgkdpafhogaaGreatQe39
import Derived.Test.YtnclgkdpafhogaaGreatQe38
namespace Go.Proofs.YtnclgkdpafhogaaGreat.tptpWrites
open Go.ChangeShapes Go.WideShapes Go.ChangeAt Go.RowKit
set_option maxRecDepth 100000 in
theorem contract (H : Type) (enc : TypeId × Value → H) (W : World) (base : Nat) (args : Array Value) (ds gs : List (DataW H)) (before : List MemPlace)
    (hval : ∀ (j : Nat) t v, Tryz.f9.params[j]? = some t → args[j]? = some v → Value.okWide Tryz.prog W .any base t v)
    (hW : DataW.Whole enc Tryz.prog Tryz.f9.params.toList Rows.tptpWritesSpec.vars false W args.toList ds gs before) (hk : Rows.uptoSmall H (ds ++ gs) = true) (hsh : W.ShapedOpen Tryz.prog) :
    Calls Tryz.prog 9 args W fun e W' => ∃ v, e = .returned v ∧ Rows.tptpWritesSpec.post enc Tryz.prog Tryz.f9 false true false false W args v W' := by
  have hW' := hW
  obtain ⟨m, hm⟩ := zqz hsh
  obtain ⟨p, q, hA0, hV, -, hfz, hnd⟩ := hW
  have hA : DataW.TrodAll enc Tryz.prog W 0 (fun _ => true) true Tryz.f9.params.toList args.toList ds p := hA0
  rw [Tryz.params9] at hA hval
  obtain ⟨v0, vs0, d0, ds0, p0, q0, hargs, rfl, rfl, h0, r0⟩ := trodAll_cons hA
  obtain ⟨rfl, rfl, rfl⟩ := trodAll_nil r0
  obtain rfl : args = #[v0] := by cases args; simp_all
  obtain ⟨rfl, rfl⟩ := trodVars_none hV
  have hk' : Rows.uptoBulkAll ([d0] ++ []) ≤ 1048576 := of_decide_eq_true hk
  simp only [List.append_nil, Rows.uptoBulkAll] at hk'
  have hk2 : Rows.uptoBulk d0 ≤ 1048576 := by omega
  clear hk hk'
  obtain ⟨ad, cp, l, rfl, lc, lr, ll, ls⟩ := zju (hval 0 45 v0 rfl rfl) h0 (by omega)
  have hmem := fun x hx => zfv (l := l) (x := x) hx
  refine (zmq (by omega) (fun x hx => by have := hmem x hx; omega) lr m hm).mono fun e W' ⟨he, hg⟩ => ?_
  subst he
  refine ⟨_, rfl, zq0 (by kernel_rfl) rfl rfl hW' ?_ hg⟩
  rw [Tryz.params9]
  intro t ht
  have hc : ∀ t ∈ [45], Tryz.prog.readableRec t = true ∧ t < Tryz.prog.types.size := by decide +kernel
  exact hc t ht

set_option maxRecDepth 100000 in
theorem lifted (os : Os) (started : os.Started) (H : Type) (enc : TypeId × Value → H) (F : Stop.Interp) :
    ReturnsInHanded {} Tryz.checked os 9 .any ((Rows.OpenSpec.upto Rows.tptpWritesSpec).pre6 enc Tryz.prog Tryz.f9 Rows.tptpWritesUptoRow.domain false) (((Rows.OpenSpec.upto Rows.tptpWritesSpec).at F).post enc Tryz.prog Tryz.f9 false true false false) := by
  refine zbf (C := Tryz.checked) (s := Rows.OpenSpec.upto Rows.tptpWritesSpec) (k := Rows.uptoSmall) rfl ownG started (by kernel_rfl) Tryz.func9
    (OpenSpec.witness (enc := enc) (C := Tryz.checked) (s := Rows.OpenSpec.upto Rows.tptpWritesSpec) (k := Rows.uptoSmall) rfl false ⟨#[], #[.slice none 0 0], []⟩ 8 (by kernel_rfl) (by kernel_rfl) (by kernel_rfl)
      (x := ([.nil], [], [])) (by kernel_rfl) rfl (by kernel_rfl)) ?_
  intro W base args ds gs before hval hW hk hsh
  exact contract H enc W base args ds gs before hval hW hk hsh

theorem over : Rows.tptpWritesUptoRow.holds Tryz.pinned (Rows.OpenSpec.upto Rows.tptpWritesSpec) :=
  OpenClaim.holds_of_cond 9 Tryz.f9 rfl rfl rfl rfl rfl rfl rfl ⟨rfl, rfl, rfl, rfl, rfl⟩ rfl rfl rfl rfl rfl (by kernel_rfl) Tryz.func9 (by kernel_rfl)
    (of_decide_eq_true (by kernel_rfl)) (by unfold Func.isWrapper; first | (rw [if_pos (by decide +kernel)]; kernel_rfl) | (rw [if_neg (by decide +kernel)]; exact ⟨rfl, rfl⟩))
    (fun os started H enc _ F => lifted os started H enc F)
end Go.Proofs.YtnclgkdpafhogaaGreat.tptpWrites
namespace Go.Proofs.YtnclgkdpafhogaaGreat
theorem tptpWritesHolds : Rows.TptpWritesUptoSaid := tptpWrites.over
end Go.Proofs.YtnclgkdpafhogaaGreat
