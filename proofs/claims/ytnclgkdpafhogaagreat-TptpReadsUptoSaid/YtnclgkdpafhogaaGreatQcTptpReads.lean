/- The law TptpReads: its row, from the walk. Condition: what it reads is of bulk at most 1048576 (the statement's own). -/
import Derived.Test.YtnclgkdpafhogaaGreatQc5
import Derived.Test.YtnclgkdpafhogaaGreatQc41
import Derived.Test.YtnclgkdpafhogaaGreatQc40
namespace Go.Proofs.YtnclgkdpafhogaaGreat.tptpReads
open Go.ChangeShapes Go.WideShapes Go.ChangeAt Go.RowKit
set_option maxRecDepth 100000 in
theorem contract (H : Type) (enc : TypeId × Value → H) (W : World) (base : Nat) (args : Array Value) (ds gs : List (DataW H)) (before : List MemPlace)
    (hval : ∀ (j : Nat) t v, Tryz.f7.params[j]? = some t → args[j]? = some v → Value.okWide Tryz.prog W .any base t v)
    (hW : DataW.Whole enc Tryz.prog Tryz.f7.params.toList Rows.tptpReadsSpec.vars false W args.toList ds gs before) (hk : Rows.uptoSmall H (ds ++ gs) = true) (hsh : W.ShapedOpen Tryz.prog) :
    Calls Tryz.prog 7 args W fun e W' => ∃ v, e = .returned v ∧ Rows.tptpReadsSpec.post enc Tryz.prog Tryz.f7 false true false false W args v W' := by
  have hW' := hW
  obtain ⟨m, hm⟩ := zw5 hsh
  obtain ⟨p, q, hA0, hV, -, hfz, hnd⟩ := hW
  have hA : DataW.TrodAll enc Tryz.prog W 0 (fun _ => true) true Tryz.f7.params.toList args.toList ds p := hA0
  rw [Tryz.params7] at hA hval
  obtain ⟨v0, vs0, d0, ds0, p0, q0, hargs, rfl, rfl, h0, r0⟩ := trodAll_cons hA
  obtain ⟨v1, vs1, d1, ds1, p1, q1, rfl, rfl, rfl, h1, r1⟩ := trodAll_cons r0
  obtain ⟨rfl, rfl, rfl⟩ := trodAll_nil r1
  obtain rfl : args = #[v0, v1] := by cases args; simp_all
  obtain ⟨rfl, rfl⟩ := trodVars_none hV
  have hk' : Rows.uptoBulkAll ([d0, d1] ++ []) ≤ 1048576 := of_decide_eq_true hk
  simp only [List.append_nil, Rows.uptoBulkAll] at hk'
  have hk2 : Rows.uptoBulk d0 + Rows.uptoBulk d1 ≤ 1048576 := by omega
  clear hk hk'
  obtain ⟨s, rfl⟩ := okWide_string Tryz.underlying9 (hval 0 9 v0 rfl rfl)
  obtain ⟨fuel, hf⟩ := h0
  obtain ⟨s', h, hx, -⟩ := DataW.trod_string Tryz.underlying9 hf
  obtain rfl : s = s' := by simpa [Value.cells] using h
  obtain ⟨rfl, rfl⟩ := Prod.mk.inj hx
  have hsz : s.data.toList.length = s.size := by simp
  simp only [Rows.uptoBulk] at hk2
  obtain ⟨fa, fc, l, rfl, hfc, hfi, hfl, hfs⟩ := zu1 (hval 1 43 v1 rfl rfl) h1 (by omega)
  have hmem := fun f hf => zhq (l := l) (f := f) hf
  refine (znl s (by omega) (by omega) (fun f hf => by have := hmem f hf; omega) hfi hfc m hm).mono fun e W' ⟨he, hg⟩ => ?_
  subst he
  refine ⟨_, rfl, zw6 (by kernel_rfl) rfl rfl hW' ?_ hg⟩
  rw [Tryz.params7]
  intro t ht
  have hc : ∀ t ∈ [9, 43], Tryz.prog.readableRec t = true ∧ t < Tryz.prog.types.size := by decide +kernel
  exact hc t ht

set_option maxRecDepth 100000 in
theorem lifted (os : Os) (started : os.Started) (H : Type) (enc : TypeId × Value → H) (F : Stop.Interp) :
    ReturnsInHanded {} Tryz.checked os 7 .any ((Rows.OpenSpec.upto Rows.tptpReadsSpec).pre6 enc Tryz.prog Tryz.f7 Rows.tptpReadsUptoRow.domain false) (((Rows.OpenSpec.upto Rows.tptpReadsSpec).at F).post enc Tryz.prog Tryz.f7 false true false false) := by
  refine zc6 (C := Tryz.checked) (s := Rows.OpenSpec.upto Rows.tptpReadsSpec) (k := Rows.uptoSmall) rfl ownG started (by kernel_rfl) Tryz.func7
    (OpenSpec.witness (enc := enc) (C := Tryz.checked) (s := Rows.OpenSpec.upto Rows.tptpReadsSpec) (k := Rows.uptoSmall) rfl false ⟨#[], #[.string ⟨#[]⟩, .slice none 0 0], []⟩ 8 (by kernel_rfl) (by kernel_rfl) (by kernel_rfl)
      (x := ([.lit (.string []), .nil], [], [])) (by kernel_rfl) rfl (by kernel_rfl)) ?_
  intro W base args ds gs before hval hW hk hsh
  exact contract H enc W base args ds gs before hval hW hk hsh

theorem over : Rows.tptpReadsUptoRow.holds Tryz.pinned (Rows.OpenSpec.upto Rows.tptpReadsSpec) :=
  OpenClaim.holds_of_cond 7 Tryz.f7 rfl rfl rfl rfl rfl rfl rfl ⟨rfl, rfl, rfl, rfl, rfl⟩ rfl rfl rfl rfl rfl (by kernel_rfl) Tryz.func7 (by kernel_rfl)
    (of_decide_eq_true (by kernel_rfl)) (by unfold Func.isWrapper; first | (rw [if_pos (by decide +kernel)]; kernel_rfl) | (rw [if_neg (by decide +kernel)]; exact ⟨rfl, rfl⟩))
    (fun os started H enc _ F => lifted os started H enc F)
end Go.Proofs.YtnclgkdpafhogaaGreat.tptpReads
namespace Go.Proofs.YtnclgkdpafhogaaGreat
theorem tptpReadsHolds : Rows.TptpReadsUptoSaid := tptpReads.over
end Go.Proofs.YtnclgkdpafhogaaGreat
