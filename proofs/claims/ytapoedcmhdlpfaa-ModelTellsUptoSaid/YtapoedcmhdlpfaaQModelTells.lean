/- The law ModelTells: its row, from the walk. Condition: what it reads is of bulk at most 1048576 (the statement's own). -/
import Derived.Test.YtapoedcmhdlpfaaQ1
import Derived.Test.YtapoedcmhdlpfaaQ25
import Derived.Test.YtapoedcmhdlpfaaQ23
namespace Go.Proofs.Ytapoedcmhdlpfaa.modelTells
open Go.ChangeShapes Go.WideShapes Go.ChangeAt Go.RowKit
set_option maxRecDepth 100000 in
theorem contract (H : Type) (enc : TypeId × Value → H) (W : World) (base : Nat) (args : Array Value) (ds gs : List (DataW H)) (before : List MemPlace)
    (hval : ∀ (j : Nat) t v, Try.f3.params[j]? = some t → args[j]? = some v → Value.okWide Try.prog W .any base t v)
    (hW : DataW.Whole enc Try.prog Try.f3.params.toList Rows.modelTellsSpec.vars false W args.toList ds gs before) (hk : Rows.uptoSmall H (ds ++ gs) = true) :
    Calls Try.prog 3 args W fun e W' => ∃ v, e = .returned v ∧ Rows.modelTellsSpec.post enc Try.prog Try.f3 false true false false W args v W' := by
  have hW' := hW
  obtain ⟨p, q, hA0, hV, -, hfz, hnd⟩ := hW
  have hA : DataW.TrodAll enc Try.prog W 0 (fun _ => true) true Try.f3.params.toList args.toList ds p := hA0
  rw [Try.params3] at hA hval
  obtain ⟨v0, vs0, d0, ds0, p0, q0, hargs, rfl, rfl, h0, r0⟩ := trodAll_cons hA
  obtain ⟨v1, vs1, d1, ds1, p1, q1, rfl, rfl, rfl, h1, r1⟩ := trodAll_cons r0
  obtain ⟨v2, vs2, d2, ds2, p2, q2, rfl, rfl, rfl, h2, r2⟩ := trodAll_cons r1
  obtain ⟨v3, vs3, d3, ds3, p3, q3, rfl, rfl, rfl, h3, r3⟩ := trodAll_cons r2
  obtain ⟨v4, vs4, d4, ds4, p4, q4, rfl, rfl, rfl, h4, r4⟩ := trodAll_cons r3
  obtain ⟨rfl, rfl, rfl⟩ := trodAll_nil r4
  obtain rfl : args = #[v0, v1, v2, v3, v4] := by cases args; simp_all
  obtain ⟨rfl, rfl⟩ := trodVars_none hV
  have hk' : Rows.uptoBulkAll ([d0, d1, d2, d3, d4] ++ []) ≤ 1048576 := of_decide_eq_true hk
  simp only [List.append_nil, Rows.uptoBulkAll] at hk'
  have hk2 : Rows.uptoBulk d0 + Rows.uptoBulk d1 + Rows.uptoBulk d2 + Rows.uptoBulk d3 + Rows.uptoBulk d4 ≤ 1048576 := by omega
  clear hk hk' 
  obtain ⟨a0, l0, c0, rfl, lc0, cc0, sy0, ll0⟩ := open_sig (hval 0 24 v0 rfl rfl) h0 (by omega)
  obtain ⟨sz, ta, tb, tc, rfl, hT, htl, hrl⟩ := open_world (hval 1 27 v1 rfl rfl) h1 (by omega)
  obtain ⟨t, x, s, rfl, ht, hts⟩ := open_term (hval 2 30 v2 rfl rfl) h2
  obtain ⟨va, vl, vc, rfl, hV1, hvl⟩ := open_ints (hval 3 31 v3 rfl rfl) h3 (by omega)
  obtain ⟨ca, cl, cn, rfl, -, -, hcl, hcl2, hcs⟩ := open_clause (hval 4 33 v4 rfl rfl) h4 (by omega)
  refine (modelTells_any wakesOK l0 ll0 sz tb htl hrl t (by omega) vl hvl cl (fun x hx => by have := hcs x hx; unfold Lt.sized; omega) hcl2 W a0 c0 lc0 cc0 sy0 ta tc hT x s ht va vc hV1 ca cn hcl).mono fun e W' ⟨he, hg⟩ => ?_
  subst he
  refine ⟨_, rfl, post_true (by kernel_rfl) rfl rfl hW' ?_ hg⟩
  rw [Try.params3]
  intro t ht
  have hc : ∀ t ∈ [24, 27, 30, 31, 33], Try.prog.readableRec t = true ∧ t < Try.prog.types.size := by decide +kernel
  exact hc t ht

set_option maxRecDepth 100000 in
theorem lifted (os : Os) (started : os.Started) (H : Type) (enc : TypeId × Value → H) (F : Stop.Interp) :
    ReturnsInHanded {} Try.checked os 3 .any ((Rows.OpenSpec.upto Rows.modelTellsSpec).pre6 enc Try.prog Try.f3 Rows.modelTellsUptoRow.domain false) (((Rows.OpenSpec.upto Rows.modelTellsSpec).at F).post enc Try.prog Try.f3 false true false false) := by
  refine returnsInHanded_of_cond (C := Try.checked) (s := Rows.OpenSpec.upto Rows.modelTellsSpec) (k := Rows.uptoSmall) rfl ownG started (by kernel_rfl) Try.func3
    (OpenSpec.witness (enc := enc) (C := Try.checked) (s := Rows.OpenSpec.upto Rows.modelTellsSpec) (k := Rows.uptoSmall) rfl false ⟨#[], #[.agg #[.slice none 0 0], .agg #[.int .i64 0, .slice none 0 0], .agg #[.int .i64 0, .slice none 0 0], .slice none 0 0, .slice none 0 0], []⟩ 8 (by kernel_rfl) (by kernel_rfl) (by kernel_rfl)
      (x := ([.agg [.nil], .agg [.lit (.int .i64 0), .nil], .agg [.lit (.int .i64 0), .nil], .nil, .nil], [], [])) (by kernel_rfl) rfl (by kernel_rfl)) ?_
  intro W base args ds gs before hval hW _ hk _
  exact contract H enc W base args ds gs before hval hW hk

theorem over : Rows.modelTellsUptoRow.holds Try.pinned (Rows.OpenSpec.upto Rows.modelTellsSpec) :=
  OpenClaim.holds_of_cond 3 Try.f3 rfl rfl rfl rfl rfl rfl rfl ⟨rfl, rfl, rfl, rfl, rfl⟩ rfl rfl rfl rfl rfl (by kernel_rfl) Try.func3 (by kernel_rfl)
    (of_decide_eq_true (by kernel_rfl)) (by unfold Func.isWrapper; first | (rw [if_pos (by decide +kernel)]; kernel_rfl) | (rw [if_neg (by decide +kernel)]; exact ⟨rfl, rfl⟩))
    (fun os started H enc _ F => lifted os started H enc F)
end Go.Proofs.Ytapoedcmhdlpfaa.modelTells
namespace Go.Proofs.Ytapoedcmhdlpfaa
theorem modelTellsHolds : Rows.ModelTellsUptoSaid := modelTells.over
end Go.Proofs.Ytapoedcmhdlpfaa
