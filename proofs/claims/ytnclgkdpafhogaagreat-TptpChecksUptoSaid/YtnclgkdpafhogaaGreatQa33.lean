/- Arguments that are entries and files, from readings to data. Condition: the argument's bulk is at most 1048576. -/
import Derived.Test.YtnclgkdpafhogaaGreatQa4
import Derived.Test.YtnclgkdpafhogaaGreatQa27
namespace Go.Proofs.YtnclgkdpafhogaaGreat
open Go.ChangeShapes Go.WideShapes Go.ChangeAt Go.RowKit
theorem cellsEntryD : Tryz.prog.cellsOf 53 = 7 := by kernel_rfl
section
variable {H : Type} {enc : TypeId × Value → H} {w : World} {base : Nat} {spare : Nat → Bool} {held : Bool}
set_option maxRecDepth 100000 in
theorem ent_of_trod {n : Nat} {cs : List Value} {y : DataW H × List MemPlace} (h : DataW.trod enc Tryz.prog w base spare held n 53 cs = some y) (hb : Rows.uptoBulk y.1 ≤ 1048576) : ∃ x : Ent, Dat.Fs Ab w cs x.dat ∧ x.form.size + x.name.size + x.role.size ≤ Rows.uptoBulk y.1 := by
  obtain ⟨xs, n, rfl, rfl, hl, hlen, hf⟩ := DataW.trod_struct Tryz.underlying53 h
  rw [cellsEntryD] at hl
  match cs, hl, xs, hlen with
  | [c0, c1, c2, c3, c4, c5, c6], _, [y0, y1, y2, y3], _ =>
    have h0 : DataW.trod enc Tryz.prog w base spare held n 4 [c0] = some y0 := by have := hf 0 _ rfl; simpa [cellsBoolD] using this
    have h1 : DataW.trod enc Tryz.prog w base spare held n 9 [c1] = some y1 := by have := hf 1 _ rfl; simpa [cellsStrD] using this
    have h2 : DataW.trod enc Tryz.prog w base spare held n 9 [c2] = some y2 := by have := hf 2 _ rfl; simpa [cellsStrD] using this
    have h3 : DataW.trod enc Tryz.prog w base spare held n 29 [c3, c4, c5, c6] = some y3 := by have := hf 3 _ rfl; simpa [cellsFormD] using this
    obtain ⟨b, hc0, rfl⟩ := DataW.trod_bool Tryz.underlying4 h0
    obtain ⟨s, hc1, rfl, -⟩ := DataW.trod_string Tryz.underlying9 h1
    obtain ⟨s2, hc2, rfl, -⟩ := DataW.trod_string Tryz.underlying9 h2
    injection hc0 with hc0 _; injection hc1 with hc1 _; injection hc2 with hc2 _
    subst hc0; subst hc1; subst hc2
    simp only [Rows.uptoBulk, Rows.uptoBulkAll, List.map_cons, List.map_nil] at hb ⊢
    have hsz : s.data.toList.length = s.size := by simp
    have hsz2 : s2.data.toList.length = s2.size := by simp
    obtain ⟨f, hf1, hf2⟩ := fm_of_trod n _ _ h3 (by omega)
    exact ⟨⟨b, s, s2, f⟩, ⟨rfl, ⟨rfl, show s.size ≤ 1073741824 by omega⟩, ⟨rfl, show s2.size ≤ 1073741824 by omega⟩, hf1⟩, show f.size + s.size + s2.size ≤ _ by omega⟩

set_option maxRecDepth 100000 in
/-- an argument that is an entry -/
theorem open_entry {r : Reach} {b0 : Nat} {v : Value} {d : DataW H} {p : List MemPlace} (hv : Value.okWide Tryz.prog w r b0 53 v) (h : DataW.Trod enc Tryz.prog w base spare held 53 v d p) (hk : Rows.uptoBulk d ≤ 1048576) :
    ∃ (x : Ent) (a b c e : Value), v = entV x a b c e ∧ IsEnt Ab w a b c e x ∧ x.form.size ≤ Rows.uptoBulk d := by
  obtain ⟨cs, rfl, hsz⟩ := okWide_struct Tryz.underlying53 hv
  obtain ⟨fuel, hf⟩ := h
  obtain ⟨x, h1, h2⟩ := ent_of_trod hf hk
  obtain ⟨cs⟩ := cs
  simp only [Value.cells] at h1
  obtain ⟨a, b, c, e, rfl, hi⟩ := IsEnt.of_fs h1
  exact ⟨x, a, b, c, e, rfl, hi, by have h6 : x.form.size + x.name.size + x.role.size ≤ Rows.uptoBulk d := h2; omega⟩

end
end Go.Proofs.YtnclgkdpafhogaaGreat
