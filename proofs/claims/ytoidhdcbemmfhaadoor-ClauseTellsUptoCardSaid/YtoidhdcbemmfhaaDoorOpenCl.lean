/- From a reading of an argument to a clause in memory. -/
import Derived.Test.YtoidhdcbemmfhaaDoorInts
import Derived.Test.YtoidhdcbemmfhaaDoorCl1
namespace Go.Proofs.YtoidhdcbemmfhaaDoor
open Go.ChangeShapes Go.WideShapes Go.ChangeAt Go.RowKit

theorem cellsLit : Tryd.prog.cellsOf 65 = 5 := by kernel_rfl

section
variable {H : Type} {enc : TypeId × Value → H} {w : World} {base : Nat} {spare : Nat → Bool} {held : Bool}
theorem cells5_of {a : Addr} {cs : List Value} (h : w.cells? base a 5 = some cs) : ∃ x0 x1 x2 x3 x4 b o, a = ⟨b, o, none⟩ ∧ cs = [x0, x1, x2, x3, x4] ∧ w.cell? ⟨b, o, none⟩ = some x0 ∧ w.cell? ⟨b, o + 1, none⟩ = some x1 ∧ w.cell? ⟨b, o + 2, none⟩ = some x2 ∧ w.cell? ⟨b, o + 3, none⟩ = some x3 ∧ w.cell? ⟨b, o + 4, none⟩ = some x4 := by
  obtain ⟨-, hl, hc⟩ := World.cells?_some h
  match cs, hl with
  | [x0, x1, x2, x3, x4], _ =>
    have c0 := hc 0 (by omega)
    have c1 := hc 1 (by omega)
    have c2 := hc 2 (by omega)
    have c3 := hc 3 (by omega)
    have c4 := hc 4 (by omega)
    obtain ⟨b, o, sp⟩ := a
    have hsp : sp = none := by simpa [Addr.add] using World.cell?_spot (show w.cell? ((⟨b, o, sp⟩ : Addr).add 0) = some x0 by simpa using c0)
    subst hsp
    exact ⟨x0, x1, x2, x3, x4, b, o, rfl, rfl, by simpa [Addr.add] using c0, by simpa [Addr.add] using c1, by simpa [Addr.add] using c2, by simpa [Addr.add] using c3, by simpa [Addr.add] using c4⟩

/-- five cells read as a literal -/
def LitAt (w : World) (a : Addr) (x : Lt) : Prop :=
  ∃ b o la lc ra rc, a = ⟨b, o, none⟩ ∧ w.cell? ⟨b, o, none⟩ = some (.bool x.neg) ∧
    w.cell? ⟨b, o + 1, none⟩ = some (.int .i64 x.l.f) ∧ w.cell? ⟨b, o + 2, none⟩ = some (.slice la x.l.ks.length lc) ∧
    w.cell? ⟨b, o + 3, none⟩ = some (.int .i64 x.r.f) ∧ w.cell? ⟨b, o + 4, none⟩ = some (.slice ra x.r.ks.length rc) ∧
    IsTm w (.int .i64 x.l.f) (.slice la x.l.ks.length lc) x.l ∧ IsTm w (.int .i64 x.r.f) (.slice ra x.r.ks.length rc) x.r

set_option maxRecDepth 100000 in
theorem lit_of {a : Addr} {cs : List Value} {fuel : Nat} {y : DataW H × List MemPlace} (hcs : w.cells? base a 5 = some cs) (hy : DataW.trod enc Tryd.prog w base spare held fuel 65 cs = some y) :
    ∃ x : Lt, LitAt w a x ∧ x.l.size + x.r.size ≤ Rows.uptoBulk y.1 := by
  obtain ⟨x0, x1, x2, x3, x4, b, o, rfl, rfl, e0, e1, e2, e3, e4⟩ := cells5_of hcs
  obtain ⟨xs, n, rfl, rfl, -, hlen, hf⟩ := DataW.trod_struct Tryd.underlying65 hy
  match xs, hlen with
  | [y0, y1, y2], _ =>
    have h0 : DataW.trod enc Tryd.prog w base spare held n 4 [x0] = some y0 := by have := hf 0 _ rfl; simpa [cellsBool] using this
    have h1 : DataW.trod enc Tryd.prog w base spare held n 27 [x1, x2] = some y1 := by have := hf 1 _ rfl; simpa [cellsTerm, cellsBool] using this
    have h2 : DataW.trod enc Tryd.prog w base spare held n 27 [x3, x4] = some y2 := by have := hf 2 _ rfl; simpa [cellsTerm, cellsBool] using this
    obtain ⟨ng, q0, rfl⟩ := DataW.trod_bool Tryd.underlying4 h0
    injection q0 with q0 _
    subst q0
    obtain ⟨t1, c1, d1, k1, i1, s1⟩ := tm_of_trod n _ _ h1
    obtain ⟨t2, c2, d2, k2, i2, s2⟩ := tm_of_trod n _ _ h2
    simp only [List.cons.injEq, and_true] at k1 k2
    obtain ⟨rfl, rfl⟩ := k1
    obtain ⟨rfl, rfl⟩ := k2
    obtain ⟨la, lc, rfl, rfl, -, -, -, -⟩ := i1.form
    obtain ⟨ra, rc, rfl, rfl, -, -, -, -⟩ := i2.form
    refine ⟨⟨ng, t1, t2⟩, ⟨b, o, la, lc, ra, rc, rfl, e0, e1, e2, e3, e4, i1, i2⟩, ?_⟩
    simp only [List.map_cons, List.map_nil, Rows.uptoBulk, Rows.uptoBulkAll]
    omega

set_option maxRecDepth 100000 in
theorem open_clause {r : Reach} {b0 : Nat} {v : Value} {d : DataW H} {p : List MemPlace} (hv : Value.okWide Tryd.prog w r b0 56 v) (h : DataW.Trod enc Tryd.prog w base spare held 56 v d p) (hk : Rows.uptoBulk d ≤ 1048576) :
    ∃ a l c, v = .slice a l.length c ∧ l.length ≤ c ∧ c ≤ 9223372036854775807 ∧ IsLits w a l ∧ l.length ≤ 1048576 ∧ ∀ x ∈ l, x.l.size + x.r.size ≤ 1048576 := by
  obtain ⟨a0, len0, cap0, rfl⟩ := okWide_slice Tryd.underlying56 hv
  obtain ⟨fuel, hf⟩ := h
  simp only [Value.cells] at hf
  rcases DataW.trod_slice Tryd.underlying56 hf with ⟨hcs, hx⟩ | ⟨a, len, cap, elems, rest, m, rfl, hcs, hx, hb, hlc, hcm, hel, hrd, -, -⟩
  · injection hcs with hcs _
    simp only [Value.slice.injEq] at hcs
    obtain ⟨rfl, rfl, rfl⟩ := hcs
    exact ⟨none, [], 0, rfl, Nat.le_refl _, by omega, fun i hi => absurd hi (by simp), by simp, by simp⟩
  · injection hcs with hcs _
    simp only [Value.slice.injEq] at hcs
    obtain ⟨rfl, rfl, rfl⟩ := hcs
    rw [cellsLit] at hrd
    simp only [Prod.mk.injEq] at hx
    obtain ⟨rfl, -⟩ := hx
    simp only [Rows.uptoBulk] at hk
    have hlb := bulk_length (elems.map (·.1))
    rw [List.length_map] at hlb
    have each : ∀ j, j < elems.length → ∃ x : Lt, LitAt w (a.add (j * 5)) x ∧ x.l.size + x.r.size ≤ 1048576 := by
      intro j hj
      have hb := hrd j (by omega)
      rw [List.getElem?_eq_getElem hj, Option.bind_eq_some_iff] at hb
      obtain ⟨cs', hcs', hy'⟩ := hb
      obtain ⟨x, h1, h2⟩ := lit_of hcs' hy'
      have hpart := bulk_part (l := elems.map (·.1)) (i := j) (d := elems[j].1) (by rw [List.getElem?_map, List.getElem?_eq_getElem hj]; rfl)
      exact ⟨x, h1, by omega⟩
    let g : Fin elems.length → Lt := fun j => Classical.choose (each j.1 j.2)
    have hg : ∀ j, _ := fun j : Fin elems.length => Classical.choose_spec (each j.1 j.2)
    refine ⟨some a, List.ofFn g, cap0, by rw [List.length_ofFn, hel], by rw [List.length_ofFn, hel]; exact hlc, by simp [maxLen] at hcm; omega, ?_, by rw [List.length_ofFn]; omega, ?_⟩
    · intro i hi
      have hi' : i < elems.length := by simpa using hi
      obtain ⟨⟨b1, o1, _, _, _, _, k1, -⟩, -⟩ := hg ⟨0, by omega⟩
      rw [Nat.zero_mul] at k1
      have ha := addr_add0 k1
      subst ha
      obtain ⟨⟨b, o, la, lc, ra, rc, k2, r0, r1, r2, r3, r4, r5, r6⟩, -⟩ := hg ⟨i, hi'⟩
      rw [add_plain] at k2
      injection k2 with e1 e2 _
      subst e1; subst e2
      rw [List.getElem_ofFn]
      exact ⟨b1, o1, la, lc, ra, rc, rfl, r0, r1, r2, r3, r4, r5, r6⟩
    · intro x hx
      obtain ⟨j, rfl⟩ := List.mem_ofFn.1 hx
      exact (hg j).2
end
end Go.Proofs.YtoidhdcbemmfhaaDoor
