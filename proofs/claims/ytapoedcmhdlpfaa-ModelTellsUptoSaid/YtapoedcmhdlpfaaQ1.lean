/- From a reading of an argument to a term, a signature in memory.
What every law of this seat needs of its row: the post from 'true' and old memory as it was. No condition. -/
import Derived.Test.YtapoedcmhdlpfaaQ0
import Derived.Deep.Slices
import Derived.Lib.SmallJoins
import Derived.Carry
import Derived.Test.YtapoedcmhdlpfaaRows
import Derived.WalkKit
import Derived.ProofKit
import Derived.OpenShut
import Derived.JoinedCond
namespace Go.Proofs.Ytapoedcmhdlpfaa
open Go.ChangeShapes Go.WideShapes Go.ChangeAt Go.RowKit
theorem cellsTerm : Try.prog.cellsOf 30 = 2 := by kernel_rfl
theorem cellsTerms : Try.prog.cellsOf 28 = 1 := by kernel_rfl
theorem cellsSym : Try.prog.cellsOf 63 = 3 := by kernel_rfl
theorem cellsSyms : Try.prog.cellsOf 22 = 1 := by kernel_rfl
theorem cellsSig : Try.prog.cellsOf 24 = 1 := by kernel_rfl
theorem cellsInt : Try.prog.cellsOf 3 = 1 := by kernel_rfl
theorem cellsStr : Try.prog.cellsOf 9 = 1 := by kernel_rfl
theorem cellsBool : Try.prog.cellsOf 4 = 1 := by kernel_rfl

theorem bulk_one_le {H : Type} (d : DataW H) : 1 ≤ Rows.uptoBulk d := by
  cases d with
  | lit l => cases l <;> simp [Rows.uptoBulk]
  | nil => simp [Rows.uptoBulk]
  | ptr d => simp [Rows.uptoBulk]
  | slice elems spare => simp [Rows.uptoBulk]
  | agg parts => simp [Rows.uptoBulk]
  | iface t d => simp [Rows.uptoBulk]
  | map entries => simp [Rows.uptoBulk]
  | held h => simp [Rows.uptoBulk]
theorem bulk_length {H : Type} (l : List (DataW H)) : l.length ≤ Rows.uptoBulkAll l := by
  induction l with
  | nil => simp [Rows.uptoBulkAll]
  | cons x r ih => have := bulk_one_le x; simp only [Rows.uptoBulkAll, List.length_cons]; omega
theorem bulk_part {H : Type} {l : List (DataW H)} {i : Nat} {d : DataW H} (h : l[i]? = some d) : Rows.uptoBulk d ≤ Rows.uptoBulkAll l := by
  induction l generalizing i with
  | nil => simp at h
  | cons x r ih =>
    simp only [Rows.uptoBulkAll]
    cases i with
    | zero => simp at h; subst h; omega
    | succ i => have := ih (i := i) (by simpa using h); omega

section
variable {H : Type} {enc : TypeId × Value → H} {w : World} {base : Nat} {spare : Nat → Bool} {held : Bool}
theorem tms_of {b : Nat} : ∀ (elems : List (DataW H × List MemPlace)) (off : Nat),
    (∀ i y, elems[i]? = some y → ∃ t x s, w.cell? ⟨b, off + i * 2, none⟩ = some x ∧ w.cell? ⟨b, off + i * 2 + 1, none⟩ = some s ∧ IsTm w x s t ∧ t.size ≤ Rows.uptoBulk y.1) →
    ∃ ks : List Tm, ks.length = elems.length ∧ IsTms w (some ⟨b, off, none⟩) ks ∧ Tm.sizes ks ≤ Rows.uptoBulkAll (elems.map (·.1))
  | [], off, _ => ⟨[], rfl, by simp only [IsTms], by simp [Tm.sizes]⟩
  | y :: r, off, h => by
    obtain ⟨t, x, s, h1, h2, h3, h4⟩ := h 0 y rfl
    obtain ⟨ks, g1, g2, g3⟩ := tms_of r (off + 2) fun i y' hy => by
      obtain ⟨t, x, s, h1, h2, h3, h4⟩ := h (i + 1) y' (by simpa using hy)
      exact ⟨t, x, s, by rw [show off + 2 + i * 2 = off + (i + 1) * 2 by omega]; exact h1, by rw [show off + 2 + i * 2 + 1 = off + (i + 1) * 2 + 1 by omega]; exact h2, h3, h4⟩
    refine ⟨t :: ks, by simp [g1], ?_, ?_⟩
    · simp only [IsTms]
      exact ⟨b, off, x, s, rfl, by simpa using h1, by simpa using h2, h3, g2⟩
    · simp only [Tm.sizes, List.map_cons, Rows.uptoBulkAll]; omega

theorem int_wf {i : Int} (h : (Lit.int .i64 i).wf = true) : -9223372036854775808 ≤ i ∧ i ≤ 9223372036854775807 := by
  simp only [Lit.wf, Bool.and_eq_true, decide_eq_true_eq] at h
  have h1 : IntKind.i64.min = -9223372036854775808 := by kernel_rfl
  have h2 : IntKind.i64.max = 9223372036854775807 := by kernel_rfl
  omega

theorem cells2_of {a : Addr} {cs : List Value} (h : w.cells? base a 2 = some cs) : ∃ x s b o, a = ⟨b, o, none⟩ ∧ cs = [x, s] ∧ w.cell? ⟨b, o, none⟩ = some x ∧ w.cell? ⟨b, o + 1, none⟩ = some s := by
  obtain ⟨-, hl, hc⟩ := World.cells?_some h
  match cs, hl with
  | [x, s], _ =>
    have c0 := hc 0 (by omega)
    have c1 := hc 1 (by omega)
    obtain ⟨b, o, sp⟩ := a
    have hsp : sp = none := by simpa [Addr.add] using World.cell?_spot (show w.cell? ((⟨b, o, sp⟩ : Addr).add 0) = some x by simpa using c0)
    subst hsp
    exact ⟨x, s, b, o, rfl, rfl, by simpa [Addr.add] using c0, by simpa [Addr.add] using c1⟩
theorem cells3_of {a : Addr} {cs : List Value} (h : w.cells? base a 3 = some cs) : ∃ x s r b o, a = ⟨b, o, none⟩ ∧ cs = [x, s, r] ∧ w.cell? ⟨b, o, none⟩ = some x ∧ w.cell? ⟨b, o + 1, none⟩ = some s ∧ w.cell? ⟨b, o + 2, none⟩ = some r := by
  obtain ⟨-, hl, hc⟩ := World.cells?_some h
  match cs, hl with
  | [x, s, r], _ =>
    have c0 := hc 0 (by omega)
    have c1 := hc 1 (by omega)
    have c2 := hc 2 (by omega)
    obtain ⟨b, o, sp⟩ := a
    have hsp : sp = none := by simpa [Addr.add] using World.cell?_spot (show w.cell? ((⟨b, o, sp⟩ : Addr).add 0) = some x by simpa using c0)
    subst hsp
    exact ⟨x, s, r, b, o, rfl, rfl, by simpa [Addr.add] using c0, by simpa [Addr.add] using c1, by simpa [Addr.add] using c2⟩
theorem addr_add0 {a : Addr} {b o : Nat} (h : a.add 0 = ⟨b, o, none⟩) : a = ⟨b, o, none⟩ := by
  simpa [Addr.add] using h

set_option maxRecDepth 100000 in
theorem tm_of_trod (fuel : Nat) : ∀ (cs : List Value) (x : DataW H × List MemPlace), DataW.trod enc Try.prog w base spare held fuel 30 cs = some x → ∃ t x0 s0, cs = [x0, s0] ∧ IsTm w x0 s0 t ∧ t.size ≤ Rows.uptoBulk x.1 := by
  induction fuel using Nat.strongRecOn with
  | ind fuel ih =>
    intro cs x h
    obtain ⟨xs, n, rfl, rfl, hl, hlen, hf⟩ := DataW.trod_struct Try.underlying30 h
    rw [cellsTerm] at hl
    match cs, hl, xs, hlen with
    | [c0, c1], _, [y0, y1], _ =>
      have h0 : DataW.trod enc Try.prog w base spare held n 3 [c0] = some y0 := by have := hf 0 _ rfl; simpa [cellsInt] using this
      have h1 : DataW.trod enc Try.prog w base spare held n 28 [c1] = some y1 := by have := hf 1 _ rfl; simpa [cellsTerms] using this
      obtain ⟨i, hc0, rfl, hwf⟩ := DataW.trod_int Try.underlying3 h0
      obtain ⟨w1, w2⟩ := int_wf hwf
      injection hc0 with hc0 _
      subst hc0
      rcases DataW.trod_slice Try.underlying28 h1 with ⟨hcs, rfl⟩ | ⟨a, len, cap, elems, rest, m, rfl, hcs, rfl, hb, hlc, hcm, hel, hrd, -, -⟩
      · injection hcs with hcs _
        subst hcs
        refine ⟨.mk i [], _, _, rfl, ?_, by simp [Tm.size, Tm.sizes, Rows.uptoBulk, Rows.uptoBulkAll]⟩
        simp only [IsTm, IsTms]
        exact ⟨trivial, w1, w2, none, 0, rfl, Nat.le_refl _, trivial⟩
      · injection hcs with hcs _
        subst hcs
        rw [cellsTerm] at hrd
        have each : ∀ j y, elems[j]? = some y → ∃ t x s b o, a.add (j * 2) = ⟨b, o, none⟩ ∧ w.cell? ⟨b, o, none⟩ = some x ∧ w.cell? ⟨b, o + 1, none⟩ = some s ∧ IsTm w x s t ∧ t.size ≤ Rows.uptoBulk y.1 := by
          intro j y hy
          have hj : j < len := by rw [← hel]; exact (List.getElem?_eq_some_iff.1 hy).1
          have hb := hrd j hj
          rw [hy, Option.bind_eq_some_iff] at hb
          obtain ⟨cs', hcs', hy'⟩ := hb
          obtain ⟨t, x0, s0, rfl, ht, hsz⟩ := ih m (by omega) cs' y hy'
          obtain ⟨x, s, b, o, e1, e2, e3, e4⟩ := cells2_of hcs'
          simp only [List.cons.injEq, and_true] at e2
          obtain ⟨rfl, rfl⟩ := e2
          exact ⟨t, _, _, b, o, e1, e3, e4, ht, hsz⟩
        by_cases h0e : elems = []
        · subst h0e
          simp at hel
          subst hel
          refine ⟨.mk i [], _, _, rfl, ?_, by simp [Tm.size, Tm.sizes, Rows.uptoBulk, Rows.uptoBulkAll]⟩
          simp only [IsTm, IsTms]
          exact ⟨trivial, w1, w2, some a, cap, rfl, Nat.zero_le _, trivial⟩
        · have hpos : 0 < elems.length := List.length_pos_iff.2 h0e
          obtain ⟨t0, x0, s0, b, o, e1, -⟩ := each 0 elems[0] (by simp)
          obtain ⟨o', rfl⟩ : ∃ o', a = ⟨b, o', none⟩ := ⟨o, addr_add0 (by simpa using e1)⟩
          obtain ⟨ks, g1, g2, g3⟩ := tms_of (w := w) (b := b) elems o' fun j y hy => by
            obtain ⟨t, x, s, b2, o2, e1, e2, e3, e4, e5⟩ := each j y hy
            rw [add_plain] at e1
            injection e1 with e7 e8 _
            subst e7; subst e8
            exact ⟨t, x, s, e2, e3, e4, e5⟩
          refine ⟨.mk i ks, _, _, rfl, ?_, ?_⟩
          · simp only [IsTm]
            exact ⟨trivial, w1, w2, _, cap, by rw [g1, hel], by rw [g1, hel]; exact hlc, g2⟩
          · simp only [Tm.size, Rows.uptoBulk, Rows.uptoBulkAll, List.map_cons]; omega

set_option maxRecDepth 100000 in
theorem open_term {r : Reach} {b0 : Nat} {v : Value} {d : DataW H} {p : List MemPlace} (hv : Value.okWide Try.prog w r b0 30 v) (h : DataW.Trod enc Try.prog w base spare held 30 v d p) :
    ∃ t x s, v = .agg #[x, s] ∧ IsTm w x s t ∧ t.size ≤ Rows.uptoBulk d := by
  obtain ⟨cs, rfl, hsz⟩ := okWide_struct Try.underlying30 hv
  obtain ⟨fuel, hf⟩ := h
  obtain ⟨t, x, s, h1, h2, h3⟩ := tm_of_trod fuel _ _ hf
  refine ⟨t, x, s, ?_, h2, h3⟩
  obtain ⟨cs⟩ := cs
  simp only [Value.cells] at h1
  rw [show cs = [x, s] from h1]

set_option maxRecDepth 100000 in
theorem open_sig {r : Reach} {b0 : Nat} {v : Value} {d : DataW H} {p : List MemPlace} (hv : Value.okWide Try.prog w r b0 24 v) (h : DataW.Trod enc Try.prog w base spare held 24 v d p) (hk : Rows.uptoBulk d ≤ 1048576) :
    ∃ a l c, v = .agg #[.slice a l.length c] ∧ l.length ≤ c ∧ c ≤ 9223372036854775807 ∧ IsSyms w a l ∧ l.length ≤ 1048576 := by
  obtain ⟨cs, rfl, hsz⟩ := okWide_struct Try.underlying24 hv
  obtain ⟨fuel, hf⟩ := h
  obtain ⟨xs, n, rfl, hx, hl, hlen, hf⟩ := DataW.trod_struct Try.underlying24 hf
  obtain ⟨cs⟩ := cs
  simp only [Value.cells] at hl hf
  rw [cellsSig] at hl
  match cs, hl, xs, hlen with
  | [c0], _, [y0], _ =>
    have h0 : DataW.trod enc Try.prog w base spare held n 22 [c0] = some y0 := by have := hf 0 _ rfl; simpa [cellsSyms] using this
    simp only [Prod.mk.injEq, List.map_cons, List.map_nil] at hx
    obtain ⟨rfl, -⟩ := hx
    simp only [Rows.uptoBulk, Rows.uptoBulkAll] at hk
    rcases DataW.trod_slice Try.underlying22 h0 with ⟨hcs, rfl⟩ | ⟨a, len, cap, elems, rest, m, rfl, hcs, rfl, hb, hlc, hcm, hel, hrd, -, -⟩
    · injection hcs with hcs _
      subst hcs
      exact ⟨none, [], 0, rfl, Nat.le_refl _, by omega, fun i hi => by simp at hi, by simp⟩
    · injection hcs with hcs _
      subst hcs
      rw [cellsSym] at hrd
      simp only [Rows.uptoBulk] at hk
      have hlb := bulk_length (elems.map (·.1))
      rw [List.length_map] at hlb
      have each : ∀ j y, elems[j]? = some y → ∃ (s : Sy) (b o : Nat), s.ok ∧ a.add (j * 3) = ⟨b, o, none⟩ ∧ w.cell? ⟨b, o, none⟩ = some (.string s.name) ∧ w.cell? ⟨b, o + 1, none⟩ = some (.int .i64 s.arity) ∧ w.cell? ⟨b, o + 2, none⟩ = some (.bool s.pred) := by
        intro j y hy
        have hj : j < len := by rw [← hel]; exact (List.getElem?_eq_some_iff.1 hy).1
        have hb := hrd j hj
        rw [hy, Option.bind_eq_some_iff] at hb
        obtain ⟨cs', hcs', hy'⟩ := hb
        obtain ⟨x, s, r, b, o, e1, e2, e3, e4, e5⟩ := cells3_of hcs'
        subst e2
        obtain ⟨z0, z1, z2, k, rfl, -, f0, f1, f2⟩ := Deep.trod_struct3 Try.underlying63 hy'
        have f0' : DataW.trod enc Try.prog w base spare held k 9 [x] = some z0 := by simpa [cellsStr] using f0
        have f1' : DataW.trod enc Try.prog w base spare held k 3 [s] = some z1 := by simpa [cellsInt] using f1
        have f2' : DataW.trod enc Try.prog w base spare held k 4 [r] = some z2 := by simpa [cellsBool] using f2
        obtain ⟨nm, q0, rfl, -⟩ := DataW.trod_string Try.underlying9 f0'
        obtain ⟨ar, q1, rfl, hwf⟩ := DataW.trod_int Try.underlying3 f1'
        obtain ⟨pr, q2, rfl⟩ := DataW.trod_bool Try.underlying4 f2'
        injection q0 with q0 _; injection q1 with q1 _; injection q2 with q2 _
        subst q0; subst q1; subst q2
        obtain ⟨w1, w2⟩ := int_wf hwf
        have hpart := bulk_part (l := elems.map (·.1)) (i := j) (by rw [List.getElem?_map, hy]; rfl)
        simp only [Rows.uptoBulk, Rows.uptoBulkAll] at hpart
        have hsz : nm.data.toList.length = nm.size := by rw [Array.length_toList]; rfl
        exact ⟨⟨nm, ar, pr⟩, b, o, ⟨by show nm.size ≤ _; omega, w1, w2⟩, e1, e3, e4, e5⟩
      have all : ∃ l : List Sy, l.length = len ∧ ∀ j (hj : j < l.length), Sy.ok l[j] ∧ ∃ b o, a.add (j * 3) = ⟨b, o, none⟩ ∧ w.cell? ⟨b, o, none⟩ = some (.string l[j].name) ∧ w.cell? ⟨b, o + 1, none⟩ = some (.int .i64 l[j].arity) ∧ w.cell? ⟨b, o + 2, none⟩ = some (.bool l[j].pred) := by
        have hch : ∀ j : Fin len, ∃ s : Sy, s.ok ∧ ∃ b o, a.add (j.1 * 3) = ⟨b, o, none⟩ ∧ w.cell? ⟨b, o, none⟩ = some (.string s.name) ∧ w.cell? ⟨b, o + 1, none⟩ = some (.int .i64 s.arity) ∧ w.cell? ⟨b, o + 2, none⟩ = some (.bool s.pred) := by
          intro j
          have hj : j.1 < elems.length := by rw [hel]; exact j.2
          obtain ⟨s, b, o, h1, h2, h3, h4, h5⟩ := each j.1 elems[j.1] (by simp)
          exact ⟨s, h1, b, o, h2, h3, h4, h5⟩
        let g : Fin len → Sy := fun j => Classical.choose (hch j)
        have hg : ∀ j, _ := fun j => Classical.choose_spec (hch j)
        refine ⟨List.ofFn g, by simp, fun j hj => ?_⟩
        have hj' : j < len := by simpa using hj
        have := hg ⟨j, hj'⟩
        rw [List.getElem_ofFn]
        exact this
      obtain ⟨l, hll, hall⟩ := all
      refine ⟨some a, l, cap, by rw [hll], by omega, by simp [maxLen] at hcm; omega, ?_, by omega⟩
      intro i hi
      obtain ⟨-, b0, o0, k2, -⟩ := hall 0 (by omega)
      have ha := addr_add0 (by simpa using k2)
      subst ha
      obtain ⟨h1, b, o, h2, h3, h4, h5⟩ := hall i hi
      rw [add_plain] at h2
      injection h2 with e1 e2 _
      subst e1; subst e2
      exact ⟨h1, b0, o0, rfl, h3, h4, h5⟩
end
end Go.Proofs.Ytapoedcmhdlpfaa
namespace Go.Proofs.Ytapoedcmhdlpfaa
open Go.ChangeShapes Go.WideShapes Go.ChangeAt Go.RowKit
theorem ownG : ownKnob Try.prog.godebug = none := by kernel_rfl
theorem laidOutP : laidOutB Try.prog = true := by kernel_rfl

section
variable {H : Type} {enc : TypeId × Value → H}
theorem trodAll_stays {W W' : World} (hb : Ext W W') : ∀ {ts : List TypeId} {vs : List Value} {ds : List (DataW H)} {ps : List MemPlace}, (∀ t ∈ ts, Try.prog.readableRec t = true ∧ t < Try.prog.types.size) →
    DataW.TrodAll enc Try.prog W 0 (fun _ => true) true ts vs ds ps → (∀ p ∈ ps, p.block < W.heap.size) → DataW.TrodAll enc Try.prog W' 0 (fun b => decide (b < W.heap.size)) true ts vs ds ps
  | [], _, _, _, _, h, _ => by
    obtain ⟨rfl, rfl, rfl⟩ := trodAll_nil h
    exact trodAll_mk0
  | t :: ts, _, _, _, ht, h, hp => by
    obtain ⟨v, vs, d, ds, p, q, rfl, rfl, rfl, h1, h2⟩ := trodAll_cons h
    obtain ⟨r1, r2⟩ := ht t (by simp)
    exact trodAll_cons_mk (Below.trod laidOutP r1 r2 h1 hb fun x hx => hp x (by simp [hx])) (trodAll_stays hb (fun t ht' => ht t (by simp [ht'])) h2 fun x hx => hp x (by simp [hx]))

/-- the post of a law that answers true and leaves what came in as it was -/
theorem post_true {f : Func} {s : ChangeSpec} {W W' : World} {args : Array Value} {ds : List (DataW H)} {before : List MemPlace} (hres : f.resultTypes = #[4]) (hv : s.vars = [])
    (hfn : s.fn H (ds ++ []) = { results := [.lit (.bool true)], args := ds }) (hW : DataW.Whole enc Try.prog f.params.toList s.vars false W args.toList ds [] before)
    (hall : ∀ t ∈ f.params.toList, Try.prog.readableRec t = true ∧ t < Try.prog.types.size) (hb : Ext W W') : s.post enc Try.prog f false true false false W args (.bool true) W' := by
  have hlt := hW.lt
  have hW' := hW
  obtain ⟨p, q, hA, hV, rfl, -, -⟩ := hW'
  rw [hv] at hV
  obtain ⟨-, rfl⟩ := trodVars_none hV
  refine ⟨ds, [], _, [], p, [], hW, ?_, ?_, ?_, hb.frame _, fun h => by cases h⟩
  · rw [hfn, hres]
    exact trodAll_cons_mk (shut_bool Try.underlying4 _) trodAll_mk0
  · rw [hfn]
    exact trodAll_stays hb hall hA fun x hx => hlt x (by simp [hx])
  · rw [hfn, hv]
    rfl
end
end Go.Proofs.Ytapoedcmhdlpfaa
