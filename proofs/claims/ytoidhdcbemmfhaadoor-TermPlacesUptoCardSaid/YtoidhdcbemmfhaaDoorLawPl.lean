/- The law TermPlaces over terms, a place and a number that are read from memory. -/
import Derived.Test.YtoidhdcbemmfhaaDoorIterP
import Derived.Test.YtoidhdcbemmfhaaDoorPut
import Derived.Test.YtoidhdcbemmfhaaDoorPutR
import Derived.Test.YtoidhdcbemmfhaaDoorRefAt
import Derived.Test.YtoidhdcbemmfhaaDoorRefPlaces
import Derived.Test.YtoidhdcbemmfhaaDoorRefComp
import Derived.Test.YtoidhdcbemmfhaaDoorOrder
import Derived.Test.YtoidhdcbemmfhaaDoorInts
import Derived.Test.YtoidhdcbemmfhaaDoorGreat
import Derived.Test.YtoidhdcbemmfhaaDoorWakes
namespace Go.Proofs.YtoidhdcbemmfhaaDoor
open Go.ChangeShapes Go.WideShapes Go.ChangeAt Go.RowKit
attribute [local go_sem] fw_round fw_depth fw_fn Oper.semAt_some

def Tm.zero : Tm := .mk 0 []
theorem IsTm.zero (w : World) : IsTm w (.int .i64 0) (.slice none 0 0) Tm.zero := by
  unfold Tm.zero; simp only [IsTm]; exact ⟨trivial, by omega, by omega, none, 0, rfl, Nat.le_refl _, by simp only [IsTms]⟩
/-- a term that may be there, as a pair -/
def TmPair (w : World) (v : Value) (r : Option Tm) : Prop := ∃ x s, v = .tuple #[.agg #[x, s], .bool r.isSome] ∧ IsTm w x s (r.getD Tm.zero)
theorem Given.pair {B : Nat} {w : World} {v : Value} {r : Option Tm} (h : Given B w v r) : TmPair w v r := by
  cases r with
  | none => simp only [Given] at h; exact ⟨_, _, h, IsTm.zero w⟩
  | some t => simp only [Given] at h; obtain ⟨a, h1, h2⟩ := h; exact ⟨_, _, h1, h2.isTm⟩
theorem Got.pair {B : Nat} {w : World} {v : Value} {r : Option Tm} (h : Got B w v r) : TmPair w v r := by
  cases r with
  | none => simp only [Got] at h; exact ⟨_, _, h, IsTm.zero w⟩
  | some t => simp only [Got] at h; obtain ⟨a, c, h1, h2⟩ := h; exact ⟨_, _, h1, h2.isTm⟩
theorem at_size : ∀ (p : List Int) (t : Tm) {r : Tm}, t.at p = some r → r.size ≤ t.size
  | [], t, r, h => by simp only [Tm.at] at h; injection h with h; subst h; exact Nat.le_refl _
  | k :: p, t, r, h => by
    simp only [Tm.at] at h
    cases hk : t.kid k with
    | none => rw [hk] at h; cases h
    | some u =>
      rw [hk] at h
      have h1 := at_size p u h
      cases t with
      | mk f ks =>
        unfold Tm.kid at hk
        split at hk
        · simp only [Tm.ks] at hk
          obtain ⟨hlt, rfl⟩ := List.getElem?_eq_some_iff.1 hk
          have := size_le_sizes hlt
          simp only [Tm.size]; omega
        · cases hk
theorem sizes_set {x : Tm} : ∀ (ks : List Tm) (n : Nat) (h : n < ks.length), Tm.sizes (ks.set n x) + ks[n].size = Tm.sizes ks + x.size
  | [], n, h => by simp at h
  | t :: ts, 0, _ => by simp only [List.set_cons_zero, Tm.sizes, List.getElem_cons_zero]; omega
  | t :: ts, n + 1, h => by simp only [List.set_cons_succ, Tm.sizes, List.getElem_cons_succ]; have := sizes_set (x := x) ts n (by simpa using h); omega
theorem put_size : ∀ (p : List Int) (t s : Tm) {r : Tm}, t.put p s = some r → r.size ≤ t.size + s.size
  | [], t, s, r, h => by simp only [Tm.put] at h; injection h with h; subst h; omega
  | k :: p, t, s, r, h => by
    simp only [Tm.put] at h
    cases hk : t.kid k with
    | none => rw [hk] at h; cases h
    | some u =>
      rw [hk] at h
      simp only at h
      cases hx : u.put p s with
      | none => rw [hx] at h; cases h
      | some x =>
        rw [hx] at h
        injection h with h
        subst h
        have h1 := put_size p u s hx
        cases t with
        | mk f ks =>
          unfold Tm.kid at hk
          split at hk
          · simp only [Tm.ks] at hk
            obtain ⟨hlt, rfl⟩ := List.getElem?_eq_some_iff.1 hk
            have := sizes_set (x := x) ks k.toNat hlt
            simp only [Tm.size, Tm.ks]; omega
          · cases hk
theorem pair_size {n : Nat} {r : Option Tm} (h0 : 1 ≤ n) (h : ∀ x, r = some x → x.size ≤ n) : (r.getD Tm.zero).size ≤ n := by
  cases r with
  | none => simp [Tm.zero, Tm.size, Tm.sizes]; exact h0
  | some x => exact h x rfl

theorem IsInts.of_cells {w w' : World} {a : Option Addr} {l : List Int} (h : IsInts w a l) (hK : ∀ p v, w.cell? p = some v → w'.cell? p = some v) : IsInts w' a l := fun i hi => by
  obtain ⟨h1, h2, b, o, h3, h4⟩ := h i hi
  exact ⟨h1, h2, b, o, h3, hK _ _ h4⟩
/-- a function that held a range over a function returns -/
theorem leaves_mark {n : Nat} {fn : Func} {R : Ending → World → Prop} {a : Act} {W : World} {D : Nat} {v : Value} (hd : a.defers = [{ target := .collected D, args := #[] }]) (hK : W.heap[D]? = some (.deferred (some [])))
    (hr : (results fn a.tmps).run Tryd.prog (W.putObj D (.deferred none)) = .ok v (W.putObj D (.deferred none))) (hR : R (.returned v) (W.putObj D (.deferred none))) : bodyPostM (Fw none) n Tryd.prog fn R .ret a W := by
  show LeavesInM _ _ _ _ _ _ a.defers .returning W
  rw [hd]
  exact ⟨by simp, .inl ⟨_, _, rfl, run_takeDeferred hK, ⟨v, hr, hR⟩⟩⟩
theorem cell_putObj {W : World} {D : Nat} {o : Obj} {p : Addr} {v : Value} (h : W.cell? p = some v) (hD : p.block ≠ D) : (W.putObj D o).cell? p = some v := (chg_putObj W D o).cell h (by simpa using hD)
/-- between two rounds of the law's loop -/
structure PlJ (V : World) (R0 A0 : Nat) (W : World) (pre : List (List Int × Tm)) (S : List Nat) : Prop where
  s : S = [R0, A0]
  chg : Chg [R0, A0] V W
  at_ : W.cell? ⟨A0, 0, none⟩ = some (.int .i64 pre.length)
  atf : W.frozen? ⟨A0, 0, none⟩ = false
  res : W.cell? ⟨R0, 0, none⟩ = some (.bool false)
  resf : W.frozen? ⟨R0, 0, none⟩ = false
/-- behind a round that left -/
structure PlX (V : World) (R0 A0 : Nat) (c : Code) (W : World) (pre : List (List Int × Tm)) (S : List Nat) : Prop where
  s : S = [R0, A0]
  c : c = .ret
  chg : Chg [R0, A0] V W
  res : W.cell? ⟨R0, 0, none⟩ = some (.bool true)
theorem Chg.past {S T : List Nat} {a b c : World} (h : Chg S a b) (k : Chg T b c) (hT : ∀ i ∈ T, a.heap.size ≤ i) : Chg S a c :=
  ⟨k.os.trans h.os, k.tape.trans h.tape, k.output.trans h.output, Nat.le_trans h.size k.size, fun i hi hs => (k.block i (Nat.lt_of_lt_of_le hi h.size) (fun hm => by have := hT i hm; omega)).trans (h.block i hi hs)⟩
theorem PlJ.mv {V : World} {R0 A0 : Nat} {W W' : World} {pre : List (List Int × Tm)} {S T : List Nat} (h : PlJ V R0 A0 W pre S) (hR : R0 < V.heap.size) (hA : A0 < V.heap.size) (k : Chg T W W') (hT : ∀ i ∈ T, V.heap.size ≤ i) : PlJ V R0 A0 W' pre S :=
  ⟨h.s, h.chg.past k hT, k.cell h.at_ (fun hm => by have := hT _ hm; simp at this; omega), k.frozen h.at_ (fun hm => by have := hT _ hm; simp at this; omega) h.atf, k.cell h.res (fun hm => by have := hT _ hm; simp at this; omega), k.frozen h.res (fun hm => by have := hT _ hm; simp at this; omega) h.resf⟩
theorem PlX.mv {V : World} {R0 A0 : Nat} {c : Code} {W W' : World} {pre : List (List Int × Tm)} {S T : List Nat} (h : PlX V R0 A0 c W pre S) (hR : R0 < V.heap.size) (k : Chg T W W') (hT : ∀ i ∈ T, V.heap.size ≤ i) : PlX V R0 A0 c W' pre S :=
  ⟨h.s, h.c, h.chg.past k hT, k.cell h.res (fun hm => by have := hT _ hm; simp at this; omega)⟩

set_option maxHeartbeats 4000000 in
set_option maxRecDepth 100000 in
theorem termPlaces_any (t u : Tm) (p : List Int) (leave : Int) (ht1 : t.size ≤ 1048576) (hu1 : u.size ≤ 1048576) (hpl : p.length ≤ 1048576) (hv1 : -9223372036854775808 ≤ leave) (hv2 : leave ≤ 9223372036854775807)
    (w : World) (x0 s0 x1 s1 : Value) (pa : Option Addr) (pc : Nat) (ht : IsTm w x0 s0 t) (hu : IsTm w x1 s1 u) (hp : IsInts w pa p) (hpc : p.length ≤ pc) (hpc2 : pc ≤ 9223372036854775807) :
    Calls Tryd.prog 6 #[.agg #[x0, s0], .slice pa p.length pc, .agg #[x1, s1], .int .i64 leave] w fun e w' => e = .returned (.bool true) ∧ Ext w w' := by
  obtain ⟨a0, n0, rfl, rfl, -, -, -, -⟩ := ht.form
  obtain ⟨a1, n1, rfl, rfl, -, -, -, -⟩ := hu.form
  obtain ⟨W, hW⟩ : ∃ W, W = ((((w.alloc (.cells #[.int .i64 t.f, .slice a0 t.ks.length n0] 27)).alloc (.cells #[.int .i64 u.f, .slice a1 u.ks.length n1] 27)).alloc (.cells #[.int .i64 leave] 3)).alloc (.cells #[.bool false] 4)) := ⟨_, rfl⟩
  have hx : Ext w W := by subst hW; go_grown
  have hsW : W.heap.size = w.heap.size + 4 := by subst hW; simp
  have k0 : W.cell? ⟨w.heap.size, 0, none⟩ = some (.int .i64 t.f) := by subst hW; go_simp
  have k1 : W.cell? ⟨w.heap.size, 1, none⟩ = some (.slice a0 t.ks.length n0) := by subst hW; go_simp
  have k2 : W.cell? ⟨w.heap.size + 1, 0, none⟩ = some (.int .i64 u.f) := by subst hW; go_simp
  have k3 : W.cell? ⟨w.heap.size + 1, 1, none⟩ = some (.slice a1 u.ks.length n1) := by subst hW; go_simp
  have k4 : W.cell? ⟨w.heap.size + 1 + 1, 0, none⟩ = some (.int .i64 leave) := by subst hW; go_simp
  have k5 : W.cell? ⟨w.heap.size + 1 + 1 + 1, 0, none⟩ = some (.bool false) := by subst hW; go_simp
  have f5 : W.frozen? ⟨w.heap.size + 1 + 1 + 1, 0, none⟩ = false := by subst hW; go_simp
  have Hg1 := Lib.hid (fun w' (h : Ext w w') => great_any t w' _ _ (ht.ext h) (by omega))
  have Hg2 := Lib.hid (fun w' (h : Ext w w') => great_any u w' _ _ (hu.ext h) (by omega))
  have Hw := Lib.hid wakes_any
  by_cases hgg : t.great = false ∧ u.great = false
  case neg =>
    cases hgt : t.great with
    | true =>
      rw [hgt] at Hg1
      clear hgg
      go_enter Tryd.func6, Tryd.ntmps6
      go_wp2_with (first
        | (rw [← hW]; clear hW; go_at_call 19; refine (Hg1.out _ hx).mono ?_; rintro e w1 ⟨rfl, hx1⟩; have q5 := hx1.cell k5; have z5 := hx1.frozen k5 f5)
        | (go_at_call 16; refine (Hw.out _).mono ?_; rintro e w2 ⟨rfl, hx2⟩; have r5 := hx2.cell q5; have y5 := hx2.frozen q5 z5))
      have c1 : (w2.setCell ⟨w.heap.size + 1 + 1 + 1, 0, none⟩ (.bool true)).cell? ⟨w.heap.size + 1 + 1 + 1, 0, none⟩ = some (.bool true) := World.cell?_setCell_same _ _ _ r5
      refine bodyPost_ret (v := .bool true) (by simp [results, Tryd.results6, go_sem, c1]) rfl ?_
      exact ⟨rfl, Chg.ext ((hx.trans hx1).trans hx2) ((Chg.refl [w.heap.size + 1 + 1 + 1] w2).setCell _ (.inl (by simp))) (by simp; omega)⟩
    | false =>
      have hgu : u.great = true := by
        cases h : u.great with
        | true => rfl
        | false => exact absurd ⟨hgt, h⟩ hgg
      rw [hgt] at Hg1
      rw [hgu] at Hg2
      clear hgg
      go_enter Tryd.func6, Tryd.ntmps6
      go_wp2_with (first
        | (rw [← hW]; clear hW; go_at_call 19; refine (Hg1.out _ hx).mono ?_; rintro e w1 ⟨rfl, hx1⟩; have q2 := hx1.cell k2; have q3 := hx1.cell k3)
        | (go_at_call 19; refine (Hg2.out _ (hx.trans hx1)).mono ?_; rintro e w2 ⟨rfl, hx2⟩; have q5 := hx2.cell (hx1.cell k5); have z5 := hx2.frozen (hx1.cell k5) (hx1.frozen k5 f5))
        | (go_at_call 16; refine (Hw.out _).mono ?_; rintro e w3 ⟨rfl, hx3⟩; have r5 := hx3.cell q5; have y5 := hx3.frozen q5 z5))
      have c1 : (w3.setCell ⟨w.heap.size + 1 + 1 + 1, 0, none⟩ (.bool true)).cell? ⟨w.heap.size + 1 + 1 + 1, 0, none⟩ = some (.bool true) := World.cell?_setCell_same _ _ _ r5
      refine bodyPost_ret (v := .bool true) (by simp [results, Tryd.results6, go_sem, c1]) rfl ?_
      exact ⟨rfl, Chg.ext (((hx.trans hx1).trans hx2).trans hx3) ((Chg.refl [w.heap.size + 1 + 1 + 1] w3).setCell _ (.inl (by simp))) (by simp; omega)⟩
  case pos =>
    obtain ⟨hgt, hgu⟩ := hgg
    rw [hgt] at Hg1
    rw [hgu] at Hg2
    have Ha := Lib.hid (fun w' (h : Ext w w') => (at_any t p w' _ _ pa pc (ht.ext h) (by omega) (hp.ext h) (by omega)).mono (R' := fun e w'' => (∃ v, e = .returned v ∧ TmPair w'' v (t.at p)) ∧ Ext w' w'') fun e w'' ⟨⟨v, h1, h2⟩, h3⟩ => ⟨⟨v, h1, h2.pair⟩, h3⟩)
    have Hra := Lib.hid (fun w' (h : Ext w w') => (rTermAt_any t p w' _ _ pa pc (ht.ext h) (by omega) (hp.ext h) (by omega)).mono (R' := fun e w'' => (∃ v, e = .returned v ∧ TmPair w'' v (t.at p)) ∧ Ext w' w'') fun e w'' ⟨⟨v, h1, h2⟩, h3⟩ => ⟨⟨v, h1, h2.pair⟩, h3⟩)
    have Hpu := Lib.hid (fun w' (h : Ext w w') => (put_any p t u w' _ _ _ _ pa pc (ht.ext h) (hu.ext h) (by omega) (by omega) (hp.ext h) hpc hpc2).mono (R' := fun e w'' => (∃ v, e = .returned v ∧ TmPair w'' v (t.put p u)) ∧ Ext w' w'') fun e w'' ⟨⟨v, h1, h2⟩, h3⟩ => ⟨⟨v, h1, h2.pair⟩, h3⟩)
    have Hrp := Lib.hid (fun w' (h : Ext w w') => (refPut_any p t u w' _ _ _ _ pa pc (ht.ext h) (hu.ext h) (by omega) (by omega) (hp.ext h) hpc hpc2).mono (R' := fun e w'' => (∃ v, e = .returned v ∧ TmPair w'' v (t.put p u)) ∧ Ext w' w'') fun e w'' ⟨⟨v, h1, h2⟩, h3⟩ => ⟨⟨v, h1, h2.pair⟩, h3⟩)
    have Hss := Lib.hid (fun (r : Tm) (hr : r.size ≤ 2097152) w' x s y z (h1 : IsTm w' x s r) (h2 : IsTm w' y z r) => (refSame_any r r w' x s y z h1 h2 hr hr).mono (R' := fun e w'' => e = .returned (.bool true) ∧ Ext w' w'') fun e w'' h => by rw [cmp_self] at h; exact h)
    have hs1 : ((t.at p).getD Tm.zero).size ≤ 2097152 := pair_size (by omega) fun x hx => by have := at_size p t hx; omega
    have hs2 : ((t.put p u).getD Tm.zero).size ≤ 2097152 := pair_size (by omega) fun x hx => by have := put_size p t u hx; omega
    obtain ⟨r1, hr1⟩ : ∃ r1, r1 = t.at p := ⟨_, rfl⟩
    obtain ⟨r2, hr2⟩ : ∃ r2, r2 = t.put p u := ⟨_, rfl⟩
    rw [← hr1] at Ha Hra hs1
    rw [← hr2] at Hpu Hrp hs2
    clear hr1 hr2
    have hfn : ∀ f caps w, (binOp .eql 49 (.func f #[] caps) .nilFunc).run Tryd.prog w = .ok (.bool false) w := by
      intro f caps w
      have h : ∀ d : Nat, (Op.equalIn (d + 1) 49 (.func f #[] caps) .nilFunc).run Tryd.prog w = .ok false w := fun d => by
        simp [Op.equalIn, run_underlying Tryd.underlying49]
      simp only [binOp]
      simp [Op.equal, Op.maxDepth, h 9999]
    refine callsFw.1 (callsIn_of_wp_marks (n := 0) Tryd.func6 rfl trivial (wpIn_wide.2 ?_))
    simp only [Tryd.ntmps6, List.size_toArray, List.length_cons, List.length_nil, Nat.reduceAdd, Nat.reduceSub, Array.replicate_succ, Array.replicate_zero, List.push_toArray, List.append_toArray, List.nil_append, List.cons_append]
    go_wp2_with (first
        | (rw [← hW]; clear hW; go_at_call 19; refine (Hg1.out _ hx).mono ?_; rintro e w1 ⟨rfl, hx1⟩; replace hx := hx.trans hx1; replace f5 := hx1.frozen k5 f5; replace k0 := hx1.cell k0; replace k1 := hx1.cell k1; replace k2 := hx1.cell k2; replace k3 := hx1.cell k3; replace k4 := hx1.cell k4; replace k5 := hx1.cell k5; have hz : w.heap.size + 4 ≤ w1.heap.size := by have := hx1.size; omega)
        | (go_at_call 19; refine (Hg2.out _ hx).mono ?_; rintro e w2 ⟨rfl, hx2⟩; replace hx := hx.trans hx2; replace f5 := hx2.frozen k5 f5; replace k0 := hx2.cell k0; replace k1 := hx2.cell k1; replace k2 := hx2.cell k2; replace k3 := hx2.cell k3; replace k4 := hx2.cell k4; replace k5 := hx2.cell k5; replace hz := Nat.le_trans hz hx2.size)
        | (go_at_call 20; refine (Ha.out _ hx).mono ?_; rintro e w3 ⟨⟨v, rfl, hv⟩, hx3⟩; obtain ⟨y, z, rfl, hi3⟩ := hv; obtain ⟨a13, n13, rfl, rfl, -, -, -, -⟩ := hi3.form; replace hx := hx.trans hx3; replace f5 := hx3.frozen k5 f5; replace k0 := hx3.cell k0; replace k1 := hx3.cell k1; replace k2 := hx3.cell k2; replace k3 := hx3.cell k3; replace k4 := hx3.cell k4; replace k5 := hx3.cell k5; replace hz := Nat.le_trans hz hx3.size; have hA := ext_alloc w3 (.cells #[.int .i64 (r1.getD Tm.zero).f, .slice a13 (r1.getD Tm.zero).ks.length n13] 27); replace hx := hx.trans hA; replace f5 := hA.frozen k5 f5; replace k0 := hA.cell k0; replace k1 := hA.cell k1; replace k2 := hA.cell k2; replace k3 := hA.cell k3; replace k4 := hA.cell k4; replace k5 := hA.cell k5; replace hz := Nat.le_trans hz hA.size; obtain ⟨b3, d3⟩ := cells2 w3 (.int .i64 (r1.getD Tm.zero).f) (.slice a13 (r1.getD Tm.zero).ks.length n13) 27; have j3 := hi3.ext hA; clear hA hi3 hx3)
        | (go_at_call 21; refine (Hra.out _ hx).mono ?_; rintro e w4 ⟨⟨v, rfl, hv⟩, hx4⟩; obtain ⟨y, z, rfl, hi4⟩ := hv; obtain ⟨a14, n14, rfl, rfl, -, -, -, -⟩ := hi4.form; replace hx := hx.trans hx4; replace f5 := hx4.frozen k5 f5; replace k0 := hx4.cell k0; replace k1 := hx4.cell k1; replace k2 := hx4.cell k2; replace k3 := hx4.cell k3; replace k4 := hx4.cell k4; replace k5 := hx4.cell k5; replace b3 := hx4.cell b3; replace d3 := hx4.cell d3; replace hz := Nat.le_trans hz hx4.size; have hA := ext_alloc w4 (.cells #[.int .i64 (r1.getD Tm.zero).f, .slice a14 (r1.getD Tm.zero).ks.length n14] 27); replace hx := hx.trans hA; replace f5 := hA.frozen k5 f5; replace k0 := hA.cell k0; replace k1 := hA.cell k1; replace k2 := hA.cell k2; replace k3 := hA.cell k3; replace k4 := hA.cell k4; replace k5 := hA.cell k5; replace b3 := hA.cell b3; replace d3 := hA.cell d3; replace hz := Nat.le_trans hz hA.size; obtain ⟨b4, d4⟩ := cells2 w4 (.int .i64 (r1.getD Tm.zero).f) (.slice a14 (r1.getD Tm.zero).ks.length n14) 27; have j4 := hi4.ext hA; replace j3 := j3.ext (hx4.trans hA); clear hA hi4 hx4)
        | (go_at_call 22; refine (Hpu.out _ hx).mono ?_; rintro e w5 ⟨⟨v, rfl, hv⟩, hx5⟩; obtain ⟨y, z, rfl, hi5⟩ := hv; obtain ⟨a15, n15, rfl, rfl, -, -, -, -⟩ := hi5.form; replace hx := hx.trans hx5; replace f5 := hx5.frozen k5 f5; replace k0 := hx5.cell k0; replace k1 := hx5.cell k1; replace k2 := hx5.cell k2; replace k3 := hx5.cell k3; replace k4 := hx5.cell k4; replace k5 := hx5.cell k5; replace b3 := hx5.cell b3; replace d3 := hx5.cell d3; replace b4 := hx5.cell b4; replace d4 := hx5.cell d4; replace hz := Nat.le_trans hz hx5.size; have hA := ext_alloc w5 (.cells #[.int .i64 (r2.getD Tm.zero).f, .slice a15 (r2.getD Tm.zero).ks.length n15] 27); replace hx := hx.trans hA; replace f5 := hA.frozen k5 f5; replace k0 := hA.cell k0; replace k1 := hA.cell k1; replace k2 := hA.cell k2; replace k3 := hA.cell k3; replace k4 := hA.cell k4; replace k5 := hA.cell k5; replace b3 := hA.cell b3; replace d3 := hA.cell d3; replace b4 := hA.cell b4; replace d4 := hA.cell d4; replace hz := Nat.le_trans hz hA.size; obtain ⟨b5, d5⟩ := cells2 w5 (.int .i64 (r2.getD Tm.zero).f) (.slice a15 (r2.getD Tm.zero).ks.length n15) 27; have j5 := hi5.ext hA; replace j3 := j3.ext (hx5.trans hA); replace j4 := j4.ext (hx5.trans hA); clear hA hi5 hx5)
        | (go_at_call 23; refine (Hrp.out _ hx).mono ?_; rintro e w6 ⟨⟨v, rfl, hv⟩, hx6⟩; obtain ⟨y, z, rfl, hi6⟩ := hv; obtain ⟨a16, n16, rfl, rfl, -, -, -, -⟩ := hi6.form; replace hx := hx.trans hx6; replace f5 := hx6.frozen k5 f5; replace k0 := hx6.cell k0; replace k1 := hx6.cell k1; replace k2 := hx6.cell k2; replace k3 := hx6.cell k3; replace k4 := hx6.cell k4; replace k5 := hx6.cell k5; replace b3 := hx6.cell b3; replace d3 := hx6.cell d3; replace b4 := hx6.cell b4; replace d4 := hx6.cell d4; replace b5 := hx6.cell b5; replace d5 := hx6.cell d5; replace hz := Nat.le_trans hz hx6.size; have hA := ext_alloc w6 (.cells #[.int .i64 (r2.getD Tm.zero).f, .slice a16 (r2.getD Tm.zero).ks.length n16] 27); replace hx := hx.trans hA; replace f5 := hA.frozen k5 f5; replace k0 := hA.cell k0; replace k1 := hA.cell k1; replace k2 := hA.cell k2; replace k3 := hA.cell k3; replace k4 := hA.cell k4; replace k5 := hA.cell k5; replace b3 := hA.cell b3; replace d3 := hA.cell d3; replace b4 := hA.cell b4; replace d4 := hA.cell d4; replace b5 := hA.cell b5; replace d5 := hA.cell d5; replace hz := Nat.le_trans hz hA.size; obtain ⟨b6, d6⟩ := cells2 w6 (.int .i64 (r2.getD Tm.zero).f) (.slice a16 (r2.getD Tm.zero).ks.length n16) 27; have j6 := hi6.ext hA; replace j3 := j3.ext (hx6.trans hA); replace j4 := j4.ext (hx6.trans hA); replace j5 := j5.ext (hx6.trans hA); clear hA hi6 hx6)
        | (go_at_call 24; refine (Hss.out _ hs1 _ _ _ _ _ j3 j4).mono ?_; rintro e w7 ⟨rfl, hx7⟩; replace hx := hx.trans hx7; replace f5 := hx7.frozen k5 f5; replace k0 := hx7.cell k0; replace k1 := hx7.cell k1; replace k2 := hx7.cell k2; replace k3 := hx7.cell k3; replace k4 := hx7.cell k4; replace k5 := hx7.cell k5; replace b3 := hx7.cell b3; replace d3 := hx7.cell d3; replace b4 := hx7.cell b4; replace d4 := hx7.cell d4; replace b5 := hx7.cell b5; replace d5 := hx7.cell d5; replace b6 := hx7.cell b6; replace d6 := hx7.cell d6; replace hz := Nat.le_trans hz hx7.size; replace j5 := j5.ext hx7; replace j6 := j6.ext hx7; clear j3 j4 hx7)
        | (go_at_call 24; refine (Hss.out _ hs2 _ _ _ _ _ j5 j6).mono ?_; rintro e w8 ⟨rfl, hx8⟩; replace hx := hx.trans hx8; replace f5 := hx8.frozen k5 f5; replace k0 := hx8.cell k0; replace k1 := hx8.cell k1; replace k2 := hx8.cell k2; replace k3 := hx8.cell k3; replace k4 := hx8.cell k4; replace k5 := hx8.cell k5; replace b5 := hx8.cell b5; replace d5 := hx8.cell d5; replace b6 := hx8.cell b6; replace d6 := hx8.cell d6; replace hz := Nat.le_trans hz hx8.size; clear j5 j6 hx8)
        | (go_at_call 25; refine (refPlaces_any t _ _ _ (ht.ext hx) ht1).mono ?_; rintro e w9 ⟨⟨v, rfl, hrow⟩, hx9⟩; obtain ⟨g, cin, rfl, hg0, hg1, hcin, hlaid⟩ := Laid.of_row hrow (by rw [places_length]; exact size_pos t); replace hx := hx.trans hx9; replace f5 := hx9.frozen k5 f5; replace k0 := hx9.cell k0; replace k1 := hx9.cell k1; replace k2 := hx9.cell k2; replace k3 := hx9.cell k3; replace k4 := hx9.cell k4; replace k5 := hx9.cell k5; have HZ8 := Lib.hid hz; replace hz := Nat.le_trans hz hx9.size; have HZ9 := Lib.hid hz; obtain ⟨h0, hh0⟩ : ∃ h0, h0 = w8.heap.size := ⟨_, rfl⟩; obtain ⟨h1, hh1⟩ : ∃ h1, h1 = w9.heap.size := ⟨_, rfl⟩; rw [← hh0, ← hh1] at hlaid; rw [← hh0] at hg0; rw [← hh1] at hg1; have hA := (ext_alloc w9 (.cells #[.slice (some ⟨g, 0, none⟩) t.places.length cin] 46)).trans (ext_alloc _ (.cells #[.int .i64 0] 3)); replace hx := hx.trans hA; replace f5 := hA.frozen k5 f5; replace k0 := hA.cell k0; replace k1 := hA.cell k1; replace k2 := hA.cell k2; replace k3 := hA.cell k3; replace k4 := hA.cell k4; replace k5 := hA.cell k5; replace hz := Nat.le_trans hz hA.size; replace hlaid := hlaid.ext ⟨hg0, hg1⟩ hA; have b9 : ((w9.alloc (.cells #[.slice (some ⟨g, 0, none⟩) t.places.length cin] 46)).alloc (.cells #[.int .i64 0] 3)).cell? ⟨w9.heap.size, 0, none⟩ = some (.slice (some ⟨g, 0, none⟩) t.places.length cin) := (by go_simp); have d9 : ((w9.alloc (.cells #[.slice (some ⟨g, 0, none⟩) t.places.length cin] 46)).alloc (.cells #[.int .i64 0] 3)).cell? ⟨w9.heap.size + 1, 0, none⟩ = some (.int .i64 0) := (by go_simp); have f9 : ((w9.alloc (.cells #[.slice (some ⟨g, 0, none⟩) t.places.length cin] 46)).alloc (.cells #[.int .i64 0] 3)).frozen? ⟨w9.heap.size + 1, 0, none⟩ = false := (by go_simp); rw [← hh1] at b9 d9 f9; have hsz9 : ((w9.alloc (.cells #[.slice (some ⟨g, 0, none⟩) t.places.length cin] 46)).alloc (.cells #[.int .i64 0] 3)).heap.size = h1 + 2 := (by rw [hh1]; simp); have Hh0 := Lib.hid hh0; have Hh1 := Lib.hid hh1; clear hh0 hh1 hrow hx9 hA)
        | (go_at_call 26; refine (places_any t _ _ _ (ht.ext hx) (by omega)).mono ?_; rintro e w10 ⟨⟨bo, x', s', rfl, o0, o1, hbo, hat⟩, hx10⟩; replace hx := hx.trans hx10; replace f9 := hx10.frozen d9 f9; replace f5 := hx10.frozen k5 f5; replace k0 := hx10.cell k0; replace k1 := hx10.cell k1; replace k2 := hx10.cell k2; replace k3 := hx10.cell k3; replace k4 := hx10.cell k4; replace k5 := hx10.cell k5; replace b9 := hx10.cell b9; replace d9 := hx10.cell d9; replace hz := Nat.le_trans hz hx10.size; replace hlaid := hlaid.ext ⟨hg0, hg1⟩ hx10))
    refine (wpIn_wide (n := 0)).1 ?_
    have hR0 : w.heap.size + 1 + 1 + 1 < w10.heap.size := by omega
    have hA0 : h1 + 1 < w10.heap.size := by have := hx10.size; omega
    have hle1 : w.heap.size + 4 ≤ h1 := by rw [Hh1.out]; exact HZ9.out
    have hle0 : w.heap.size + 4 ≤ h0 := by rw [Hh0.out]; exact HZ8.out
    have hgh : h0 ≤ g ∧ g < h1 := ⟨hg0, hg1⟩
    rw [← Hh1.out]
    have hne1 : ∀ b ∈ [w.heap.size + 1 + 1 + 1, h1 + 1], b ≠ h1 := fun b hb => by simp at hb; omega
    refine wpIn_rangeFunc_run (n := 0) (gf := 65) (lb := #[.pointer (some ⟨bo, 0, none⟩)]) (by rfl) (fun _ _ => rfl) (places1_ok t ht1 bo) (fun x args w h => by obtain ⟨_, _, _, _, rfl, -⟩ := h; rfl)
      [w.heap.size + 1 + 1 + 1, h1 + 1] (PlJ w10 (w.heap.size + 1 + 1 + 1) (h1 + 1)) (PlX w10 (w.heap.size + 1 + 1 + 1) (h1 + 1)) ?hD ?hS0 ?h0 ?hJ ?hJx ?hJe ?hJxe ?body ?done ?stop
    case hD =>
      intro w' hw'
      rw [hsz9] at hat hbo
      have hbl := cell_lt o0
      simp only at hbl
      refine ⟨by simp; omega, x', s', hw'.cell o0, hw'.cell o1, (hat.mono (Q := Av (w10.heap.size :: (w10.heap.size + 1) :: [w.heap.size + 1 + 1 + 1, h1 + 1]) w') (fun b hb _ => ⟨by simp; omega, by have := hw'.size; omega⟩)).ext hw'⟩
    case hS0 => intro b hb; simp at hb; omega
    case h0 => exact ⟨rfl, Chg.refl _ _, by simpa using d9, f9, k5, f5⟩
    case hJ => exact fun w1 w2 s S _ h k => h.mv hR0 hA0 k (by simp)
    case hJx => exact fun c w1 w2 s S _ h k => h.mv hR0 k (by simp)
    case hJe => exact fun w1 w2 s S h k => h.mv hR0 hA0 (Chg.of_ext (S := []) k) (by simp)
    case hJxe => exact fun c w1 w2 s S h k => h.mv hR0 (Chg.of_ext (S := []) k) (by simp)
    case done =>
      intro V S hm hj hK
      have q9 := hj.chg.cell b9 (by simp; omega)
      obtain ⟨-, hchg, hat9, hatf9, hres9, hresf9⟩ := hj
      have hlast : ((t.places.length : Int) == (t.places.length : Int)) = true := by simp
      go_wp2_with (go_at_call 16; refine (Hw.out _).mono ?_; rintro e w11 ⟨rfl, hx11⟩; have r5 := hx11.cell hres9; have y5 := hx11.frozen hres9 hresf9)
      have hVs := hchg.size
      have hDl : w10.heap.size < V.heap.size := (Array.getElem?_eq_some_iff.1 hK).1
      have hK2 : (w11.setCell ⟨w.heap.size + 1 + 1 + 1, 0, none⟩ (.bool true)).heap[w10.heap.size]? = some (.deferred (some [])) := (Below.heap_setCell _ _ _ _ (by simp; omega)).trans ((hx11.block _ hDl).trans hK)
      have c1 := cell_putObj (D := w10.heap.size) (o := .deferred none) (World.cell?_setCell_same (a := (⟨w.heap.size + 1 + 1 + 1, 0, none⟩ : Addr)) (w := w11) (v := Value.bool true) r5) (by simp; omega)
      refine leaves_mark (v := .bool true) rfl hK2 (by simp [results, Tryd.results6, go_sem, c1]) ⟨rfl, ?_⟩
      have hch : Chg [w.heap.size + 1 + 1 + 1, h1 + 1, w10.heap.size] w10 ((w11.setCell ⟨w.heap.size + 1 + 1 + 1, 0, none⟩ (.bool true)).putObj w10.heap.size (.deferred none)) :=
        (((hchg.mono (by simp <;> omega)).trans (Chg.of_ext hx11)).setCell (p := ⟨w.heap.size + 1 + 1 + 1, 0, none⟩) _ (.inl (by simp))).trans ((chg_putObj _ _ _).mono (by simp))
      exact Chg.ext hx hch (by simp; omega)
    case stop =>
      intro c q V S hq hm hj hK
      obtain ⟨-, rfl, hchg, hres9⟩ := hj
      gi_wp2
      have c1 := cell_putObj (D := w10.heap.size) (o := .deferred none) hres9 (by simp; omega)
      refine leaves_mark (v := .bool true) rfl hK (by simp [results, Tryd.results6, go_sem, c1]) ⟨rfl, ?_⟩
      have hch : Chg [w.heap.size + 1 + 1 + 1, h1 + 1, w10.heap.size] w10 (V.putObj w10.heap.size (.deferred none)) := (hchg.mono (by simp <;> omega)).trans ((chg_putObj _ _ _).mono (by simp))
      exact Chg.ext hx hch (by simp; omega)
    case body =>
      intro pre q rest hitems args V S m hG hj hSne hVl
      obtain ⟨qa, qc, qx, qs, rfl, hqc, hqi, hqt⟩ := hG
      obtain ⟨ql, qn, rfl, rfl, -, -, -, -⟩ := hqt.form
      have hjs := hj.s
      obtain ⟨-, hchg, hat9, hatf9, hres9, hresf9⟩ := hj
      have hpl9 : t.places.length = pre.length + (rest.length + 1) := by rw [hitems]; simp
      have hsz9t := places_length t
      have hltb : pre.length < t.places.length := by omega
      have hpl0 : t.places.length ≤ 1048576 := by omega
      clear hpl9 hsz9t
      have hlv := hchg.cell k4 (by simp; omega)
      have q9 := hchg.cell b9 (by simp; omega)
      have hlaidV : Laid g h0 h1 V t.places := hlaid.of_cells hgh fun p v hp hv => hchg.cell hv (by simp; omega)
      obtain ⟨la, lc, lx, ls, e1, e2, e3, hlc, hli, hlt9⟩ := hlaidV pre.length hltb
      have hel : t.places[pre.length]'hltb = q := by simp only [hitems]; rw [List.getElem_append_right (Nat.le_refl _)]; simp
      rw [hel] at e1 hli hlt9
      obtain ⟨lt, ln, rfl, rfl, -, -, -, -⟩ := hlt9.isTm.form
      have hql : q.1.length ≤ 1048576 := by
        have h1 := places_deep t q (by rw [hitems]; simp)
        have h2 := depth_le_size t
        omega
      have hqs : q.2.size ≤ 2097152 := by have h1 := places_deep t q (by rw [hitems]; simp); omega
      have hdec : decide ((t.places.length : Int) ≤ (pre.length : Int)) = false := decide_eq_false (by omega)
      have hdec2 : decide (t.places.length ≤ pre.length) = false := decide_eq_false (by omega)
      have HI := Lib.hid (And.intro hqi (And.intro hqt (And.intro hli hlt9)))
      have Hel := Lib.hid (And.intro hitems hel)
      clear hqi hqt hli hlt9 hlaidV hitems hel
      gi_wp2
      obtain ⟨V1, hV1⟩ : ∃ V1, V1 = V.alloc (.cells #[.int .i64 q.2.f, .slice ql q.2.ks.length qn] 27) := ⟨_, rfl⟩
      have hA1 : Ext V V1 := by rw [hV1]; exact ext_alloc _ _
      obtain ⟨u0, u1⟩ := cells2 V (.int .i64 q.2.f) (.slice ql q.2.ks.length qn) 27
      rw [← hV1] at u0 u1 ⊢
      clear hV1
      intro V2 hc2 hcell2
      refine ⟨Mv.of_ext hA1, ?_⟩
      have hK2 : ∀ p v, V.cell? p = some v → V2.cell? p = some v := fun p v hv => hcell2 p v (hA1.cell hv)
      have Hnum := Lib.hid (fun w' (h : Ext V2 w') => (numbers_any q.1 q.1 w' qa la qc lc ((HI.out.1.of_cells hK2).ext h) ((HI.out.2.2.1.isInts.of_cells hK2).ext h) (by omega) (by omega)).mono (R' := fun e w'' => e = .returned (.bool true) ∧ Ext w' w'') fun e w'' h => by simpa using h)
      have Hsm := Lib.hid (fun w' (h : Ext V2 w') => Hss.out q.2 hqs w' _ _ _ _ ((HI.out.2.1.of_cells hK2).ext h) ((HI.out.2.2.2.isTm.of_cells hK2).ext h))
      have z1 := hK2 _ _ hat9
      have z2 := hK2 _ _ q9
      have z3 := hK2 _ _ hlv
      have z4 := hK2 _ _ hres9
      have z5 := hK2 _ _ e1
      have z6 := hK2 _ _ e2
      have z7 := hK2 _ _ e3
      have z8 := hcell2 _ _ u0
      have z9 := hcell2 _ _ u1
      have y1 := hc2.frozen (hA1.cell hat9) (by simp; omega) (hA1.frozen hat9 hatf9)
      have y4 := hc2.frozen (hA1.cell hres9) (by simp; omega) (hA1.frozen hres9 hresf9)
      have HZ := Lib.hid (And.intro z1 (And.intro z2 (And.intro z5 (And.intro z6 (And.intro z7 (And.intro z8 z9))))))
      clear HI e1 e2 e3 u0 u1 q9 hlv hat9 hatf9 hres9 hresf9 hcell2 hK2 z5 z6 z7 z8 z9
      gi_wp2
      refine wpIn_region_noPanic ?_
      refine wpIn_region_AnI (by kernel_rfl) ?_
      refine AnI.walk Ext [0, 1, 2, 3, 4, 5, 6, 7, 8, 9, 10, 11, 12, 13, 14, 15, 16, 17, 18, 19, 20, 21, 22, 23] (by kernel_rfl) goes_ext (by kernel_rfl) (fun _ _ _ _ _ h => h) ?_
      iterate 24 (apply wpS_open; (focus (simp only [List.getElem?_toArray, List.getElem?_cons_succ, List.getElem?_cons_zero]; rfl)); first | (refine St_skip (by rfl) ?_; simp only [Act.put, List.setIfInBounds_toArray, List.set_cons_zero, List.set_cons_succ]) | (apply St_want; (focus rfl); (focus (intro v1 hv; obtain ⟨g1, g2, g5, g6, g7, g8, g9⟩ := HZ.out; have hv2 := ext_base hv; replace g1 := hv2.cell g1; replace g2 := hv2.cell g2; replace g5 := hv2.cell g5; replace g6 := hv2.cell g6; replace g7 := hv2.cell g7; replace g8 := hv2.cell g8; replace g9 := hv2.cell g9; go_simp; first | done | rfl | ((with_reducible refine (Hnum.out _ hv2).mono ?_); rintro e w' ⟨rfl, hw'⟩; exact ⟨rfl, hw'⟩) | ((with_reducible refine (Hsm.out _ hv2).mono ?_); rintro e w' ⟨rfl, hw'⟩; exact ⟨rfl, hw'⟩))); simp only [Act.put, List.setIfInBounds_toArray, List.set_cons_zero, List.set_cons_succ]))
      refine wpS_nil (fun v1 hv1 => ?_)
      refine AnI.done (by kernel_rfl) ?_
      refine NoPanic.normal ?_
      have hx1 : Ext V2 v1 := ext_base hv1
      clear hv1 HZ Hnum Hsm
      have x1 := hx1.cell z1
      have x3 := hx1.cell z3
      have x4 := hx1.cell z4
      have w1f := hx1.frozen z1 y1
      have w4f := hx1.frozen z4 y4
      have hm1 : Mv S V2 S v1 := Mv.of_ext hx1
      have hchV : Chg [w.heap.size + 1 + 1 + 1, h1 + 1] w10 v1 := ((hchg.trans (Chg.of_ext hA1)).past hc2 (by simp)).trans (Chg.of_ext hx1)
      have hadd : IntKind.i64.wrap ((pre.length : Int) + 1) = (pre.length : Int) + 1 := IntWalk.i64_in _ (by omega)
      have hb1 : (pre.length : Int) ≤ 1048576 := by omega
      have hlen1 : ((pre ++ [q]).length : Int) = (pre.length : Int) + 1 := by simp
      have HJ := Lib.hid (And.intro hm1 (And.intro hchV (And.intro hlen1 hjs)))
      clear hm1 hchV hlen1 hjs z1 z2 z3 z4 y1 y4 hdec2
      have hneRA : (⟨w.heap.size + 1 + 1 + 1, 0, none⟩ : Addr) ≠ ⟨h1 + 1, 0, none⟩ := by simp <;> omega
      obtain ⟨v2, hv2⟩ : ∃ v2, v2 = v1.setCell ⟨h1 + 1, 0, none⟩ (.int .i64 ((pre.length : Int) + 1)) := ⟨_, rfl⟩
      have t1 : v2.cell? ⟨h1 + 1, 0, none⟩ = some (.int .i64 ((pre.length : Int) + 1)) := by rw [hv2]; exact World.cell?_setCell_same _ _ _ x1
      have t1f : v2.frozen? ⟨h1 + 1, 0, none⟩ = false := by rw [hv2, World.frozen?_setCell]; exact w1f
      have t4 : v2.cell? ⟨w.heap.size + 1 + 1 + 1, 0, none⟩ = some (.bool false) := by rw [hv2, World.cell?_setCell_other _ _ _ _ (by simp <;> omega)]; exact x4
      have t4f : v2.frozen? ⟨w.heap.size + 1 + 1 + 1, 0, none⟩ = false := by rw [hv2, World.frozen?_setCell]; exact w4f
      have hch2 : Chg [w.heap.size + 1 + 1 + 1, h1 + 1] v1 v2 := by rw [hv2]; exact (Chg.refl _ _).setCell (p := ⟨h1 + 1, 0, none⟩) _ (.inl (by simp))
      have HT := Lib.hid (And.intro t1 (And.intro t1f (And.intro t4 (And.intro t4f hch2))))
      clear t1 t1f t4 t4f hch2
      have x3' : (v1.setCell ⟨h1 + 1, 0, none⟩ (.int .i64 ((pre.length : Int) + 1))).cell? ⟨w.heap.size + 1 + 1, 0, none⟩ = some (.int .i64 leave) := by
        rw [World.cell?_setCell_other _ _ _ _ (by simp <;> omega)]; exact x3
      have x1' : (v1.setCell ⟨h1 + 1, 0, none⟩ (.int .i64 ((pre.length : Int) + 1))).cell? ⟨h1 + 1, 0, none⟩ = some (.int .i64 ((pre.length : Int) + 1)) := World.cell?_setCell_same _ _ _ x1
      by_cases hl : (pre.length : Int) + 1 = leave
      · have hb : ((pre.length : Int) + 1 == leave) = true := by simpa using hl
        have HL := Lib.hid hl
        clear hl
        gi_wp2
        rw [← hv2]
        clear hv2 x1' x3'
        refine callsFw.2 ((Hw.out _).mono ?_)
        rintro e w11 ⟨rfl, hx11⟩
        have r4 := hx11.cell HT.out.2.2.1
        have r4f := hx11.frozen HT.out.2.2.1 HT.out.2.2.2.1
        gi_wp2
        have hjs := HJ.out.2.2.2
        have hch : Chg S v1 (w11.setCell ⟨w.heap.size + 1 + 1 + 1, 0, none⟩ (.bool true)) := by
          rw [hjs]
          exact (HT.out.2.2.2.2.trans (Chg.of_ext hx11)).setCell (p := ⟨w.heap.size + 1 + 1 + 1, 0, none⟩) _ (.inl (by simp))
        refine ⟨S, HJ.out.1.trans (Mv.of_chg hch), ⟨hjs, rfl, ?_, World.cell?_setCell_same _ _ _ r4⟩⟩
        rw [hjs] at hch
        exact HJ.out.2.1.trans hch
      · have hb : ((pre.length : Int) + 1 == leave) = false := by simpa using hl
        have HL := Lib.hid hl
        clear hl
        gi_wp2
        rw [← hv2]
        clear hv2 x1' x3'
        obtain ⟨t1, t1f, t4, t4f, hch2⟩ := HT.out
        have hjs := HJ.out.2.2.2
        refine ⟨S, HJ.out.1.trans (Mv.of_chg (by rw [hjs]; exact hch2)), ⟨hjs, HJ.out.2.1.trans hch2, by rw [HJ.out.2.2.1]; exact t1, t1f, t4, t4f⟩⟩
end Go.Proofs.YtoidhdcbemmfhaaDoor
