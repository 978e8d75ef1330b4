/- formula.Check. Condition: at most 1048576 parts.
Entries as values; which of them may be: shaped and Check, of the program and of the reference. Condition: a formula of at most 1048576 parts.
The closures of include; searches over files and entries. Condition: at most 2^30 of them.
formula.Read: a formula from tokens on. Condition: a row of at most 524288 tokens.
tptp.entry: an entry behind its first token. Condition: at most 8001 tokens, at most 100000 entries ahead. -/
import Derived.Test.YtnclgkdpafhogaaQi22
import Derived.Test.YtnclgkdpafhogaaQi24
import Derived.Test.YtnclgkdpafhogaaQi13
import Derived.Test.YtnclgkdpafhogaaQi17
import Derived.Test.YtnclgkdpafhogaaQi25
import Derived.Test.YtnclgkdpafhogaaQi9
import Derived.Deep.CutRange
import Derived.Deep.CutBlock
import Derived.Deep.DeepMust
namespace Go.Proofs.Ytnclgkdpafhogaa
open Go.ChangeShapes Go.WideShapes Go.ChangeAt Go.RowKit
attribute [local go_sem] fw_round fw_depth fw_fn Oper.semAt_some
theorem parts_narrow (t : Fm) : t.narrow = t.parts.all fun p => narrowTs p.terms := by
  refine Fm.rec (motive_1 := fun t => t.narrow = t.parts.all fun p => narrowTs p.terms) (motive_2 := fun l => Fm.narrows l = (Fm.partsL l).all fun p => narrowTs p.terms) ?_ ?_ ?_ t
  · intro o v t l h; simp only [Fm.narrow, Fm.parts, List.all_cons, h, Fm.terms]
  · rfl
  · intro e l h1 h2; simp only [Fm.narrows, Fm.partsL, List.all_append, h1, h2]
theorem parts_size (t : Fm) : ∀ p ∈ t.parts, p.size ≤ t.size := by
  refine Fm.rec (motive_1 := fun t => ∀ p ∈ t.parts, p.size ≤ t.size) (motive_2 := fun l => ∀ p ∈ Fm.partsL l, p.size ≤ Fm.sizes l) ?_ ?_ ?_ t
  · intro o v t l h p hp
    simp only [Fm.parts, List.mem_cons] at hp
    rcases hp with rfl | hp
    · exact Nat.le_refl _
    · have := h p hp; simp only [Fm.size]; omega
  · intro p hp; cases hp
  · intro e l h1 h2 p hp
    simp only [Fm.partsL, List.mem_append] at hp
    rcases hp with hp | hp
    · have := h1 p hp; simp only [Fm.sizes]; omega
    · have := h2 p hp; simp only [Fm.sizes]; omega
/-- a function that held a range over a function returns -/
theorem leaves_mark' {n : Nat} {fn : Func} {R : Ending → World → Prop} {a : Act} {W : World} {D : Nat} {v : Value} (hd : a.defers = [{ target := .collected D, args := #[] }]) (hK : W.heap[D]? = some (.deferred (some [])))
    (hr : (results fn a.tmps).run Try.prog (W.putObj D (.deferred none)) = .ok v (W.putObj D (.deferred none))) (hR : R (.returned v) (W.putObj D (.deferred none))) : bodyPostM (Fw none) n Try.prog fn R .ret a W := by
  show LeavesInM _ _ _ _ _ _ a.defers .returning W
  rw [hd]
  exact ⟨by simp, .inl ⟨_, _, rfl, run_takeDeferred hK, ⟨v, hr, hR⟩⟩⟩
theorem cell_putObj' {W : World} {D : Nat} {o : Obj} {p : Addr} {v : Value} (h : W.cell? p = some v) (hD : p.block ≠ D) : (W.putObj D o).cell? p = some v := (chg_putObj W D o).cell h (by simpa using hD)
/-- between two rounds of Check's loop -/
structure FcJ (V : World) (R0 : Nat) (W : World) (pre : List Fm) (S : List Nat) : Prop where
  s : S = [R0]
  chg : Chg [R0] V W
  own : Own W R0 [.int .i64 0]
  ok : ∀ p ∈ pre, narrowTs p.terms = true
/-- behind a round that left -/
structure FcX (V : World) (R0 : Nat) (c : Code) (W : World) (pre : List Fm) (S : List Nat) : Prop where
  s : S = [R0]
  c : c = .ret
  chg : Chg [R0] V W
  own : Own W R0 [.int .i64 3]
  bad : ∃ p ∈ pre, narrowTs p.terms = false
theorem chg_past {S T : List Nat} {a b c : World} (h : Chg S a b) (k : Chg T b c) (hT : ∀ i ∈ T, a.heap.size ≤ i) : Chg S a c :=
  ⟨k.os.trans h.os, k.tape.trans h.tape, k.output.trans h.output, Nat.le_trans h.size k.size, fun i hi hs => (k.block i (Nat.lt_of_lt_of_le hi h.size) (fun hm => by have := hT i hm; omega)).trans (h.block i hi hs)⟩
theorem FcJ.mv {V : World} {R0 : Nat} {W W' : World} {pre : List Fm} {S T : List Nat} (h : FcJ V R0 W pre S) (hR : R0 < V.heap.size) (k : Chg T W W') (hT : ∀ i ∈ T, V.heap.size ≤ i) : FcJ V R0 W' pre S :=
  ⟨h.s, chg_past h.chg k hT, h.own.chg k (fun hm => by have := hT _ hm; omega), h.ok⟩
theorem FcX.mv {V : World} {R0 : Nat} {c : Code} {W W' : World} {pre : List Fm} {S T : List Nat} (h : FcX V R0 c W pre S) (hR : R0 < V.heap.size) (k : Chg T W W') (hT : ∀ i ∈ T, V.heap.size ≤ i) : FcX V R0 c W' pre S :=
  ⟨h.s, h.c, chg_past h.chg k hT, h.own.chg k (fun hm => by have := hT _ hm; omega), h.bad⟩
set_option maxHeartbeats 4000000 in
set_option maxRecDepth 100000 in
theorem check_any (t : Fm) (P : Nat → Prop) (w : World) (x y z u : Value) (ht : IsFm P w x y z u t) (hs : t.size ≤ 1048576) :
    Calls Try.prog 10 #[.agg #[x, y, z, u]] w fun e w' => e = .returned (.int .i64 t.check) ∧ Ext w w' := by
  have H1 := Lib.hid (fun w' (hx : Ext w w') => fsize_any t P w' x y z u (ht.ext hx) (by omega))
  have H2 := Lib.hid (fun w' (hx : Ext w w') => fdepth_any t P w' x y z u (ht.ext hx) (by omega))
  have H3 := Lib.hid (fun w' (hx : Ext w w') => parts_any t P w' x y z u (ht.ext hx) (by omega))
  have H4 := Lib.hid (fun w' (hx : Ext w w') => may_any t (by omega) P w' x y z u (ht.ext hx))
  obtain ⟨b1, c1, b2, c2, b3, c3, rfl, rfl, rfl, rfl⟩ := fm_vals' ht
  clear ht
  obtain ⟨W, hW⟩ : ∃ W, W = (w.alloc (.cells #[.int .i64 t.op, .slice b1 t.vars.length c1, .slice b2 t.terms.length c2, .slice b3 t.args.length c3] 27)).alloc (.cells #[.int .i64 0] 30) := ⟨_, rfl⟩
  have hx : Ext w W := by rw [hW]; exact (ext_alloc _ _).alloc _
  have hfb : Own W w.heap.size [.int .i64 t.op, .slice b1 t.vars.length c1, .slice b2 t.terms.length c2, .slice b3 t.args.length c3] := by rw [hW]; exact (own4 w _ _ _ _ _).ext (ext_alloc _ _)
  have hrb : Own W (w.heap.size + 1) [.int .i64 0] := by
    rw [hW]; have := own1 (w.alloc (.cells #[.int .i64 t.op, .slice b1 t.vars.length c1, .slice b2 t.terms.length c2, .slice b3 t.args.length c3] 27)) (.int .i64 0) 30
    rw [World.size_alloc] at this; exact this
  have hle := hrb.lt
  obtain ⟨⟨k0, -⟩, ⟨k1, -⟩, ⟨k2, -⟩, ⟨k3, -⟩⟩ := hfb.cells4
  obtain ⟨r0, f0⟩ := hrb 0 _ rfl
  by_cases h1 : 300 < t.size
  · have q1 : decide ((300 : Int) < (t.size : Nat)) = true := decide_eq_true (by omega)
    have HR := Lib.hid (show t.check = 3 by unfold Fm.check; rw [if_pos (.inl h1)])
    clear h1
    go_enter Try.func10, Try.ntmps10
    go_wp2_with (rw [← hW]; clear hW; go_at_call 24; refine (H1.out _ hx).mono ?_; rintro e w1 ⟨rfl, hx1⟩; have hn1 := hrb.ext hx1; have hnl := hn1.lt; (obtain ⟨n0, g0⟩ := hn1 0 _ rfl))
    have c1 := World.cell?_setCell_same (a := (⟨w.heap.size + 1, 0, none⟩ : Addr)) (w := w1) (v := .int .i64 3) n0
    refine bodyPost_ret (v := .int .i64 3) (by simp [results, Try.results10, go_sem, c1]) rfl ?_
    exact ⟨ret_int (by rw [HR.out]), Chg.ext (hx.trans hx1) ((Chg.refl [w.heap.size + 1] w1).setCell (p := ⟨w.heap.size + 1, 0, none⟩) _ (.inl (by simp))) (by simp)⟩
  have q1 : decide ((300 : Int) < (t.size : Nat)) = false := decide_eq_false (by omega)
  by_cases h2 : 30 < t.depth
  · have q2 : decide ((30 : Int) < (t.depth : Nat)) = true := decide_eq_true (by omega)
    have HR := Lib.hid (show t.check = 3 by unfold Fm.check; rw [if_pos (.inr (.inl h2))])
    clear h1 h2
    go_enter Try.func10, Try.ntmps10
    go_wp2_with (first | (rw [← hW]; clear hW; go_at_call 24; refine (H1.out _ hx).mono ?_; rintro e w1 ⟨rfl, hx1⟩; replace k0 := hx1.cell k0; replace k1 := hx1.cell k1; replace k2 := hx1.cell k2; replace k3 := hx1.cell k3) | (go_at_call 25; refine (H2.out _ (hx.trans hx1)).mono ?_; rintro e w2 ⟨rfl, hx2⟩; have hn1 := (hrb.ext hx1).ext hx2; have hnl := hn1.lt; (obtain ⟨n0, g0⟩ := hn1 0 _ rfl)))
    have c1 := World.cell?_setCell_same (a := (⟨w.heap.size + 1, 0, none⟩ : Addr)) (w := w2) (v := .int .i64 3) n0
    refine bodyPost_ret (v := .int .i64 3) (by simp [results, Try.results10, go_sem, c1]) rfl ?_
    exact ⟨ret_int (by rw [HR.out]), Chg.ext ((hx.trans hx1).trans hx2) ((Chg.refl [w.heap.size + 1] w2).setCell (p := ⟨w.heap.size + 1, 0, none⟩) _ (.inl (by simp))) (by simp)⟩
  have q2 : decide ((30 : Int) < (t.depth : Nat)) = false := decide_eq_false (by omega)
  have HS := Lib.hid h1
  have HD := Lib.hid h2
  clear h1 h2
  have hW3 : w.heap.size + 2 ≤ W.heap.size := by omega
  obtain ⟨R0, hR0⟩ : ∃ R0, R0 = w.heap.size + 1 := ⟨_, rfl⟩
  refine callsFw.1 (callsIn_of_wp_marks (n := 0) Try.func10 rfl trivial (wpIn_wide.2 ?_))
  simp only [Try.ntmps10, List.size_toArray, List.length_cons, List.length_nil, Nat.reduceAdd, Nat.reduceSub, Array.replicate_succ, Array.replicate_zero, List.push_toArray, List.append_toArray, List.nil_append, List.cons_append]
  go_wp2_with (first
    | (rw [← hW]; clear hW; go_at_call 24; refine (H1.out _ hx).mono ?_; rintro e w1 ⟨rfl, hx1⟩; replace k0 := hx1.cell k0; replace k1 := hx1.cell k1; replace k2 := hx1.cell k2; replace k3 := hx1.cell k3)
    | (go_at_call 25; refine (H2.out _ (hx.trans hx1)).mono ?_; rintro e w2 ⟨rfl, hx2⟩; replace k0 := hx2.cell k0; replace k1 := hx2.cell k1; replace k2 := hx2.cell k2; replace k3 := hx2.cell k3)
    | (go_at_call 26; refine (H3.out _ ((hx.trans hx1).trans hx2)).mono ?_; rintro e w3 ⟨⟨bo, x', y', z', u', rfl, hbo, hbol, hat⟩, hx3⟩))
  rw [← hR0]
  have hxv := ((hx.trans hx1).trans hx2).trans hx3
  have hrb3 := ((hrb.ext hx1).ext hx2).ext hx3
  have hfb3 := ((hfb.ext hx1).ext hx2).ext hx3
  rw [← hR0] at hrb3
  have hR2 : w.heap.size + 2 ≤ w2.heap.size := by have := hx1.size; have := hx2.size; omega
  have hR3 := hx3.size
  have HR0 := Lib.hid hR0
  have hRl : R0 < w3.heap.size := hrb3.lt
  have hRlw : R0 < w2.heap.size := by omega
  have hRf : w.heap.size ≠ R0 := by omega
  have hRw : w.heap.size ≤ R0 := by omega
  clear hR0 k0 k1 k2 k3 r0 f0 hrb hfb hx1 hx2 hx3 hx H1 H2 H3
  refine (wpIn_wide (n := 0)).1 ?_
  refine wpIn_rangeFunc_run (n := 0) (gf := 43) (lb := #[.pointer (some ⟨bo, 0, none⟩)]) (by rfl) (fun _ _ => rfl) (parts1_ok t hs bo) (fun x args w h => by obtain ⟨_, _, _, _, rfl, -⟩ := h; rfl)
    [R0] (FcJ w3 R0) (FcX w3 R0) ?hD ?hS0 ?h0 ?hJ ?hJx ?hJe ?hJxe ?body ?done ?stop
  case hD =>
    intro w' hw'
    have hbl := hbo.lt
    obtain ⟨⟨o0, -⟩, ⟨o1, -⟩, ⟨o2, -⟩, ⟨o3, -⟩⟩ := (hbo.ext hw').cells4
    refine ⟨by simp; omega, _, _, _, _, o0, o1, o2, o3, ?_⟩
    exact (Dat.Fs.mono hat fun g hg hlt => (show Av (w3.heap.size :: (w3.heap.size + 1) :: [R0]) w' g from ⟨by simp; omega, by have := hw'.size; omega⟩)).ext hw'
  case hS0 => intro b hb; simp at hb; omega
  case h0 => exact ⟨rfl, Chg.refl _ _, hrb3, by simp⟩
  case hJ => exact fun w1 w2 s S _ h k => h.mv hRl k (by simp)
  case hJx => exact fun c w1 w2 s S _ h k => h.mv hRl k (by simp)
  case hJe => exact fun w1 w2 s S h k => h.mv hRl (Chg.of_ext (S := []) k) (by simp)
  case hJxe => exact fun c w1 w2 s S h k => h.mv hRl (Chg.of_ext (S := []) k) (by simp)
  case done =>
    intro V S hm hj hK
    have hnar : t.narrow = true := by rw [parts_narrow, List.all_eq_true]; exact hj.ok
    have HR := Lib.hid (show t.check = if t.may then 0 else 2 by unfold Fm.check; rw [if_neg (by rintro (h | h | h); exact HS.out h; exact HD.out h; rw [hnar] at h; cases h)])
    clear hnar
    obtain ⟨-, hchg, hown, -⟩ := hj
    have hxV : Ext w V := Chg.ext hxv hchg (by simp; omega)
    have H5 := Lib.hid (H4.out V hxV)
    have hf5 := hfb3.chg hchg (by simpa using hRf)
    have hVs := hchg.size
    have hfl := hf5.lt
    obtain ⟨⟨k0, -⟩, ⟨k1, -⟩, ⟨k2, -⟩, ⟨k3, -⟩⟩ := hf5.cells4
    have hDl : w3.heap.size < V.heap.size := (Array.getElem?_eq_some_iff.1 hK).1
    have fin : ∀ (n : Int) (w5 : World), Ext V w5 → t.check = n → (w5.setCell ⟨R0, 0, none⟩ (.int .i64 n)).heap[w3.heap.size]? = some (.deferred (some [])) ∧ ((w5.setCell ⟨R0, 0, none⟩ (.int .i64 n)).putObj w3.heap.size (.deferred none)).cell? ⟨R0, 0, none⟩ = some (.int .i64 n) ∧
        Ext w ((w5.setCell ⟨R0, 0, none⟩ (.int .i64 n)).putObj w3.heap.size (.deferred none)) := fun n w5 hx5 hn => by
      have hK2 : (w5.setCell ⟨R0, 0, none⟩ (.int .i64 n)).heap[w3.heap.size]? = some (.deferred (some [])) := (Below.heap_setCell _ _ _ _ (by simp; omega)).trans ((hx5.block _ hDl).trans hK)
      obtain ⟨n0, -⟩ := (hown.ext hx5) 0 _ rfl
      refine ⟨hK2, cell_putObj' (World.cell?_setCell_same (a := (⟨R0, 0, none⟩ : Addr)) (w := w5) (v := .int .i64 n) n0) (by simp; omega), ?_⟩
      have hch : Chg [R0, w3.heap.size] w3 ((w5.setCell ⟨R0, 0, none⟩ (.int .i64 n)).putObj w3.heap.size (.deferred none)) :=
        (((hchg.mono (by simp)).trans (Chg.of_ext hx5)).setCell (p := ⟨R0, 0, none⟩) _ (.inl (by simp))).trans ((chg_putObj _ _ _).mono (by simp))
      exact Chg.ext hxv hch (by simp; omega)
    cases hmy : t.may with
    | true =>
      rw [hmy] at H5 HR
      go_wp2_with (go_at_call 28; refine (H5.out).mono ?_; rintro e w5 ⟨rfl, hx5⟩; have hn5 := hown.ext hx5; have hnl5 := hn5.lt; (obtain ⟨n0, g0⟩ := hn5 0 _ rfl))
      obtain ⟨f1, f2, f3⟩ := fin 0 w5 hx5 HR.out
      exact leaves_mark' (v := .int .i64 0) rfl f1 (by simp [results, Try.results10, go_sem, f2]) ⟨ret_int (by rw [HR.out]; rfl), f3⟩
    | false =>
      rw [hmy] at H5 HR
      go_wp2_with (go_at_call 28; refine (H5.out).mono ?_; rintro e w5 ⟨rfl, hx5⟩; have hn5 := hown.ext hx5; have hnl5 := hn5.lt; (obtain ⟨n0, g0⟩ := hn5 0 _ rfl))
      obtain ⟨f1, f2, f3⟩ := fin 2 w5 hx5 HR.out
      exact leaves_mark' (v := .int .i64 2) rfl f1 (by simp [results, Try.results10, go_sem, f2]) ⟨ret_int (by rw [HR.out]; rfl), f3⟩
  case stop =>
    intro c q V S hq hm hj hK
    obtain ⟨-, rfl, hchg, hown, p, hp, hpb⟩ := hj
    have hnar : t.narrow = false := by rw [parts_narrow, List.all_eq_false]; exact ⟨p, hq.subset hp, by simp [hpb]⟩
    have HR := Lib.hid (show t.check = 3 by unfold Fm.check; rw [if_pos (.inr (.inr hnar))])
    clear hnar
    gi_wp2
    obtain ⟨n0, -⟩ := hown 0 _ rfl
    have c1 := cell_putObj' (D := w3.heap.size) (o := .deferred none) n0 (by simp; omega)
    refine leaves_mark' (v := .int .i64 3) rfl hK (by simp [results, Try.results10, go_sem, c1]) ⟨ret_int (by rw [HR.out]), ?_⟩
    have hch : Chg [R0, w3.heap.size] w3 (V.putObj w3.heap.size (.deferred none)) := (hchg.mono (by simp)).trans ((chg_putObj _ _ _).mono (by simp))
    exact Chg.ext hxv hch (by simp; omega)
  case body =>
    intro pre q rest hitems args V S m hG hj hSne hVl
    obtain ⟨qx, qy, qz, qu, rfl, hq⟩ := hG
    have hqs : q.size ≤ 1048576 := by have := parts_size t q (by rw [hitems]; simp); omega
    obtain ⟨d1, e1, d2, e2, d3, e3, rfl, rfl, rfl, rfl, -, -, -, -, -, -, hqt, -⟩ := hq.form
    obtain ⟨hjs, hchg, hown, hok⟩ := hj
    subst hjs
    have hts : Ex.sizes q.terms ≤ 1048576 := by cases q; simp only [Fm.size] at hqs; simp only [Fm.terms]; omega
    have htl := Ex.length_le_sizes q.terms
    clear hitems hq
    gi_wp2
    obtain ⟨V1, hV1⟩ : ∃ V1, V1 = V.alloc (.cells #[.int .i64 q.op, .slice d1 q.vars.length e1, .slice d2 q.terms.length e2, .slice d3 q.args.length e3] 27) := ⟨_, rfl⟩
    have hA1 : Ext V V1 := by rw [hV1]; exact ext_alloc _ _
    have hp1 : Own V1 V.heap.size [.int .i64 q.op, .slice d1 q.vars.length e1, .slice d2 q.terms.length e2, .slice d3 q.args.length e3] := by rw [hV1]; exact own4 V _ _ _ _ _
    rw [← hV1]
    clear hV1
    intro V2 hc2 hcell2
    refine ⟨Mv.of_ext hA1, ?_⟩
    have hK2 : ∀ p v, V.cell? p = some v → V2.cell? p = some v := fun p v hv => hcell2 p v (hA1.cell hv)
    have hqt2 : IsExs (fun _ => True) V2 d2 q.terms := Dat.Rows.of_cells (fun _ h _ => h) (fun p v _ hv => hK2 p v hv) hqt
    have z2 := hcell2 _ _ (hp1 2 _ rfl).1
    have hR1 : R0 ≠ w3.heap.size + 1 := by omega
    have hown2 : Own V2 R0 [.int .i64 0] := (hown.ext hA1).chg hc2 (by simpa using hR1)
    have hchg2 : Chg [R0] w3 V2 := chg_past (hchg.trans (Chg.of_ext hA1)) hc2 (by simp)
    have HO := Lib.hid (And.intro hqt2 (And.intro hown2 hchg2))
    clear hcell2 hK2 hqt hqt2 hown hown2 hchg hchg2 hp1
    have hVb : V.heap.size < V2.heap.size := cell_lt z2
    gi_wp2
    gi_loopw [21] (fun i wr => ∃ k : Nat, k ≤ q.terms.length ∧ i = .int .i64 k ∧ Ext V2 wr ∧ narrowTs (q.terms.take k) = true) (fun i _ => q.terms.length - (intOf i).toNat)
    case atStart => exact ⟨0, Nat.zero_le _, rfl, Below.refl _ _, rfl⟩
    case round =>
      obtain ⟨k, hkk, rfl, hxr, hnk⟩ := hrel
      have HNK := Lib.hid hnk
      clear hnk z2
      by_cases hlt : k < q.terms.length
      · have hk1 : (k : Int) < q.terms.length := by omega
        obtain ⟨b', o', a', c', rfl, -, g1, g2, g3, hi⟩ := (IsExs.ext HO.out.1 hxr).look hlt
        have hsz8 := Ex.size_le_sizes hlt
        have hwl := cell_lt g1
        have HX := Lib.hid (fun w' (hx : Ext wr w') => expr_any q.terms[k] _ w' _ _ _ (hi.ext hx) (by omega))
        clear hi
        have hdl : (q.terms[k].depth : Int) ≤ 1048576 := by have := q.terms[k].depth_le_size; omega
        have hwl2 : (q.terms[k].wide : Int) ≤ 1048576 := by have := q.terms[k].wide_le_size; omega
        gi_wp2
        refine callsFw.2 ((HX.out _ (ext_alloc _ _)).mono ?_)
        rintro e w6 ⟨rfl, hx6⟩
        have hx7 := (hxr.trans (ext_alloc wr (.cells #[.bool q.terms[k].var, .string q.terms[k].name, .slice a' q.terms[k].args.length c'] 67))).trans hx6
        have hx8 := hx7.trans (ext_alloc w6 (.cells #[.int .i64 q.terms[k].size, .int .i64 q.terms[k].depth, .int .i64 q.terms[k].wide] 74))
        have hn8 := HO.out.2.1.ext hx8
        have hn7 := HO.out.2.1.ext hx7
        have hnl7 := hn7.lt
        obtain ⟨n0, g0⟩ := hn7 0 _ rfl
        clear hx6 HX g1 g2 g3
        by_cases hd : 30 < q.terms[k].depth
        · have q1 : decide ((30 : Int) < (q.terms[k].depth : Nat)) = true := decide_eq_true (by omega)
          have hbad : narrowTs q.terms = false := narrowTs_bad hlt (fun h => by omega)
          have HF := Lib.hid (show FcX w3 R0 .ret ((w6.setCell ⟨R0, 0, none⟩ (.int .i64 3)).alloc (.cells #[.int .i64 q.terms[k].size, .int .i64 q.terms[k].depth, .int .i64 q.terms[k].wide] 74)) (pre ++ [q]) [R0] from ⟨rfl, rfl, ((HO.out.2.2.trans (Chg.of_ext hx7)).setCell (p := ⟨R0, 0, none⟩) _ (.inl (by simp))).alloc _, (hn7.set (i := 0) (by simp) _).ext (ext_alloc _ _), ⟨q, by simp, hbad⟩⟩)
          have HM := Lib.hid (show Mv [R0] V2 [R0] ((w6.setCell ⟨R0, 0, none⟩ (.int .i64 3)).alloc (.cells #[.int .i64 q.terms[k].size, .int .i64 q.terms[k].depth, .int .i64 q.terms[k].wide] 74)) from Mv.of_chg (((Chg.of_ext hx7).setCell (p := ⟨R0, 0, none⟩) _ (.inl (by simp))).alloc _))
          clear hbad
          gi_wp2
          exact ⟨[R0], HM.out, HF.out⟩
        · have q1 : decide ((30 : Int) < (q.terms[k].depth : Nat)) = false := decide_eq_false (by omega)
          by_cases hwd : 6 < q.terms[k].wide
          · have q2 : decide ((6 : Int) < (q.terms[k].wide : Nat)) = true := decide_eq_true (by omega)
            have hbad : narrowTs q.terms = false := narrowTs_bad hlt (fun h => by omega)
            have HF := Lib.hid (show FcX w3 R0 .ret ((w6.setCell ⟨R0, 0, none⟩ (.int .i64 3)).alloc (.cells #[.int .i64 q.terms[k].size, .int .i64 q.terms[k].depth, .int .i64 q.terms[k].wide] 74)) (pre ++ [q]) [R0] from ⟨rfl, rfl, ((HO.out.2.2.trans (Chg.of_ext hx7)).setCell (p := ⟨R0, 0, none⟩) _ (.inl (by simp))).alloc _, (hn7.set (i := 0) (by simp) _).ext (ext_alloc _ _), ⟨q, by simp, hbad⟩⟩)
            have HM := Lib.hid (show Mv [R0] V2 [R0] ((w6.setCell ⟨R0, 0, none⟩ (.int .i64 3)).alloc (.cells #[.int .i64 q.terms[k].size, .int .i64 q.terms[k].depth, .int .i64 q.terms[k].wide] 74)) from Mv.of_chg (((Chg.of_ext hx7).setCell (p := ⟨R0, 0, none⟩) _ (.inl (by simp))).alloc _))
            clear hbad
            gi_wp2
            exact ⟨[R0], HM.out, HF.out⟩
          · have q2 : decide ((6 : Int) < (q.terms[k].wide : Nat)) = false := decide_eq_false (by omega)
            have hnk2 : narrowTs (q.terms.take (k + 1)) = true := by rw [narrowTs_step hlt, HNK.out, decide_eq_true (by omega : q.terms[k].depth ≤ 30), decide_eq_true (by omega : q.terms[k].wide ≤ 6)]; rfl
            have HN2 := Lib.hid hnk2
            clear hnk2 hd hwd
            gi_wp2
            go_roundw
            case rel => exact ⟨k + 1, by omega, by go_num, hx8, HN2.out⟩
            case measure => simp [intOf]; omega
      · have hk1 : ¬ (k : Int) < q.terms.length := by omega
        have hke : k = q.terms.length := by omega
        have hnq : narrowTs q.terms = true := by have := HNK.out; rwa [hke, List.take_length] at this
        have HF := Lib.hid (show FcJ w3 R0 wr (pre ++ [q]) [R0] from ⟨rfl, HO.out.2.2.trans (Chg.of_ext hxr), HO.out.2.1.ext hxr, fun p hp => by
          rcases List.mem_append.1 hp with h | h
          · exact hok p h
          · simp at h; subst h; exact hnq⟩)
        clear hke hnq
        gi_wp2
        exact ⟨[R0], Mv.of_ext hxr, HF.out⟩
end Go.Proofs.Ytnclgkdpafhogaa
namespace Go.Proofs.Ytnclgkdpafhogaa
open Go.ChangeShapes Go.WideShapes Go.ChangeAt Go.RowKit
theorem own_alloc (w : World) (arr : Array Value) (t : TypeId) : Own (w.alloc (.cells arr t)) w.heap.size arr.toList := fun i v hv => by
  have hb := heap_alloc_new w (.cells arr t)
  constructor
  · unfold World.cell?
    rw [hb]
    simpa using hv
  · unfold World.frozen?
    rw [hb]
    simp
def entV (x : Ent) (a b c d : Value) : Value := .agg #[.bool x.cnf, .string x.name, .string x.role, a, b, c, d]
/-- values read as an entry -/
def IsEnt (P : Nat → Prop) (w : World) (a b c d : Value) (x : Ent) : Prop := x.name.size ≤ 1073741824 ∧ x.role.size ≤ 1073741824 ∧ IsFm P w a b c d x.form
theorem IsEnt.ext {P : Nat → Prop} {w w' : World} {a b c d : Value} {x : Ent} (h : IsEnt P w a b c d x) (hx : Ext w w') : IsEnt P w' a b c d x := ⟨h.1, h.2.1, h.2.2.ext hx⟩
theorem IsEnt.fs {P : Nat → Prop} {w : World} {a b c d : Value} {x : Ent} (h : IsEnt P w a b c d x) : Dat.Fs P w [.bool x.cnf, .string x.name, .string x.role, a, b, c, d] x.dat := ⟨rfl, ⟨rfl, h.1⟩, ⟨rfl, h.2.1⟩, h.2.2⟩
theorem Ent.dat_length (x : Ent) : x.dat.length = 7 := by simp [Ent.dat, x.form.dat_length]
theorem IsEnt.of_fs {P : Nat → Prop} {w : World} {vs : List Value} {x : Ent} (h : Dat.Fs P w vs x.dat) : ∃ a b c d, vs = [.bool x.cnf, .string x.name, .string x.role, a, b, c, d] ∧ IsEnt P w a b c d x := by
  have hl := h.length
  rw [x.dat_length] at hl
  match vs, hl with
  | [p, q, r, a, b, c, d], _ =>
    obtain ⟨h1, ⟨h2, h2'⟩, ⟨h3, h3'⟩, h4⟩ := h
    subst h1; subst h2; subst h3
    exact ⟨a, b, c, d, rfl, h2', h3', h4⟩
theorem own_cells7 {w : World} {b : Nat} {x y z p q r s : Value} (h : Own w b [x, y, z, p, q, r, s]) : (w.cell? ⟨b, 0, none⟩ = some x ∧ w.cell? ⟨b, 1, none⟩ = some y ∧ w.cell? ⟨b, 2, none⟩ = some z) ∧ (w.cell? ⟨b, 3, none⟩ = some p ∧ w.cell? ⟨b, 4, none⟩ = some q ∧ w.cell? ⟨b, 5, none⟩ = some r ∧ w.cell? ⟨b, 6, none⟩ = some s) ∧ b < w.heap.size :=
  ⟨⟨(h 0 _ rfl).1, (h 1 _ rfl).1, (h 2 _ rfl).1⟩, ⟨(h 3 _ rfl).1, (h 4 _ rfl).1, (h 5 _ rfl).1, (h 6 _ rfl).1⟩, h.lt⟩
theorem shaped_cnf (f : Fm) : shapedE true f = if f.lits.isSome then 0 else 243 := rfl
theorem shaped_fof (f : Fm) : shapedE false f = if f.freeS = [] then 0 else 242 := rfl
set_option maxHeartbeats 2000000 in
set_option maxRecDepth 100000 in
theorem shaped_any (x : Ent) (P : Nat → Prop) (w : World) (a b c d : Value) (h : IsEnt P w a b c d x) (hs : x.form.size ≤ 4194304) :
    Calls Try.prog 77 #[entV x a b c d] w fun e w' => e = .returned (.int .i64 (shapedE x.cnf x.form)) ∧ Ext w w' := by
  have hsl : x.form.args.length ≤ 8388608 := by
    have : x.form.args.length ≤ x.form.size := by
      obtain ⟨o, v, t, l⟩ := x.form
      have := Fm.length_le_sizes l
      simp only [Fm.args, Fm.size]; omega
    omega
  have HL := Lib.hid (fun w' (hx : Ext w w') => literals_any x.form P w' a b c d (h.2.2.ext hx) hs)
  have HF := Lib.hid (fun w' (hx : Ext w w') => free_any x.form hs P w' a b c d (h.2.2.ext hx))
  obtain ⟨b1, c1, b2, c2, b3, c3, rfl, rfl, rfl, rfl, -⟩ := h.2.2.form
  unfold entV
  obtain ⟨W, hW⟩ : ∃ W, W = w.alloc (.cells #[.bool x.cnf, .string x.name, .string x.role, .int .i64 x.form.op, .slice b1 x.form.vars.length c1, .slice b2 x.form.terms.length c2, .slice b3 x.form.args.length c3] 84) := ⟨_, rfl⟩
  have hx : Ext w W := by rw [hW]; exact ext_alloc _ _
  have hb : Own W w.heap.size [.bool x.cnf, .string x.name, .string x.role, .int .i64 x.form.op, .slice b1 x.form.vars.length c1, .slice b2 x.form.terms.length c2, .slice b3 x.form.args.length c3] := by rw [hW]; exact own_alloc w _ _
  obtain ⟨⟨k0, k1, k2⟩, ⟨k3, k4, k5, k6⟩, hlt⟩ := own_cells7 hb
  clear hb
  cases hc : x.cnf with
  | true =>
    rw [hc] at hW k0
    cases hl : x.form.lits.isSome with
    | true =>
      have HE := Lib.hid (show shapedE true x.form = 0 by rw [shaped_cnf, hl]; rfl)
      unfold LitsSay at HL
      rw [hl] at HL
      clear hl HF hc
      go_enter Try.func77, Try.ntmps77
      go_upto_region 1 with fail
      rw [← hW]
      clear hW
      go_wp2_with (go_at_call 97; refine (HL.out _ hx).mono ?_; rintro e w1 ⟨⟨a1, c1', rfl, -, -⟩, hx1⟩)
      go_ret
      exact ⟨ret_int HE.out.symm, hx.trans hx1⟩
    | false =>
      have HE := Lib.hid (show shapedE true x.form = 243 by rw [shaped_cnf, hl]; rfl)
      unfold LitsSay at HL
      rw [hl] at HL
      clear hl HF hc
      go_enter Try.func77, Try.ntmps77
      go_upto_region 1 with fail
      rw [← hW]
      clear hW
      go_wp2_with (go_at_call 97; refine (HL.out _ hx).mono ?_; rintro e w1 ⟨⟨a1, c1', rfl, -, -⟩, hx1⟩)
      go_ret
      exact ⟨ret_int HE.out.symm, hx.trans hx1⟩
  | false =>
    rw [hc] at hW k0
    cases hl : x.form.freeS.length with
    | succ m =>
      have HE := Lib.hid (show shapedE false x.form = 242 by rw [shaped_fof, if_neg (fun h => by rw [h] at hl; simp at hl)])
      have HM := Lib.hid hl
      clear hl
      clear HL hc
      go_enter Try.func77, Try.ntmps77
      go_upto_region 1 with fail
      rw [← hW]
      clear hW
      go_wp2_with (go_at_call 98; refine (HF.out _ hx).mono ?_; rintro e w1 ⟨v, rfl, hrow, hx1⟩; (obtain ⟨ra, rc, rfl, -⟩ := StrRow.strs hrow); clear hrow; rw [HM.out])
      go_ret
      exact ⟨ret_int HE.out.symm, hx.trans hx1⟩
    | zero =>
      have HE := Lib.hid (show shapedE false x.form = 0 by rw [shaped_fof, if_pos (List.length_eq_zero_iff.1 hl)])
      have HM := Lib.hid hl
      clear hl
      clear HL hc
      go_enter Try.func77, Try.ntmps77
      go_upto_region 1 with fail
      rw [← hW]
      clear hW
      go_wp2_with (go_at_call 98; refine (HF.out _ hx).mono ?_; rintro e w1 ⟨v, rfl, hrow, hx1⟩; (obtain ⟨ra, rc, rfl, -⟩ := StrRow.strs hrow); clear hrow; rw [HM.out])
      go_ret
      exact ⟨ret_int HE.out.symm, hx.trans hx1⟩
theorem roleOK_ways (c : Bool) (s : ByteArray) : (roleOK c s = false ∧ roleB s = false) ∨ (roleOK c s = false ∧ roleB s = true ∧ c = true ∧ decide (s = rConj) = true) ∨ (roleOK c s = true ∧ roleB s = true ∧ c = false) ∨ (roleOK c s = true ∧ roleB s = true ∧ c = true ∧ decide (s = rConj) = false) := by
  unfold roleOK
  cases roleB s <;> cases c <;> cases decide (s = rConj) <;> simp
end Go.Proofs.Ytnclgkdpafhogaa
namespace Go.Proofs.Ytnclgkdpafhogaa
open Go.ChangeShapes Go.WideShapes Go.ChangeAt Go.RowKit
def fileDat (f : ByteArray × ByteArray) : List Dat := [.str f.1, .str f.2]
/-- from an address on stand files -/
def IsFiles (P : Nat → Prop) (w : World) (a : Option Addr) (l : List (ByteArray × ByteArray)) : Prop := Dat.Rows P w a (l.map fileDat)
theorem IsFiles.ext {P : Nat → Prop} {w w' : World} {a : Option Addr} {l : List (ByteArray × ByteArray)} (h : IsFiles P w a l) (hx : Ext w w') : IsFiles P w' a l := Dat.Rows.ext h hx
theorem IsFiles.look {P : Nat → Prop} {w : World} {a : Option Addr} {l : List (ByteArray × ByteArray)} (h : IsFiles P w a l) {i : Nat} (hi : i < l.length) :
    ∃ b o, a = some ⟨b, o, none⟩ ∧ P b ∧ w.cell? ⟨b, o + i * 2, none⟩ = some (.string l[i].1) ∧ w.cell? ⟨b, o + i * 2 + 1, none⟩ = some (.string l[i].2) ∧ l[i].1.size ≤ 1073741824 ∧ l[i].2.size ≤ 1073741824 := by
  obtain ⟨b, o, rfl, hb⟩ := Dat.Rows.addr h (by rw [List.length_map]; omega)
  obtain ⟨vs, h1, h2⟩ := Dat.Rows.at (m := 2) h (fun e he => by obtain ⟨x, -, rfl⟩ := List.mem_map.1 he; rfl) (i := i) (by rw [List.length_map]; exact hi)
  rw [List.getElem_map] at h2
  have hlen := h2.length
  match vs, hlen with
  | [x, y], _ =>
    obtain ⟨⟨rfl, r1⟩, ⟨rfl, r2⟩, -⟩ := h2
    exact ⟨b, o, rfl, hb, h1 0 _ rfl, h1 1 _ rfl, r1, r2⟩
def IsEnts (P : Nat → Prop) (w : World) (a : Option Addr) (l : List Ent) : Prop := Dat.Rows P w a (l.map Ent.dat)
theorem IsEnts.ext {P : Nat → Prop} {w w' : World} {a : Option Addr} {l : List Ent} (h : IsEnts P w a l) (hx : Ext w w') : IsEnts P w' a l := Dat.Rows.ext h hx
theorem IsEnts.look {P : Nat → Prop} {w : World} {a : Option Addr} {l : List Ent} (h : IsEnts P w a l) {i : Nat} (hi : i < l.length) :
    ∃ b o x0 x1 x2 x3, a = some ⟨b, o, none⟩ ∧ P b ∧ (w.cell? ⟨b, o + i * 7, none⟩ = some (.bool l[i].cnf) ∧ w.cell? ⟨b, o + i * 7 + 1, none⟩ = some (.string l[i].name) ∧ w.cell? ⟨b, o + i * 7 + 2, none⟩ = some (.string l[i].role)) ∧
      (w.cell? ⟨b, o + i * 7 + 3, none⟩ = some x0 ∧ w.cell? ⟨b, o + i * 7 + 4, none⟩ = some x1 ∧ w.cell? ⟨b, o + i * 7 + 5, none⟩ = some x2 ∧ w.cell? ⟨b, o + i * 7 + 6, none⟩ = some x3) ∧ IsEnt P w x0 x1 x2 x3 l[i] := by
  obtain ⟨b, o, rfl, hb⟩ := Dat.Rows.addr h (by rw [List.length_map]; omega)
  obtain ⟨vs, h1, h2⟩ := Dat.Rows.at (m := 7) h (fun e he => by obtain ⟨x, -, rfl⟩ := List.mem_map.1 he; exact x.dat_length) (i := i) (by rw [List.length_map]; exact hi)
  rw [List.getElem_map] at h2
  obtain ⟨x0, x1, x2, x3, rfl, h3⟩ := IsEnt.of_fs h2
  exact ⟨b, o, x0, x1, x2, x3, rfl, hb, ⟨h1 0 _ rfl, h1 1 _ rfl, h1 2 _ rfl⟩, ⟨h1 3 _ rfl, h1 4 _ rfl, h1 5 _ rfl, h1 6 _ rfl⟩, h3⟩
/-- the first of a row that is so, as a number -/
def firstI {α : Type} (p : α → Bool) (l : List α) : Int := match l.findIdx? p with | some i => (i : Int) | none => -1
theorem firstI_at {α : Type} {p : α → Bool} {l : List α} {k : Nat} (hk : k < l.length) (h : (l.take k).any p = false) (hp : p l[k] = true) : firstI p l = k := by
  have : l.findIdx? p = some k := by
    rw [List.findIdx?_eq_some_iff_getElem]
    refine ⟨hk, hp, fun j hj => ?_⟩
    have := List.any_eq_false.1 h (l[j]'(by omega)) (by rw [List.mem_iff_getElem]; exact ⟨j, by rw [List.length_take]; omega, by rw [List.getElem_take]⟩)
    simpa using this
  unfold firstI; rw [this]
theorem firstI_none {α : Type} {p : α → Bool} {l : List α} (h : l.any p = false) : firstI p l = -1 := by
  have : l.findIdx? p = none := by
    rw [List.findIdx?_eq_none_iff]
    intro x hx
    have := List.any_eq_false.1 h x hx
    simpa using this
  unfold firstI; rw [this]
theorem firstI_any {α : Type} (p : α → Bool) (l : List α) : decide (0 ≤ firstI p l) = l.any p := by
  cases h : l.any p with
  | false => rw [firstI_none h]; rfl
  | true =>
    unfold firstI
    cases hf : l.findIdx? p with
    | none =>
      rw [List.findIdx?_eq_none_iff] at hf
      obtain ⟨x, hx, hp⟩ := List.any_eq_true.1 h
      rw [hf x hx] at hp; cases hp
    | some i => simp
theorem any_step {α : Type} {p : α → Bool} {l : List α} {k : Nat} (h : k < l.length) : (l.take (k + 1)).any p = ((l.take k).any p || p l[k]) := by
  rw [List.take_succ_eq_append_getElem h, List.any_append]; simp
set_option maxHeartbeats 1000000 in
theorem inc1_any {n t nm : ByteArray} {fb : Nat} {w : World} (h : w.cell? ⟨fb, 0, none⟩ = some (.string nm)) : Calls Try.prog 79 #[.agg #[.string n, .string t], .pointer (some ⟨fb, 0, none⟩)] w fun e w' => e = .returned (.bool (decide (n = nm))) ∧ Ext w w' := by
  have hx : Ext w (w.alloc (.cells #[.string n, .string t] 44)) := ext_alloc _ _
  have h1 := hx.cell h
  have hlt := cell_lt h1
  have HB := Lib.hid (bytes_beq n nm)
  go_enter Try.func79, Try.ntmps79
  go_wp2_with fail
  go_ret
  exact ⟨ret_bool HB.out, hx⟩
set_option maxHeartbeats 1000000 in
theorem inc2_any {x : Ent} {P : Nat → Prop} {a b c d : Value} {nm : ByteArray} {sb : Nat} {w : World} (hi : IsEnt P w a b c d x) (h : w.cell? ⟨sb, 0, none⟩ = some (.string nm)) : Calls Try.prog 81 #[entV x a b c d, .pointer (some ⟨sb, 0, none⟩)] w fun e w' => e = .returned (.bool (decide (x.name = nm))) ∧ Ext w w' := by
  obtain ⟨b1, c1, b2, c2, b3, c3, rfl, rfl, rfl, rfl, -⟩ := hi.2.2.form
  unfold entV
  have hx : Ext w (w.alloc (.cells #[.bool x.cnf, .string x.name, .string x.role, .int .i64 x.form.op, .slice b1 x.form.vars.length c1, .slice b2 x.form.terms.length c2, .slice b3 x.form.args.length c3] 84)) := ext_alloc _ _
  have h1 := hx.cell h
  have hlt := cell_lt h1
  have HB := Lib.hid (bytes_beq x.name nm)
  go_enter Try.func81, Try.ntmps81
  go_wp2_with fail
  go_ret
  exact ⟨ret_bool HB.out, hx⟩
set_option maxHeartbeats 1000000 in
theorem inc3_any {x : Ent} {P Q : Nat → Prop} {a b c d : Value} {ns : List ByteArray} {na : Option Addr} {nc nb : Nat} {w : World} (hi : IsEnt P w a b c d x) (h : w.cell? ⟨nb, 0, none⟩ = some (.slice na ns.length nc)) (hns : IsStrs Q w na ns) (hl : ns.length ≤ 1073741824) : Calls Try.prog 83 #[entV x a b c d, .pointer (some ⟨nb, 0, none⟩)] w fun e w' => e = .returned (.bool (!(inB ns x.name))) ∧ Ext w w' := by
  obtain ⟨b1, c1, b2, c2, b3, c3, rfl, rfl, rfl, rfl, -⟩ := hi.2.2.form
  unfold entV
  have hx : Ext w (w.alloc (.cells #[.bool x.cnf, .string x.name, .string x.role, .int .i64 x.form.op, .slice b1 x.form.vars.length c1, .slice b2 x.form.terms.length c2, .slice b3 x.form.args.length c3] 84)) := ext_alloc _ _
  have h1 := hx.cell h
  have hlt := cell_lt h1
  have HC := Lib.hid (fun w' (hx : Ext w w') => contains_any (c := nc) hl (Dat.Rows.ext hns hx) x.name)
  clear h hns
  go_enter Try.func83, Try.ntmps83
  go_wp2_with (go_at_call 84; refine (HC.out _ hx).mono ?_; rintro e w2 ⟨rfl, hw2⟩; subst hw2)
  go_ret
  exact ⟨rfl, hx⟩
set_option maxHeartbeats 2000000 in
theorem idxFile_any {l : List (ByteArray × ByteArray)} (hn : l.length ≤ 1073741824) {P : Nat → Prop} {w : World} {a : Option Addr} {c : Nat} (h : IsFiles P w a l) {fb : Nat} {nm : ByteArray} (hf : w.cell? ⟨fb, 0, none⟩ = some (.string nm)) :
    Calls Try.prog 78 #[.slice a l.length c, .func (.func 79) #[] #[.pointer (some ⟨fb, 0, none⟩)]] w fun e w' => e = .returned (.int .i64 (firstI (fun x => decide (x.1 = nm)) l)) ∧ Ext w w' := by
  go_enter Try.func78, Try.ntmps78
  go_wp2_with fail
  go_loopw [8] (fun i wr => ∃ k : Nat, k ≤ l.length ∧ i = .int .i64 k ∧ Ext w wr ∧ (l.take k).any (fun x => decide (x.1 = nm)) = false) (fun i _ => l.length - (intOf i).toNat)
  case atStart => exact ⟨0, Nat.zero_le _, rfl, Below.refl _ _, rfl⟩
  case round =>
    obtain ⟨k, hk, rfl, hx, hm⟩ := hrel
    have HM := Lib.hid hm; clear hm
    by_cases hlt : k < l.length
    · obtain ⟨b, o, rfl, hb, g1, g2, -, -⟩ := (h.ext hx).look hlt
      have hlt' : (k : Int) < l.length := by omega
      have HST := Lib.hid (any_step (p := fun x => decide (x.1 = nm)) hlt)
      have HE := Lib.hid (inc1_any (n := l[k].1) (t := l[k].2) (w := wr) (hx.cell hf))
      
      cases hp : decide (l[k].1 = nm) with
      | false =>
        rw [hp] at HE
        have HP := Lib.hid hp
        clear hp
        go_wp2_with (go_at_call 79; refine (HE.out).mono ?_; rintro e w1 ⟨rfl, hx1⟩)
        go_roundw
        case rel => exact ⟨k + 1, by omega, by go_num, hx.trans hx1, by rw [HST.out, HM.out]; simp only [HP.out]; rfl⟩
        case measure => simp [intOf]; omega
      | true =>
        rw [hp] at HE
        have HF := Lib.hid (firstI_at (p := fun x => decide (x.1 = nm)) hlt HM.out hp)
        clear hp
        go_wp2_with (go_at_call 79; refine (HE.out).mono ?_; rintro e w1 ⟨rfl, hx1⟩)
        go_ret
        exact ⟨ret_int HF.out.symm, hx.trans hx1⟩
    · have hlt' : ¬ (k : Int) < l.length := by omega
      go_wp2_with fail
      go_ret
      refine ⟨?_, hx⟩
      have : k = l.length := by omega
      subst this
      have := HM.out
      rw [List.take_length] at this
      rw [firstI_none this]; rfl
set_option maxHeartbeats 2000000 in
theorem idxEnt2_any {l : List Ent} (hn : l.length ≤ 1073741824) {P : Nat → Prop} {w : World} {a : Option Addr} {c : Nat} (h : IsEnts P w a l) {sb : Nat} {nm : ByteArray} (hf : w.cell? ⟨sb, 0, none⟩ = some (.string nm)) :
    Calls Try.prog 99 #[.slice a l.length c, .func (.func 81) #[] #[.pointer (some ⟨sb, 0, none⟩)]] w fun e w' => e = .returned (.int .i64 (firstI (fun x => decide (x.name = nm)) l)) ∧ Ext w w' := by
  go_enter Try.func99, Try.ntmps99
  go_wp2_with fail
  go_loopw [8] (fun i wr => ∃ k : Nat, k ≤ l.length ∧ i = .int .i64 k ∧ Ext w wr ∧ (l.take k).any (fun x => decide (x.name = nm)) = false) (fun i _ => l.length - (intOf i).toNat)
  case atStart => exact ⟨0, Nat.zero_le _, rfl, Below.refl _ _, rfl⟩
  case round =>
    obtain ⟨k, hk, rfl, hx, hm⟩ := hrel
    have HM := Lib.hid hm; clear hm
    by_cases hlt : k < l.length
    · obtain ⟨b, o, x0, x1, x2, x3, rfl, hb, ⟨g1, g2, g3⟩, ⟨g4, g5, g6, g7⟩, hi⟩ := (h.ext hx).look hlt
      have hlt' : (k : Int) < l.length := by omega
      have HST := Lib.hid (any_step (p := fun x => decide (x.name = nm)) hlt)
      have HE := Lib.hid (inc2_any hi (hx.cell hf))
      obtain ⟨d1, e1, d2, e2, d3, e3, rfl, rfl, rfl, rfl, -⟩ := hi.2.2.form
      unfold entV at HE
      clear hi
      cases hp : decide (l[k].name = nm) with
      | false =>
        rw [hp] at HE
        have HP := Lib.hid hp
        clear hp
        go_wp2_with (go_at_call 81; refine (HE.out).mono ?_; rintro e w1 ⟨rfl, hx1⟩)
        go_roundw
        case rel => exact ⟨k + 1, by omega, by go_num, hx.trans hx1, by rw [HST.out, HM.out]; simp only [HP.out]; rfl⟩
        case measure => simp [intOf]; omega
      | true =>
        rw [hp] at HE
        have HF := Lib.hid (firstI_at (p := fun x => decide (x.name = nm)) hlt HM.out hp)
        clear hp
        go_wp2_with (go_at_call 81; refine (HE.out).mono ?_; rintro e w1 ⟨rfl, hx1⟩)
        go_ret
        exact ⟨ret_int HF.out.symm, hx.trans hx1⟩
    · have hlt' : ¬ (k : Int) < l.length := by omega
      go_wp2_with fail
      go_ret
      refine ⟨?_, hx⟩
      have : k = l.length := by omega
      subst this
      have := HM.out
      rw [List.take_length] at this
      rw [firstI_none this]; rfl
set_option maxHeartbeats 2000000 in
theorem idxEnt3_any {l : List Ent} (hn : l.length ≤ 1073741824) {P Q : Nat → Prop} {w : World} {a : Option Addr} {c : Nat} (h : IsEnts P w a l) {nb nc : Nat} {na : Option Addr} {ns : List ByteArray} (hf : w.cell? ⟨nb, 0, none⟩ = some (.slice na ns.length nc)) (hns : IsStrs Q w na ns) (hl : ns.length ≤ 1073741824) :
    Calls Try.prog 99 #[.slice a l.length c, .func (.func 83) #[] #[.pointer (some ⟨nb, 0, none⟩)]] w fun e w' => e = .returned (.int .i64 (firstI (fun x => !(inB ns x.name)) l)) ∧ Ext w w' := by
  go_enter Try.func99, Try.ntmps99
  go_wp2_with fail
  go_loopw [8] (fun i wr => ∃ k : Nat, k ≤ l.length ∧ i = .int .i64 k ∧ Ext w wr ∧ (l.take k).any (fun x => !(inB ns x.name)) = false) (fun i _ => l.length - (intOf i).toNat)
  case atStart => exact ⟨0, Nat.zero_le _, rfl, Below.refl _ _, rfl⟩
  case round =>
    obtain ⟨k, hk, rfl, hx, hm⟩ := hrel
    have HM := Lib.hid hm; clear hm
    by_cases hlt : k < l.length
    · obtain ⟨b, o, x0, x1, x2, x3, rfl, hb, ⟨g1, g2, g3⟩, ⟨g4, g5, g6, g7⟩, hi⟩ := (h.ext hx).look hlt
      have hlt' : (k : Int) < l.length := by omega
      have HST := Lib.hid (any_step (p := fun x => !(inB ns x.name)) hlt)
      have HE := Lib.hid (inc3_any hi (hx.cell hf) (Dat.Rows.ext hns hx) hl)
      obtain ⟨d1, e1, d2, e2, d3, e3, rfl, rfl, rfl, rfl, -⟩ := hi.2.2.form
      unfold entV at HE
      clear hi
      cases hp : !(inB ns l[k].name) with
      | false =>
        rw [hp] at HE
        have HP := Lib.hid hp
        clear hp
        go_wp2_with (go_at_call 83; refine (HE.out).mono ?_; rintro e w1 ⟨rfl, hx1⟩)
        go_roundw
        case rel => exact ⟨k + 1, by omega, by go_num, hx.trans hx1, by rw [HST.out, HM.out]; simp only [HP.out]; rfl⟩
        case measure => simp [intOf]; omega
      | true =>
        rw [hp] at HE
        have HF := Lib.hid (firstI_at (p := fun x => !(inB ns x.name)) hlt HM.out hp)
        clear hp
        go_wp2_with (go_at_call 83; refine (HE.out).mono ?_; rintro e w1 ⟨rfl, hx1⟩)
        go_ret
        exact ⟨ret_int HF.out.symm, hx.trans hx1⟩
    · have hlt' : ¬ (k : Int) < l.length := by omega
      go_wp2_with fail
      go_ret
      refine ⟨?_, hx⟩
      have : k = l.length := by omega
      subst this
      have := HM.out
      rw [List.take_length] at this
      rw [firstI_none this]; rfl
set_option maxHeartbeats 1000000 in
theorem hasEnt_any {l : List Ent} (hn : l.length ≤ 1073741824) {P : Nat → Prop} {w : World} {a : Option Addr} {c : Nat} (h : IsEnts P w a l) {sb : Nat} {nm : ByteArray} (hf : w.cell? ⟨sb, 0, none⟩ = some (.string nm)) :
    Calls Try.prog 80 #[.slice a l.length c, .func (.func 81) #[] #[.pointer (some ⟨sb, 0, none⟩)]] w fun e w' => e = .returned (.bool (l.any fun x => decide (x.name = nm))) ∧ Ext w w' := by
  have H := Lib.hid (idxEnt2_any hn (c := c) h hf)
  have HA := Lib.hid (firstI_any (fun x : Ent => decide (x.name = nm)) l)
  clear h hf
  generalize firstI (fun x : Ent => decide (x.name = nm)) l = k at H HA
  go_enter Try.func80, Try.ntmps80
  go_wp2_with (go_at_call 99; refine (H.out).mono ?_; rintro e w1 ⟨rfl, hx1⟩)
  go_ret
  exact ⟨ret_bool HA.out, hx1⟩
end Go.Proofs.Ytnclgkdpafhogaa
namespace Go.Proofs.Ytnclgkdpafhogaa
open Go.ChangeShapes Go.WideShapes Go.ChangeAt Go.RowKit
set_option maxHeartbeats 4000000 in
set_option maxRecDepth 100000 in
theorem read_any (l : List Tok) (hl : l.length ≤ 524288) {P : Nat → Prop} {w : World} {a : Option Addr} {c : Nat} (h : Dat.Rows P w a (l.map Tok.dat)) (hc : l.length ≤ c) (fr : Int) (hf1 : -9223372036854775808 ≤ fr) (hf2 : fr ≤ 9223372036854775807) :
    Calls Try.prog 19 #[.slice a l.length c, .int .i64 fr] w (ReadSays (readS l fr) w) := by
  obtain ⟨W, hW⟩ : ∃ W, W = (w.alloc (.cells #[.int .i64 0, .slice none 0 0, .slice none 0 0, .slice none 0 0] 27)).alloc (.cells #[.int .i64 0] 3) := ⟨_, rfl⟩
  have hx : Ext w W := by rw [hW]; exact (ext_alloc _ _).alloc _
  have hfb : Own W w.heap.size [.int .i64 0, .slice none 0 0, .slice none 0 0, .slice none 0 0] := by rw [hW]; exact (own4 w _ _ _ _ _).ext (ext_alloc _ _)
  have hnb : Own W (w.heap.size + 1) [.int .i64 0] := by
    rw [hW]; have := own1 (w.alloc (.cells #[.int .i64 0, .slice none 0 0, .slice none 0 0, .slice none 0 0] 27)) (.int .i64 0) 3
    rw [World.size_alloc] at this; exact this
  have hsW : W.heap.size = w.heap.size + 2 := by rw [hW]; simp
  have hnl := hnb.lt
  have hfl := hfb.lt
  obtain ⟨⟨n0, g0⟩, ⟨n1, g1⟩, ⟨n2, g2⟩, ⟨n3, g3⟩⟩ := hfb.cells4
  obtain ⟨m0, s0⟩ := hnb 0 _ rfl
  by_cases hfr : fr < 0 ∨ (l.length : Int) ≤ fr
  · have HE := Lib.hid (show readS l fr = (Fm.zero, 0, 230) by unfold readS; rw [if_pos hfr])
    clear h
    have hcase : decide (fr < 0) = true ∨ (decide (fr < 0) = false ∧ decide ((l.length : Int) ≤ fr) = true) := by
      by_cases h0 : fr < 0
      · exact .inl (decide_eq_true h0)
      · exact .inr ⟨decide_eq_false h0, decide_eq_true (by omega)⟩
    clear hfr hsW
    rcases hcase with q1 | ⟨q1, q2⟩
    all_goals
      go_enter Try.func19, Try.ntmps19
      go_upto_region 1 with fail
      rw [← hW]
      clear hW
      go_wp2
      have hch := chg_set4 W w.heap.size (.int .i64 0) (.slice none 0 0) (.slice none 0 0) (.slice none 0 0)
      have hm1 := hnb.chg hch (by simp)
      obtain ⟨m1, -⟩ := hm1 0 _ rfl
      have hch2 := (Chg.refl [w.heap.size + 1] ((((W.setCell ⟨w.heap.size, 0, none⟩ (.int .i64 0)).setCell ⟨w.heap.size, 1, none⟩ (.slice none 0 0)).setCell ⟨w.heap.size, 2, none⟩ (.slice none 0 0)).setCell ⟨w.heap.size, 3, none⟩ (.slice none 0 0))).setCell (p := ⟨w.heap.size + 1, 0, none⟩) (.int .i64 0) (.inl (by simp))
      have hn2 := (own_set4 hfb (.int .i64 0) (.slice none 0 0) (.slice none 0 0) (.slice none 0 0)).chg hch2 (by simp)
      have hm2 := hm1.set (i := 0) (by simp) (.int .i64 0)
      obtain ⟨r0, r1, r2, r3⟩ := own_res4 hn2
      obtain ⟨y0, -⟩ := hm2 0 _ rfl
      refine bodyPost_ret (v := .tuple #[.agg #[.int .i64 0, .slice none 0 0, .slice none 0 0, .slice none 0 0], .int .i64 0, .int .i64 230]) (by simp [results, Try.results19, go_sem, r0, r1, r2, r3, y0]) rfl ?_
      rw [HE.out]
      exact ReadSays.mk rfl ⟨_, _, _, _, rfl, fm_zero⟩ (Chg.ext hx ((hch.mono (T := [w.heap.size, w.heap.size + 1]) (by simp)).trans (hch2.mono (by simp))) (by simp))
  · have hfr1 : 0 ≤ fr := by omega
    have hfr2 : fr < (l.length : Int) := by omega
    have q1 : decide (fr < 0) = false := decide_eq_false (by omega)
    have q2 : decide ((l.length : Int) ≤ fr) = false := decide_eq_false (by omega)
    obtain ⟨k, hk⟩ : ∃ k : Nat, fr = k := ⟨fr.toNat, by omega⟩
    subst hk
    have hk1 : k < l.length := by omega
    have HE := Lib.hid (show readS l k = match rForm (l.drop k) with
      | .bad r => (Fm.zero, ((badAt l r : Nat) : Int), (230 : Int))
      | .ok f r => if f.check ≠ 0 then (Fm.zero, (k : Int), f.check) else (f, ((l.length - r.length : Nat) : Int), 0) by
        unfold readS; rw [if_neg hfr, Int.toNat_natCast]; rfl)
    clear hfr hfr1 hf1 hf2
    obtain ⟨W2, hW2⟩ : ∃ W2, W2 = (W.alloc (.cells #[.slice a l.length c, .int .i64 k] 97)).alloc (.cells #[.pointer (some ⟨w.heap.size + 2, 0, none⟩)] 95) := ⟨_, rfl⟩
    obtain ⟨W3, hW3⟩ : ∃ W3, W3 = W2.alloc (.cells #[.bool false] 4) := ⟨_, rfl⟩
    have hx2 : Ext W W3 := by rw [hW3, hW2]; exact ((ext_alloc _ _).alloc _).alloc _
    have hcb : Own W3 (w.heap.size + 2) [.slice a l.length c, .int .i64 k] := by
      rw [hW3, hW2]; have := ((own2 W (.slice a l.length c) (.int .i64 k) 97).ext (ext_alloc _ (.cells #[.pointer (some ⟨w.heap.size + 2, 0, none⟩)] 95))).ext (ext_alloc _ (.cells #[.bool false] 4))
      rw [hsW] at this; exact this
    have hpb : Own W3 (w.heap.size + 3) [.pointer (some ⟨w.heap.size + 2, 0, none⟩)] := by
      rw [hW3, hW2]; have := (own1 (W.alloc (.cells #[.slice a l.length c, .int .i64 k] 97)) (.pointer (some ⟨w.heap.size + 2, 0, none⟩)) 95).ext (ext_alloc _ (.cells #[.bool false] 4))
      rw [World.size_alloc, hsW] at this; exact this
    have hlb : Own W3 (w.heap.size + 4) [.bool false] := by
      rw [hW3]; have := own1 W2 (.bool false) 4
      rw [show W2.heap.size = w.heap.size + 4 by rw [hW2]; simp [hsW]] at this; exact this
    have hfb3 := hfb.ext hx2
    have hnb3 := hnb.ext hx2
    have hsuf : l.drop k <:+ l := drop_suf
    have hlen : (l.drop k).length = l.length - k := List.length_drop
    have hcur : Cur (w.heap.size + 2) l W3 (l.drop k) := ⟨hsuf, a, c, hcb.eq (by rw [hlen, show l.length - (l.length - k) = k by omega]), hc, Dat.Rows.ext (Dat.Rows.mono h fun g _ hlt => (show g < w.heap.size + 2 by omega)) (hx.trans hx2)⟩
    obtain ⟨p0, -⟩ := hpb 0 _ rfl
    have HF := Lib.hid (catch_any (by omega) (by omega) hcur hfb3 hnb3 hlb p0 (by omega) (by omega) (by omega) (by omega) (by have := hfb3.lt; omega))
    unfold CatchPost at HF
    have hxw3 := hx.trans hx2
    clear h hcur hcb hsW p0 n0 n1 n2 n3 g0 g1 g2 g3 m0 s0 hsuf hlen
    cases hr : rForm (l.drop k) with
    | bad r =>
      rw [hr] at HF HE
      clear hr
      go_enter Try.func19, Try.ntmps19
      go_upto_region 6 with (rw [← hW, ← hW2, ← hW3]; refine (HF.out).mono ?_; rintro e w4 ⟨rfl, hx4, hn4, hl4⟩)
      clear hW hW2 hW3
      have hf4 := hfb3.chg hx4 (by simp)
      have hnl4 := hn4.lt
      have hfl4 := hf4.lt
      obtain ⟨⟨n0, g0⟩, ⟨n1, g1⟩, ⟨n2, g2⟩, ⟨n3, g3⟩⟩ := hf4.cells4
      obtain ⟨m0, s0⟩ := hn4 0 _ rfl
      obtain ⟨t0, -⟩ := hl4 0 _ rfl
      go_upto_region 7 with fail
      go_cut [6] from 26 to 27 (fun x wx => x = .int .i64 230 ∧ Own wx w.heap.size [.int .i64 0, .slice none 0 0, .slice none 0 0, .slice none 0 0] ∧ Own wx (w.heap.size + 1) [.int .i64 (badAt l r : Nat)] ∧ Chg [w.heap.size, w.heap.size + 1] w4 wx)
      case first =>
        go_region_with fail
        all_goals
          go_wp2_with fail
          go_meet
          refine ⟨rfl, ?_, ?_, ?_⟩
          · exact ((own_set4 hf4 (.int .i64 0) (.slice none 0 0) (.slice none 0 0) (.slice none 0 0)).chg ((Chg.refl [w.heap.size + 1] _).setCell (p := ⟨w.heap.size + 1, 0, none⟩) _ (.inl (by simp))) (by simp)).ext (Ext.drew (Below.refl _ _))
          · exact ((hn4.chg (chg_set4 w4 w.heap.size (.int .i64 0) (.slice none 0 0) (.slice none 0 0) (.slice none 0 0)) (by simp)).set (i := 0) (by simp) _).ext (Ext.drew (Below.refl _ _))
          · exact (((chg_set4 w4 w.heap.size (.int .i64 0) (.slice none 0 0) (.slice none 0 0) (.slice none 0 0)).mono (T := [w.heap.size, w.heap.size + 1]) (by simp)).setCell (p := ⟨w.heap.size + 1, 0, none⟩) _ (.inl (by simp))).trans (Chg.of_ext (Ext.drew (Below.refl _ _)))
      case rest =>
        obtain ⟨rfl, h1, h2, h3⟩ := hcut
        obtain ⟨r0, r1, r2, r3⟩ := own_res4 h1
        obtain ⟨y0, -⟩ := h2 0 _ rfl
        go_wp2_with fail
        refine bodyPost_ret (v := .tuple #[.agg #[.int .i64 0, .slice none 0 0, .slice none 0 0, .slice none 0 0], .int .i64 (badAt l r : Nat), .int .i64 230]) (by simp [results, Try.results19, go_sem, r0, r1, r2, r3, y0]) rfl ?_
        rw [HE.out]
        exact ReadSays.mk rfl ⟨_, _, _, _, rfl, fm_zero⟩ (Chg.ext hxw3 ((hx4.mono (T := [w.heap.size, w.heap.size + 1, w.heap.size + 2, w.heap.size + 4]) (by simp)).trans (h3.mono (by simp))) (by simp))
    | ok f r =>
      have hfit := rForm_fits _ _ _ hr
      rw [List.length_drop] at hfit
      rw [hr] at HF
      replace HE := Lib.hid (show readS l k = if f.check ≠ 0 then (Fm.zero, (k : Int), f.check) else (f, ((l.length - r.length : Nat) : Int), 0) by rw [HE.out, hr])
      clear hr
      have hwW3 := hxw3.size
      go_enter Try.func19, Try.ntmps19
      go_upto_region 6 with (rw [← hW, ← hW2, ← hW3]; refine (HF.out).mono ?_; rintro e w4 ⟨rfl, hx4, ⟨x0, x1, x2, x3, hf4, hfm⟩, ca, cc, hc4⟩)
      clear hW hW2 hW3
      have hn4 := hnb3.chg hx4 (by simp)
      have hl4 := hlb.chg hx4 (by simp)
      have hp4 := hpb.chg hx4 (by simp)
      obtain ⟨b1, c1, b2, c2, b3, c3, rfl, rfl, rfl, rfl⟩ := fm_vals' hfm
      have hfm4 : IsFm (fun g => w.heap.size + 5 ≤ g) w4 _ _ _ _ f := Dat.Fs.mono hfm fun g hg _ => (show w.heap.size + 5 ≤ g by have := hlb.lt; omega)
      have hxw4 : Ext w w4 := Chg.ext hxw3 hx4 (by simp)
      have hnl4 := hn4.lt
      have hfl4 := hf4.lt
      obtain ⟨⟨n0, g0⟩, ⟨n1, g1⟩, ⟨n2, g2⟩, ⟨n3, g3⟩⟩ := hf4.cells4
      obtain ⟨m0, s0⟩ := hn4 0 _ rfl
      obtain ⟨t0, -⟩ := hl4 0 _ rfl
      have HCk := Lib.hid (check_any f _ w4 _ _ _ _ hfm4 (by omega))
      obtain ⟨ck, hck⟩ : ∃ ck, ck = f.check := ⟨_, rfl⟩
      rw [← hck] at HCk HE
      clear hck hfm hx4 hfb3 hnb3 hlb hpb hx2 hfb hnb hx
      by_cases h0 : ck = 0
      · subst h0
        have HE := Lib.hid (HE.out.trans (if_neg (fun h => h rfl)))
        go_upto_region 9 with (go_at_call 10; refine (HCk.out).mono ?_; rintro e w5 ⟨rfl, hx5⟩)
        have hn5 := hn4.ext hx5
        have hf5 := hf4.ext hx5
        have hc5 := hc4.ext hx5
        have hp5 := hp4.ext hx5
        have hfm5 := IsFm.ext hfm4 hx5
        have hxw5 := hxw4.trans hx5
        clear n0 n1 n2 n3 g0 g1 g2 g3 m0 s0 t0 hn4 hf4 hc4 hp4 hl4 hfm4 hxw4 hnl4 hfl4
        obtain ⟨⟨n0, g0⟩, ⟨n1, g1⟩, ⟨n2, g2⟩, ⟨n3, g3⟩⟩ := hf5.cells4
        obtain ⟨m0, s0⟩ := hn5 0 _ rfl
        obtain ⟨p0, -⟩ := hp5 0 _ rfl
        obtain ⟨z1, -⟩ := hc5 1 _ rfl
        have hnl4 := hn5.lt
        have hfl4 := hf5.lt
        go_upto_region 11 with fail
        go_cut [6] from 35 to 39 (fun x wx => x = .int .i64 0 ∧ Own wx w.heap.size [.int .i64 f.op, .slice b1 f.vars.length c1, .slice b2 f.terms.length c2, .slice b3 f.args.length c3] ∧ Own wx (w.heap.size + 1) [.int .i64 (l.length - r.length : Nat)] ∧ Chg [w.heap.size, w.heap.size + 1] w5 wx)
        case first =>
          go_region_with fail
          all_goals
            go_wp2_with fail
            go_meet
            refine ⟨rfl, ?_, ?_, ?_⟩
            · exact ((own_set4 hf5 (.int .i64 f.op) (.slice b1 f.vars.length c1) (.slice b2 f.terms.length c2) (.slice b3 f.args.length c3)).chg ((Chg.refl [w.heap.size + 1] _).setCell (p := ⟨w.heap.size + 1, 0, none⟩) _ (.inl (by simp))) (by simp)).ext (Ext.drew (Below.refl _ _))
            · exact ((hn5.chg (chg_set4 w5 w.heap.size (.int .i64 f.op) (.slice b1 f.vars.length c1) (.slice b2 f.terms.length c2) (.slice b3 f.args.length c3)) (by simp)).set (i := 0) (by simp) _).ext (Ext.drew (Below.refl _ _))
            · exact (((chg_set4 w5 w.heap.size (.int .i64 f.op) (.slice b1 f.vars.length c1) (.slice b2 f.terms.length c2) (.slice b3 f.args.length c3)).mono (T := [w.heap.size, w.heap.size + 1]) (by simp)).setCell (p := ⟨w.heap.size + 1, 0, none⟩) _ (.inl (by simp))).trans (Chg.of_ext (Ext.drew (Below.refl _ _)))
        case rest =>
          obtain ⟨rfl, h1, h2, h3⟩ := hcut
          obtain ⟨r0, r1, r2, r3⟩ := own_res4 h1
          obtain ⟨y0, -⟩ := h2 0 _ rfl
          go_wp2_with fail
          refine bodyPost_ret (v := .tuple #[.agg #[.int .i64 f.op, .slice b1 f.vars.length c1, .slice b2 f.terms.length c2, .slice b3 f.args.length c3], .int .i64 (l.length - r.length : Nat), .int .i64 0]) (by simp [results, Try.results19, go_sem, r0, r1, r2, r3, y0]) rfl ?_
          rw [HE.out]
          exact ReadSays.mk rfl ⟨_, _, _, _, rfl, Dat.Fs.mono (Dat.Fs.chg hfm5 h3 (fun g hg => by simp; omega)) fun g hg _ => by omega⟩ (Chg.ext hxw5 h3 (by simp))
      · have HE := Lib.hid (HE.out.trans (if_pos h0))
        have hq1 : (ck != 0) = true := by rw [bne_iff_ne]; exact h0
        clear h0
        go_wp2_with (go_at_call 10; refine (HCk.out).mono ?_; rintro e w5 ⟨rfl, hx5⟩; have hf5 := hf4.ext hx5; have hn5 := hn4.ext hx5; clear n0 n1 n2 n3 g0 g1 g2 g3 m0 s0; (obtain ⟨⟨n0, g0⟩, ⟨n1, g1⟩, ⟨n2, g2⟩, ⟨n3, g3⟩⟩ := hf5.cells4); (obtain ⟨m0, s0⟩ := hn5 0 _ rfl); have hnl5 := hn5.lt; have hfl5 := hf5.lt)
        have hch := chg_set4 w5 w.heap.size (.int .i64 0) (.slice none 0 0) (.slice none 0 0) (.slice none 0 0)
        have hm1 := hn5.chg hch (by simp)
        have hch2 := (Chg.refl [w.heap.size + 1] ((((w5.setCell ⟨w.heap.size, 0, none⟩ (.int .i64 0)).setCell ⟨w.heap.size, 1, none⟩ (.slice none 0 0)).setCell ⟨w.heap.size, 2, none⟩ (.slice none 0 0)).setCell ⟨w.heap.size, 3, none⟩ (.slice none 0 0))).setCell (p := ⟨w.heap.size + 1, 0, none⟩) (.int .i64 k) (.inl (by simp))
        have hn2 := (own_set4 hf5 (.int .i64 0) (.slice none 0 0) (.slice none 0 0) (.slice none 0 0)).chg hch2 (by simp)
        have hm2 := hm1.set (i := 0) (by simp) (.int .i64 k)
        obtain ⟨r0, r1, r2, r3⟩ := own_res4 hn2
        obtain ⟨y0, -⟩ := hm2 0 _ rfl
        refine bodyPost_ret (v := .tuple #[.agg #[.int .i64 0, .slice none 0 0, .slice none 0 0, .slice none 0 0], .int .i64 k, .int .i64 ck]) (by simp [results, Try.results19, go_sem, r0, r1, r2, r3, y0]) rfl ?_
        rw [HE.out]
        exact ReadSays.mk rfl ⟨_, _, _, _, rfl, fm_zero⟩ (Chg.ext (hxw4.trans hx5) ((hch.mono (T := [w.heap.size, w.heap.size + 1]) (by simp)).trans (hch2.mono (by simp))) (by simp))
end Go.Proofs.Ytnclgkdpafhogaa
namespace Go.Proofs.Ytnclgkdpafhogaa
open Go.ChangeShapes Go.WideShapes Go.ChangeAt Go.RowKit
/-- a reader is left: by a panic of the cursor, or by a fault -/
def LeftBy (rb : Nat) (l : List Tok) (file : Int) (t : Flt) (e : Ending) (w' : World) : Prop :=
  (∃ r ks v, t = itemAt l file r ∧ e = .panicked [wrongV (badAt l r)] ∧ PRd rb l w' ks file v) ∨ Faulted t e
theorem LeftBy.wrong {rb : Nat} {l ks r : List Tok} {file : Int} {v : Value} {w' : World} {t : Flt} (ht : t = itemAt l file r) (h : PRd rb l w' ks file v) : LeftBy rb l file t (.panicked [wrongV (badAt l r)]) w' := .inl ⟨r, ks, v, ht, rfl, h⟩
def EntRow (B : Nat) (w : World) (v : Value) (l : List Ent) : Prop := GRow (eltDat 7) 84 B w v (l.map Ent.dat)
/-- what a reading of an entry does -/
def EntPost (rb B : Nat) (l : List Tok) (file : Int) (v : Value) (out : List Ent) (w : World) (res : Out (Ent × List Tok)) (e : Ending) (w' : World) : Prop :=
  Chg (rb :: v.ownBlock.toList) w w' ∧ match res with
  | .ok xr => e = .returned (.tuple #[]) ∧ (∀ u, w.cell? ⟨rb, 0, none⟩ = some u → w'.cell? ⟨rb, 0, none⟩ = some u) ∧ ∃ v', PRd rb l w' xr.2 file v' ∧ EntRow B w' v' (out ++ [xr.1]) ∧ (v'.ownBlock = v.ownBlock ∨ ∀ g, v'.ownBlock = some g → w.heap.size ≤ g)
  | .flt t => LeftBy rb l file t e w'
theorem EntPost.wrong {rb B : Nat} {l ks r : List Tok} {file : Int} {v v1 : Value} {out : List Ent} {w w' : World} {res : Out (Ent × List Tok)} (hr : res = .flt (itemAt l file r)) (hc : Chg [rb] w w') (h : PRd rb l w' ks file v1) : EntPost rb B l file v out w res (.panicked [wrongV (badAt l r)]) w' := by
  subst hr
  exact ⟨hc.mono (by simp), LeftBy.wrong rfl h⟩
theorem EntPost.fault {rb B : Nat} {l : List Tok} {file : Int} {v : Value} {out : List Ent} {w w' : World} {res : Out (Ent × List Tok)} {t t' : Flt} {e : Ending} (hr : res = .flt t') (hc : Chg [rb] w w') (h : Faulted t e) (ht : t = t') : EntPost rb B l file v out w res e w' := by
  subst hr; subst ht
  exact ⟨hc.mono (by simp), .inr h⟩
theorem PRd.at1 {rb : Nat} {l ks : List Tok} {w : World} {file : Int} {v : Value} (h : PRd rb l w ks file v) : w.cell? ⟨rb, 1, none⟩ = some (.int .i64 (l.length - ks.length : Nat)) ∧ w.frozen? ⟨rb, 1, none⟩ = false ∧ rb < w.heap.size := by
  obtain ⟨⟨hs, a, c, hown, -⟩, -⟩ := h
  obtain ⟨c1, f1⟩ := hown 1 _ rfl
  exact ⟨c1, f1, hown.lt⟩
theorem PRd.at0 {rb : Nat} {l ks : List Tok} {w : World} {file : Int} {v : Value} (h : PRd rb l w ks file v) : ∃ a c, w.cell? ⟨rb, 0, none⟩ = some (.slice a l.length c) ∧ l.length ≤ c ∧ IsToks rb w a l := by
  obtain ⟨⟨hs, a, c, hown, hc, ht⟩, -⟩ := h
  exact ⟨a, c, (hown 0 _ rfl).1, hc, ht⟩
theorem PRd.move {rb : Nat} {l ks r : List Tok} {w : World} {file : Int} {v : Value} (h : PRd rb l w ks file v) (hr : r <:+ l) {z : Int} (hz : z = (l.length - r.length : Nat)) : PRd rb l (w.setCell ⟨rb, 1, none⟩ (.int .i64 z)) r file v :=
  h.kept ((Kept.refl rb w).set _) (h.1.move hr hz)
theorem tokAt_suf {l r : List Tok} (h : r <:+ l) (_hr : 0 < r.length) : tokAt l (l.length - r.length) = peekT r := peek_at h (by have := h.length_le; omega)
theorem readS_tok {l : List Tok} {nx : Int} (h : 0 ≤ nx) (h2 : nx < l.length) : tokOf l nx = tokAt l nx.toNat := by
  rw [tokOf_lt h h2, tokAt_lt (by omega)]
theorem nameK_size {ks : List Tok} (ht : ∀ t ∈ ks, t.ok) {x : ByteArray} {r : List Tok} (h : nameK ks = .ok x r) : x.size ≤ 1073741824 := by
  cases ks with
  | nil => cases h
  | cons t ks =>
    rw [nameK_cons] at h
    split at h
    · injection h with h1 _; subst h1; exact (ht t (by simp)).2.1
    · cases h
theorem readS_size {l r : List Tok} (hr : r <:+ l) {f : Fm} {nx : Int} (h : readS l (l.length - r.length : Nat) = (f, nx, 0)) : f.size ≤ 2 * l.length := by
  have hd : l.drop (l.length - r.length) = r := (List.suffix_iff_eq_drop.1 hr).symm
  unfold readS at h
  split at h
  · injection h with _ h; injection h with _ h; cases h
  · rw [Int.toNat_natCast, hd] at h
    cases hf : rForm r with
    | bad k => rw [hf] at h; injection h with _ h; injection h with _ h; cases h
    | ok g k =>
      have := rForm_fits _ _ _ hf
      have := hr.length_le
      rw [hf] at h
      simp only at h
      split at h
      · rename_i hc; injection h with _ h; injection h with _ h; exact absurd h hc
      · injection h with h1 _; subst h1; omega
theorem PRd.put {rb : Nat} {l ks : List Tok} {w : World} {file : Int} {v : Value} (h : PRd rb l w ks file v) (v' : Value) : PRd rb l (w.setCell ⟨rb, 3, none⟩ v') ks file v' := by
  obtain ⟨⟨h1, a, c, h2, h3, h4⟩, ⟨q2, f2⟩, q3, f3⟩ := h
  have hch : Chg [rb] w (w.setCell ⟨rb, 3, none⟩ v') := (Chg.refl [rb] w).setCell _ (.inl (by simp))
  refine ⟨⟨h1, a, c, fun i u hu => ?_, h3, h4.chg hch⟩, ⟨?_, by rw [World.frozen?_setCell]; exact f2⟩, World.cell?_setCell_same _ _ _ q3, by rw [World.frozen?_setCell]; exact f3⟩
  · obtain ⟨k1, k2⟩ := h2 i u hu
    have hi : i ≠ 3 := fun e => by subst e; simp at hu
    exact ⟨by rw [World.cell?_setCell_other _ _ _ _ (by simp [])]; exact k1, by rw [World.frozen?_setCell]; exact k2⟩
  · rw [World.cell?_setCell_other _ _ _ _ (by simp)]; exact q2
theorem PRd.grown {α : Type} {E : Elt α} {e rb B : Nat} {l ks : List Tok} {w w1 w2 : World} {file : Int} {v u : Value} {m : List α} (h : PRd rb l w1 ks file v) (hr : GRow E e B w u m) (hB : rb < B) (hg : w1.grownBy w2 u.ownBlock) : PRd rb l w2 ks file v := by
  refine h.chg (S := u.ownBlock.toList) (Chg.of_grown hg (fun g h => .inl (by simp [h]))) fun b hb => ?_
  have := (hr.own_ge (show u.ownBlock = some b by simpa using hb)).1
  omega
/-- an entry is put into the row -/
theorem ent_done {rb B : Nat} {l r : List Tok} {file : Int} {v v' : Value} {out : List Ent} {w w12 wA w13 : World} {res : Out (Ent × List Tok)} {x : Ent} (hrB : rb < B) (hres : res = .ok (x, r)) (h0 : ∀ u, w.cell? ⟨rb, 0, none⟩ = some u → w12.cell? ⟨rb, 0, none⟩ = some u) (hc : Chg [rb] w w12) (hp : PRd rb l w12 r file v) (hrow : GRow (eltDat 7) 84 B w12 v (out.map Ent.dat)) (hxA : Ext w12 wA)
    (hrow13 : GRow (eltDat 7) 84 B w13 v' (out.map Ent.dat ++ [x.dat])) (hgrow : wA.grownBy w13 v.ownBlock) (hat : v'.ownBlock = v.ownBlock ∨ v'.ownBlock = some wA.heap.size) : EntPost rb B l file v out w res (.returned (.tuple #[])) (w13.setCell ⟨rb, 3, none⟩ v') := by
  subst hres
  have hset : Chg [rb] w13 (w13.setCell ⟨rb, 3, none⟩ v') := (Chg.refl [rb] w13).setCell _ (.inl (by simp))
  refine ⟨((hc.mono (by simp)).trans ((Chg.of_ext (S := rb :: v.ownBlock.toList) hxA).trans (Chg.of_grown hgrow (fun g h => .inl (by simp [h]))))).trans (hset.mono (by simp)), rfl, fun u hu => ?_, v', ((hp.ext hxA).grown hrow hrB hgrow).put v', ?_, ?_⟩
  · have h1 := hxA.cell (h0 u hu)
    have h2 := (hgrow.cell_far ⟨rb, 0, none⟩ (cell_lt h1) (fun e => by have := (hrow.own_ge e.symm).1; simp only at this; omega)).trans h1
    rw [World.cell?_setCell_other _ _ _ _ (by simp)]; exact h2
  · unfold EntRow
    rw [List.map_append]
    exact GRow.chg hrow13 hset (by simp; omega)
  · rcases hat with h | h
    · exact .inl h
    · refine .inr fun g hg => ?_
      rw [h] at hg
      injection hg with hg
      have := hc.size
      have := hxA.size
      omega
theorem infoEnt : (Try.prog.info? 84).map (fun i => (i.zero, i.size, i.bytes)) = some (some (.agg #[.bool false, .string ⟨#[]⟩, .string ⟨#[]⟩, .int .i64 0, .slice none 0 0, .slice none 0 0, .slice none 0 0]), 7, 120) := by kernel_rfl
set_option maxHeartbeats 16000000 in
set_option maxRecDepth 100000 in
theorem entry_any {l : List Tok} (hl : l.length ≤ 8001) (hE : Ends l) {rb B : Nat} {t : Tok} {ks : List Tok} {w : World} {file : Int} {v : Value} {out : List Ent} (hsuf : t :: ks <:+ l) (hEk : Ends ks) (h : PRd rb l w ks file v) (hrow : EntRow B w v out) (hrB : rb < B) (hBw : B ≤ w.heap.size) (cnf : Bool) (ahead : Nat) (hah : ahead ≤ 100000) (hout : out.length ≤ 100000) :
    Calls Try.prog 54 #[.pointer (some ⟨rb, 0, none⟩), .bool cnf, .int .i64 ahead] w (EntPost rb B l file v out w (entR l file cnf t.at' (ahead + out.length) ks)) := by
  have hne := hE.pos
  have hl2 : l.length ≤ 1073741824 := by omega
  have HM := Lib.hid (fun s w' ks' (h : Cur rb l w' ks') => kmust_any hl2 hne h s)
  have HNM := Lib.hid (fun w' ks' (h : Cur rb l w' ks') => pname_any hl2 hne h)
  have HK := Lib.hid (fun w' ks' (h : Cur rb l w' ks') => kkind_any hl2 hne h (k := 1) (by decide))
  have HR := Lib.hid (fun s w => isRole_any s w)
  have HST := Lib.hid (fun w' ks' v' n er (hn : n < l.length) (h : PRd rb l w' ks' file v') => stop_any hl2 h hn er)
  obtain ⟨p, hp, hpt, hp1, hp2, hp3⟩ := suf_at hsuf
  have hks : ks <:+ l := (List.suffix_cons t ks).trans hsuf
  have HPT := Lib.hid (show (tokAt l p).at' = t.at' by rw [tokAt_lt hp, hpt])
  obtain ⟨z1, zf1, hrw⟩ := h.at1
  rw [hp3] at z1
  have hm1 : IntKind.i64.wrap (((p + 1 : Nat) : Int) - 1) = p := by rw [IntWalk.i64_in _ (by omega)]; omega
  have HS := Lib.hid hsuf
  have HOUT := Lib.hid hrow
  clear hpt hsuf hrow
  go_enter Try.func54, Try.ntmps54
  go_upto_region 1 with fail
  clear z1 zf1 hm1
  -- the bracket, the name, the comma, the role, the comma
  go_upto_region 2 with (go_at_call 72; refine (HM.out sLpar _ _ h.1).mono ?_; rintro e w1 ⟨hk1, hm⟩; (rcases rd_ways (mustS sLpar ks) with ⟨r1, hq1⟩ | ⟨u1, r1, hq1⟩); (focus (rw [hq1] at hm; (obtain ⟨rfl, hc1⟩ := hm); exact ⟨rfl, EntPost.wrong (entR_head (entHead_1 hq1)) hk1.chg (h.kept hk1 hc1)⟩)); rw [hq1] at hm; (obtain ⟨rfl, hc1⟩ := hm))
  have g1 := h.kept hk1 hc1
  go_upto_region 3 with (go_at_call 73; refine (HNM.out _ _ hc1).mono ?_; rintro e w2 ⟨hk2, hm⟩; (rcases rd_ways (nameK r1) with ⟨r2, hq2⟩ | ⟨nm, r2, hq2⟩); (focus (rw [hq2] at hm; (obtain ⟨rfl, hc2⟩ := hm); exact ⟨rfl, EntPost.wrong (entR_head (entHead_2 hq1 hq2)) (hk1.trans hk2).chg (g1.kept hk2 hc2)⟩)); rw [hq2] at hm; (obtain ⟨rfl, hc2⟩ := hm))
  obtain ⟨V2, hV2⟩ : ∃ V2, V2 = w2.alloc (.cells #[.bool cnf, .string nm, .string ⟨#[]⟩, .int .i64 0, .slice none 0 0, .slice none 0 0, .slice none 0 0] 84) := ⟨_, rfl⟩
  have b2 : Own V2 w2.heap.size [.bool cnf, .string nm, .string ⟨#[]⟩, .int .i64 0, .slice none 0 0, .slice none 0 0, .slice none 0 0] := by rw [hV2]; exact own_alloc w2 _ _
  have e2 : Ext w2 V2 := by rw [hV2]; exact ext_alloc _ _
  have g2 := (g1.kept hk2 hc2).ext e2
  have hnms := nameK_size g1.1.toks hq2
  have K2 : Kept rb w V2 := (hk1.trans hk2).ext e2
  have hrb2 := hc2.lt
  have hw2 := (hk1.trans hk2).chg.size
  rw [← hV2]
  clear hV2 e2 hc1 hc2
  obtain ⟨eb, hebe⟩ : ∃ eb, eb = w2.heap.size := ⟨_, rfl⟩
  rw [← hebe] at b2 hrb2 hw2 ⊢
  clear hebe
  have hne1 : eb ∉ [rb] := by simp; omega
  go_upto_region 4 with (go_at_call 72; refine (HM.out sComma _ _ g2.1).mono ?_; rintro e w3 ⟨hk3, hm⟩; (rcases rd_ways (mustS sComma r2) with ⟨r3, hq3⟩ | ⟨u3, r3, hq3⟩); (focus (rw [hq3] at hm; (obtain ⟨rfl, hc3⟩ := hm); exact ⟨rfl, EntPost.wrong (entR_head (entHead_3 hq1 hq2 hq3)) (K2.trans hk3).chg (g2.kept hk3 hc3)⟩)); rw [hq3] at hm; (obtain ⟨rfl, hc3⟩ := hm))
  have g3 := g2.kept hk3 hc3
  have K3 := K2.trans hk3
  have b3 := b2.chg hk3.chg hne1
  obtain ⟨z3, -, l3⟩ := g3.at1
  go_upto_region 5 with fail
  clear z3 b2 g2 g1
  go_upto_region 6 with (go_at_call 74; refine (HK.out _ _ g3.1).mono ?_; rintro e w4 ⟨hk4, hm⟩; (rcases rd_ways (kindK 1 r3) with ⟨r4, hq4⟩ | ⟨role, r4, hq4⟩); (focus (rw [hq4] at hm; (obtain ⟨rfl, hc4⟩ := hm); exact ⟨rfl, EntPost.wrong (entR_head (entHead_4 hq1 hq2 hq3 hq4)) (K3.trans hk4).chg (g3.kept hk4 hc4)⟩)); rw [hq4] at hm; (obtain ⟨rfl, hc4⟩ := hm); have b4 := b3.chg hk4.chg hne1; have l4 := b4.lt; (obtain ⟨y2, yf2⟩ := b4 2 _ rfl))
  have hros := kindK_size g3.1.toks hq4
  obtain ⟨V4, hV4⟩ : ∃ V4, V4 = w4.setCell ⟨eb, 2, none⟩ (.string role) := ⟨_, rfl⟩
  have c4 : Chg [eb] w4 V4 := by rw [hV4]; exact (Chg.refl [eb] w4).setCell _ (.inl (by simp))
  have b5 : Own V4 eb [.bool cnf, .string nm, .string role, .int .i64 0, .slice none 0 0, .slice none 0 0, .slice none 0 0] := by rw [hV4]; exact b4.set (i := 2) (by simp) _
  have C4 : Chg [rb] w V4 := Chg.drop (Below.refl _ _) (((K3.trans hk4).chg.mono (T := [rb, eb]) (by simp)).trans (c4.mono (by simp))) (by simp; omega)
  have K4 : Kept rb w V4 := (K3.trans hk4).chgs c4 (by simp; omega) C4
  have g4 : PRd rb l V4 r4 file v := (g3.kept hk4 hc4).chg c4 (by simp; omega)
  rw [← hV4]
  clear hV4 c4 y2 yf2 b4 b3 g3 hc4 hc3
  go_upto_region 7 with (go_at_call 72; refine (HM.out sComma _ _ g4.1).mono ?_; rintro e w5 ⟨hk5, hm⟩; (rcases rd_ways (mustS sComma r4) with ⟨r5, hq5⟩ | ⟨u5, r5, hq5⟩); (focus (rw [hq5] at hm; (obtain ⟨rfl, hc5⟩ := hm); exact ⟨rfl, EntPost.wrong (entR_head (entHead_5 hq1 hq2 hq3 hq4 hq5)) (C4.trans hk5.chg) (g4.kept hk5 hc5)⟩)); rw [hq5] at hm; (obtain ⟨rfl, hc5⟩ := hm))
  have g5 := g4.kept hk5 hc5
  have C5 := C4.trans hk5.chg
  have K5 := K4.trans hk5
  have b6 := b5.chg hk5.chg hne1
  have hH := Lib.hid (entHead_ok hq1 hq2 hq3 hq4 hq5)
  have hr3 : r3 <:+ l := g4.1.1.elim fun p hp => (suf_ok (mustS_suf _ _) hq3).trans ((suf_ok (nameK_suf _) hq2).trans ((suf_ok (mustS_suf _ _) hq1).trans hks))
  have hr3l : 0 < r3.length := by obtain ⟨tt, rfl, -⟩ := kind_some hq4; simp
  have hr5 : r5 <:+ l := g5.1.1
  have he5 : Ends r5 := entHead_pres _ _ _ hEk hH.out
  have HAT := Lib.hid (show (tokAt l (l.length - r3.length)).at' = (peekT r3).at' by rw [tokAt_suf hr3 hr3l])
  clear hq1 hq2 hq3 hq4 hq5 b5 g4 hc5 K3 K2 K4 C4
  -- is it a role?
  obtain ⟨⟨-, -, y2⟩, -, l5⟩ := own_cells7 b6
  go_cut [56] from 45 to 56 (fun x wx => x = .bool (!(roleOK cnf role)) ∧ wx = w5)
  case first =>
    have HRO := Lib.hid (fun w => HR.out role w)
    clear b6 hk1 hk2 hk3 hk4 hk5
    rcases roleOK_ways cnf role with ⟨e0, e1⟩ | ⟨e0, e1, rfl, e3⟩ | ⟨e0, e1, rfl⟩ | ⟨e0, e1, rfl, e3⟩
    all_goals
      rw [e1] at HRO
      try have q2 : (role.toList == [99, 111, 110, 106, 101, 99, 116, 117, 114, 101]) = _ := eqL (r := rConj) (by rw [Go.ByteArray.toList_eq]; rfl) e3
      have HE0 := Lib.hid e0
      clear e0 e1
      try clear e3
      go_wp2_with (go_at_call 75; refine (HRO.out _).mono ?_; rintro e w7 ⟨rfl, hw7⟩; subst hw7)
      go_meet
      exact ⟨by rw [HE0.out]; rfl, rfl⟩
  case rest =>
    obtain ⟨rfl, hwc⟩ := hcut
    rw [hwc]
    clear hwc
    cases hro : roleOK cnf role with
    | false =>
      have HRO := Lib.hid hro
      clear hro
      go_wp2_with (go_at_call 76; refine (HST.out _ _ _ (l.length - r3.length) 241 (by have := hr3.length_le; omega) g5).mono ?_; rintro e w8 ⟨⟨older, rfl, ho⟩, hx8⟩)
      exact ⟨rfl, EntPost.fault (entR_role hH.out HRO.out) (C5.trans (Chg.of_ext hx8)) ⟨older, rfl, ho⟩ (by rw [HAT.out])⟩
    | true =>
      obtain ⟨f, nx, er, hd⟩ : ∃ f nx er, readS l (l.length - r5.length : Nat) = (f, nx, er) := ⟨_, _, _, rfl⟩
      have HD := Lib.hid hd
      have hat := readS_at hE hr5 he5
      rw [hd] at hat
      simp only at hat
      obtain ⟨a0, c0, z0, hc0, htk⟩ := g5.at0
      obtain ⟨z1, -, l6⟩ := g5.at1
      have HRD := Lib.hid (fun w' (hx : Ext w5 w') => read_any l (by omega) (P := fun b => b < rb) (w := w') (a := a0) (c := c0) (Dat.Rows.ext htk hx) hc0 (l.length - r5.length : Nat) (by omega) (by omega))
      rw [hd] at HRD
      unfold ReadSays at HRD
      dsimp only at HRD
      have HRO := Lib.hid hro
      have HC0 := Lib.hid hc0
      clear hro hd htk y2 hc0
      go_upto_region 9 with fail
      go_cut [9, 10, 11] from 60 to 74 (fun x y z wx => ∃ (fb : Nat) (x0 x1 x2 x3 : Value), x = .pointer (some ⟨fb, 0, none⟩) ∧ y = .int .i64 nx ∧ z = .int .i64 er ∧ Own wx fb [x0, x1, x2, x3] ∧ w5.heap.size ≤ fb ∧ IsFm (fun g => w5.heap.size ≤ g ∧ g ≠ fb) wx x0 x1 x2 x3 f ∧ Ext w5 wx)
      case first =>
        clear b6 hk1 hk2 hk3 hk4 hk5 HM HNM HK HR HST
        go_region_law ((go_simp; go_at_call 19; refine (HRD.out _ (by first | exact Ext.drew (Below.refl _ _) | exact (Ext.drew (Below.refl _ _)).alloc _ | exact Ext.drew (ext_alloc _ _))).mono ?_; rintro e w8 ⟨⟨v8, rfl, x0, x1, x2, x3, rfl, hfm⟩, hx8⟩; (obtain ⟨d1, e1', d2, e2', d3, e3', rfl, rfl, rfl, rfl⟩ := fm_vals' hfm); first
          | ((have hx9 : Ext ((w5.alloc (.cells #[.int .i64 0, .slice none 0 0, .slice none 0 0, .slice none 0 0] 27)).drew) w8 := (by with_reducible exact hx8)); (have hE : Ext w5 w8 := Ext.trans (Ext.drew (ext_alloc _ _)) hx9); (have hb := ((own4 w5 (.int .i64 0) (.slice none 0 0) (.slice none 0 0) (.slice none 0 0) 27).ext (Ext.trans (Ext.drew (Below.refl _ _)) hx9))); have hbl := hb.lt; (obtain ⟨⟨n0, m0⟩, ⟨n1, m1⟩, ⟨n2, m2⟩, ⟨n3, m3⟩⟩ := hb.cells4))
          | ((have hx0 : Ext w5.drew w8 := (by with_reducible exact hx8)); (have hE : Ext w5 w8 := Ext.trans (Ext.drew (Below.refl _ _)) hx0); (have hb := (own4 w8 (.int .i64 0) (.slice none 0 0) (.slice none 0 0) (.slice none 0 0) 27)); have hbl := hb.lt; (obtain ⟨⟨n0, m0⟩, ⟨n1, m1⟩, ⟨n2, m2⟩, ⟨n3, m3⟩⟩ := hb.cells4))))
        all_goals
          go_wp2_with fail
          go_meet
          first
            | (have hw := hx9
               have hch := chg_set4 w8 w5.heap.size (.int .i64 f.op) (.slice d1 f.vars.length e1') (.slice d2 f.terms.length e2') (.slice d3 f.args.length e3')
               exact ⟨w5.heap.size, _, _, _, _, rfl, rfl, rfl, own_set4 hb _ _ _ _, Nat.le_refl _, Dat.Fs.mono (Dat.Fs.chg hfm hch (fun g hg => by have h1 : _ ≤ g := hg; simp at h1 ⊢; omega)) (fun g hg _ => by have h1 : _ ≤ g := hg; simp at h1; omega), Chg.ext hE hch (by simp)⟩)
            | (have hw := hx0
               exact ⟨w8.heap.size, _, _, _, _, rfl, rfl, rfl, own4 w8 _ _ _ _ _, hE.size, Dat.Fs.ext (Dat.Fs.mono hfm fun g hg hlt => ⟨by have h1 : _ ≤ g := hg; simpa using h1, by omega⟩) (ext_alloc _ _), hE.alloc _⟩)
      case rest =>
        obtain ⟨fb, x0, x1, x2, x3, rfl, rfl, rfl, hfb, hfbw, hfm, hxW⟩ := hcut
        have g6 := g5.ext hxW
        have b7 := b6.ext hxW
        have C6 := C5.trans (Chg.of_ext hxW)
        have K6 := K5.ext hxW
        have hsW := hxW.size
        obtain ⟨k, hk⟩ : ∃ k : Nat, nx = k := ⟨nx.toNat, by omega⟩
        subst hk
        have hkl : k < l.length := by omega
        clear g5 b6 hfbw C5 K5 z0 z1
        by_cases her : er = 0
        case neg =>
          have q : (er != 0) = true := by rw [bne_iff_ne]; exact her
          have HER := Lib.hid her
          clear her hat b7 hfb hfm
          go_wp2_with (go_at_call 76; refine (HST.out _ _ _ k er hkl g6).mono ?_; rintro e w10 ⟨⟨older, rfl, ho⟩, hx10⟩)
          exact ⟨rfl, EntPost.fault (entR_read hH.out HRO.out HD.out HER.out) (C6.trans (Chg.of_ext hx10)) ⟨older, rfl, ho⟩ (by rw [readS_tok (by omega) (by omega)]; rfl)⟩
        case pos =>
          subst her
          have hfsz : f.size ≤ 4194304 := by have := readS_size hr5 HD.out; omega
          obtain ⟨a1, a2, a3⟩ := hat.2.2 rfl
          simp only [Int.toNat_natCast] at a1 a2 a3
          obtain ⟨d1, e1, d2, e2, d3, e3, rfl, rfl, rfl, rfl⟩ := fm_vals' hfm
          obtain ⟨⟨n0, -⟩, ⟨n1, -⟩, ⟨n2, -⟩, ⟨n3, -⟩⟩ := hfb.cells4
          obtain ⟨y3, yf3⟩ := b7 3 _ rfl
          obtain ⟨y4, yf4⟩ := b7 4 _ rfl
          obtain ⟨y5, yf5⟩ := b7 5 _ rfl
          obtain ⟨y6, yf6⟩ := b7 6 _ rfl
          obtain ⟨z1, zf1, l7⟩ := g6.at1
          have l8 := b7.lt
          have l9 := hfb.lt
          have hne2 : rb ≠ eb := by omega
          have hne3 : eb ≠ rb := by omega
          clear hat
          go_upto_region 13 with fail
          clear n0 n1 n2 n3 y3 y4 y5 y6 yf3 yf4 yf5 yf6 z1 zf1
          obtain ⟨V8, hV8⟩ : ∃ V8, V8 = (((wc.setCell ⟨eb, 3, none⟩ (.int .i64 f.op)).setCell ⟨eb, 4, none⟩ (.slice d1 f.vars.length e1)).setCell ⟨eb, 5, none⟩ (.slice d2 f.terms.length e2)).setCell ⟨eb, 6, none⟩ (.slice d3 f.args.length e3) := ⟨_, rfl⟩
          have c8 : Chg [eb] wc V8 := by rw [hV8]; exact ((((Chg.refl [eb] wc).setCell _ (.inl (by simp))).setCell _ (.inl (by simp))).setCell _ (.inl (by simp))).setCell _ (.inl (by simp))
          have b8 : Own V8 eb [.bool cnf, .string nm, .string role, .int .i64 f.op, .slice d1 f.vars.length e1, .slice d2 f.terms.length e2, .slice d3 f.args.length e3] := by
            rw [hV8]
            exact (((b7.set (i := 3) (by simp) _).set (i := 4) (by simp) _).set (i := 5) (by simp) _).set (i := 6) (by simp) _
          have g7 := (g6.chg c8 (by simp; omega)).move (a1.trans hr5) (show (k : Int) = ((l.length - (l.drop k).length : Nat) : Int) by rw [List.length_drop]; omega)
          have c9 : Chg [rb] V8 (V8.setCell ⟨rb, 1, none⟩ (.int .i64 k)) := (Chg.refl [rb] V8).setCell _ (.inl (by simp))
          have b9 := b8.chg c9 (by simp; omega)
          have hfm9 : IsFm (fun g => w5.heap.size ≤ g) (V8.setCell ⟨rb, 1, none⟩ (.int .i64 k)) (.int .i64 f.op) (.slice d1 f.vars.length e1) (.slice d2 f.terms.length e2) (.slice d3 f.args.length e3) f := Dat.Fs.mono (Dat.Fs.chg (Dat.Fs.chg hfm c8 (fun g hg => by have h1 := hg.1; simp; omega)) c9 (fun g hg => by have h1 := hg.1; simp; omega)) fun g hg _ => hg.1
          have C7 : Chg [rb] w (V8.setCell ⟨rb, 1, none⟩ (.int .i64 k)) := Chg.drop (Below.refl _ _) ((C6.mono (T := [rb, eb]) (by simp)).trans ((c8.mono (by simp)).trans (c9.mono (by simp)))) (by simp; omega)
          have K7 : Kept rb w (V8.setCell ⟨rb, 1, none⟩ (.int .i64 k)) := (K6.chgs c8 (by simp; omega) (Chg.drop (Below.refl _ _) ((C6.mono (T := [rb, eb]) (by simp)).trans (c8.mono (by simp))) (by simp; omega))).set _
          have hs9 := C7.size
          have hs9' : wc.heap.size ≤ (V8.setCell ⟨rb, 1, none⟩ (.int .i64 k)).heap.size := by have := c8.size; have := c9.size; omega
          rw [← hV8]
          clear hV8 c8 c9 b8 b7 g6 C6 K6 hfm hfb
          generalize V8.setCell ⟨rb, 1, none⟩ (.int .i64 k) = V9 at *
          go_upto_region 14 with (go_at_call 72; refine (HM.out sRpar _ _ g7.1).mono ?_; rintro e w10 ⟨hk10, hm⟩; (rcases rd_ways (mustS sRpar (l.drop k)) with ⟨r6, hq6⟩ | ⟨u6, r6, hq6⟩); (focus (rw [hq6] at hm; (obtain ⟨rfl, hc10⟩ := hm); exact ⟨rfl, EntPost.wrong (entR_end hH.out HRO.out HD.out (by rw [Int.toNat_natCast]; exact entEnd_1 hq6)) (C7.trans hk10.chg) (g7.kept hk10 hc10)⟩)); rw [hq6] at hm; (obtain ⟨rfl, hc10⟩ := hm))
          have g8 := g7.kept hk10 hc10
          have C8 := C7.trans hk10.chg
          have K8 := K7.trans hk10
          have b10 := b9.chg hk10.chg hne1
          have hfm10 := Dat.Fs.chg hfm9 hk10.chg (fun g hg => by simp; omega)
          clear b9 g7 hfm9 C7 hc10
          go_upto_region 15 with (go_at_call 72; refine (HM.out sDot _ _ g8.1).mono ?_; rintro e w11 ⟨hk11, hm⟩; (rcases rd_ways (mustS sDot r6) with ⟨r7, hq7⟩ | ⟨u7, r7, hq7⟩); (focus (rw [hq7] at hm; (obtain ⟨rfl, hc11⟩ := hm); exact ⟨rfl, EntPost.wrong (entR_end hH.out HRO.out HD.out (by rw [Int.toNat_natCast]; exact entEnd_2 hq6 hq7)) (C8.trans hk11.chg) (g8.kept hk11 hc11)⟩)); rw [hq7] at hm; (obtain ⟨rfl, hc11⟩ := hm))
          have g9 := g8.kept hk11 hc11
          have C9 := C8.trans hk11.chg
          have K9 := K8.trans hk11
          have b11 := b10.chg hk11.chg hne1
          have hfm11 := Dat.Fs.chg hfm10 hk11.chg (fun g hg => by simp; omega)
          have HL := Lib.hid (entR_last (file := file) (fr := t.at') (n := ahead + out.length) (cnf := cnf) hH.out HRO.out HD.out (by rw [Int.toNat_natCast]; exact entEnd_ok hq6 hq7))
          clear b10 g8 hfm10 C8 hc11 hq6 hq7 a1 a2 a3
          obtain ⟨⟨y0, y1, y2⟩, ⟨y3, y4, y5, y6⟩, l11⟩ := own_cells7 b11
          have HSH := Lib.hid (shaped_any ⟨cnf, nm, role, f⟩ _ _ _ _ _ _ ⟨hnms, hros, hfm11⟩ hfsz)
          unfold entV at HSH
          go_upto_region 16 with (go_at_call 77; refine (HSH.out).mono ?_; rintro e w12 ⟨rfl, hx12⟩)
          have g10 := g9.ext hx12
          have C10 := C9.trans (Chg.of_ext hx12)
          have HK0 := Lib.hid (fun u (hu : w.cell? ⟨rb, 0, none⟩ = some u) => (K9.ext hx12).cell 0 (by decide) u hu)
          have b12 := b11.ext hx12
          have hfm12 := Dat.Fs.ext hfm11 hx12
          clear HSH y0 y1 y2 y3 y4 y5 y6 b11 hfm11 g9 C9 K9 K8 K7 l11
          by_cases hse : shapedE cnf f = 0
          case neg =>
            have q : (shapedE cnf f != 0) = true := by rw [bne_iff_ne]; exact hse
            replace HL := Lib.hid (HL.out.trans (if_pos hse))
            clear hse
            go_wp2_with (go_at_call 76; refine (HST.out _ _ _ p (shapedE cnf f) hp g10).mono ?_; rintro e w13 ⟨⟨older, rfl, ho⟩, hx13⟩)
            exact ⟨rfl, EntPost.fault HL.out (C10.trans (Chg.of_ext hx13)) ⟨older, rfl, ho⟩ (by rw [HPT.out])⟩
          case pos =>
            have q : (shapedE cnf f != 0) = false := by rw [bne_eq_false_iff_eq]; exact hse
            replace HL := Lib.hid (HL.out.trans (if_neg (fun h => h hse)))
            clear hse
            have hrow := HOUT.out
            unfold EntRow at hrow
            obtain ⟨va, vc, hv, hvc⟩ := hrow.form
            rw [List.length_map] at hv hvc
            subst hv
            have g11 := g10
            obtain ⟨-, -, q3, qf3⟩ := g11
            have l10 := cell_lt q3
            simp only at l10
            by_cases hlong : 200 ≤ ahead + out.length
            case pos =>
              have hlong' : (200 : Int) ≤ (ahead : Int) + out.length := by omega
              replace HL := Lib.hid (HL.out.trans (if_pos hlong))
              clear hlong
              go_wp2_with (go_at_call 76; refine (HST.out _ _ _ p 3 hp g10).mono ?_; rintro e w13 ⟨⟨older, rfl, ho⟩, hx13⟩)
              exact ⟨rfl, EntPost.fault HL.out (C10.trans (Chg.of_ext hx13)) ⟨older, rfl, ho⟩ (by rw [HPT.out])⟩
            case neg =>
              have hlong' : ¬ (200 : Int) ≤ (ahead : Int) + out.length := by omega
              replace HL := Lib.hid (HL.out.trans (if_neg hlong))
              clear hlong
              obtain ⟨i0, hi0, hz0, hz1', hz2'⟩ := info_parts infoEnt
              have hrow12 := hrow.chg C10 (by simp; omega)
              have Hml := Lib.hid (show (out.map Ent.dat).length = out.length by rw [List.length_map])
              have HOW := Lib.hid (fun g (hg : (Value.slice va out.length vc).ownBlock = some g) => hrow.own_ge hg)
              have HFM := Lib.hid hfm12
              have HW12 := Lib.hid (show w.heap.size ≤ w5.heap.size ∧ w5.heap.size ≤ w12.heap.size from ⟨by omega, by have := hk10.chg.size; have := hk11.chg.size; have := hx12.size; omega⟩)
              have HSZ := Lib.hid (And.intro hnms hros)
              obtain ⟨⟨y0, y1, y2⟩, ⟨y3, y4, y5, y6⟩, l12⟩ := own_cells7 b12
              have G10 := Lib.hid g10
              have C10' := Lib.hid C10
              go_upto_region 20 with fail
              clear hfm12 hrow b12 g10 C10 hk1 hk2 hk3 hk4 hk5 hk10 hk11 hx12 HM HNM HK HR HST
              go_region_law (refine step_append_row rfl (.tmp 119) (.tmp 121) _ rfl 84 i0 _ 120 Try.underlying38 hi0 hz0 hz1' hz2' rfl (by decide) B (.slice va out.length vc) (out.map Ent.dat) (by rfl) w12 hrow12 ((Ext.drew (Below.refl _ _)).trans (ext_alloc _ _)) w12.heap.size (by rfl) _ _ (heap_alloc_new _ _) (Ent.dat ⟨cnf, nm, role, f⟩) ⟨rfl, Dat.Fs.mono (IsEnt.fs (x := ⟨cnf, nm, role, f⟩) ⟨HSZ.out.1, HSZ.out.2, Dat.Fs.ext HFM.out ((Ext.drew (Below.refl _ _)).trans (ext_alloc _ _))⟩) fun g hg _ => ⟨by have h1 := HW12.out; omega, fun e => by have h1 := (HOW.out g e).2; have h2 := HW12.out; omega⟩⟩ (by rw [Hml.out]; simp only [maxLen]; omega) (by rw [Hml.out]; omega) (by have := HW12.out; simp; omega) ?_; intro g cap w13 hrow13 hgrow13 hat13 hlt13; (have hfar : (some (⟨rb, 3, none⟩ : Addr).block) ≠ (Value.slice va out.length vc).ownBlock := fun e => by have := (HOW.out _ e.symm).1; simp only at this; omega); (have hq := (ext_alloc w12.drew (.cells #[.bool cnf, .string nm, .string role, .int .i64 f.op, .slice d1 f.vars.length e1, .slice d2 f.terms.length e2, .slice d3 f.args.length e3] 84)).cell ((Ext.drew (Below.refl _ w12)).cell q3)); (have hqf := (ext_alloc w12.drew (.cells #[.bool cnf, .string nm, .string role, .int .i64 f.op, .slice d1 f.vars.length e1, .slice d2 f.terms.length e2, .slice d3 f.args.length e3] 84)).frozen ((Ext.drew (Below.refl _ w12)).cell q3) ((Ext.drew (Below.refl _ w12)).frozen q3 qf3)); (have e5 := (hgrow13.cell_far ⟨rb, 3, none⟩ (cell_lt hq) hfar).trans hq); (have e6 := (hgrow13.frozen_far ⟨rb, 3, none⟩ (cell_lt hq) hfar).trans hqf))
              all_goals
                go_returns
                have hrow14 := hrow13
                rw [Hml.out] at hrow14
                have hfin := ent_done hrB HL.out HK0.out C10'.out G10.out hrow12 ((Ext.drew (Below.refl _ _)).trans (ext_alloc _ _)) hrow14 hgrow13 (hat13.imp (fun h => h.symm) fun h => congrArg some h)
                exact hfin
end Go.Proofs.Ytnclgkdpafhogaa
