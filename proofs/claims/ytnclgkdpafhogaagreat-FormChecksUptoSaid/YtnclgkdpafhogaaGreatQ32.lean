/- formula.Check. Condition: at most 1048576 parts.
formula.Text. Conditions: a formula of at most 4194304 parts.
formula.Read: a formula from tokens on. Condition: a row of at most 524288 tokens. -/
import Derived.Test.YtnclgkdpafhogaaGreatQ30
import Derived.Test.YtnclgkdpafhogaaGreatQ31
import Derived.Test.YtnclgkdpafhogaaGreatQ11
import Derived.Test.YtnclgkdpafhogaaGreatQ26
import Derived.Test.YtnclgkdpafhogaaGreatQ17
import Derived.Test.YtnclgkdpafhogaaGreatQ16
namespace Go.Proofs.YtnclgkdpafhogaaGreat
open Go.ChangeShapes Go.WideShapes Go.ChangeAt Go.RowKit
attribute [local go_sem] fw_round fw_depth fw_fn Oper.semAt_some
theorem parts_narrow (t : Fm) : t.narrow = t.parts.all fun p => narrowTs p.terms := by
  refine Fm.rec (motive_1 := fun t => t.narrow = t.parts.all fun p => narrowTs p.terms) (motive_2 := fun l => Fm.narrows l = (Fm.partsL l).all fun p => narrowTs p.terms) ?_ ?_ ?_ t
  · intro o v t l h; simp only [Fm.narrow, Fm.parts, List.all_cons, h, Fm.terms]
  · rfl
  · intro e l h1 h2; simp only [Fm.narrows, Fm.partsL, List.all_append, h1, h2]
theorem parts_size (t : Fm) : ∀ p ∈ t.parts, p.size ≤ t.size := by
  refine Fm.rec (motive_1 := fun t => ∀ p ∈ t.parts, p.size ≤ t.size) (motive_2 := fun l => ∀ p ∈ Fm.partsL l, p.size ≤ Fm.sizes l) ?_ ?_ ?_ t
  · intro o v t l h p hp
    simp only [Fm.parts, List.mem_cons] at hp
    rcases hp with rfl | hp
    · exact Nat.le_refl _
    · have := h p hp; simp only [Fm.size]; omega
  · intro p hp; cases hp
  · intro e l h1 h2 p hp
    simp only [Fm.partsL, List.mem_append] at hp
    rcases hp with hp | hp
    · have := h1 p hp; simp only [Fm.sizes]; omega
    · have := h2 p hp; simp only [Fm.sizes]; omega
/-- a function that held a range over a function returns -/
theorem leaves_mark' {n : Nat} {fn : Func} {R : Ending → World → Prop} {a : Act} {W : World} {D : Nat} {v : Value} (hd : a.defers = [{ target := .collected D, args := #[] }]) (hK : W.heap[D]? = some (.deferred (some [])))
    (hr : (results fn a.tmps).run Tryz.prog (W.putObj D (.deferred none)) = .ok v (W.putObj D (.deferred none))) (hR : R (.returned v) (W.putObj D (.deferred none))) : bodyPostM (Fw none) n Tryz.prog fn R .ret a W := by
  show LeavesInM _ _ _ _ _ _ a.defers .returning W
  rw [hd]
  exact ⟨by simp, .inl ⟨_, _, rfl, run_takeDeferred hK, ⟨v, hr, hR⟩⟩⟩
theorem cell_putObj' {W : World} {D : Nat} {o : Obj} {p : Addr} {v : Value} (h : W.cell? p = some v) (hD : p.block ≠ D) : (W.putObj D o).cell? p = some v := (chg_putObj W D o).cell h (by simpa using hD)
/-- between two rounds of Check's loop -/
structure FcJ (V : World) (R0 : Nat) (W : World) (pre : List Fm) (S : List Nat) : Prop where
  s : S = [R0]
  chg : Chg [R0] V W
  own : Own W R0 [.int .i64 0]
  ok : ∀ p ∈ pre, narrowTs p.terms = true
/-- behind a round that left -/
structure FcX (V : World) (R0 : Nat) (c : Code) (W : World) (pre : List Fm) (S : List Nat) : Prop where
  s : S = [R0]
  c : c = .ret
  chg : Chg [R0] V W
  own : Own W R0 [.int .i64 3]
  bad : ∃ p ∈ pre, narrowTs p.terms = false
theorem chg_past {S T : List Nat} {a b c : World} (h : Chg S a b) (k : Chg T b c) (hT : ∀ i ∈ T, a.heap.size ≤ i) : Chg S a c :=
  ⟨k.os.trans h.os, k.tape.trans h.tape, k.output.trans h.output, Nat.le_trans h.size k.size, fun i hi hs => (k.block i (Nat.lt_of_lt_of_le hi h.size) (fun hm => by have := hT i hm; omega)).trans (h.block i hi hs)⟩
theorem FcJ.mv {V : World} {R0 : Nat} {W W' : World} {pre : List Fm} {S T : List Nat} (h : FcJ V R0 W pre S) (hR : R0 < V.heap.size) (k : Chg T W W') (hT : ∀ i ∈ T, V.heap.size ≤ i) : FcJ V R0 W' pre S :=
  ⟨h.s, chg_past h.chg k hT, h.own.chg k (fun hm => by have := hT _ hm; omega), h.ok⟩
theorem FcX.mv {V : World} {R0 : Nat} {c : Code} {W W' : World} {pre : List Fm} {S T : List Nat} (h : FcX V R0 c W pre S) (hR : R0 < V.heap.size) (k : Chg T W W') (hT : ∀ i ∈ T, V.heap.size ≤ i) : FcX V R0 c W' pre S :=
  ⟨h.s, h.c, chg_past h.chg k hT, h.own.chg k (fun hm => by have := hT _ hm; omega), h.bad⟩
set_option maxHeartbeats 4000000 in
set_option maxRecDepth 100000 in
theorem check_any (t : Fm) (P : Nat → Prop) (w : World) (x y z u : Value) (ht : IsFm P w x y z u t) (hs : t.size ≤ 1048576) :
    Calls Tryz.prog 21 #[.agg #[x, y, z, u]] w fun e w' => e = .returned (.int .i64 t.check) ∧ Ext w w' := by
  have H1 := Lib.hid (fun w' (hx : Ext w w') => fsize_any t P w' x y z u (ht.ext hx) (by omega))
  have H2 := Lib.hid (fun w' (hx : Ext w w') => fdepth_any t P w' x y z u (ht.ext hx) (by omega))
  have H3 := Lib.hid (fun w' (hx : Ext w w') => parts_any t P w' x y z u (ht.ext hx) (by omega))
  have H4 := Lib.hid (fun w' (hx : Ext w w') => may_any t (by omega) P w' x y z u (ht.ext hx))
  obtain ⟨b1, c1, b2, c2, b3, c3, rfl, rfl, rfl, rfl⟩ := fm_vals' ht
  clear ht
  obtain ⟨W, hW⟩ : ∃ W, W = (w.alloc (.cells #[.int .i64 t.op, .slice b1 t.vars.length c1, .slice b2 t.terms.length c2, .slice b3 t.args.length c3] 29)).alloc (.cells #[.int .i64 0] 30) := ⟨_, rfl⟩
  have hx : Ext w W := by rw [hW]; exact (ext_alloc _ _).alloc _
  have hfb : Own W w.heap.size [.int .i64 t.op, .slice b1 t.vars.length c1, .slice b2 t.terms.length c2, .slice b3 t.args.length c3] := by rw [hW]; exact (own4 w _ _ _ _ _).ext (ext_alloc _ _)
  have hrb : Own W (w.heap.size + 1) [.int .i64 0] := by
    rw [hW]; have := own1 (w.alloc (.cells #[.int .i64 t.op, .slice b1 t.vars.length c1, .slice b2 t.terms.length c2, .slice b3 t.args.length c3] 29)) (.int .i64 0) 30
    rw [World.size_alloc] at this; exact this
  have hle := hrb.lt
  obtain ⟨⟨k0, -⟩, ⟨k1, -⟩, ⟨k2, -⟩, ⟨k3, -⟩⟩ := hfb.cells4
  obtain ⟨r0, f0⟩ := hrb 0 _ rfl
  by_cases h1 : 300 < t.size
  · have q1 : decide ((300 : Int) < (t.size : Nat)) = true := decide_eq_true (by omega)
    have HR := Lib.hid (show t.check = 3 by unfold Fm.check; rw [if_pos (.inl h1)])
    clear h1
    go_enter Tryz.func21, Tryz.ntmps21
    go_wp2_with (rw [← hW]; clear hW; go_at_call 24; refine (H1.out _ hx).mono ?_; rintro e w1 ⟨rfl, hx1⟩; have hn1 := hrb.ext hx1; have hnl := hn1.lt; (obtain ⟨n0, g0⟩ := hn1 0 _ rfl))
    have c1 := World.cell?_setCell_same (a := (⟨w.heap.size + 1, 0, none⟩ : Addr)) (w := w1) (v := .int .i64 3) n0
    refine bodyPost_ret (v := .int .i64 3) (by simp [results, Tryz.results21, go_sem, c1]) rfl ?_
    exact ⟨ret_int (by rw [HR.out]), Chg.ext (hx.trans hx1) ((Chg.refl [w.heap.size + 1] w1).setCell (p := ⟨w.heap.size + 1, 0, none⟩) _ (.inl (by simp))) (by simp)⟩
  have q1 : decide ((300 : Int) < (t.size : Nat)) = false := decide_eq_false (by omega)
  by_cases h2 : 30 < t.depth
  · have q2 : decide ((30 : Int) < (t.depth : Nat)) = true := decide_eq_true (by omega)
    have HR := Lib.hid (show t.check = 3 by unfold Fm.check; rw [if_pos (.inr (.inl h2))])
    clear h1 h2
    go_enter Tryz.func21, Tryz.ntmps21
    go_wp2_with (first | (rw [← hW]; clear hW; go_at_call 24; refine (H1.out _ hx).mono ?_; rintro e w1 ⟨rfl, hx1⟩; replace k0 := hx1.cell k0; replace k1 := hx1.cell k1; replace k2 := hx1.cell k2; replace k3 := hx1.cell k3) | (go_at_call 50; refine (H2.out _ (hx.trans hx1)).mono ?_; rintro e w2 ⟨rfl, hx2⟩; have hn1 := (hrb.ext hx1).ext hx2; have hnl := hn1.lt; (obtain ⟨n0, g0⟩ := hn1 0 _ rfl)))
    have c1 := World.cell?_setCell_same (a := (⟨w.heap.size + 1, 0, none⟩ : Addr)) (w := w2) (v := .int .i64 3) n0
    refine bodyPost_ret (v := .int .i64 3) (by simp [results, Tryz.results21, go_sem, c1]) rfl ?_
    exact ⟨ret_int (by rw [HR.out]), Chg.ext ((hx.trans hx1).trans hx2) ((Chg.refl [w.heap.size + 1] w2).setCell (p := ⟨w.heap.size + 1, 0, none⟩) _ (.inl (by simp))) (by simp)⟩
  have q2 : decide ((30 : Int) < (t.depth : Nat)) = false := decide_eq_false (by omega)
  have HS := Lib.hid h1
  have HD := Lib.hid h2
  clear h1 h2
  have hW3 : w.heap.size + 2 ≤ W.heap.size := by omega
  obtain ⟨R0, hR0⟩ : ∃ R0, R0 = w.heap.size + 1 := ⟨_, rfl⟩
  refine callsFw.1 (callsIn_of_wp_marks (n := 0) Tryz.func21 rfl trivial (wpIn_wide.2 ?_))
  simp only [Tryz.ntmps21, List.size_toArray, List.length_cons, List.length_nil, Nat.reduceAdd, Nat.reduceSub, Array.replicate_succ, Array.replicate_zero, List.push_toArray, List.append_toArray, List.nil_append, List.cons_append]
  go_wp2_with (first
    | (rw [← hW]; clear hW; go_at_call 24; refine (H1.out _ hx).mono ?_; rintro e w1 ⟨rfl, hx1⟩; replace k0 := hx1.cell k0; replace k1 := hx1.cell k1; replace k2 := hx1.cell k2; replace k3 := hx1.cell k3)
    | (go_at_call 50; refine (H2.out _ (hx.trans hx1)).mono ?_; rintro e w2 ⟨rfl, hx2⟩; replace k0 := hx2.cell k0; replace k1 := hx2.cell k1; replace k2 := hx2.cell k2; replace k3 := hx2.cell k3)
    | (go_at_call 51; refine (H3.out _ ((hx.trans hx1).trans hx2)).mono ?_; rintro e w3 ⟨⟨bo, x', y', z', u', rfl, hbo, hbol, hat⟩, hx3⟩))
  rw [← hR0]
  have hxv := ((hx.trans hx1).trans hx2).trans hx3
  have hrb3 := ((hrb.ext hx1).ext hx2).ext hx3
  have hfb3 := ((hfb.ext hx1).ext hx2).ext hx3
  rw [← hR0] at hrb3
  have hR2 : w.heap.size + 2 ≤ w2.heap.size := by have := hx1.size; have := hx2.size; omega
  have hR3 := hx3.size
  have HR0 := Lib.hid hR0
  have hRl : R0 < w3.heap.size := hrb3.lt
  have hRlw : R0 < w2.heap.size := by omega
  have hRf : w.heap.size ≠ R0 := by omega
  have hRw : w.heap.size ≤ R0 := by omega
  clear hR0 k0 k1 k2 k3 r0 f0 hrb hfb hx1 hx2 hx3 hx H1 H2 H3
  refine (wpIn_wide (n := 0)).1 ?_
  refine wpIn_rangeFunc_run (n := 0) (gf := 96) (lb := #[.pointer (some ⟨bo, 0, none⟩)]) (by rfl) (fun _ _ => rfl) (parts1_ok t hs bo) (fun x args w h => by obtain ⟨_, _, _, _, rfl, -⟩ := h; rfl)
    [R0] (FcJ w3 R0) (FcX w3 R0) ?hD ?hS0 ?h0 ?hJ ?hJx ?hJe ?hJxe ?body ?done ?stop
  case hD =>
    intro w' hw'
    have hbl := hbo.lt
    obtain ⟨⟨o0, -⟩, ⟨o1, -⟩, ⟨o2, -⟩, ⟨o3, -⟩⟩ := (hbo.ext hw').cells4
    refine ⟨by simp; omega, _, _, _, _, o0, o1, o2, o3, ?_⟩
    exact (Dat.Fs.mono hat fun g hg hlt => (show Av (w3.heap.size :: (w3.heap.size + 1) :: [R0]) w' g from ⟨by simp; omega, by have := hw'.size; omega⟩)).ext hw'
  case hS0 => intro b hb; simp at hb; omega
  case h0 => exact ⟨rfl, Chg.refl _ _, hrb3, by simp⟩
  case hJ => exact fun w1 w2 s S _ h k => h.mv hRl k (by simp)
  case hJx => exact fun c w1 w2 s S _ h k => h.mv hRl k (by simp)
  case hJe => exact fun w1 w2 s S h k => h.mv hRl (Chg.of_ext (S := []) k) (by simp)
  case hJxe => exact fun c w1 w2 s S h k => h.mv hRl (Chg.of_ext (S := []) k) (by simp)
  case done =>
    intro V S hm hj hK
    have hnar : t.narrow = true := by rw [parts_narrow, List.all_eq_true]; exact hj.ok
    have HR := Lib.hid (show t.check = if t.may then 0 else 2 by unfold Fm.check; rw [if_neg (by rintro (h | h | h); exact HS.out h; exact HD.out h; rw [hnar] at h; cases h)])
    clear hnar
    obtain ⟨-, hchg, hown, -⟩ := hj
    have hxV : Ext w V := Chg.ext hxv hchg (by simp; omega)
    have H5 := Lib.hid (H4.out V hxV)
    have hf5 := hfb3.chg hchg (by simpa using hRf)
    have hVs := hchg.size
    have hfl := hf5.lt
    obtain ⟨⟨k0, -⟩, ⟨k1, -⟩, ⟨k2, -⟩, ⟨k3, -⟩⟩ := hf5.cells4
    have hDl : w3.heap.size < V.heap.size := (Array.getElem?_eq_some_iff.1 hK).1
    have fin : ∀ (n : Int) (w5 : World), Ext V w5 → t.check = n → (w5.setCell ⟨R0, 0, none⟩ (.int .i64 n)).heap[w3.heap.size]? = some (.deferred (some [])) ∧ ((w5.setCell ⟨R0, 0, none⟩ (.int .i64 n)).putObj w3.heap.size (.deferred none)).cell? ⟨R0, 0, none⟩ = some (.int .i64 n) ∧
        Ext w ((w5.setCell ⟨R0, 0, none⟩ (.int .i64 n)).putObj w3.heap.size (.deferred none)) := fun n w5 hx5 hn => by
      have hK2 : (w5.setCell ⟨R0, 0, none⟩ (.int .i64 n)).heap[w3.heap.size]? = some (.deferred (some [])) := (Below.heap_setCell _ _ _ _ (by simp; omega)).trans ((hx5.block _ hDl).trans hK)
      obtain ⟨n0, -⟩ := (hown.ext hx5) 0 _ rfl
      refine ⟨hK2, cell_putObj' (World.cell?_setCell_same (a := (⟨R0, 0, none⟩ : Addr)) (w := w5) (v := .int .i64 n) n0) (by simp; omega), ?_⟩
      have hch : Chg [R0, w3.heap.size] w3 ((w5.setCell ⟨R0, 0, none⟩ (.int .i64 n)).putObj w3.heap.size (.deferred none)) :=
        (((hchg.mono (by simp)).trans (Chg.of_ext hx5)).setCell (p := ⟨R0, 0, none⟩) _ (.inl (by simp))).trans ((chg_putObj _ _ _).mono (by simp))
      exact Chg.ext hxv hch (by simp; omega)
    cases hmy : t.may with
    | true =>
      rw [hmy] at H5 HR
      go_wp2_with (go_at_call 53; refine (H5.out).mono ?_; rintro e w5 ⟨rfl, hx5⟩; have hn5 := hown.ext hx5; have hnl5 := hn5.lt; (obtain ⟨n0, g0⟩ := hn5 0 _ rfl))
      obtain ⟨f1, f2, f3⟩ := fin 0 w5 hx5 HR.out
      exact leaves_mark' (v := .int .i64 0) rfl f1 (by simp [results, Tryz.results21, go_sem, f2]) ⟨ret_int (by rw [HR.out]; rfl), f3⟩
    | false =>
      rw [hmy] at H5 HR
      go_wp2_with (go_at_call 53; refine (H5.out).mono ?_; rintro e w5 ⟨rfl, hx5⟩; have hn5 := hown.ext hx5; have hnl5 := hn5.lt; (obtain ⟨n0, g0⟩ := hn5 0 _ rfl))
      obtain ⟨f1, f2, f3⟩ := fin 2 w5 hx5 HR.out
      exact leaves_mark' (v := .int .i64 2) rfl f1 (by simp [results, Tryz.results21, go_sem, f2]) ⟨ret_int (by rw [HR.out]; rfl), f3⟩
  case stop =>
    intro c q V S hq hm hj hK
    obtain ⟨-, rfl, hchg, hown, p, hp, hpb⟩ := hj
    have hnar : t.narrow = false := by rw [parts_narrow, List.all_eq_false]; exact ⟨p, hq.subset hp, by simp [hpb]⟩
    have HR := Lib.hid (show t.check = 3 by unfold Fm.check; rw [if_pos (.inr (.inr hnar))])
    clear hnar
    gi_wp2
    obtain ⟨n0, -⟩ := hown 0 _ rfl
    have c1 := cell_putObj' (D := w3.heap.size) (o := .deferred none) n0 (by simp; omega)
    refine leaves_mark' (v := .int .i64 3) rfl hK (by simp [results, Tryz.results21, go_sem, c1]) ⟨ret_int (by rw [HR.out]), ?_⟩
    have hch : Chg [R0, w3.heap.size] w3 (V.putObj w3.heap.size (.deferred none)) := (hchg.mono (by simp)).trans ((chg_putObj _ _ _).mono (by simp))
    exact Chg.ext hxv hch (by simp; omega)
  case body =>
    intro pre q rest hitems args V S m hG hj hSne hVl
    obtain ⟨qx, qy, qz, qu, rfl, hq⟩ := hG
    have hqs : q.size ≤ 1048576 := by have := parts_size t q (by rw [hitems]; simp); omega
    obtain ⟨d1, e1, d2, e2, d3, e3, rfl, rfl, rfl, rfl, -, -, -, -, -, -, hqt, -⟩ := hq.form
    obtain ⟨hjs, hchg, hown, hok⟩ := hj
    subst hjs
    have hts : Ex.sizes q.terms ≤ 1048576 := by cases q; simp only [Fm.size] at hqs; simp only [Fm.terms]; omega
    have htl := Ex.length_le_sizes q.terms
    clear hitems hq
    gi_wp2
    obtain ⟨V1, hV1⟩ : ∃ V1, V1 = V.alloc (.cells #[.int .i64 q.op, .slice d1 q.vars.length e1, .slice d2 q.terms.length e2, .slice d3 q.args.length e3] 29) := ⟨_, rfl⟩
    have hA1 : Ext V V1 := by rw [hV1]; exact ext_alloc _ _
    have hp1 : Own V1 V.heap.size [.int .i64 q.op, .slice d1 q.vars.length e1, .slice d2 q.terms.length e2, .slice d3 q.args.length e3] := by rw [hV1]; exact own4 V _ _ _ _ _
    rw [← hV1]
    clear hV1
    intro V2 hc2 hcell2
    refine ⟨Mv.of_ext hA1, ?_⟩
    have hK2 : ∀ p v, V.cell? p = some v → V2.cell? p = some v := fun p v hv => hcell2 p v (hA1.cell hv)
    have hqt2 : IsExs (fun _ => True) V2 d2 q.terms := Dat.Rows.of_cells (fun _ h _ => h) (fun p v _ hv => hK2 p v hv) hqt
    have z2 := hcell2 _ _ (hp1 2 _ rfl).1
    have hR1 : R0 ≠ w3.heap.size + 1 := by omega
    have hown2 : Own V2 R0 [.int .i64 0] := (hown.ext hA1).chg hc2 (by simpa using hR1)
    have hchg2 : Chg [R0] w3 V2 := chg_past (hchg.trans (Chg.of_ext hA1)) hc2 (by simp)
    have HO := Lib.hid (And.intro hqt2 (And.intro hown2 hchg2))
    clear hcell2 hK2 hqt hqt2 hown hown2 hchg hchg2 hp1
    have hVb : V.heap.size < V2.heap.size := cell_lt z2
    gi_wp2
    gi_loopw [21] (fun i wr => ∃ k : Nat, k ≤ q.terms.length ∧ i = .int .i64 k ∧ Ext V2 wr ∧ narrowTs (q.terms.take k) = true) (fun i _ => q.terms.length - (intOf i).toNat)
    case atStart => exact ⟨0, Nat.zero_le _, rfl, Below.refl _ _, rfl⟩
    case round =>
      obtain ⟨k, hkk, rfl, hxr, hnk⟩ := hrel
      have HNK := Lib.hid hnk
      clear hnk z2
      by_cases hlt : k < q.terms.length
      · have hk1 : (k : Int) < q.terms.length := by omega
        obtain ⟨b', o', a', c', rfl, -, g1, g2, g3, hi⟩ := (IsExs.ext HO.out.1 hxr).look hlt
        have hsz8 := Ex.size_le_sizes hlt
        have hwl := cell_lt g1
        have HX := Lib.hid (fun w' (hx : Ext wr w') => expr_any q.terms[k] _ w' _ _ _ (hi.ext hx) (by omega))
        clear hi
        have hdl : (q.terms[k].depth : Int) ≤ 1048576 := by have := q.terms[k].depth_le_size; omega
        have hwl2 : (q.terms[k].wide : Int) ≤ 1048576 := by have := q.terms[k].wide_le_size; omega
        gi_wp2
        refine callsFw.2 ((HX.out _ (ext_alloc _ _)).mono ?_)
        rintro e w6 ⟨rfl, hx6⟩
        have hx7 := (hxr.trans (ext_alloc wr (.cells #[.bool q.terms[k].var, .string q.terms[k].name, .slice a' q.terms[k].args.length c'] 73))).trans hx6
        have hx8 := hx7.trans (ext_alloc w6 (.cells #[.int .i64 q.terms[k].size, .int .i64 q.terms[k].depth, .int .i64 q.terms[k].wide] 93))
        have hn8 := HO.out.2.1.ext hx8
        have hn7 := HO.out.2.1.ext hx7
        have hnl7 := hn7.lt
        obtain ⟨n0, g0⟩ := hn7 0 _ rfl
        clear hx6 HX g1 g2 g3
        by_cases hd : 30 < q.terms[k].depth
        · have q1 : decide ((30 : Int) < (q.terms[k].depth : Nat)) = true := decide_eq_true (by omega)
          have hbad : narrowTs q.terms = false := narrowTs_bad hlt (fun h => by omega)
          have HF := Lib.hid (show FcX w3 R0 .ret ((w6.setCell ⟨R0, 0, none⟩ (.int .i64 3)).alloc (.cells #[.int .i64 q.terms[k].size, .int .i64 q.terms[k].depth, .int .i64 q.terms[k].wide] 93)) (pre ++ [q]) [R0] from ⟨rfl, rfl, ((HO.out.2.2.trans (Chg.of_ext hx7)).setCell (p := ⟨R0, 0, none⟩) _ (.inl (by simp))).alloc _, (hn7.set (i := 0) (by simp) _).ext (ext_alloc _ _), ⟨q, by simp, hbad⟩⟩)
          have HM := Lib.hid (show Mv [R0] V2 [R0] ((w6.setCell ⟨R0, 0, none⟩ (.int .i64 3)).alloc (.cells #[.int .i64 q.terms[k].size, .int .i64 q.terms[k].depth, .int .i64 q.terms[k].wide] 93)) from Mv.of_chg (((Chg.of_ext hx7).setCell (p := ⟨R0, 0, none⟩) _ (.inl (by simp))).alloc _))
          clear hbad
          gi_wp2
          exact ⟨[R0], HM.out, HF.out⟩
        · have q1 : decide ((30 : Int) < (q.terms[k].depth : Nat)) = false := decide_eq_false (by omega)
          by_cases hwd : 6 < q.terms[k].wide
          · have q2 : decide ((6 : Int) < (q.terms[k].wide : Nat)) = true := decide_eq_true (by omega)
            have hbad : narrowTs q.terms = false := narrowTs_bad hlt (fun h => by omega)
            have HF := Lib.hid (show FcX w3 R0 .ret ((w6.setCell ⟨R0, 0, none⟩ (.int .i64 3)).alloc (.cells #[.int .i64 q.terms[k].size, .int .i64 q.terms[k].depth, .int .i64 q.terms[k].wide] 93)) (pre ++ [q]) [R0] from ⟨rfl, rfl, ((HO.out.2.2.trans (Chg.of_ext hx7)).setCell (p := ⟨R0, 0, none⟩) _ (.inl (by simp))).alloc _, (hn7.set (i := 0) (by simp) _).ext (ext_alloc _ _), ⟨q, by simp, hbad⟩⟩)
            have HM := Lib.hid (show Mv [R0] V2 [R0] ((w6.setCell ⟨R0, 0, none⟩ (.int .i64 3)).alloc (.cells #[.int .i64 q.terms[k].size, .int .i64 q.terms[k].depth, .int .i64 q.terms[k].wide] 93)) from Mv.of_chg (((Chg.of_ext hx7).setCell (p := ⟨R0, 0, none⟩) _ (.inl (by simp))).alloc _))
            clear hbad
            gi_wp2
            exact ⟨[R0], HM.out, HF.out⟩
          · have q2 : decide ((6 : Int) < (q.terms[k].wide : Nat)) = false := decide_eq_false (by omega)
            have hnk2 : narrowTs (q.terms.take (k + 1)) = true := by rw [narrowTs_step hlt, HNK.out, decide_eq_true (by omega : q.terms[k].depth ≤ 30), decide_eq_true (by omega : q.terms[k].wide ≤ 6)]; rfl
            have HN2 := Lib.hid hnk2
            clear hnk2 hd hwd
            gi_wp2
            go_roundw
            case rel => exact ⟨k + 1, by omega, by go_num, hx8, HN2.out⟩
            case measure => simp [intOf]; omega
      · have hk1 : ¬ (k : Int) < q.terms.length := by omega
        have hke : k = q.terms.length := by omega
        have hnq : narrowTs q.terms = true := by have := HNK.out; rwa [hke, List.take_length] at this
        have HF := Lib.hid (show FcJ w3 R0 wr (pre ++ [q]) [R0] from ⟨rfl, HO.out.2.2.trans (Chg.of_ext hxr), HO.out.2.1.ext hxr, fun p hp => by
          rcases List.mem_append.1 hp with h | h
          · exact hok p h
          · simp at h; subst h; exact hnq⟩)
        clear hke hnq
        gi_wp2
        exact ⟨[R0], Mv.of_ext hxr, HF.out⟩
end Go.Proofs.YtnclgkdpafhogaaGreat
namespace Go.Proofs.YtnclgkdpafhogaaGreat
open Go.ChangeShapes Go.WideShapes Go.ChangeAt Go.RowKit
theorem wForm_any (f : Fm) : FormW f := by
  induction f using Fm.ind with
  | h o v t l ih =>
    intro hm hs P w0 w b acc x y z u ht hx0 hb0 hbw hbld hlen
    simp only [Fm.may, Bool.and_eq_true] at hm
    obtain ⟨hm, hms⟩ := hm
    rw [Fm.mays_all, List.all_eq_true] at hms
    simp only [Fm.size] at hs
    obtain ⟨hv, htm, ht3, hc⟩ := topMay_inv hm
    rcases hc with ⟨ho, rfl, rfl, hn⟩ | ⟨rfl, rfl, h1, hn⟩ | ⟨rfl, rfl, h1, hn⟩ | ⟨rfl, rfl, rfl, hn⟩ | ⟨ho, rfl, rfl, hn⟩ | ⟨ho, rfl, rfl, hn⟩ | ⟨ho, h1, rfl, hn⟩
    · rcases ho with rfl | rfl
      · exact wForm_op1 ht hx0 hb0 hbw hbld hlen
      · exact wForm_op2 ht hx0 hb0 hbw hbld hlen
    · exact wForm_op3 ht hx0 hb0 hbw hbld hlen h1 htm (by omega)
    · exact wForm_op4 ht hx0 hb0 hbw hbld hlen h1 htm (by omega)
    · by_cases h4 : l.head?.map Fm.op = some 4
      · match l, hn with
        | [g], _ =>
        have hgm := hms g (by simp)
        obtain ⟨og, vg, tg, lg⟩ := g
        simp only [List.head?_cons, Option.map_some, Option.some.injEq, Fm.op] at h4
        subst h4
        simp only [Fm.may, Bool.and_eq_true] at hgm
        obtain ⟨-, ht', -, hc'⟩ := topMay_inv hgm.1
        exact wForm_noteq ht hx0 hb0 hbw hbld hlen rfl (by omega) ht' (by simp only [Fm.sizes, Fm.size] at hs; omega)
      · exact wForm_not ht hx0 hb0 hbw hbld hlen hn ih hms (by omega) h4
    · rcases ho with rfl | rfl
      · exact wForm_op6 ht hx0 hb0 hbw hbld hlen ih hms (by omega)
      · exact wForm_op7 ht hx0 hb0 hbw hbld hlen ih hms (by omega)
    · rcases ho with rfl | rfl | rfl
      · exact wForm_op8 ht hx0 hb0 hbw hbld hlen ih hms (by omega)
      · exact wForm_op9 ht hx0 hb0 hbw hbld hlen ih hms (by omega)
      · exact wForm_op10 ht hx0 hb0 hbw hbld hlen ih hms (by omega)
    · rcases ho with rfl | rfl
      · exact wForm_op11 ht hx0 hb0 hbw hbld hlen hn (by omega) (by omega) ih hms (by omega)
      · exact wForm_op12 ht hx0 hb0 hbw hbld hlen hn (by omega) (by omega) ih hms (by omega)

theorem bldT_new (T : TypeId) (w : World) (b : Nat) (h : w.heap[b]? = some (.cells #[.pointer none, .slice none 0 0] T (0, 0))) : BldT T b [] w :=
  .inl ⟨Nat.le_refl _, _, h, ⟨rfl, .inl ⟨rfl, rfl⟩⟩, by simp [Value.ownBlock]⟩
theorem Ex.text_ne {x : Ex} (h : x.may = true) : x.text ≠ [] := by
  obtain ⟨v, n, l⟩ := x
  have key : (if v then n.data.toList else (quoteS n).1.data.toList) ≠ [] := by
    cases v with
    | true =>
      simp only [Ex.may, if_true, Bool.and_eq_true] at h
      have h2 := h.2; unfold upperS at h2; rw [Bool.and_eq_true] at h2
      have := (named_pos h2.1).1
      simp only [if_true]
      intro he
      have e : n.data.toList.length = n.size := by simp
      rw [he] at e; simp at e; omega
    | false =>
      simp only [Ex.may, Bool.false_eq_true, if_false, Bool.and_eq_true] at h
      have := (named_pos h.1).1
      simp only [Bool.false_eq_true, if_false]
      unfold quoteS
      rw [if_pos h.1]
      split
      · intro he
        have e : n.data.toList.length = n.size := by simp
        simp only at he
        rw [he] at e; simp at e; omega
      · intro he
        have := congrArg List.length he
        simp at this
  simp only [Ex.text]
  intro he
  exact key (List.append_eq_nil_iff.1 he).1
theorem Fm.text_ne (f : Fm) : f.may = true → f.text ≠ [] := by
  induction f using Fm.ind with
  | h o v t l ih =>
    intro h
    simp only [Fm.may, Bool.and_eq_true] at h
    obtain ⟨hm, hms⟩ := h
    rw [Fm.mays_all, List.all_eq_true] at hms
    obtain ⟨hv, htm, ht3, hc⟩ := topMay_inv hm
    have hsg : o = 11 ∨ o = 12 → signOf o ≠ [] := by rintro (rfl | rfl) <;> decide
    have hrow : ∀ sep, l ≠ [] → Fm.units true sep l ≠ [] := by
      intro sep hl
      match l, hl with
      | e :: l', _ =>
        intro he
        simp only [Fm.units, if_true, List.nil_append, List.append_eq_nil_iff] at he
        have h1 := he.1
        unfold unitW at h1
        split at h1
        · cases h1
        · exact ih e (by simp) (hms e (by simp)) h1
    rcases hc with ⟨ho, rfl, rfl, hn⟩ | ⟨rfl, rfl, h1, hn⟩ | ⟨rfl, rfl, h1, hn⟩ | ⟨rfl, rfl, rfl, hn⟩ | ⟨ho, rfl, rfl, hn⟩ | ⟨ho, rfl, rfl, hn⟩ | ⟨ho, h1, rfl, hn⟩
    · rcases ho with rfl | rfl
      · rw [Fm.text1.1]; decide
      · rw [Fm.text2.1]; decide
    · rw [Fm.text3.1]
      match t, h1 with
      | [e], _ => exact Ex.text_ne (htm e (by simp))
    · rw [Fm.text4.1]
      match t, h1 with
      | [e, e'], _ => simp [eqText, bEq]
    · rw [Fm.text5.1]
      split
      · rename_i h4
        match l, hn with
        | [g], _ =>
        obtain ⟨og, vg, tg, lg⟩ := g
        simp only [List.head?_cons, Option.map_some, Option.some.injEq, Fm.op] at h4
        subst h4
        have hgm := hms (.mk 4 vg tg lg) (by simp)
        simp only [Fm.may, Bool.and_eq_true] at hgm
        obtain ⟨-, ht', -, hc'⟩ := topMay_inv hgm.1
        have h2 : tg.length = 2 := by omega
        match tg, h2 with
        | [e, e'], _ => simp [eqText, bNe, Fm.terms]
      · simp [bNot]
    · rw [(Fm.text6 (by omega) (by omega)).1]
      exact hrow _ (fun h => by rw [h] at hn; simp at hn)
    · rw [(Fm.text6 (by omega) (by omega)).1]
      exact hrow _ (fun h => by rw [h] at hn; simp at hn)
    · rw [(Fm.text11 (by omega)).1]
      intro he
      exact hsg ho (List.append_eq_nil_iff.1 he).1

set_option maxHeartbeats 2000000 in
set_option maxRecDepth 100000 in
theorem fmText_any (f : Fm) (hs : f.size ≤ 1048576) (P : Nat → Prop) (w : World) (x y z u : Value) (ht : IsFm P w x y z u f) :
    Calls Tryz.prog 18 #[.agg #[x, y, z, u]] w fun e w' => e = .returned (.tuple #[.string (textS f).1, .int .i64 (textS f).2]) ∧ Ext w w' := by
  have HC := Lib.hid (fun w' (hx : Ext w w') => check_any f P w' x y z u (ht.ext hx) hs)
  have HX := Lib.hid (fun (hm : f.may = true) w0 (hx : Ext w w0) w' (hx0 : Ext w0 w') (hb : w0.heap.size < w'.heap.size) (hbl : BldT 84 w0.heap.size [] w') => wForm_any f hm (by omega) P w0 w' w0.heap.size [] x y z u (ht.ext hx) hx0 (Nat.le_refl _) hb hbl (by have := f.text_len hm; simp only [List.length_nil]; omega))
  have hmy := fun h => check_may (f := f) h
  have hne := fun (h : f.may = true) => Fm.text_ne f h
  obtain ⟨b1, c1, b2, c2, b3, c3, rfl, rfl, rfl, rfl⟩ := ht.cells
  clear ht
  obtain ⟨W, hW⟩ : ∃ W, W = w.alloc (.cells #[.int .i64 f.op, .slice b1 f.vars.length c1, .slice b2 f.terms.length c2, .slice b3 f.args.length c3] 29) := ⟨_, rfl⟩
  have hx : Ext w W := by rw [hW]; exact ext_alloc _ _
  have hb : Own W w.heap.size [.int .i64 f.op, .slice b1 f.vars.length c1, .slice b2 f.terms.length c2, .slice b3 f.args.length c3] := by rw [hW]; exact own4 w _ _ _ _ _
  obtain ⟨⟨k0, -⟩, ⟨k1, -⟩, ⟨k2, -⟩, ⟨k3, -⟩⟩ := hb.cells4
  have hbl := hb.lt
  have HE := Lib.hid (show textS f = if f.check ≠ 0 then (⟨#[]⟩, f.check) else (⟨f.text.toArray⟩, 0) from rfl)
  generalize f.check = ck at *
  by_cases h0 : ck = 0
  · subst h0
    replace HE := Lib.hid (HE.out.trans (if_neg (fun h => h rfl)))
    have HX2 := Lib.hid (HX.out (hmy rfl))
    have hne2 := Lib.hid (hne (hmy rfl))
    clear HX hmy hne
    go_enter Tryz.func18, Tryz.ntmps18
    go_wp2_with (first
      | (rw [← hW]; clear hW; go_at_call 21; refine (HC.out _ hx).mono ?_; rintro e w1 ⟨rfl, hx1⟩
         (have hxA := ext_alloc w1 (.cells #[.pointer none, .slice none 0 0] 84)); (have hobA := objNew w1 (.cells #[.pointer none, .slice none 0 0] 84))
         replace k0 := (hx1.trans hxA).cell k0; replace k1 := (hx1.trans hxA).cell k1; replace k2 := (hx1.trans hxA).cell k2; replace k3 := (hx1.trans hxA).cell k3)
      | (go_at_call 46; refine (HX2.out w1 (hx.trans hx1) _ hxA (heap_lt' hobA) (bldT_new _ _ _ hobA)).mono ?_; rintro e w2 ⟨rfl, hb2, hf2⟩; rw [List.nil_append] at hb2)
      | (go_at_call 47; refine (stringT_any _ _ _ hb2 hne2.out).mono ?_; rintro e w3 ⟨rfl, hb3, hf3⟩))
    go_ret2
    rw [HE.out]
    exact ⟨rfl, (hx.trans hx1).trans ((hf2.trans hf3).ext' hxA (Nat.le_refl _))⟩
  · replace HE := Lib.hid (HE.out.trans (if_pos h0))
    have hq1 : (ck != 0) = true := by rw [bne_iff_ne]; exact h0
    clear h0 HX hmy hne
    go_enter Tryz.func18, Tryz.ntmps18
    go_wp2_with (rw [← hW]; clear hW; go_at_call 21; refine (HC.out _ hx).mono ?_; rintro e w1 ⟨rfl, hx1⟩)
    go_ret2
    rw [HE.out]
    exact ⟨rfl, hx.trans hx1⟩
end Go.Proofs.YtnclgkdpafhogaaGreat
namespace Go.Proofs.YtnclgkdpafhogaaGreat
open Go.ChangeShapes Go.WideShapes Go.ChangeAt Go.RowKit
set_option maxHeartbeats 4000000 in
set_option maxRecDepth 100000 in
theorem read_any (l : List Tok) (hl : l.length ≤ 524288) {P : Nat → Prop} {w : World} {a : Option Addr} {c : Nat} (h : Dat.Rows P w a (l.map Tok.dat)) (hc : l.length ≤ c) (fr : Int) (hf1 : -9223372036854775808 ≤ fr) (hf2 : fr ≤ 9223372036854775807) :
    Calls Tryz.prog 12 #[.slice a l.length c, .int .i64 fr] w (ReadSays (readS l fr) w) := by
  obtain ⟨W, hW⟩ : ∃ W, W = (w.alloc (.cells #[.int .i64 0, .slice none 0 0, .slice none 0 0, .slice none 0 0] 29)).alloc (.cells #[.int .i64 0] 3) := ⟨_, rfl⟩
  have hx : Ext w W := by rw [hW]; exact (ext_alloc _ _).alloc _
  have hfb : Own W w.heap.size [.int .i64 0, .slice none 0 0, .slice none 0 0, .slice none 0 0] := by rw [hW]; exact (own4 w _ _ _ _ _).ext (ext_alloc _ _)
  have hnb : Own W (w.heap.size + 1) [.int .i64 0] := by
    rw [hW]; have := own1 (w.alloc (.cells #[.int .i64 0, .slice none 0 0, .slice none 0 0, .slice none 0 0] 29)) (.int .i64 0) 3
    rw [World.size_alloc] at this; exact this
  have hsW : W.heap.size = w.heap.size + 2 := by rw [hW]; simp
  have hnl := hnb.lt
  have hfl := hfb.lt
  obtain ⟨⟨n0, g0⟩, ⟨n1, g1⟩, ⟨n2, g2⟩, ⟨n3, g3⟩⟩ := hfb.cells4
  obtain ⟨m0, s0⟩ := hnb 0 _ rfl
  by_cases hfr : fr < 0 ∨ (l.length : Int) ≤ fr
  · have HE := Lib.hid (show readS l fr = (Fm.zero, 0, 230) by unfold readS; rw [if_pos hfr])
    clear h
    have hcase : decide (fr < 0) = true ∨ (decide (fr < 0) = false ∧ decide ((l.length : Int) ≤ fr) = true) := by
      by_cases h0 : fr < 0
      · exact .inl (decide_eq_true h0)
      · exact .inr ⟨decide_eq_false h0, decide_eq_true (by omega)⟩
    clear hfr hsW
    rcases hcase with q1 | ⟨q1, q2⟩
    all_goals
      go_enter Tryz.func12, Tryz.ntmps12
      go_upto_region 1 with fail
      rw [← hW]
      clear hW
      go_wp2
      have hch := chg_set4 W w.heap.size (.int .i64 0) (.slice none 0 0) (.slice none 0 0) (.slice none 0 0)
      have hm1 := hnb.chg hch (by simp)
      obtain ⟨m1, -⟩ := hm1 0 _ rfl
      have hch2 := (Chg.refl [w.heap.size + 1] ((((W.setCell ⟨w.heap.size, 0, none⟩ (.int .i64 0)).setCell ⟨w.heap.size, 1, none⟩ (.slice none 0 0)).setCell ⟨w.heap.size, 2, none⟩ (.slice none 0 0)).setCell ⟨w.heap.size, 3, none⟩ (.slice none 0 0))).setCell (p := ⟨w.heap.size + 1, 0, none⟩) (.int .i64 0) (.inl (by simp))
      have hn2 := (own_set4 hfb (.int .i64 0) (.slice none 0 0) (.slice none 0 0) (.slice none 0 0)).chg hch2 (by simp)
      have hm2 := hm1.set (i := 0) (by simp) (.int .i64 0)
      obtain ⟨r0, r1, r2, r3⟩ := own_res4 hn2
      obtain ⟨y0, -⟩ := hm2 0 _ rfl
      refine bodyPost_ret (v := .tuple #[.agg #[.int .i64 0, .slice none 0 0, .slice none 0 0, .slice none 0 0], .int .i64 0, .int .i64 230]) (by simp [results, Tryz.results12, go_sem, r0, r1, r2, r3, y0]) rfl ?_
      rw [HE.out]
      exact ReadSays.mk rfl ⟨_, _, _, _, rfl, fm_zero⟩ (Chg.ext hx ((hch.mono (T := [w.heap.size, w.heap.size + 1]) (by simp)).trans (hch2.mono (by simp))) (by simp))
  · have hfr1 : 0 ≤ fr := by omega
    have hfr2 : fr < (l.length : Int) := by omega
    have q1 : decide (fr < 0) = false := decide_eq_false (by omega)
    have q2 : decide ((l.length : Int) ≤ fr) = false := decide_eq_false (by omega)
    obtain ⟨k, hk⟩ : ∃ k : Nat, fr = k := ⟨fr.toNat, by omega⟩
    subst hk
    have hk1 : k < l.length := by omega
    have HE := Lib.hid (show readS l k = match rForm (l.drop k) with
      | .bad r => (Fm.zero, ((badAt l r : Nat) : Int), (230 : Int))
      | .ok f r => if f.check ≠ 0 then (Fm.zero, (k : Int), f.check) else (f, ((l.length - r.length : Nat) : Int), 0) by
        unfold readS; rw [if_neg hfr, Int.toNat_natCast]; rfl)
    clear hfr hfr1 hf1 hf2
    obtain ⟨W2, hW2⟩ : ∃ W2, W2 = (W.alloc (.cells #[.slice a l.length c, .int .i64 k] 63)).alloc (.cells #[.pointer (some ⟨w.heap.size + 2, 0, none⟩)] 61) := ⟨_, rfl⟩
    obtain ⟨W3, hW3⟩ : ∃ W3, W3 = W2.alloc (.cells #[.bool false] 4) := ⟨_, rfl⟩
    have hx2 : Ext W W3 := by rw [hW3, hW2]; exact ((ext_alloc _ _).alloc _).alloc _
    have hcb : Own W3 (w.heap.size + 2) [.slice a l.length c, .int .i64 k] := by
      rw [hW3, hW2]; have := ((own2 W (.slice a l.length c) (.int .i64 k) 63).ext (ext_alloc _ (.cells #[.pointer (some ⟨w.heap.size + 2, 0, none⟩)] 61))).ext (ext_alloc _ (.cells #[.bool false] 4))
      rw [hsW] at this; exact this
    have hpb : Own W3 (w.heap.size + 3) [.pointer (some ⟨w.heap.size + 2, 0, none⟩)] := by
      rw [hW3, hW2]; have := (own1 (W.alloc (.cells #[.slice a l.length c, .int .i64 k] 63)) (.pointer (some ⟨w.heap.size + 2, 0, none⟩)) 61).ext (ext_alloc _ (.cells #[.bool false] 4))
      rw [World.size_alloc, hsW] at this; exact this
    have hlb : Own W3 (w.heap.size + 4) [.bool false] := by
      rw [hW3]; have := own1 W2 (.bool false) 4
      rw [show W2.heap.size = w.heap.size + 4 by rw [hW2]; simp [hsW]] at this; exact this
    have hfb3 := hfb.ext hx2
    have hnb3 := hnb.ext hx2
    have hsuf : l.drop k <:+ l := drop_suf
    have hlen : (l.drop k).length = l.length - k := List.length_drop
    have hcur : Cur (w.heap.size + 2) l W3 (l.drop k) := ⟨hsuf, a, c, hcb.eq (by rw [hlen, show l.length - (l.length - k) = k by omega]), hc, Dat.Rows.ext (Dat.Rows.mono h fun g _ hlt => (show g < w.heap.size + 2 by omega)) (hx.trans hx2)⟩
    obtain ⟨p0, -⟩ := hpb 0 _ rfl
    have HF := Lib.hid (catch_any (by omega) (by omega) hcur hfb3 hnb3 hlb p0 (by omega) (by omega) (by omega) (by omega) (by have := hfb3.lt; omega))
    unfold CatchPost at HF
    have hxw3 := hx.trans hx2
    clear h hcur hcb hsW p0 n0 n1 n2 n3 g0 g1 g2 g3 m0 s0 hsuf hlen
    cases hr : rForm (l.drop k) with
    | bad r =>
      rw [hr] at HF HE
      clear hr
      go_enter Tryz.func12, Tryz.ntmps12
      go_upto_region 6 with (rw [← hW, ← hW2, ← hW3]; refine (HF.out).mono ?_; rintro e w4 ⟨rfl, hx4, hn4, hl4⟩)
      clear hW hW2 hW3
      have hf4 := hfb3.chg hx4 (by simp)
      have hnl4 := hn4.lt
      have hfl4 := hf4.lt
      obtain ⟨⟨n0, g0⟩, ⟨n1, g1⟩, ⟨n2, g2⟩, ⟨n3, g3⟩⟩ := hf4.cells4
      obtain ⟨m0, s0⟩ := hn4 0 _ rfl
      obtain ⟨t0, -⟩ := hl4 0 _ rfl
      go_upto_region 7 with fail
      go_cut [6] from 26 to 27 (fun x wx => x = .int .i64 230 ∧ Own wx w.heap.size [.int .i64 0, .slice none 0 0, .slice none 0 0, .slice none 0 0] ∧ Own wx (w.heap.size + 1) [.int .i64 (badAt l r : Nat)] ∧ Chg [w.heap.size, w.heap.size + 1] w4 wx)
      case first =>
        go_region_with fail
        all_goals
          go_wp2_with fail
          go_meet
          refine ⟨rfl, ?_, ?_, ?_⟩
          · exact ((own_set4 hf4 (.int .i64 0) (.slice none 0 0) (.slice none 0 0) (.slice none 0 0)).chg ((Chg.refl [w.heap.size + 1] _).setCell (p := ⟨w.heap.size + 1, 0, none⟩) _ (.inl (by simp))) (by simp)).ext (Ext.drew (Below.refl _ _))
          · exact ((hn4.chg (chg_set4 w4 w.heap.size (.int .i64 0) (.slice none 0 0) (.slice none 0 0) (.slice none 0 0)) (by simp)).set (i := 0) (by simp) _).ext (Ext.drew (Below.refl _ _))
          · exact (((chg_set4 w4 w.heap.size (.int .i64 0) (.slice none 0 0) (.slice none 0 0) (.slice none 0 0)).mono (T := [w.heap.size, w.heap.size + 1]) (by simp)).setCell (p := ⟨w.heap.size + 1, 0, none⟩) _ (.inl (by simp))).trans (Chg.of_ext (Ext.drew (Below.refl _ _)))
      case rest =>
        obtain ⟨rfl, h1, h2, h3⟩ := hcut
        obtain ⟨r0, r1, r2, r3⟩ := own_res4 h1
        obtain ⟨y0, -⟩ := h2 0 _ rfl
        go_wp2_with fail
        refine bodyPost_ret (v := .tuple #[.agg #[.int .i64 0, .slice none 0 0, .slice none 0 0, .slice none 0 0], .int .i64 (badAt l r : Nat), .int .i64 230]) (by simp [results, Tryz.results12, go_sem, r0, r1, r2, r3, y0]) rfl ?_
        rw [HE.out]
        exact ReadSays.mk rfl ⟨_, _, _, _, rfl, fm_zero⟩ (Chg.ext hxw3 ((hx4.mono (T := [w.heap.size, w.heap.size + 1, w.heap.size + 2, w.heap.size + 4]) (by simp)).trans (h3.mono (by simp))) (by simp))
    | ok f r =>
      have hfit := rForm_fits _ _ _ hr
      rw [List.length_drop] at hfit
      rw [hr] at HF
      replace HE := Lib.hid (show readS l k = if f.check ≠ 0 then (Fm.zero, (k : Int), f.check) else (f, ((l.length - r.length : Nat) : Int), 0) by rw [HE.out, hr])
      clear hr
      have hwW3 := hxw3.size
      go_enter Tryz.func12, Tryz.ntmps12
      go_upto_region 6 with (rw [← hW, ← hW2, ← hW3]; refine (HF.out).mono ?_; rintro e w4 ⟨rfl, hx4, ⟨x0, x1, x2, x3, hf4, hfm⟩, ca, cc, hc4⟩)
      clear hW hW2 hW3
      have hn4 := hnb3.chg hx4 (by simp)
      have hl4 := hlb.chg hx4 (by simp)
      have hp4 := hpb.chg hx4 (by simp)
      obtain ⟨b1, c1, b2, c2, b3, c3, rfl, rfl, rfl, rfl⟩ := fm_vals' hfm
      have hfm4 : IsFm (fun g => w.heap.size + 5 ≤ g) w4 _ _ _ _ f := Dat.Fs.mono hfm fun g hg _ => (show w.heap.size + 5 ≤ g by have := hlb.lt; omega)
      have hxw4 : Ext w w4 := Chg.ext hxw3 hx4 (by simp)
      have hnl4 := hn4.lt
      have hfl4 := hf4.lt
      obtain ⟨⟨n0, g0⟩, ⟨n1, g1⟩, ⟨n2, g2⟩, ⟨n3, g3⟩⟩ := hf4.cells4
      obtain ⟨m0, s0⟩ := hn4 0 _ rfl
      obtain ⟨t0, -⟩ := hl4 0 _ rfl
      have HCk := Lib.hid (check_any f _ w4 _ _ _ _ hfm4 (by omega))
      obtain ⟨ck, hck⟩ : ∃ ck, ck = f.check := ⟨_, rfl⟩
      rw [← hck] at HCk HE
      clear hck hfm hx4 hfb3 hnb3 hlb hpb hx2 hfb hnb hx
      by_cases h0 : ck = 0
      · subst h0
        have HE := Lib.hid (HE.out.trans (if_neg (fun h => h rfl)))
        go_upto_region 9 with (go_at_call 21; refine (HCk.out).mono ?_; rintro e w5 ⟨rfl, hx5⟩)
        have hn5 := hn4.ext hx5
        have hf5 := hf4.ext hx5
        have hc5 := hc4.ext hx5
        have hp5 := hp4.ext hx5
        have hfm5 := IsFm.ext hfm4 hx5
        have hxw5 := hxw4.trans hx5
        clear n0 n1 n2 n3 g0 g1 g2 g3 m0 s0 t0 hn4 hf4 hc4 hp4 hl4 hfm4 hxw4 hnl4 hfl4
        obtain ⟨⟨n0, g0⟩, ⟨n1, g1⟩, ⟨n2, g2⟩, ⟨n3, g3⟩⟩ := hf5.cells4
        obtain ⟨m0, s0⟩ := hn5 0 _ rfl
        obtain ⟨p0, -⟩ := hp5 0 _ rfl
        obtain ⟨z1, -⟩ := hc5 1 _ rfl
        have hnl4 := hn5.lt
        have hfl4 := hf5.lt
        go_upto_region 11 with fail
        go_cut [6] from 35 to 39 (fun x wx => x = .int .i64 0 ∧ Own wx w.heap.size [.int .i64 f.op, .slice b1 f.vars.length c1, .slice b2 f.terms.length c2, .slice b3 f.args.length c3] ∧ Own wx (w.heap.size + 1) [.int .i64 (l.length - r.length : Nat)] ∧ Chg [w.heap.size, w.heap.size + 1] w5 wx)
        case first =>
          go_region_with fail
          all_goals
            go_wp2_with fail
            go_meet
            refine ⟨rfl, ?_, ?_, ?_⟩
            · exact ((own_set4 hf5 (.int .i64 f.op) (.slice b1 f.vars.length c1) (.slice b2 f.terms.length c2) (.slice b3 f.args.length c3)).chg ((Chg.refl [w.heap.size + 1] _).setCell (p := ⟨w.heap.size + 1, 0, none⟩) _ (.inl (by simp))) (by simp)).ext (Ext.drew (Below.refl _ _))
            · exact ((hn5.chg (chg_set4 w5 w.heap.size (.int .i64 f.op) (.slice b1 f.vars.length c1) (.slice b2 f.terms.length c2) (.slice b3 f.args.length c3)) (by simp)).set (i := 0) (by simp) _).ext (Ext.drew (Below.refl _ _))
            · exact (((chg_set4 w5 w.heap.size (.int .i64 f.op) (.slice b1 f.vars.length c1) (.slice b2 f.terms.length c2) (.slice b3 f.args.length c3)).mono (T := [w.heap.size, w.heap.size + 1]) (by simp)).setCell (p := ⟨w.heap.size + 1, 0, none⟩) _ (.inl (by simp))).trans (Chg.of_ext (Ext.drew (Below.refl _ _)))
        case rest =>
          obtain ⟨rfl, h1, h2, h3⟩ := hcut
          obtain ⟨r0, r1, r2, r3⟩ := own_res4 h1
          obtain ⟨y0, -⟩ := h2 0 _ rfl
          go_wp2_with fail
          refine bodyPost_ret (v := .tuple #[.agg #[.int .i64 f.op, .slice b1 f.vars.length c1, .slice b2 f.terms.length c2, .slice b3 f.args.length c3], .int .i64 (l.length - r.length : Nat), .int .i64 0]) (by simp [results, Tryz.results12, go_sem, r0, r1, r2, r3, y0]) rfl ?_
          rw [HE.out]
          exact ReadSays.mk rfl ⟨_, _, _, _, rfl, Dat.Fs.mono (Dat.Fs.chg hfm5 h3 (fun g hg => by simp; omega)) fun g hg _ => by omega⟩ (Chg.ext hxw5 h3 (by simp))
      · have HE := Lib.hid (HE.out.trans (if_pos h0))
        have hq1 : (ck != 0) = true := by rw [bne_iff_ne]; exact h0
        clear h0
        go_wp2_with (go_at_call 21; refine (HCk.out).mono ?_; rintro e w5 ⟨rfl, hx5⟩; have hf5 := hf4.ext hx5; have hn5 := hn4.ext hx5; clear n0 n1 n2 n3 g0 g1 g2 g3 m0 s0; (obtain ⟨⟨n0, g0⟩, ⟨n1, g1⟩, ⟨n2, g2⟩, ⟨n3, g3⟩⟩ := hf5.cells4); (obtain ⟨m0, s0⟩ := hn5 0 _ rfl); have hnl5 := hn5.lt; have hfl5 := hf5.lt)
        have hch := chg_set4 w5 w.heap.size (.int .i64 0) (.slice none 0 0) (.slice none 0 0) (.slice none 0 0)
        have hm1 := hn5.chg hch (by simp)
        have hch2 := (Chg.refl [w.heap.size + 1] ((((w5.setCell ⟨w.heap.size, 0, none⟩ (.int .i64 0)).setCell ⟨w.heap.size, 1, none⟩ (.slice none 0 0)).setCell ⟨w.heap.size, 2, none⟩ (.slice none 0 0)).setCell ⟨w.heap.size, 3, none⟩ (.slice none 0 0))).setCell (p := ⟨w.heap.size + 1, 0, none⟩) (.int .i64 k) (.inl (by simp))
        have hn2 := (own_set4 hf5 (.int .i64 0) (.slice none 0 0) (.slice none 0 0) (.slice none 0 0)).chg hch2 (by simp)
        have hm2 := hm1.set (i := 0) (by simp) (.int .i64 k)
        obtain ⟨r0, r1, r2, r3⟩ := own_res4 hn2
        obtain ⟨y0, -⟩ := hm2 0 _ rfl
        refine bodyPost_ret (v := .tuple #[.agg #[.int .i64 0, .slice none 0 0, .slice none 0 0, .slice none 0 0], .int .i64 k, .int .i64 ck]) (by simp [results, Tryz.results12, go_sem, r0, r1, r2, r3, y0]) rfl ?_
        rw [HE.out]
        exact ReadSays.mk rfl ⟨_, _, _, _, rfl, fm_zero⟩ (Chg.ext (hxw4.trans hx5) ((hch.mono (T := [w.heap.size, w.heap.size + 1]) (by simp)).trans (hch2.mono (by simp))) (by simp))
end Go.Proofs.YtnclgkdpafhogaaGreat
