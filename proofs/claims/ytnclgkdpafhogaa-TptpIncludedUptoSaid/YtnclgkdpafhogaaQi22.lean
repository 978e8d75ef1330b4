/- The iterator that formula.Parts hands back: it hands out a formula and all within it, in order. Condition: at most 1048576 parts.
The program's Literals. Condition: at most 4194304 parts. -/
import Derived.Test.YtnclgkdpafhogaaQi21
import Derived.Test.YtnclgkdpafhogaaQi20
import Derived.Test.YtnclgkdpafhogaaQi17
import Derived.Laws.EntriesVeiled
import Derived.OwnWalkIn
import Derived.TacticsInMore
import Derived.LoopNIn
import Derived.LoopIn
namespace Go.Proofs.Ytnclgkdpafhogaa
open Go.ChangeShapes Go.WideShapes Go.ChangeAt Go.RowKit
theorem fw_round (ro : Option Nat) : (Fw ro).round = ro := rfl
theorem fw_depth (ro : Option Nat) : (Fw ro).depth = none := rfl
theorem fw_fn (ro : Option Nat) (f : FuncId) : (Fw ro).fn f = True := rfl
attribute [local go_sem] fw_round fw_depth fw_fn Oper.semAt_some
mutual
/-- a formula and all within it, in order -/
def Fm.parts : Fm → List Fm
  | .mk o v t l => .mk o v t l :: Fm.partsL l
def Fm.partsL : List Fm → List Fm
  | [] => []
  | e :: l => e.parts ++ Fm.partsL l
end
theorem partsL_split : ∀ (l : List Fm) (k : Nat), Fm.partsL l = Fm.partsL (l.take k) ++ Fm.partsL (l.drop k)
  | [], k => by simp [Fm.partsL]
  | e :: l, 0 => by simp [Fm.partsL]
  | e :: l, k + 1 => by simp only [List.take_succ_cons, List.drop_succ_cons, Fm.partsL]; rw [partsL_split l k, List.append_assoc]
theorem partsL_at {l : List Fm} {k : Nat} (h : k < l.length) : Fm.partsL l = Fm.partsL (l.take k) ++ (l[k].parts ++ Fm.partsL (l.drop (k + 1))) := by
  rw [partsL_split l k, List.drop_eq_getElem_cons h]; rfl
theorem partsL_upto {l : List Fm} {k : Nat} (h : k < l.length) : Fm.partsL (l.take (k + 1)) = Fm.partsL (l.take k) ++ l[k].parts := by
  have := partsL_at (l := l.take (k + 1)) (k := k) (by rw [List.length_take]; omega)
  rw [this, List.take_take, Nat.min_eq_left (by omega), List.getElem_take, List.drop_eq_nil_of_le (by rw [List.length_take]; omega)]
  simp [Fm.partsL]
theorem fs_mv {S S' : List Nat} {w w' : World} {vs : List Value} {ds : List Dat} (h : Dat.Fs (Av S w) w vs ds) (hm : Mv S w S' w') : Dat.Fs (Av S' w') w' vs ds :=
  h.of_cells (fun _ hb _ => hb.mv hm) fun _ _ hb hp => hm.cell hp hb.1
theorem wpIn_region_noPanic {F : Fence} {n id : Nat} {ops : Array Oper} {d : Bool} {Q : Exit → Act → World → Prop} {a : Act} {w : World} (h : (Code.region id ops d).wpIn F n Try.prog (NoPanic Q) a w) : (Code.region id ops d).wpIn F n Try.prog Q a w :=
  wpIn_mono h fun e a w hq => by cases e <;> first | exact hq | exact hq.elim
/-- what is handed out -/
def GivesF (q : Fm) (args : Array Value) (w : World) : Prop := ∃ x y z u, args = #[.agg #[x, y, z, u]] ∧ IsFm (fun _ => True) w x y z u q
def PostC {α : Type} (J : Bool → World → List α → List Nat → Prop) (S : List Nat) (w : World) (pre L : List α) (e : Ending) (w' : World) : Prop := ∃ b, e = .returned (.bool b) ∧ PostR J S w pre L b w'

theorem fm_vals' {P : Nat → Prop} {w : World} {a b c d : Value} {x : Fm} (h : IsFm P w a b c d x) : ∃ b1 c1 b2 c2 b3 c3, a = .int .i64 x.op ∧ b = .slice b1 x.vars.length c1 ∧ c = .slice b2 x.terms.length c2 ∧ d = .slice b3 x.args.length c3 := by
  obtain ⟨b1, c1, b2, c2, b3, c3, h1, h2, h3, h4, -⟩ := h.form; exact ⟨b1, c1, b2, c2, b3, c3, h1, h2, h3, h4⟩
section
variable {l : Nat} {J : Bool → World → List Fm → List Nat → Prop} {items : List Fm}
set_option maxHeartbeats 4000000 in
set_option maxRecDepth 100000 in
theorem partsDown_any (hJ : ∀ b w w' t S, J b w t S → Ext w w' → J b w' t S) (hR : Rounds l GivesF items J) (t : Fm) :
    ∀ (w : World) (pre rest : List Fm) (S : List Nat) (x y z u : Value) (yb db m : Nat), t.size ≤ 1048576 →
      IsFm (Av S w) w x y z u t → w.cell? ⟨yb, 0, none⟩ = some (.func (.yield l) #[] #[]) → yb ∉ S → w.cell? ⟨db, 0, none⟩ = some (.func (.func 44) #[] #[.pointer (some ⟨yb, 0, none⟩), .pointer (some ⟨db, 0, none⟩)]) → db ∉ S →
      items = pre ++ (t.parts ++ rest) → J true w pre S → (∀ b ∈ S, b < w.heap.size) →
      CallsIn (Fw none) m Try.prog 44 #[.agg #[x, y, z, u], .pointer (some ⟨yb, 0, none⟩), .pointer (some ⟨db, 0, none⟩)] w (PostC J S w pre t.parts) := by
  induction t using Fm.ind with
  | h op vs ts ks ih =>
    intro w pre rest S x y z u yb db m hsz ht hy hyS hd hdS hitems hj hS
    have ht0 := ht
    obtain ⟨va, vc, ta, tc, a, c, rfl, rfl, rfl, rfl, -, -, -, -, hc, -, -, hk⟩ := ht.form
    simp only [Fm.op, Fm.vars, Fm.terms, Fm.args] at hc hk ht0 ⊢
    have Hih := Lib.hid ih; clear ih
    obtain ⟨Lr, hLr⟩ : ∃ Lr, Lr = Fm.partsL ks := ⟨_, rfl⟩
    have hplaces : (Fm.mk op vs ts ks).parts = Fm.mk op vs ts ks :: Lr := by rw [hLr]; rfl
    rw [hplaces] at hitems ⊢
    obtain ⟨V, hV⟩ : ∃ V, V = Fm.mk op vs ts ks := ⟨_, rfl⟩
    rw [← hV] at hitems ⊢
    have HL := Lib.hid hLr
    have Hit := Lib.hid hitems
    have HV := Lib.hid hV
    clear hplaces hitems hLr hV
    obtain ⟨W, hW⟩ : ∃ W, W = w.alloc (.cells #[.int .i64 op, .slice va vs.length vc, .slice ta ts.length tc, .slice a ks.length c] 27) := ⟨_, rfl⟩
    have hx : Ext w W := by subst hW; go_grown
    have hsW : W.heap.size = w.heap.size + 1 := by subst hW; simp
    have hob : Own W w.heap.size [.int .i64 op, .slice va vs.length vc, .slice ta ts.length tc, .slice a ks.length c] := by rw [hW]; exact own4 w _ _ _ _ _
    obtain ⟨⟨k0, -⟩, ⟨k1, -⟩, ⟨k2, -⟩, ⟨k3, -⟩⟩ := hob.cells4
    have hyW := hx.cell hy
    have hdW := hx.cell hd
    refine callsIn_of_wp Try.func44 rfl trivial ?_ rfl
    simp only [Try.ntmps44, List.size_toArray, List.length_cons, List.length_nil, Nat.reduceAdd, Nat.reduceSub, Array.replicate_succ, Array.replicate_zero, List.push_toArray, List.append_toArray, List.nil_append, List.cons_append]
    gi_wp2
    rw [← hW]
    clear hW
    refine wpIn_region_noPanic ?_
    refine wpIn_region_AnI (by kernel_rfl) ?_
    refine AnI.walkZ Ext [0, 1] [2] (by kernel_rfl) goes_ext (by kernel_rfl) (fun _ _ _ _ _ h => h) ?_
    iterate 2 (apply wpS_open; (focus (simp only [List.getElem?_toArray, List.getElem?_cons_succ, List.getElem?_cons_zero]; rfl)); first | (refine St_skip (by rfl) ?_; simp only [Act.put, List.setIfInBounds_toArray, List.set_cons_zero, List.set_cons_succ]) | (apply St_want; (focus rfl); (focus (intro v1 hv; have g1 := hv.cell hyW; have g2 := hv.cell k0; have g3 := hv.cell k1; have g4 := hv.cell k2; have g5 := hv.cell k3; go_simp; first | done | rfl)); simp only [Act.put, List.setIfInBounds_toArray, List.set_cons_zero, List.set_cons_succ]))
    refine wpS_nil (fun w1 hw1 => ?_)
    refine AnZ.one goes_ext (i := 2) (by (simp only [List.getElem?_toArray, List.getElem?_cons_succ, List.getElem?_cons_zero]; rfl)) (by kernel_rfl) (by rfl) (fun K hK => ?_)
    go_simp
    have hx1 : Ext w w1 := hx.trans (ext_base hw1)
    refine callsFw.2 ((copyFm_any (.mk op vs ts ks) (Av S w) w1 _ _ _ _ (IsFm.ext ht0 hx1) (by omega)).mono ?_)
    rintro e w4 ⟨⟨v4, rfl, x4, y4, z4, u4, rfl, hn4⟩, hx4⟩
    refine hK _ _ hx4 (fun w5 hx5 => ?_)
    clear hK
    have hxw5 : Ext w w5 := hx1.trans (hx4.trans hx5)
    have hgive : GivesF V #[.agg #[x4, y4, z4, u4]] w5 := by
      rw [HV.out]
      exact ⟨x4, y4, z4, u4, rfl, (Dat.Fs.mono hn4 fun _ _ _ => trivial).ext hx5⟩
    obtain ⟨fn, tmps, assign, body, hyd, hRd⟩ := hR pre V (Lr ++ rest) (by rw [Hit.out]; rfl) _ w5 S hgive (hJ _ _ _ _ _ hj hxw5) (m - 1)
    refine AnZ.last (i := 3) (by (simp only [List.getElem?_toArray, List.getElem?_cons_succ, List.getElem?_cons_zero]; rfl)) (by kernel_rfl) (by rfl) (by rfl) (fun K hK => ?_)
    go_simp
    refine hRd.mono ?_
    clear hRd hyd
    rintro e w6 ⟨b1, S6, rfl, hmv, hj6⟩
    refine hK _ _ ?_
    clear hK
    refine AnZ.last (i := 4) (by (simp only [List.getElem?_toArray, List.getElem?_cons_succ, List.getElem?_cons_zero]; rfl)) (by kernel_rfl) (by rfl) (by rfl) (fun K hK => ?_)
    go_simp
    refine hK _ _ ?_
    clear hK
    refine AnZ.done (by kernel_rfl) ?_
    refine NoPanic.normal ?_
    have hmv5 := hmv
    replace hmv : Mv S w S6 w6 := Mv.ext_left hxw5 hmv
    clear hj
    cases b1 with
    | false =>
      have Hpost := Lib.hid (show PostC J S w pre (V :: Lr) (.returned (.bool false)) w6 from ⟨false, rfl, S6, hmv, .inr ⟨rfl, [V], ⟨Lr, rfl⟩, hj6⟩⟩)
      clear hj6
      rw [Bool.not_false]
      gi_wp2
      go_ret
      exact Hpost.out
    | true =>
      have hbS : w.heap.size ∉ S := fun h => by have := hS _ h; omega
      have z1 := hmv5.cell ((ext_base hw1).trans (hx4.trans hx5) |>.cell k3) hbS
      rw [Bool.not_true]
      gi_wp2
      gi_loopw [15] (fun i wr => ∃ (k : Nat) (S' : List Nat), k ≤ ks.length ∧ i = .int .i64 k ∧ Mv S w S' wr ∧ J true wr (pre ++ V :: Fm.partsL (ks.take k)) S') (fun i _ => ks.length - (intOf i).toNat)
      case atStart => exact ⟨0, S6, Nat.zero_le _, rfl, hmv, by simpa [Fm.partsL] using hj6⟩
      case round =>
        obtain ⟨k, S', hkk, rfl, hmr, hjr⟩ := hrel
        clear z1 hj6 hmv
        by_cases hlt : k < ks.length
        · have hkr : IsFm (Av S' wr) wr _ _ _ _ (.mk op vs ts ks) := fs_mv ht0 hmr
          obtain ⟨va2, vc2, ta2, tc2, a2, c2, -, -, -, he2, -, -, -, -, -, -, -, hkr2⟩ := hkr.form
          simp only [Fm.args] at he2 hkr2
          injection he2 with he2 _ hcc
          subst he2; subst hcc
          obtain ⟨b', o', a7, c7, a8, c8, a9, c9, rfl, hbP, e1, e2, e3, e4, e5⟩ := hkr2.look hlt
          have hk1 : (k : Int) < ks.length := by omega
          have hsz8 := Fm.size_le_sizes hlt
          have hkl := Fm.length_le_sizes ks
          simp only [Fm.size] at hsz
          have y1 := hmr.cell hy hyS
          have d1 := hmr.cell hd hdS
          have hdl : db < wr.heap.size := cell_lt d1
          have y2 := hmr.out hy hyS
          have d2 := hmr.out hd hdS
          have Hs := Lib.hid e5
          have Hat := Lib.hid (partsL_at hlt)
          have Hup := Lib.hid (partsL_upto hlt)
          obtain ⟨tk, htk⟩ : ∃ tk, tk = Fm.partsL (ks.take k) := ⟨_, rfl⟩
          rw [← htk] at hjr Hat Hup
          clear htk
          clear e5 hk ht0 hy hd hyS hdS hyW hdW hw1 hkr hkr2
          have hx8 : Ext wr (wr.alloc (.cells #[.int .i64 ks[k].op, .slice a7 ks[k].vars.length c7, .slice a8 ks[k].terms.length c8, .slice a9 ks[k].args.length c9] 27)) := ext_alloc _ _
          have hm3 : Mv S' wr S' _ := Mv.of_ext hx8
          have hrec := fun m' => Hih.out ks[k] (List.getElem_mem hlt) _ (pre ++ V :: tk) (Fm.partsL (ks.drop (k + 1)) ++ rest) S' _ _ _ _ yb db m' (by omega)
            (fs_mv Hs.out hm3) (hx8.cell y1) y2 (hx8.cell d1) d2 (by rw [Hit.out, HL.out, Hat.out]; simp [List.append_assoc]) (hJ _ _ _ _ _ hjr hx8) (hm3.lt (hmr.lt hS))
          have Hrec := Lib.hid hrec
          clear hrec
          gi_wp2_with fail
          refine (Hrec.out _).mono ?_
          rintro e w9 hp9
          obtain ⟨b9, rfl, hp9⟩ := hp9
          clear Hrec
          cases b9 with
          | false =>
            have Hpost := Lib.hid (show PostC J S w pre (V :: Lr) (.returned (.bool false)) w9 from ⟨false, rfl, by
              rw [HL.out, Hat.out]
              have := PostR.stop (hmr.ext_right hx8) (N := Fm.partsL (ks.drop (k + 1))) hp9
              rw [List.append_assoc] at this
              exact this⟩)
            clear hp9
            gi_wp2
            go_ret
            exact Hpost.out
          | true =>
            obtain ⟨S9, hm9, hj9⟩ := hp9.yes
            have hj9' : J true w9 (pre ++ V :: Fm.partsL (ks.take (k + 1))) S9 := by rw [Hup.out]; simpa [List.append_assoc] using hj9
            clear hp9 hj9
            gi_wp2
            go_roundw
            case rel => exact ⟨k + 1, S9, by omega, by go_num, (hmr.ext_right hx8).trans hm9, hj9'⟩
            case measure => simp [intOf]; omega
        · have hk1 : ¬ (k : Int) < ks.length := by omega
          have hke : k = ks.length := by omega
          have Hpost := Lib.hid (show PostC J S w pre (V :: Lr) (.returned (.bool true)) wr from ⟨true, rfl, PostR.mk hmr (by rw [hke, List.take_length, ← HL.out] at hjr; exact hjr)⟩)
          clear hke
          gi_wp2
          go_ret
          exact Hpost.out
end
set_option maxHeartbeats 1000000 in
set_option maxRecDepth 100000 in
theorem parts1_ok (t : Fm) (hsz : t.size ≤ 1048576) (bo : Nat) : IterOK 43 #[.pointer (some ⟨bo, 0, none⟩)] t.parts GivesF (fun S W => bo ∉ S ∧ ∃ x y z u, W.cell? ⟨bo, 0, none⟩ = some x ∧ W.cell? ⟨bo, 1, none⟩ = some y ∧ W.cell? ⟨bo, 2, none⟩ = some z ∧ W.cell? ⟨bo, 3, none⟩ = some u ∧ IsFm (Av S W) W x y z u t) := by
  intro l J W S0 hD hlt hj hJ hR m
  obtain ⟨hbo, x, y, z, u, c0, c1, c2, c3, ht⟩ := hD
  obtain ⟨b1, d1, b2, d2, b3, d3, rfl, rfl, rfl, rfl⟩ := fm_vals' ht
  obtain ⟨W3, hW3⟩ : ∃ W3, W3 = ((W.alloc (.cells #[.func (.yield l) #[] #[]] 28)).alloc (.cells #[.func (.func 44) #[] #[.pointer (some ⟨W.heap.size, 0, none⟩), .pointer (some ⟨W.heap.size + 1, 0, none⟩)]] 28)) := ⟨_, rfl⟩
  have hx3 : Ext W W3 := by subst hW3; go_grown
  have g0 := hx3.cell c0
  have g1 := hx3.cell c1
  have g2 := hx3.cell c2
  have g3 := hx3.cell c3
  have y3 : W3.cell? ⟨W.heap.size, 0, none⟩ = some (.func (.yield l) #[] #[]) := by subst hW3; go_simp
  have e3 : W3.cell? ⟨W.heap.size + 1, 0, none⟩ = some (.func (.func 44) #[] #[.pointer (some ⟨W.heap.size, 0, none⟩), .pointer (some ⟨W.heap.size + 1, 0, none⟩)]) := by subst hW3; go_simp
  have hm3 : Mv S0 W S0 W3 := Mv.of_ext hx3
  have Hrec := Lib.hid (fun m' => partsDown_any hJ hR t W3 [] [] S0 _ _ _ _ W.heap.size (W.heap.size + 1) m' hsz (fs_mv ht hm3)
    y3 (fun h => by have := hlt _ h; omega) e3 (fun h => by have := hlt _ h; omega) (by simp) (hJ _ _ _ _ _ hj hx3) (hm3.lt hlt))
  rw [hW3] at g0 g1 g2 g3
  clear y3 e3 c0 c1 c2 c3
  refine callsIn_of_wp Try.func43 rfl trivial ?_ rfl
  simp only [Try.ntmps43, List.size_toArray, List.length_cons, List.length_nil, Nat.reduceAdd, Nat.reduceSub, Array.replicate_succ, Array.replicate_zero, List.push_toArray, List.append_toArray, List.nil_append, List.cons_append]
  gi_wp2_with fail
  rw [← hW3]
  clear hW3 g0 g1 g2 g3
  refine (Hrec.out _).mono ?_
  rintro e w' hp
  obtain ⟨b, rfl, S', hmv, hp⟩ := hp
  have HF := Lib.hid (show PostR J S0 W [] t.parts b w' from ⟨S', hm3.trans hmv, hp⟩)
  clear hmv hp
  gi_wp2_with fail
  go_end0
  exact ⟨⟨_, rfl⟩, _, HF.out⟩
set_option maxHeartbeats 1000000 in
set_option maxRecDepth 100000 in
theorem parts_any (t : Fm) (P : Nat → Prop) (w : World) (x y z u : Value) (ht : IsFm P w x y z u t) (hs : t.size ≤ 4194304) :
    Calls Try.prog 26 #[.agg #[x, y, z, u]] w fun e w' => (∃ bo x' y' z' u', e = .returned (.func (.func 43) #[] #[.pointer (some ⟨bo, 0, none⟩)]) ∧ Own w' bo [x', y', z', u'] ∧ w.heap.size ≤ bo ∧ IsFm (fun b => w.heap.size ≤ b ∧ b < w'.heap.size ∧ b ≠ bo) w' x' y' z' u' t) ∧ Ext w w' := by
  have Hc := Lib.hid (fun w' (hx : Ext w w') => copyFm_any t P w' _ _ _ _ (IsFm.ext ht hx) hs)
  obtain ⟨b1, d1, b2, d2, b3, d3, rfl, rfl, rfl, rfl⟩ := fm_vals' ht
  obtain ⟨W, hW⟩ : ∃ W, W = w.alloc (.cells #[.int .i64 t.op, .slice b1 t.vars.length d1, .slice b2 t.terms.length d2, .slice b3 t.args.length d3] 27) := ⟨_, rfl⟩
  have hx : Ext w W := by subst hW; go_grown
  have hob : Own W w.heap.size [.int .i64 t.op, .slice b1 t.vars.length d1, .slice b2 t.terms.length d2, .slice b3 t.args.length d3] := by rw [hW]; exact own4 w _ _ _ _ _
  obtain ⟨⟨k0, -⟩, ⟨k1, -⟩, ⟨k2, -⟩, ⟨k3, -⟩⟩ := hob.cells4
  have hle := hob.lt
  clear ht
  go_enter Try.func26, Try.ntmps26
  go_wp2_with ((rw [← hW]; clear hW; go_at_call 42; refine (Hc.out _ hx).mono ?_; rintro e w2 ⟨⟨v2, rfl, x2, y2, z2, u2, rfl, hn⟩, hx2⟩; have hb2 := hob.ext hx2; have hbl2 := hb2.lt; (obtain ⟨p1, q1, p2, q2, p3, q3, rfl, rfl, rfl, rfl⟩ := fm_vals' hn); clear k0 k1 k2 k3; (obtain ⟨⟨k0, s0⟩, ⟨k1, s1⟩, ⟨k2, s2⟩, ⟨k3, s3⟩⟩ := hb2.cells4)))
  go_ret
  have hch := chg_set4 w2 w.heap.size (.int .i64 t.op) (.slice p1 t.vars.length q1) (.slice p2 t.terms.length q2) (.slice p3 t.args.length q3)
  refine ⟨⟨w.heap.size, _, _, _, _, rfl, own_set4 hb2 _ _ _ _, Nat.le_refl _, ?_⟩, Chg.ext (hx.trans hx2) hch (by simp)⟩
  exact Dat.Fs.mono (Dat.Fs.chg hn hch (fun g hg => by simp; omega)) fun g hg hlt => ⟨by omega, hlt, by omega⟩
end Go.Proofs.Ytnclgkdpafhogaa
namespace Go.Proofs.Ytnclgkdpafhogaa
open Go.ChangeShapes Go.WideShapes Go.ChangeAt Go.RowKit
set_option maxHeartbeats 1000000 in
theorem litFn_any {x : Fm} {P : Nat → Prop} {w : World} {a b c d : Value} (h : IsFm P w a b c d x) : Calls Try.prog 113 #[.agg #[a, b, c, d]] w fun e w' => e = .returned (.bool (!x.lit)) ∧ Ext w w' := by
  have H := Lib.hid (fun w' (hx' : Ext w w') => literal_any x P w' a b c d (h.ext hx'))
  obtain ⟨va, vc, ta, tc, aa, cc, rfl, rfl, rfl, rfl, -⟩ := h.form
  go_enter Try.func113, Try.ntmps113
  go_wp2_with (go_at_call 112; refine (H.out _ (ext_alloc _ _)).mono ?_; rintro e w' ⟨rfl, hx1⟩)
  go_ret
  exact ⟨rfl, (ext_alloc _ _).trans hx1⟩
set_option maxHeartbeats 2000000 in
theorem litIndex_any {l : List Fm} (hn : l.length ≤ 1073741824) {P : Nat → Prop} {w : World} {a : Option Addr} {c : Nat} (h : IsFms P w a l) :
    Calls Try.prog 71 #[.slice a l.length c, .func (.func 113) #[] #[]] w fun e w' => (∃ k : Int, e = .returned (.int .i64 k) ∧ decide (0 ≤ k) = !(l.all Fm.lit)) ∧ Ext w w' := by
  go_enter Try.func71, Try.ntmps71
  go_wp2_with fail
  go_loopw [8] (fun i wr => ∃ k : Nat, k ≤ l.length ∧ i = .int .i64 k ∧ Ext w wr ∧ (l.take k).all Fm.lit = true) (fun i _ => l.length - (intOf i).toNat)
  case atStart => exact ⟨0, Nat.zero_le _, rfl, Below.refl _ _, rfl⟩
  case round =>
    obtain ⟨k, hk, rfl, hx, hm⟩ := hrel
    have HM := Lib.hid hm; clear hm
    by_cases hlt : k < l.length
    · obtain ⟨b, o, va', vc', ta', tc', a', c', rfl, hb, g1, g2, g3, g4, hi⟩ := (h.ext hx).look hlt
      have hlt' : (k : Int) < l.length := by omega
      have HE := Lib.hid (litFn_any hi)
      have HST := Lib.hid (all_step (p := Fm.lit) hlt)
      cases hm : l[k].lit with
      | true =>
        rw [hm] at HE HST
        clear hm
        go_wp2_with (go_at_call 113; refine (HE.out).mono ?_; rintro e w1 ⟨rfl, hx1⟩)
        go_roundw
        case rel => exact ⟨k + 1, by omega, by go_num, hx.trans hx1, by rw [HST.out, HM.out]; rfl⟩
        case measure => simp [intOf]; omega
      | false =>
        rw [hm] at HE
        have HF := Lib.hid (all_stop hlt hm)
        clear hm
        go_wp2_with (go_at_call 113; refine (HE.out).mono ?_; rintro e w1 ⟨rfl, hx1⟩)
        go_ret
        exact ⟨⟨k, rfl, by rw [HF.out, decide_eq_true (by omega)]; rfl⟩, hx.trans hx1⟩
    · have hlt' : ¬ (k : Int) < l.length := by omega
      go_wp2_with fail
      go_ret
      refine ⟨⟨-1, rfl, ?_⟩, hx⟩
      have : k = l.length := by omega
      subst this
      have := HM.out
      rw [List.take_length] at this
      rw [this]; rfl
set_option maxHeartbeats 2000000 in
theorem litAny_any {l : List Fm} (hn : l.length ≤ 1073741824) {P : Nat → Prop} {w : World} {a : Option Addr} {c : Nat} (h : IsFms P w a l) :
    Calls Try.prog 49 #[.slice a l.length c, .func (.func 113) #[] #[]] w fun e w' => e = .returned (.bool (!(l.all Fm.lit))) ∧ Ext w w' := by
  have H := Lib.hid (litIndex_any hn (c := c) h)
  clear h
  go_enter Try.func49, Try.ntmps49
  go_wp2_with (go_at_call 71; refine (H.out).mono ?_; rintro e w1 ⟨⟨k, rfl, hk⟩, hx1⟩; have HK := Lib.hid hk; clear hk)
  go_ret
  exact ⟨ret_bool HK.out, hx1⟩
set_option maxHeartbeats 8000000 in
set_option maxRecDepth 100000 in
theorem literals_any (f : Fm) (P : Nat → Prop) (w : World) (x y z u : Value) (ht : IsFm P w x y z u f) (hs : f.size ≤ 4194304) :
    Calls Try.prog 97 #[.agg #[x, y, z, u]] w (LitsSay (fun b => w.heap.size ≤ b) f w) := by
  have HT := Lib.hid ht
  have HL := Lib.hid (fun w' (hx : Ext w w') => literal_any f P w' x y z u (ht.ext hx))
  have hsl : f.args.length ≤ f.size ∧ ∀ g ∈ f.args, g.size ≤ f.size := by
    obtain ⟨o, v, t, l⟩ := f
    have := Fm.length_le_sizes l
    refine ⟨by simp only [Fm.args, Fm.size]; omega, fun g hg => ?_⟩
    obtain ⟨i, hi, rfl⟩ := List.getElem_of_mem hg
    have := Fm.size_le_sizes hi
    simp only [Fm.size, Fm.args] at this ⊢
    omega
  obtain ⟨b1, c1, b2, c2, b3, c3, rfl, rfl, rfl, rfl, -, -, -, -, -, hc3, -, hls⟩ := ht.form
  obtain ⟨W, hW⟩ : ∃ W, W = w.alloc (.cells #[.int .i64 f.op, .slice b1 f.vars.length c1, .slice b2 f.terms.length c2, .slice b3 f.args.length c3] 27) := ⟨_, rfl⟩
  have hx : Ext w W := by rw [hW]; exact ext_alloc _ _
  have hb : Own W w.heap.size [.int .i64 f.op, .slice b1 f.vars.length c1, .slice b2 f.terms.length c2, .slice b3 f.args.length c3] := by rw [hW]; exact own4 w _ _ _ _ _
  obtain ⟨V, hV⟩ : ∃ V, V = W.alloc (.cells #[.int .i64 f.op, .slice b1 f.vars.length c1, .slice b2 f.terms.length c2, .slice b3 f.args.length c3] 27) := ⟨_, rfl⟩
  have hxV : Ext W V := by rw [hV]; exact ext_alloc _ _
  have hone : IsFms (fun _ => True) V (some ⟨W.heap.size, 0, none⟩) [f] := by rw [hV]; exact one_fm (ht.ext hx) (fun _ _ _ => trivial) trivial
  obtain ⟨⟨k0, -⟩, ⟨k1, -⟩, ⟨k2, -⟩, ⟨k3, -⟩⟩ := hb.cells4
  have hlt := hb.lt
  replace HL := Lib.hid (HL.out V (hx.trans hxV))
  have hxx := hx.trans hxV
  clear ht hb
  by_cases hbad : f.lits = none
  · have HE := Lib.hid hbad
    have hlit : f.lit = false := by
      cases h : f.lit with
      | false => rfl
      | true => rw [lits_lit h] at hbad; cases hbad
    have h7 : f.op ≠ 7 ∨ (f.op = 7 ∧ f.args.all Fm.lit = false) := by
      by_cases h7 : f.op = 7
      · refine .inr ⟨h7, ?_⟩
        cases h : f.args.all Fm.lit with
        | false => rfl
        | true => rw [lits_or hlit h7 h] at hbad; cases hbad
      · exact .inl h7
    rw [hlit] at HL
    clear hbad hlit hone
    rcases h7 with h7 | ⟨h7, hall⟩
    · have q7 : (f.op != 7) = true := by rw [bne_iff_ne]; exact h7
      clear h7
      go_enter Try.func97, Try.ntmps97
      go_upto_region 1 with fail
      rw [← hW]
      clear hW
      go_upto_region 2 with fail
      rw [← hV]
      replace k0 := hxV.cell k0
      replace k1 := hxV.cell k1
      replace k2 := hxV.cell k2
      replace k3 := hxV.cell k3
      clear hV
      go_wp2_with (go_at_call 112; refine (HL.out).mono ?_; rintro e w1 ⟨rfl, hx1⟩; replace k0 := hx1.cell k0; replace k1 := hx1.cell k1; replace k2 := hx1.cell k2; replace k3 := hx1.cell k3; have hlt1 := cell_lt k0)
      go_ret2
      exact LitsSay.mk (by rw [HE.out]; rfl) (by rw [HE.out]; rfl) rfl rfl (Nat.le_refl _) fms_nil (hxx.trans hx1)
    · have q7 : (f.op != 7) = false := by rw [bne_eq_false_iff_eq]; exact h7
      have HC := Lib.hid (fun w1 (hx1 : Ext V w1) => litAny_any (show f.args.length ≤ 1073741824 by omega) (c := c3) (IsFms.ext hls (hxx.trans hx1)))
      rw [hall] at HC
      clear h7 hall
      go_enter Try.func97, Try.ntmps97
      go_upto_region 1 with fail
      rw [← hW]
      clear hW
      go_upto_region 2 with fail
      rw [← hV]
      replace k0 := hxV.cell k0
      replace k1 := hxV.cell k1
      replace k2 := hxV.cell k2
      replace k3 := hxV.cell k3
      clear hV
      go_wp2_with (first | (go_at_call 112; refine (HL.out).mono ?_; rintro e w1 ⟨rfl, hx1⟩; replace k0 := hx1.cell k0; replace k1 := hx1.cell k1; replace k2 := hx1.cell k2; replace k3 := hx1.cell k3; have hlt1 := cell_lt k0) | (go_at_call 49; refine (HC.out _ hx1).mono ?_; rintro e w2 ⟨rfl, hx2⟩))
      go_ret2
      exact LitsSay.mk (by rw [HE.out]; rfl) (by rw [HE.out]; rfl) rfl rfl (Nat.le_refl _) fms_nil ((hxx.trans hx1).trans hx2)
  · have hway : (f.lit = true ∧ f.lits = some [f]) ∨ (f.lit = false ∧ f.op = 7 ∧ f.args.all Fm.lit = true ∧ f.lits = some f.args) := by
      cases h : f.lit with
      | true => exact .inl ⟨rfl, lits_lit h⟩
      | false =>
        refine .inr ⟨rfl, ?_⟩
        by_cases h7 : f.op = 7
        · cases ha : f.args.all Fm.lit with
          | true => exact ⟨h7, rfl, lits_or h h7 ha⟩
          | false => exact absurd (lits_none h fun _ => ha) hbad
        · exact absurd (lits_none h fun h => absurd h h7) hbad
    have HCOPY := Lib.hid (fun (g : Fm) (hg : g.size ≤ f.size) w' (P : Nat → Prop) a b c d (h : IsFm P w' a b c d g) => copyFm_any g P w' a b c d h (by omega))
    obtain ⟨j0, hj0, jz0, jz1', jz2'⟩ := info_parts infoFm
    clear hbad
    rcases hway with ⟨hlit, hL⟩ | ⟨hlit, h7, hall, hL⟩
    · rw [hlit] at HL
      clear hlit
      go_enter Try.func97, Try.ntmps97
      go_upto_region 1 with fail
      rw [← hW]
      clear hW
      go_upto_region 2 with fail
      rw [← hV]
      replace k0 := hxV.cell k0
      replace k1 := hxV.cell k1
      replace k2 := hxV.cell k2
      replace k3 := hxV.cell k3
      clear hV
      go_wp2_with (go_at_call 112; refine (HL.out).mono ?_; rintro e w1 ⟨rfl, hx1⟩; replace k0 := hx1.cell k0; replace k1 := hx1.cell k1; replace k2 := hx1.cell k2; replace k3 := hx1.cell k3; have hlt1 := cell_lt k0)
      go_loopw [5, 24] (fun v i wr => ∃ k : Nat, k ≤ [f].length ∧ i = .int .i64 k ∧ GRow (eltDat 4) 27 w1.heap.size wr v (([f].take k).map Fm.dat) ∧ Ext w1 wr) (fun _ i _ => [f].length - (intOf i).toNat)
      case atStart => exact ⟨0, Nat.zero_le _, rfl, GRow.nil, Below.refl _ _⟩
      case round =>
        obtain ⟨k, hk, rfl, hrow, hxr⟩ := hrel
        have HML : (([f].take k).map Fm.dat).length = k := by rw [List.length_map, List.length_take]; omega
        obtain ⟨xa, xc, hv, hxc⟩ := hrow.form
        rw [HML] at hv hxc
        subst hv
        have Hml := Lib.hid HML
        clear HML
        have HLEN := Lib.hid (show [f].length ≤ 4194304 from by simp)
        have hn := HLEN.out
        have hwr := hxr.size
        by_cases hkl : k < [f].length
        · have hk1 : (k : Int) < 1 := by simp only [List.length_cons, List.length_nil] at hkl; omega
          obtain ⟨bb, o, va', vc', ta', tc', a', c', hae, hbP, g1, g2, g3, g4, hi⟩ := (IsFms.ext hone (hx1.trans hxr)).look hkl
          injection hae with hae; injection hae with ae1 ae2 _; subst ae1; subst ae2; simp only [Nat.zero_add, List.getElem_singleton] at g1 g2 g3 g4 hi
          have HG := Lib.hid (fun o => HCOPY.out f (Nat.le_refl _) (wr.alloc o) _ _ _ _ _ (hi.ext (ext_alloc wr o)))
          clear hi
          go_wp2_with (first
            | (go_at_call 42; refine (HG.out _).mono ?_; rintro e w6 ⟨⟨v, rfl, y0, y1, y2, y3, rfl, hfm⟩, hx6⟩; (have hx6' : Ext wr w6 := (ext_alloc _ _).trans hx6); (obtain ⟨d1, e1', d2, e2', d3, e3', rfl, rfl, rfl, rfl⟩ := fm_vals' hfm))
            | (at_builtin; refine wpList_append_row rfl _ _ _ rfl 27 j0 _ 80 Try.underlying25 hj0 jz0 jz1' jz2' rfl (by decide) w1.heap.size (.slice xa k xc) (([f].take k).map Fm.dat) rfl w6 (hrow.ext hx6') (ext_alloc _ _) w6.heap.size rfl _ _ (heap_alloc_new _ _) f.dat (fm_el (Dat.Fs.ext hfm (ext_alloc _ _)) fun g hg hlt => ⟨by have h1 := hx6'.size; simp only [World.size_alloc] at hg; omega, fun e => by have h1 := (hrow.own_ge e).2; simp only [World.size_alloc] at hg; omega⟩) (by rw [Hml.out]; simp only [maxLen]; omega) (by rw [Hml.out]; omega) (by have := hx6'.size; simp; omega) ?_; intro g7 cap7 w7 hrow4 hgrow4 hat4 hlt4; rw [Hml.out] at hrow4 ⊢))
          go_roundw
          case rel =>
            refine ⟨k + 1, by omega, by go_num, ?_, Ext.append' (hxr.trans hx6') (hrow.ext hx6') (Nat.le_refl _) (ext_alloc _ _) hgrow4⟩
            rw [List.take_succ_eq_append_getElem hkl, List.map_append]; simp only [List.getElem_singleton]
            exact hrow4
          case measure => simp [intOf]; omega
        · have hk1 : ¬ (k : Int) < 1 := by simp only [List.length_cons, List.length_nil] at hkl; omega
          have hke : k = [f].length := by omega
          go_wp2_with fail
          go_ret2
          rw [hke, List.take_length] at hrow
          obtain ⟨a1, c1', hv1, hvc1, hd⟩ := GRow.dat (by decide) hrow
          rw [List.length_map] at hv1 hvc1
          injection hv1 with f1 f2 f3
          subst f1; subst f3
          exact LitsSay.mk (L := [f]) (b := true) (by simp [hL]) (by simp [hL]) rfl (by first | exact hke | rfl) (by omega) (by unfold IsFms; rw [Fm.dats_map]; exact Dat.Rows.mono hd fun g hg _ => (by have := (hxx.trans hx1).size; omega)) ((hxx.trans hx1).trans hxr)
    · have q7 : (f.op != 7) = false := by rw [bne_eq_false_iff_eq]; exact h7
      rw [hlit] at HL
      have HC := Lib.hid (fun w1 (hx1 : Ext V w1) => litAny_any (show f.args.length ≤ 1073741824 by omega) (c := c3) (IsFms.ext hls (hxx.trans hx1)))
      rw [hall] at HC
      clear hlit h7 hall
      go_enter Try.func97, Try.ntmps97
      go_upto_region 1 with fail
      rw [← hW]
      clear hW
      go_upto_region 2 with fail
      rw [← hV]
      replace k0 := hxV.cell k0
      replace k1 := hxV.cell k1
      replace k2 := hxV.cell k2
      replace k3 := hxV.cell k3
      clear hV
      go_wp2_with (first | (go_at_call 112; refine (HL.out).mono ?_; rintro e w1 ⟨rfl, hx1⟩; replace k0 := hx1.cell k0; replace k1 := hx1.cell k1; replace k2 := hx1.cell k2; replace k3 := hx1.cell k3; have hlt1 := cell_lt k0) | (go_at_call 49; refine (HC.out _ hx1).mono ?_; rintro e w2 ⟨rfl, hx2⟩))
      go_loopw [5, 24] (fun v i wr => ∃ k : Nat, k ≤ f.args.length ∧ i = .int .i64 k ∧ GRow (eltDat 4) 27 w2.heap.size wr v ((f.args.take k).map Fm.dat) ∧ Ext w2 wr) (fun _ i _ => f.args.length - (intOf i).toNat)
      case atStart => exact ⟨0, Nat.zero_le _, rfl, GRow.nil, Below.refl _ _⟩
      case round =>
        obtain ⟨k, hk, rfl, hrow, hxr⟩ := hrel
        have HML : ((f.args.take k).map Fm.dat).length = k := by rw [List.length_map, List.length_take]; omega
        obtain ⟨xa, xc, hv, hxc⟩ := hrow.form
        rw [HML] at hv hxc
        subst hv
        have Hml := Lib.hid HML
        clear HML
        have HLEN := Lib.hid (show f.args.length ≤ 4194304 by omega)
        have hn := HLEN.out
        have hwr := hxr.size
        by_cases hkl : k < f.args.length
        · have hk1 : (k : Int) < f.args.length := by omega
          obtain ⟨bb, o, va', vc', ta', tc', a', c', hae, hbP, g1, g2, g3, g4, hi⟩ := (IsFms.ext hls ((hxx.trans (hx1.trans hx2)).trans hxr)).look hkl
          subst hae
          have HG := Lib.hid (fun o => HCOPY.out f.args[k] (hsl.2 _ (List.getElem_mem _)) (wr.alloc o) _ _ _ _ _ (hi.ext (ext_alloc wr o)))
          clear hi
          go_wp2_with (first
            | (go_at_call 42; refine (HG.out _).mono ?_; rintro e w6 ⟨⟨v, rfl, y0, y1, y2, y3, rfl, hfm⟩, hx6⟩; (have hx6' : Ext wr w6 := (ext_alloc _ _).trans hx6); (obtain ⟨d1, e1', d2, e2', d3, e3', rfl, rfl, rfl, rfl⟩ := fm_vals' hfm))
            | (at_builtin; refine wpList_append_row rfl _ _ _ rfl 27 j0 _ 80 Try.underlying25 hj0 jz0 jz1' jz2' rfl (by decide) w2.heap.size (.slice xa k xc) ((f.args.take k).map Fm.dat) rfl w6 (hrow.ext hx6') (ext_alloc _ _) w6.heap.size rfl _ _ (heap_alloc_new _ _) f.args[k].dat (fm_el (Dat.Fs.ext hfm (ext_alloc _ _)) fun g hg hlt => ⟨by have h1 := hx6'.size; simp only [World.size_alloc] at hg; omega, fun e => by have h1 := (hrow.own_ge e).2; simp only [World.size_alloc] at hg; omega⟩) (by rw [Hml.out]; simp only [maxLen]; omega) (by rw [Hml.out]; omega) (by have := hx6'.size; simp; omega) ?_; intro g7 cap7 w7 hrow4 hgrow4 hat4 hlt4; rw [Hml.out] at hrow4 ⊢))
          go_roundw
          case rel =>
            refine ⟨k + 1, by omega, by go_num, ?_, Ext.append' (hxr.trans hx6') (hrow.ext hx6') (Nat.le_refl _) (ext_alloc _ _) hgrow4⟩
            rw [List.take_succ_eq_append_getElem hkl, List.map_append]
            exact hrow4
          case measure => simp [intOf]; omega
        · have hk1 : ¬ (k : Int) < f.args.length := by omega
          have hke : k = f.args.length := by omega
          go_wp2_with fail
          go_ret2
          rw [hke, List.take_length] at hrow
          obtain ⟨a1, c1', hv1, hvc1, hd⟩ := GRow.dat (by decide) hrow
          rw [List.length_map] at hv1 hvc1
          injection hv1 with f1 f2 f3
          subst f1; subst f3
          exact LitsSay.mk (L := f.args) (b := true) (by simp [hL]) (by simp [hL]) rfl (by first | exact hke | rfl) (by omega) (by unfold IsFms; rw [Fm.dats_map]; exact Dat.Rows.mono hd fun g hg _ => (by have := (hxx.trans (hx1.trans hx2)).size; omega)) ((hxx.trans (hx1.trans hx2)).trans hxr)
end Go.Proofs.Ytnclgkdpafhogaa
