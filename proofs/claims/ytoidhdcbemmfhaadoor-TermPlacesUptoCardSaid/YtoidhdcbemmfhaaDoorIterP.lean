/- The iterator that term.Places hands back: it hands out all places of a term, in order. -/
import Derived.Test.YtoidhdcbemmfhaaDoorRF
import Derived.Test.YtoidhdcbemmfhaaDoorAnJ
import Derived.Test.YtoidhdcbemmfhaaDoorClone
import Derived.Test.YtoidhdcbemmfhaaDoorCopyF
import Derived.Test.YtoidhdcbemmfhaaDoorRefPlaces
import Derived.Laws.Append
import Derived.Laws.EntriesVeiled
import Derived.OwnWalkIn
import Derived.TacticsInMore
import Derived.LoopNIn
import Derived.LoopIn
namespace Go.Proofs.YtoidhdcbemmfhaaDoor
open Go.ChangeShapes Go.WideShapes Go.ChangeAt Go.RowKit

theorem fw_round (ro : Option Nat) : (Fw ro).round = ro := rfl
theorem fw_depth (ro : Option Nat) : (Fw ro).depth = none := rfl
theorem fw_fn (ro : Option Nat) (f : FuncId) : (Fw ro).fn f = True := rfl
attribute [local go_sem] fw_round fw_depth fw_fn Oper.semAt_some

theorem AtTms.look {P : Nat → Prop} {w : World} : ∀ {ts : List Tm} {a : Option Addr}, AtTms P w a ts → ∀ {i : Nat} (hi : i < ts.length),
    ∃ b o a' c', a = some ⟨b, o, none⟩ ∧ P b ∧ w.cell? ⟨b, o + i * 2, none⟩ = some (.int .i64 ts[i].f) ∧ w.cell? ⟨b, o + i * 2 + 1, none⟩ = some (.slice a' ts[i].ks.length c') ∧ AtTm P w (.int .i64 ts[i].f) (.slice a' ts[i].ks.length c') ts[i]
  | [], _, _, _, hi => by simp at hi
  | .mk f ks :: ts, a, h, i, hi => by
    simp only [AtTms] at h
    obtain ⟨b, o, x, s, rfl, h0, h1, h2, h3, h4⟩ := h
    cases i with
    | zero =>
      have h3' := h3
      simp only [AtTm] at h3
      obtain ⟨rfl, -, -, a', c', rfl, -⟩ := h3
      exact ⟨b, o, a', c', rfl, h0, by simpa [Tm.f] using h1, by simpa [Tm.ks] using h2, h3'⟩
    | succ i =>
      obtain ⟨b', o', a', c', e, -, g1, g2, g3⟩ := AtTms.look h4 (i := i) (by simpa using hi)
      injection e with e
      injection e with e1 e2 _
      subst e1; subst e2
      refine ⟨b, o, a', c', rfl, h0, ?_, ?_, by simpa using g3⟩
      · rw [show o + (i + 1) * 2 = o + 2 + i * 2 by omega]; exact g1
      · rw [show o + (i + 1) * 2 + 1 = o + 2 + i * 2 + 1 by omega]; exact g2

theorem placesL_split : ∀ (ks : List Tm) (i k : Nat), Tm.placesL i ks = Tm.placesL i (ks.take k) ++ Tm.placesL (i + k) (ks.drop k)
  | [], i, k => by simp [Tm.placesL]
  | t :: ts, i, 0 => by simp [Tm.placesL]
  | t :: ts, i, k + 1 => by
    simp only [List.take_succ_cons, List.drop_succ_cons, Tm.placesL]
    rw [placesL_split ts (i + 1) k, List.append_assoc, show i + 1 + k = i + (k + 1) by omega]
theorem shift_map {ks : List Tm} {k : Nat} {hlt : k < ks.length} {p : List Int} : ((ks[k]'hlt).places.map fun q => ((k : Int) :: q.1, q.2)).map (fun q => (p ++ q.1, q.2)) = (ks[k]'hlt).places.map fun q => (p ++ [(k : Int)] ++ q.1, q.2) := by
  rw [List.map_map]; apply List.map_congr_left; intro q _; simp
theorem placesL_at {ks : List Tm} {k : Nat} (hlt : k < ks.length) (p : List Int) : (Tm.placesL 0 ks).map (fun q => (p ++ q.1, q.2)) =
    (Tm.placesL 0 (ks.take k)).map (fun q => (p ++ q.1, q.2)) ++ ((ks[k].places.map fun q => (p ++ [(k : Int)] ++ q.1, q.2)) ++ (Tm.placesL (k + 1) (ks.drop (k + 1))).map fun q => (p ++ q.1, q.2)) := by
  rw [placesL_split ks 0 k, Nat.zero_add, placesL_step hlt, List.map_append, List.map_append, shift_map]
theorem placesL_upto {ks : List Tm} {k : Nat} (hlt : k < ks.length) (p : List Int) : (Tm.placesL 0 (ks.take (k + 1))).map (fun q => (p ++ q.1, q.2)) =
    (Tm.placesL 0 (ks.take k)).map (fun q => (p ++ q.1, q.2)) ++ (ks[k].places.map fun q => (p ++ [(k : Int)] ++ q.1, q.2)) := by
  have h := placesL_take k 0 hlt
  simp only [Nat.zero_add] at h
  rw [h, List.map_append, shift_map]

set_option maxRecDepth 100000 in
/-- one number more, behind a row that is full -/
theorem run_app1 (w : World) (pb po : Nat) (l : List Int) (hl : IsInts w (some ⟨pb, po, none⟩) l) (hln : l.length ≤ 4194304) (blk : Nat) (n : Int) (h1 : -9223372036854775808 ≤ n) (h2 : n ≤ 9223372036854775807) (hb : w.cell? ⟨blk, 0, none⟩ = some (.int .i64 n)) :
    ∃ C arr, (Builtin.append_ #[41, 41] 41 #[.slice (some ⟨pb, po, none⟩) l.length l.length, .slice (some ⟨blk, 0, none⟩) 1 1]).run Tryd.prog w = .ok (.slice (some ⟨w.heap.size, 0, none⟩) (l.length + 1) C) (w.drew.alloc (.cells arr 3)) ∧
      l.length + 1 ≤ C ∧ AtInts (fun b => b = w.heap.size) (w.drew.alloc (.cells arr 3)) (some ⟨w.heap.size, 0, none⟩) (l ++ [n]) := by
  obtain ⟨i0, hi0, hz0, hz1, hz2⟩ := info_parts infoInt
  have hcap := nextslicecap_le (need := l.length + 1) (old := l.length) (by omega)
  have hrun := run_append_grow (P := Tryd.prog) w 41 41 3 i0 _ Tryd.underlying41 hi0 hz0 ⟨pb, po, none⟩ l.length l.length (l.map (Value.int .i64)) (by simp [hz1]) (fun j v hv => ?_) ⟨blk, 0, none⟩ 1 1 [.int .i64 n] (by simp [hz1]) (fun j v hv => ?_) (by omega) (by omega) (by rw [hz2]; omega)
  · refine ⟨_, _, hrun, grownCap_ge _ _ _ _, fun i hi => ?_⟩
    simp only [List.length_append, List.length_singleton] at hi
    refine ⟨?_, ?_, w.heap.size, 0, rfl, rfl, ?_⟩
    · by_cases hil : i < l.length
      · rw [List.getElem_append_left hil]; exact (hl i hil).1
      · rw [List.getElem_append_right (by omega)]; simpa using h1
    · by_cases hil : i < l.length
      · rw [List.getElem_append_left hil]; exact (hl i hil).2.1
      · rw [List.getElem_append_right (by omega)]; simpa using h2
    · have hb := heap_alloc_new w.drew (.cells ((l.map (Value.int .i64)).toArray ++ [Value.int .i64 n].toArray ++ Builtin.zeroCells (Value.int .i64 0).cells (grownCap w (l.length + 1) l.length 3 - (l.length + 1))) 3)
      have hc := cell_of_row _ w.heap.size (0 + i) _ _ _ hb
      rw [hc]
      simp only [Nat.zero_add]
      rw [Array.getElem?_append_left (by simp; omega)]
      by_cases hil : i < l.length
      · rw [Array.getElem?_append_left (by simp; omega)]; simp [hil]
      · rw [Array.getElem?_append_right (by simp; omega)]
        have : i = l.length := by omega
        subst this
        simp
  · rw [List.getElem?_map] at hv
    rcases Nat.lt_or_ge j l.length with hj | hj
    · rw [List.getElem?_eq_getElem hj] at hv
      injection hv with hv
      obtain ⟨-, -, b, o, e, h3⟩ := hl j hj
      injection e with e
      injection e with e1 e2 _
      subst e1; subst e2; subst hv
      have : (⟨pb, po, none⟩ : Addr).add j = ⟨pb, po + j, none⟩ := by unfold Addr.add; split <;> simp_all
      rw [this]; exact h3
    · rw [List.getElem?_eq_none (by simpa using hj)] at hv; cases hv
  · cases j with
    | zero => simp at hv; subst hv; simpa [Addr.add] using hb
    | succ j => simp at hv

theorem wpIn_append_run {ro : Option Nat} {n : Nat} {o : Oper} {a : Act} {w w' : World} {K : Act → World → Prop} {Q : Exit → Act → World → Prop} {v sv xv : Value} (s x : Operand) (t : TypeId) (ho : o.op = .call { callee := .builtin .append, args := #[s, x], argTypes := #[t, t] })
    (hs : a.eval s = sv) (hx : a.eval x = xv) (hrun : (Builtin.append_ #[t, t] o.type #[sv, xv]).run Tryd.prog w = .ok v w') (hK : K (a.put o.dst v) w') : o.wpIn (Fw ro) n Tryd.prog a w K Q := by
  refine ⟨fun _ _ => trivial, ?_⟩
  have he : Oper.semAt (Fw ro).round a.eval o = execOp a.eval o := by
    cases ro with
    | none => rfl
    | some l => exact Oper.semAt_some l _ _ (fun c => by rw [ho]; simp)
  rw [he]
  unfold execOp
  simp only [ho, resolve, invoke, builtin, Sem.run_bind, Sem.run_pure, Result.andThen_ok, List.map_toArray, List.map_cons, List.map_nil, hs, hx, hrun]
  exact hK
theorem wpIn_region_noPanic {F : Fence} {n id : Nat} {ops : Array Oper} {d : Bool} {Q : Exit → Act → World → Prop} {a : Act} {w : World} (h : (Code.region id ops d).wpIn F n Tryd.prog (NoPanic Q) a w) : (Code.region id ops d).wpIn F n Tryd.prog Q a w :=
  wpIn_mono h fun e a w hq => by cases e <;> first | exact hq | exact hq.elim
/-- what is handed out -/
def GivesP (q : List Int × Tm) (args : Array Value) (w : World) : Prop := ∃ a c x s, args = #[.slice a q.1.length c, .agg #[x, s]] ∧ q.1.length ≤ c ∧ IsInts w a q.1 ∧ IsTm w x s q.2
def PostC {α : Type} (J : Bool → World → List α → List Nat → Prop) (S : List Nat) (w : World) (pre L : List α) (e : Ending) (w' : World) : Prop := ∃ b, e = .returned (.bool b) ∧ PostR J S w pre L b w'

section
variable {l : Nat} {J : Bool → World → List (List Int × Tm) → List Nat → Prop} {items : List (List Int × Tm)}
set_option maxHeartbeats 4000000 in
set_option maxRecDepth 100000 in
theorem placesDown_any (hJ : ∀ b w w' t S, J b w t S → Ext w w' → J b w' t S) (hR : Rounds l GivesP items J) (t : Tm) :
    ∀ (p : List Int) (w : World) (pre rest : List (List Int × Tm)) (S : List Nat) (x s : Value) (pb po pc yb db m : Nat), t.size ≤ 1048576 → p.length + t.depth ≤ 2097152 → p.length ≤ pc →
      AtTm (Av S w) w x s t → AtInts (Av S w) w (some ⟨pb, po, none⟩) p → w.cell? ⟨yb, 0, none⟩ = some (.func (.yield l) #[] #[]) → yb ∉ S → w.cell? ⟨db, 0, none⟩ = some (.func (.func 66) #[] #[.pointer (some ⟨yb, 0, none⟩), .pointer (some ⟨db, 0, none⟩)]) → db ∉ S →
      items = pre ++ ((t.places.map fun q => (p ++ q.1, q.2)) ++ rest) → J true w pre S → (∀ b ∈ S, b < w.heap.size) →
      CallsIn (Fw none) m Tryd.prog 66 #[.slice (some ⟨pb, po, none⟩) p.length pc, .agg #[x, s], .pointer (some ⟨yb, 0, none⟩), .pointer (some ⟨db, 0, none⟩)] w (PostC J S w pre (t.places.map fun q => (p ++ q.1, q.2))) := by
  induction t using Tm.ind with
  | h f ks ih =>
    intro p w pre rest S x s pb po pc yb db m hsz hdp hpc ht hp hy hyS hd hdS hitems hj hS
    have ht0 := ht
    simp only [AtTm] at ht
    obtain ⟨rfl, hf1, hf2, a, c, rfl, hc, hk⟩ := ht
    have Hih := Lib.hid ih; clear ih
    have hplaces : (Tm.mk f ks).places.map (fun q => (p ++ q.1, q.2)) = (p, Tm.mk f ks) :: (Tm.placesL 0 ks).map fun q => (p ++ q.1, q.2) := by simp only [Tm.places, List.map_cons, List.append_nil]
    rw [hplaces] at hitems ⊢
    obtain ⟨Lr, hLr⟩ : ∃ Lr, Lr = (Tm.placesL 0 ks).map fun q => (p ++ q.1, q.2) := ⟨_, rfl⟩
    rw [← hLr] at hitems ⊢
    obtain ⟨V, hV⟩ : ∃ V, V = (p, Tm.mk f ks) := ⟨_, rfl⟩
    rw [← hV] at hitems ⊢
    have HL := Lib.hid hLr
    have Hit := Lib.hid hitems
    have HV := Lib.hid hV
    clear hplaces hitems hLr hV
    obtain ⟨W, hW⟩ : ∃ W, W = w.alloc (.cells #[.int .i64 f, .slice a ks.length c] 27) := ⟨_, rfl⟩
    have hx : Ext w W := by subst hW; go_grown
    have hsW : W.heap.size = w.heap.size + 1 := by subst hW; simp
    have k0 : W.cell? ⟨w.heap.size, 0, none⟩ = some (.int .i64 f) := by subst hW; go_simp
    have k1 : W.cell? ⟨w.heap.size, 1, none⟩ = some (.slice a ks.length c) := by subst hW; go_simp
    have hyW := hx.cell hy
    have hdW := hx.cell hd
    refine callsIn_of_wp Tryd.func66 rfl trivial ?_ rfl
    simp only [Tryd.ntmps66, List.size_toArray, List.length_cons, List.length_nil, Nat.reduceAdd, Nat.reduceSub, Array.replicate_succ, Array.replicate_zero, List.push_toArray, List.append_toArray, List.nil_append, List.cons_append]
    gi_wp2
    rw [← hW]
    clear hW
    refine wpIn_region_noPanic ?_
    refine wpIn_region_AnI (by kernel_rfl) ?_
    refine AnI.walkZ Ext [0, 1, 3] [2, 4] (by kernel_rfl) goes_ext (by kernel_rfl) (fun _ _ _ _ _ h => h) ?_
    iterate 3 (apply wpS_open; (focus (simp only [List.getElem?_toArray, List.getElem?_cons_succ, List.getElem?_cons_zero]; rfl)); first | (refine St_skip (by rfl) ?_; simp only [Act.put, List.setIfInBounds_toArray, List.set_cons_zero, List.set_cons_succ]) | (apply St_want; (focus rfl); (focus (intro v1 hv; have g1 := hv.cell hyW; have g2 := hv.cell k0; have g3 := hv.cell k1; go_simp; first | done | rfl)); simp only [Act.put, List.setIfInBounds_toArray, List.set_cons_zero, List.set_cons_succ]))
    refine wpS_nil (fun w1 hw1 => ?_)
    refine AnZ.one goes_ext (i := 2) (by (simp only [List.getElem?_toArray, List.getElem?_cons_succ, List.getElem?_cons_zero]; rfl)) (by kernel_rfl) (by rfl) (fun K hK => ?_)
    go_simp
    have hx1 : Ext w w1 := hx.trans (ext_base hw1)
    refine callsFw.2 ((clone_any p w1 _ _ (hp.isInts.ext hx1) (by omega)).mono ?_)
    rintro e w2 ⟨⟨a2, c2, rfl, hc2, hp2⟩, hx2⟩
    refine hK _ _ hx2 (fun w3 hx3 => ?_)
    clear hK
    refine AnZ.one goes_ext (i := 4) (by (simp only [List.getElem?_toArray, List.getElem?_cons_succ, List.getElem?_cons_zero]; rfl)) (by kernel_rfl) (by rfl) (fun K hK => ?_)
    go_simp
    refine callsFw.2 ((copy_any (.mk f ks) w3 _ _ (ht0.isTm.ext ((hx1.trans hx2).trans hx3)) (by omega)).mono ?_)
    rintro e w4 ⟨⟨a4, rfl, hn4⟩, hx4⟩
    simp only [Tm.f, Tm.ks] at hn4 ⊢
    refine hK _ _ hx4 (fun w5 hx5 => ?_)
    clear hK
    have hxw5 : Ext w w5 := ((hx1.trans hx2).trans hx3).trans (hx4.trans hx5)
    have hgive : GivesP V #[.slice a2 p.length c2, .agg #[.int .i64 f, .slice a4 ks.length ks.length]] w5 := by
      rw [HV.out]
      exact ⟨a2, c2, .int .i64 f, .slice a4 ks.length ks.length, rfl, hc2, hp2.ext (hx3.trans (hx4.trans hx5)), (hn4.isTm).ext hx5⟩
    obtain ⟨fn, tmps, assign, body, hyd, hRd⟩ := hR pre V (Lr ++ rest) (by rw [Hit.out]; rfl) _ w5 S hgive (hJ _ _ _ _ _ hj hxw5) (m - 1)
    refine AnZ.last (i := 5) (by (simp only [List.getElem?_toArray, List.getElem?_cons_succ, List.getElem?_cons_zero]; rfl)) (by kernel_rfl) (by rfl) (by rfl) (fun K hK => ?_)
    go_simp
    refine hRd.mono ?_
    clear hRd hyd
    rintro e w6 ⟨b1, S6, rfl, hmv, hj6⟩
    refine hK _ _ ?_
    clear hK
    refine AnZ.last (i := 6) (by (simp only [List.getElem?_toArray, List.getElem?_cons_succ, List.getElem?_cons_zero]; rfl)) (by kernel_rfl) (by rfl) (by rfl) (fun K hK => ?_)
    go_simp
    refine hK _ _ ?_
    clear hK
    refine AnZ.done (by kernel_rfl) ?_
    refine NoPanic.normal ?_
    have hmv5 := hmv
    replace hmv : Mv S w S6 w6 := Mv.ext_left hxw5 hmv
    clear hj
    cases b1 with
    | false =>
      have Hpost := Lib.hid (show PostC J S w pre (V :: Lr) (.returned (.bool false)) w6 from ⟨false, rfl, S6, hmv, .inr ⟨rfl, [V], ⟨Lr, rfl⟩, hj6⟩⟩)
      clear hj6
      rw [Bool.not_false]
      gi_wp2
      go_ret
      exact Hpost.out
    | true =>
      have hbS : w.heap.size ∉ S := fun h => by have := hS _ h; omega
      have hxw := hx.trans (ext_base (hw1.trans (hx2.trans (hx3.trans (hx4.trans hx5)))))
      have z1 := hmv5.cell ((ext_base hw1).trans (hx2.trans (hx3.trans (hx4.trans hx5))) |>.cell k1) hbS
      rw [Bool.not_true]
      gi_wp2
      gi_loopw [19] (fun i wr => ∃ (k : Nat) (S' : List Nat), k ≤ ks.length ∧ i = .int .i64 k ∧ Mv S w S' wr ∧ J true wr (pre ++ V :: (Tm.placesL 0 (ks.take k)).map fun q => (p ++ q.1, q.2)) S') (fun i _ => ks.length - (intOf i).toNat)
      case atStart => exact ⟨0, S6, Nat.zero_le _, rfl, hmv, by simpa [Tm.placesL] using hj6⟩
      case round =>
        obtain ⟨k, S', hkk, rfl, hmr, hjr⟩ := hrel
        clear z1 hj6 hmv
        by_cases hlt : k < ks.length
        · have hkr := ht0.mv hmr
          simp only [AtTm] at hkr
          obtain ⟨-, -, -, a', c', ha', -, hkr⟩ := hkr
          injection ha' with ha' _ hcc
          subst ha'; subst hcc
          obtain ⟨b', o', a8, c8, rfl, hbP, e1, e2, e3⟩ := hkr.look hlt
          have hk1 : (k : Int) < ks.length := by omega
          have hkl := length_le_sizes ks
          have hstep := placesL_step hlt
          have hsz8 := size_le_sizes hlt
          simp only [Tm.size] at hsz
          have hdp8 : p.length + 1 + ks[k].depth ≤ 2097152 := by
            have h1 := depths_take hlt
            have h2 : Tm.depths (ks.take (k + 1)) ≤ Tm.depths ks := by
              have : ∀ (l : List Tm) (n : Nat), Tm.depths (l.take n) ≤ Tm.depths l := by
                intro l
                induction l with
                | nil => intro n; simp [Tm.depths]
                | cons t l ih => intro n; cases n with
                  | zero => simp [Tm.depths]
                  | succ n => simp only [List.take_succ_cons, Tm.depths]; have := ih n; omega
              exact this _ _
            simp only [Tm.depth] at hdp
            omega
          have y1 := hmr.cell hy hyS
          have d1 := hmr.cell hd hdS
          have y2 := hmr.out hy hyS
          have d2 := hmr.out hd hdS
          have Hs := Lib.hid (And.intro hstep (And.intro hkr e3))
          have Hat := Lib.hid (placesL_at hlt p)
          have Hup := Lib.hid (placesL_upto hlt p)
          obtain ⟨tk, htk⟩ : ∃ tk, tk = (Tm.placesL 0 (ks.take k)).map fun q => (p ++ q.1, q.2) := ⟨_, rfl⟩
          rw [← htk] at hjr Hat Hup
          clear htk
          clear hstep hkr e3 hk ht0 hy hd hyS hdS hyW hdW hw1
          gi_wp2
          obtain ⟨W8, hW8⟩ : ∃ W8, W8 = wr.alloc (.cells #[.int .i64 ks[k].f, .slice a8 ks[k].ks.length c8] 27) := ⟨_, rfl⟩
          have hx8 : Ext wr W8 := by subst hW8; exact ext_alloc _ _
          have n8 : W8.cell? ⟨wr.heap.size, 0, none⟩ = some (.int .i64 ks[k].f) := by subst hW8; go_simp
          have m8 : W8.cell? ⟨wr.heap.size, 1, none⟩ = some (.slice a8 ks[k].ks.length c8) := by subst hW8; go_simp
          rw [← hW8]
          clear hW8
          have y8 := hx8.cell y1
          have d8 := hx8.cell d1
          refine wpIn_region_noPanic ?_
          refine wpIn_region_AnI (by kernel_rfl) ?_
          refine AnI.walkZ Ext [0, 1, 2, 3, 4, 5, 6, 7, 10] [8, 9] (by kernel_rfl) goes_ext (by kernel_rfl) (fun _ _ _ _ _ h => h) ?_
          iterate 9 (apply wpS_open; (focus (simp only [List.getElem?_toArray, List.getElem?_cons_succ, List.getElem?_cons_zero]; rfl)); first | (refine St_skip (by rfl) ?_; simp only [Act.put, List.setIfInBounds_toArray, List.set_cons_zero, List.set_cons_succ]) | (apply St_want; (focus rfl); (focus (intro v1 hv; have g1 := hv.cell d8; have g2 := hv.cell n8; have g3 := hv.cell m8; go_simp; first | done | rfl)); simp only [Act.put, List.setIfInBounds_toArray, List.set_cons_zero, List.set_cons_succ]))
          refine wpS_nil (fun v1 hv1 => ?_)
          refine AnZ.one goes_ext (i := 8) (by (simp only [List.getElem?_toArray, List.getElem?_cons_succ, List.getElem?_cons_zero]; rfl)) (by kernel_rfl) (by rfl) (fun K hK => ?_)
          go_simp
          refine hK _ _ (ext_alloc _ _) (fun v2 hv2 => ?_)
          clear hK
          have c0 : v2.cell? ⟨v1.heap.size, 0, none⟩ = some (.int .i64 k) := hv2.cell (by go_simp)
          have hx12 : Ext wr v1 := hx8.trans (ext_base hv1)
          have hxv2 : Ext wr v2 := hx12.trans ((ext_alloc _ _).trans hv2)
          obtain ⟨C, arr, hrun, hC, hin⟩ := run_app1 v2 pb po p ((hp.keep (fun _ hb _ => hb) (fun q v hq hv => (hmr.ext_right hxv2).cell hv hq.1)).isInts) (by omega) v1.heap.size k (by omega) (by omega) c0
          have hgr2 : Ext v2 (v2.drew.alloc (.cells arr 3)) := (Ext.drew (Below.refl _ v2)).alloc _
          refine AnZ.one goes_ext (i := 9) (by (simp only [List.getElem?_toArray, List.getElem?_cons_succ, List.getElem?_cons_zero]; rfl)) (by kernel_rfl) (by rfl) (fun K hK => ?_)
          refine wpIn_append_run _ _ _ rfl rfl rfl hrun ?_
          simp only [Act.put, List.setIfInBounds_toArray, List.set_cons_zero, List.set_cons_succ]
          refine hK _ _ hgr2 (fun v3 hv3 => ?_)
          clear hK hrun
          have hxv3 : Ext wr v3 := hxv2.trans (hgr2.trans hv3)
          have hm3 : Mv S' wr S' v3 := Mv.of_ext hxv3
          have hlen : (p ++ [(k : Int)]).length = p.length + 1 := by simp
          have hin3 : AtInts (Av S' v3) v3 (some ⟨v2.heap.size, 0, none⟩) (p ++ [(k : Int)]) :=
            hin.keep (fun b hb _ => by subst hb; exact ⟨fun hm => by have := (hmr.lt hS) _ hm; have := hxv2.size; omega, by have := hv3.size; simp at this; omega⟩) (fun q v _ hv => hv3.cell hv)
          have hrec := Hih.out ks[k] (List.getElem_mem hlt) (p ++ [(k : Int)]) v3 (pre ++ V :: tk) ((Tm.placesL (k + 1) (ks.drop (k + 1))).map (fun q => (p ++ q.1, q.2)) ++ rest) S' (.int .i64 ks[k].f) (.slice a8 ks[k].ks.length c8) v2.heap.size 0 C yb db (m - 1) (by omega) (by rw [hlen]; omega) (by rw [hlen]; exact hC)
            (Hs.out.2.2.mv hm3) hin3 (hxv3.cell y1) y2 (hxv3.cell d1) d2 (by rw [Hit.out, HL.out, Hat.out]; simp [List.append_assoc]) (hJ _ _ _ _ _ hjr hxv3) (hm3.lt (hmr.lt hS))
          rw [hlen] at hrec
          have Hrec := Lib.hid hrec
          clear hrec
          refine AnZ.last (i := 11) (by (simp only [List.getElem?_toArray, List.getElem?_cons_succ, List.getElem?_cons_zero]; rfl)) (by kernel_rfl) (by rfl) (by rfl) (fun K hK => ?_)
          go_simp
          refine Hrec.out.mono ?_
          rintro e w9 hp9
          obtain ⟨b9, rfl, hp9⟩ := hp9
          refine hK _ _ ?_
          clear hK Hrec
          refine AnZ.last (i := 12) (by (simp only [List.getElem?_toArray, List.getElem?_cons_succ, List.getElem?_cons_zero]; rfl)) (by kernel_rfl) (by rfl) (by rfl) (fun K hK => ?_)
          go_simp
          refine hK _ _ ?_
          clear hK
          refine AnZ.done (by kernel_rfl) ?_
          refine NoPanic.normal ?_
          cases b9 with
          | false =>
            rw [Bool.not_false]
            have Hpost := Lib.hid (show PostC J S w pre (V :: Lr) (.returned (.bool false)) w9 from ⟨false, rfl, by
              rw [HL.out, Hat.out]
              have := PostR.stop (hmr.ext_right hxv3) (N := (Tm.placesL (k + 1) (ks.drop (k + 1))).map (fun q => (p ++ q.1, q.2))) hp9
              rw [List.append_assoc] at this
              exact this⟩)
            clear hp9
            gi_wp2
            go_ret
            exact Hpost.out
          | true =>
            obtain ⟨S9, hm9, hj9⟩ := hp9.yes
            rw [Bool.not_true]
            have hj9' : J true w9 (pre ++ V :: (Tm.placesL 0 (ks.take (k + 1))).map fun q => (p ++ q.1, q.2)) S9 := by rw [Hup.out]; simpa [List.append_assoc] using hj9
            clear hp9 hj9
            gi_wp2
            go_roundw
            case rel => exact ⟨k + 1, S9, by omega, by go_num, (hmr.ext_right hxv3).trans hm9, hj9'⟩
            case measure => simp [intOf]; omega
        · have hk1 : ¬ (k : Int) < ks.length := by omega
          have hke : k = ks.length := by omega
          have Hpost := Lib.hid (show PostC J S w pre (V :: Lr) (.returned (.bool true)) wr from ⟨true, rfl, PostR.mk hmr (by rw [hke, List.take_length, ← HL.out] at hjr; exact hjr)⟩)
          clear hke
          gi_wp2
          go_ret
          exact Hpost.out
end

set_option maxHeartbeats 1000000 in
set_option maxRecDepth 100000 in
theorem places1_ok (t : Tm) (hsz : t.size ≤ 1048576) (bo : Nat) : IterOK 65 #[.pointer (some ⟨bo, 0, none⟩)] t.places GivesP (fun S W => bo ∉ S ∧ ∃ x s, W.cell? ⟨bo, 0, none⟩ = some x ∧ W.cell? ⟨bo, 1, none⟩ = some s ∧ AtTm (Av S W) W x s t) := by
  intro l J W S0 hD hlt hj hJ hR m
  obtain ⟨hbo, x, s, c0, c1, ht⟩ := hD
  obtain ⟨a, c, rfl, rfl, -, -, -, -⟩ := ht.isTm.form
  obtain ⟨W3, hW3⟩ : ∃ W3, W3 = (((W.alloc (.cells #[.func (.yield l) #[] #[]] 98)).alloc (.cells #[.func (.func 66) #[] #[.pointer (some ⟨W.heap.size, 0, none⟩), .pointer (some ⟨W.heap.size + 1, 0, none⟩)]] 98)).alloc (.cells #[] 3)) := ⟨_, rfl⟩
  have hx3 : Ext W W3 := by subst hW3; go_grown
  have g0 := hx3.cell c0
  have g1 := hx3.cell c1
  have y3 : W3.cell? ⟨W.heap.size, 0, none⟩ = some (.func (.yield l) #[] #[]) := by subst hW3; go_simp
  have d3 : W3.cell? ⟨W.heap.size + 1, 0, none⟩ = some (.func (.func 66) #[] #[.pointer (some ⟨W.heap.size, 0, none⟩), .pointer (some ⟨W.heap.size + 1, 0, none⟩)]) := by subst hW3; go_simp
  have hm3 : Mv S0 W S0 W3 := Mv.of_ext hx3
  have hs3 : W3.heap.size = W.heap.size + 3 := by subst hW3; simp
  have hdep := depth_le_size t
  have hrec := fun m' => placesDown_any hJ hR t [] W3 [] [] S0 (.int .i64 t.f) (.slice a t.ks.length c) (W.heap.size + 1 + 1) 0 0 W.heap.size (W.heap.size + 1) m' hsz (by simp; omega) (by simp) (ht.mv hm3) (fun i hi => by simp at hi)
    y3 (fun h => by have := hlt _ h; omega) d3 (fun h => by have := hlt _ h; omega) (by simp) (hJ _ _ _ _ _ hj hx3) (hm3.lt hlt)
  simp only [List.length_nil, List.nil_append] at hrec
  have Hrec := Lib.hid hrec
  rw [hW3] at g0 g1
  clear hrec y3 d3 c0 c1
  refine callsIn_of_wp Tryd.func65 rfl trivial ?_ rfl
  simp only [Tryd.ntmps65, List.size_toArray, List.length_cons, List.length_nil, Nat.reduceAdd, Nat.reduceSub, Array.replicate_succ, Array.replicate_zero, List.push_toArray, List.append_toArray, List.nil_append, List.cons_append]
  gi_wp2_with fail
  rw [← hW3]
  clear hW3 g0 g1
  refine (Hrec.out _).mono ?_
  rintro e w' hp
  obtain ⟨b, rfl, S', hmv, hp⟩ := hp
  have e : t.places.map (fun q => (q.1, q.2)) = t.places := by simp
  rw [e] at hp
  have HF := Lib.hid (show PostR J S0 W [] t.places b w' from ⟨S', hm3.trans hmv, hp⟩)
  clear hmv hp
  gi_wp2_with fail
  go_end0
  exact ⟨⟨_, rfl⟩, _, HF.out⟩

set_option maxHeartbeats 1000000 in
set_option maxRecDepth 100000 in
theorem places_any (t : Tm) (w : World) (x s : Value) (ht : IsTm w x s t) (hs : t.size ≤ 2097152) :
    Calls Tryd.prog 26 #[.agg #[x, s]] w fun e w' => (∃ bo x' s', e = .returned (.func (.func 65) #[] #[.pointer (some ⟨bo, 0, none⟩)]) ∧ w'.cell? ⟨bo, 0, none⟩ = some x' ∧ w'.cell? ⟨bo, 1, none⟩ = some s' ∧ w.heap.size ≤ bo ∧ AtTm (fun b => w.heap.size ≤ b ∧ b < w'.heap.size) w' x' s' t) ∧ Ext w w' := by
  obtain ⟨a, c, rfl, rfl, -, -, -, -⟩ := ht.form
  obtain ⟨W, hW⟩ : ∃ W, W = w.alloc (.cells #[.int .i64 t.f, .slice a t.ks.length c] 27) := ⟨_, rfl⟩
  have hx : Ext w W := by subst hW; go_grown
  have hsW : W.heap.size = w.heap.size + 1 := by subst hW; simp
  have k0 : W.cell? ⟨w.heap.size, 0, none⟩ = some (.int .i64 t.f) := by subst hW; go_simp
  have k1 : W.cell? ⟨w.heap.size, 1, none⟩ = some (.slice a t.ks.length c) := by subst hW; go_simp
  have Hc := Lib.hid (copy_any t W _ _ (ht.ext hx) hs)
  go_enter Tryd.func26, Tryd.ntmps26
  go_wp2_with ((go_at_call 63; rw [← hW]; clear hW; refine (Hc.out).mono ?_; rintro e w2 ⟨⟨a2, rfl, hn⟩, hx2⟩))
  go_ret
  have hA := ext_alloc w2 (.cells #[.int .i64 t.f, .slice a2 t.ks.length t.ks.length] 27)
  obtain ⟨c0, c1⟩ := cells2 w2 (.int .i64 t.f) (.slice a2 t.ks.length t.ks.length) 27
  have hsz := hx2.size
  exact ⟨⟨w2.heap.size, _, _, rfl, c0, c1, by omega, (hn.at.mono (Q := fun b => w.heap.size ≤ b ∧ b < (w2.alloc (.cells #[.int .i64 t.f, .slice a2 t.ks.length t.ks.length] 27)).heap.size) (fun b hb hlt => ⟨by have h1 : W.heap.size ≤ b := hb; omega, by simp; omega⟩)).ext hA⟩, hx.trans (hx2.trans hA)⟩
end Go.Proofs.YtoidhdcbemmfhaaDoor
