/- What Term of a matcher does with a variable that stands for nothing yet, and a term without arguments. -/
import Derived.Test.YtoidhdcbemmfhaaDoorMat2
import Derived.Test.YtoidhdcbemmfhaaDoorCopy
import Derived.Deep.RegionLaw
import Derived.WalkMore
namespace Go.Proofs.YtoidhdcbemmfhaaDoor
open Go.ChangeShapes Go.WideShapes Go.ChangeAt Go.RowKit

set_option maxHeartbeats 400000 in
set_option maxRecDepth 100000 in
theorem plain_leaf (w : World) (b o : Nat) (f : Int) (a : Option Addr) (c : Nat) (h1 : w.cell? ⟨b, o, none⟩ = some (.int .i64 f)) (h2 : w.cell? ⟨b, o + 1, none⟩ = some (.slice a 0 c)) :
    Calls Tryd.prog 181 #[.pointer (some ⟨b, o, none⟩)] w fun e w' => e = .returned (.bool true) ∧ w' = w := by
  have key : ∀ d : Bool, decide (f < 0) = d → Calls Tryd.prog 181 #[.pointer (some ⟨b, o, none⟩)] w fun e w' => e = .returned (.bool true) ∧ w' = w := by
    intro d hd
    cases d
    all_goals
      go_enter Tryd.func181, Tryd.ntmps181
      go_wp2_with fail
      go_loopw [22] (fun i wr => i = .int .i64 0 ∧ wr = w) (fun _ _ => 0)
      case atStart => exact ⟨rfl, rfl⟩
      case round =>
        obtain ⟨rfl, rfl⟩ := hrel
        go_wp2_with fail
        go_ret
        exact ⟨rfl, rfl⟩
  exact key _ rfl

def sliceLen : Value → Nat | .slice _ n _ => n | _ => 0
theorem leafCopy (w : World) (q : Int) (hq1 : -9223372036854775808 ≤ q) (hq2 : q ≤ 9223372036854775807) (a : Option Addr) (c : Nat) :
    Calls Tryd.prog 63 #[.agg #[.int .i64 q, .slice a 0 c]] w fun e w' => e = .returned (.agg #[.int .i64 q, .slice none 0 0]) ∧ Ext w w' := by
  refine (copy_any (.mk q []) w _ _ (by simp only [IsTm, IsTms]; exact ⟨trivial, hq1, hq2, a, c, rfl, by simp, trivial⟩) (by simp [Tm.size, Tm.sizes])).mono ?_
  rintro e w' ⟨⟨a', rfl, h⟩, hx⟩
  simp only [NewTm] at h
  obtain ⟨-, -, -, a2, h4, h6, -⟩ := h
  have := h6 trivial
  subst this
  injection h4 with h4
  subst h4
  exact ⟨rfl, hx⟩

/-- the boxes of a call of Term at two terms without arguments, and its first round's -/
structure Boxes (W : World) (n m : Nat) (p q : Int) (a : Option Addr) (c : Nat) : Prop where
  p0 : W.cell? ⟨n, 0, none⟩ = some (.int .i64 p)
  p1 : W.cell? ⟨n, 1, none⟩ = some (.slice a 0 c)
  q0 : W.cell? ⟨m, 0, none⟩ = some (.int .i64 q)
  q1 : W.cell? ⟨m, 1, none⟩ = some (.slice none 0 0)
  t0 : W.cell? ⟨m + 1, 0, none⟩ = some (.pointer (some ⟨n, 0, none⟩))
  t1 : W.cell? ⟨m + 1, 1, none⟩ = some (.pointer (some ⟨m, 0, none⟩))
theorem Boxes.ext {W W' : World} {n m : Nat} {p q : Int} {a : Option Addr} {c : Nat} (h : Boxes W n m p q a c) (hx : Ext W W') : Boxes W' n m p q a c :=
  ⟨hx.cell h.p0, hx.cell h.p1, hx.cell h.q0, hx.cell h.q1, hx.cell h.t0, hx.cell h.t1⟩

theorem mtPut {w : World} {B g bm : Nat} {es : Array MapEntry} {l : List Int} {v u : Value} (a0 : w.cell? ⟨g, 0, none⟩ = some (.map (some bm))) (a1 : w.cell? ⟨g, 1, none⟩ = some u) (a2 : w.frozen? ⟨g, 1, none⟩ = false) (a3 : ∃ clock, w.heap[bm]? = some (.map es clock)) (hne : bm ≠ g)
    (hr : GRow eltInt 3 B w v l) (h1 : g < B) (h2 : bm < B) : Mt (w.setCell ⟨g, 1, none⟩ v) B g bm es l v := by
  obtain ⟨ck, a3⟩ := a3
  refine ⟨?_, World.cell?_setCell_same _ _ _ a1, (World.frozen?_setCell _ _ _ _).trans a2, ⟨ck, ?_⟩, ?_, h1, h2⟩
  · rw [World.cell?_setCell_other _ _ _ _ (by intro e; injection e with _ e2; omega)]; exact a0
  · rw [Below.heap_setCell _ _ _ _ hne]; exact a3
  · exact hr.chg ((Chg.refl [g] w).setCell _ (.inl (by simp))) (by simp; omega)

set_option maxHeartbeats 2000000 in
set_option maxRecDepth 100000 in
theorem term_bind (w : World) (B g bm : Nat) (hBw : B ≤ w.heap.size) (v : Value) (h : Mt w B g bm #[] [] v) (p q : Int) (hp1 : -9223372036854775808 ≤ p) (hp2 : p < 0) (hq1 : -9223372036854775808 ≤ q) (hq2 : q ≤ 9223372036854775807) (a a2 : Option Addr) (c c2 : Nat) :
    Calls Tryd.prog 180 #[.pointer (some ⟨g, 0, none⟩), .agg #[.int .i64 p, .slice a 0 c], .agg #[.int .i64 q, .slice a2 0 c2]] w fun e w' => e = .returned (.bool true) ∧
      (∃ v' val born, Mt w' B g bm #[⟨.int .i64 (-1 - p), val, born⟩] [-1 - p] v' ∧ (v'.ownBlock = v.ownBlock ∨ ∀ k, v'.ownBlock = some k → w.heap.size ≤ k)) ∧ Chg ([g, bm] ++ ownL v) w w' := by
  obtain ⟨W, hW⟩ : ∃ W, W = ((w.alloc (.cells #[.int .i64 p, .slice a 0 c] 27)).alloc (.cells #[.int .i64 q, .slice a2 0 c2] 27)) := ⟨_, rfl⟩
  have hx : Ext w W := by subst hW; go_grown
  have k0 : W.cell? ⟨w.heap.size, 0, none⟩ = some (.int .i64 p) := by subst hW; go_simp
  have k1 : W.cell? ⟨w.heap.size, 1, none⟩ = some (.slice a 0 c) := by subst hW; go_simp
  have k2 : W.cell? ⟨w.heap.size + 1, 0, none⟩ = some (.int .i64 q) := by subst hW; go_simp
  have k3 : W.cell? ⟨w.heap.size + 1, 1, none⟩ = some (.slice a2 0 c2) := by subst hW; go_simp
  have hMW := h.ext hx
  have H0 := Lib.hid (plain_leaf W w.heap.size 0 p a c k0 k1)
  have H1 := Lib.hid (plain_leaf W (w.heap.size + 1) 0 q a2 c2 k2 k3)
  have H2 := Lib.hid (mark_any W B g bm #[] [] v hMW)
  have H3 := Lib.hid (leafCopy W q hq1 hq2 a2 c2)
  have Hw := Lib.hid h
  have HMW := Lib.hid hMW
  clear h hMW
  go_enter Tryd.func180, Tryd.ntmps180
  go_wp2_with fail
  rw [← hW]
  clear hW
  go_step3
  go_wp2_with (first
    | (go_at_call 181; with_reducible refine (H0.out).mono ?_; rintro e w' ⟨rfl, rfl⟩)
    | (go_at_call 181; with_reducible refine (H1.out).mono ?_; rintro e w' ⟨rfl, rfl⟩)
    | (go_at_call 82; with_reducible refine (H2.out).mono ?_; rintro e w' ⟨rfl, rfl⟩)
    | (go_at_call 63; with_reducible refine (H3.out).mono ?_; rintro e w2 ⟨rfl, hx2⟩))
  go_step3
  go_wp2_with fail
  obtain ⟨m, hm⟩ : ∃ m, m = w2.heap.size := ⟨_, rfl⟩
  obtain ⟨n, hn⟩ : ∃ n, n = w.heap.size := ⟨_, rfl⟩
  rw [← hn] at k0 k1
  have hxw2 : Ext w w2 := hx.trans hx2
  have e0 := hx2.cell k0
  have e1 := hx2.cell k1
  have hnm : n < m := by have := cell_lt e0; rw [hm]; exact this
  obtain ⟨W4, hW4⟩ : ∃ W4, W4 = (w2.alloc (.cells #[.int .i64 q, .slice none 0 0] 27)).alloc (.cells #[.pointer (some ⟨n, 0, none⟩), .pointer (some ⟨m, 0, none⟩)] 209) := ⟨_, rfl⟩
  have hx4 : Ext w2 W4 := by subst hW4; go_grown
  have hB4 : Boxes W4 n m p q a c := by
    refine ⟨hx4.cell e0, hx4.cell e1, ?_, ?_, ?_, ?_⟩ <;> (subst hW4; subst hm; go_simp)
  have hs4 : W4.heap.size = m + 2 := by subst hW4; subst hm; simp
  rw [← hm, ← hn, ← hW4]
  have hMW4 := Hw.out.ext (hxw2.trans hx4)
  have hxw4 := hxw2.trans hx4
  clear hW4 hx4 hx2 e0 e1 k0 k1 k2 k3 H0 H1 H2 H3 HMW hx
  have hwm : w.heap.size ≤ m := by rw [hm]; exact hxw2.size
  have Hm := Lib.hid hm
  have Hn := Lib.hid hn
  clear hm hn
  have hgB := Hw.out.low
  have hbB := Hw.out.low2
  have hgw := cell_lt Hw.out.at0
  have hne := Hw.out.ne
  go_loopw [9] (fun v9 wr => (v9 = .slice (some ⟨m + 1, 0, none⟩) 1 1 ∧ wr = W4) ∨ (v9 = .slice (some ⟨m + 1, 0, none⟩) 0 1 ∧ ((∃ v' val born, Mt wr B g bm #[⟨.int .i64 (-1 - p), val, born⟩] [-1 - p] v' ∧ (v'.ownBlock = v.ownBlock ∨ ∀ k, v'.ownBlock = some k → w.heap.size ≤ k)) ∧ Chg ([g, bm] ++ ownL v) w wr))) (fun v9 _ => sliceLen v9)
  case atStart => exact .inl ⟨rfl, rfl⟩
  case round =>
    rcases hrel with ⟨rfl, rfl⟩ | ⟨rfl, hD⟩
    · obtain ⟨e0, e1, e2, e3, e4, e5⟩ := hB4
      obtain ⟨va, vc, hv, hvc⟩ := hMW4.row.form
      simp only [List.length_nil] at hv
      subst hv
      obtain ⟨i0, hi0, hz0, hz1, hz2⟩ := info_parts infoInt
      have m0 := hMW4.at0
      have m1 := hMW4.at1
      have m2 := hMW4.free
      obtain ⟨clock, m3⟩ := hMW4.map
      have hA := ext_alloc wr (.cells #[.pointer (some ⟨n, 0, none⟩), .pointer (some ⟨m, 0, none⟩)] 209)
      have f0 := hA.cell e0
      have f1 := hA.cell e1
      have f4 := hA.cell m0
      have f5 := hA.cell m1
      have f6 := hA.frozen m1 m2
      have f7 : (wr.alloc (.cells #[.pointer (some ⟨n, 0, none⟩), .pointer (some ⟨m, 0, none⟩)] 209)).heap[bm]? = some (.map #[] clock) := (hA.block bm (map_lt m3)).trans m3
      have hMA := hMW4.ext hA
      have hxA := hxw4.trans hA
      have f8 : (wr.alloc (.cells #[.pointer (some ⟨n, 0, none⟩), .pointer (some ⟨m, 0, none⟩)] 209)).cell? ⟨wr.heap.size, 0, none⟩ = some (.pointer (some ⟨n, 0, none⟩)) := by go_simp
      have f9 : (wr.alloc (.cells #[.pointer (some ⟨n, 0, none⟩), .pointer (some ⟨m, 0, none⟩)] 209)).cell? ⟨wr.heap.size, 1, none⟩ = some (.pointer (some ⟨m, 0, none⟩)) := by go_simp
      have hpd : decide (p < 0) = true := decide_eq_true hp2
      have hpw : IntKind.i64.wrap (-1 - p) = -1 - p := IntWalk.i64_in _ (by omega)
      have hxw := wf64 (x := -1 - p) (by omega) (by omega)
      have hlk := run_lookup_empty (P := Tryd.prog) (t := 137) Tryd.underlying137 Tryd.underlying3 hxw f7 (.pointer none) (fun w => by go_simp)
      go_wp2_with fail
      obtain ⟨W5, hW5⟩ : ∃ W5, W5 = wr.alloc (.cells #[.pointer (some ⟨n, 0, none⟩), .pointer (some ⟨m, 0, none⟩)] 209) := ⟨_, rfl⟩
      rw [← hW5] at f0 f1 f4 f5 f6 f7 f8 f9 hMA hxA ⊢
      clear hW5 hlk hA
      rw [hs4] at f8 f9
      have hup := run_update_empty (P := Tryd.prog) (w := W5.drew) (t := 137) Tryd.underlying137 Tryd.underlying3 hxw f7 (.pointer (some ⟨m, 0, none⟩))
      obtain ⟨W6, hW6⟩ : ∃ W6, W6 = setO W5.drew bm (.map #[⟨.int .i64 (-1 - p), .pointer (some ⟨m, 0, none⟩), clock⟩] (clock + 1)) := ⟨_, rfl⟩
      rw [← hW6] at hup
      have c6 : Chg [bm] W5 W6 := by rw [hW6]; exact (Chg.refl [bm] W5).drew.trans (setO_chg _ _ _)
      have j7 : W6.heap[bm]? = some (.map #[⟨.int .i64 (-1 - p), .pointer (some ⟨m, 0, none⟩), clock⟩] (clock + 1)) := by rw [hW6]; exact setO_same (map_lt f7)
      clear hW6
      go_region_law (fail)
      all_goals
        have j4 := c6.cell f4 (by simp; omega)
        have j5 := c6.cell f5 (by simp; omega)
        have j6 := c6.frozen f5 (by simp; omega) f6
        have hrow6 := hMA.row.chg c6 (by simp; omega)
        have hB6 : B ≤ (W6.alloc (.cells #[.int .i64 (-1 - p)] 3)).heap.size := by have := hxA.size; have := c6.size; simp; omega
        have hfar : ∀ o : Nat, (⟨g, o, none⟩ : Addr).block < (W6.alloc (.cells #[.int .i64 (-1 - p)] 3)).heap.size := fun o => by simp only; omega
        have hown : ∀ k, (Value.slice va 0 vc).ownBlock = some k → B ≤ k := fun k hk => (hrow6.own_ge hk).1
        have hA6 := ext_alloc W6 (.cells #[.int .i64 (-1 - p)] 3)
        have hbm6 := map_lt j7
        clear hup
        go_wp2_with ((at_builtin; refine wpList_append_row rfl _ _ _ rfl 3 i0 _ 8 Tryd.underlying40 hi0 hz0 hz1 hz2 rfl (by decide) B (.slice va 0 vc) [] rfl W6 hrow6 (ext_alloc _ _) W6.heap.size rfl _ _ (heap_alloc_new _ _) (-1 - p) ⟨rfl, by omega, by omega⟩ (by decide) (by decide) hB6 ?_; intro g9 cap w7 hrow7 hgrow hat hlt7; (try simp only [List.length_nil, List.nil_append, Nat.zero_add] at hrow7); (try simp only [List.length_nil, List.nil_append, Nat.zero_add]); have d4 := (hgrow.cell_far ⟨g, 0, none⟩ (hfar 0) (fun e => by have := hown _ e.symm; simp only at this; omega)).trans (hA6.cell j4); have d5 := (hgrow.cell_far ⟨g, 1, none⟩ (hfar 1) (fun e => by have := hown _ e.symm; simp only at this; omega)).trans (hA6.cell j5); have d6 := (hgrow.frozen_far ⟨g, 1, none⟩ (hfar 1) (fun e => by have := hown _ e.symm; simp only at this; omega)).trans (hA6.frozen j5 j6)))
        have d7 := (hgrow.block bm (Nat.lt_of_lt_of_le hbm6 hA6.size) (fun e => by have := hown _ e.symm; omega)).trans ((hA6.block bm hbm6).trans j7)
        go_roundw
        case rel =>
          refine .inr ⟨rfl, ⟨_, _, _, mtPut d4 d5 d6 ⟨_, d7⟩ hne hrow7 hgB hbB, ?_⟩, ?_⟩
          · rcases hat with h1 | h1
            · exact .inl h1.symm
            · right
              intro k hk
              injection hk with hk
              simp only at hk
              have := hxA.size; have := c6.size
              simp at h1
              omega
          · have e1 : Chg ([g, bm] ++ ownL (.slice va 0 vc)) W6 w7 := ((Chg.of_ext hA6).trans (Chg.of_grown hgrow (fun k hk => .inl (by simp [ownL, hk]))))
            exact ((((Chg.of_ext hxA).trans (c6.mono (by simp))).trans e1).setCell _ (.inl (by simp)))
        case measure => simp [sliceLen]
    · go_wp2_with fail
      go_ret
      exact ⟨rfl, hD⟩
end Go.Proofs.YtoidhdcbemmfhaaDoor
