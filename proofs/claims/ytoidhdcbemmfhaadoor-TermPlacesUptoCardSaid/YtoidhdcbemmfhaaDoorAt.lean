/- What term.At returns. -/
import Derived.Test.YtoidhdcbemmfhaaDoorCopy
import Derived.Laws.ResultCell
namespace Go.Proofs.YtoidhdcbemmfhaaDoor
open Go.ChangeShapes Go.WideShapes Go.ChangeAt Go.RowKit

/-- from an address on stand numbers -/
def IsInts (w : World) (a : Option Addr) (l : List Int) : Prop :=
  ∀ i (h : i < l.length), -9223372036854775808 ≤ l[i] ∧ l[i] ≤ 9223372036854775807 ∧ ∃ b o, a = some ⟨b, o, none⟩ ∧ w.cell? ⟨b, o + i, none⟩ = some (.int .i64 l[i])
theorem IsInts.ext {w w' : World} {a : Option Addr} {l : List Int} (h : IsInts w a l) (hx : Ext w w') : IsInts w' a l := fun i hi => by
  obtain ⟨h1, h2, b, o, h3, h4⟩ := h i hi
  exact ⟨h1, h2, b, o, h3, hx.cell h4⟩

def Tm.kid (t : Tm) (k : Int) : Option Tm := if 0 ≤ k then t.ks[k.toNat]? else none
def Tm.at : Tm → List Int → Option Tm
  | t, [] => some t
  | t, k :: p => match t.kid k with
    | none => none
    | some u => u.at p
theorem at_none {t : Tm} {p : List Int} {k : Nat} (h : k < p.length) (hk : t.kid p[k] = none) : t.at (p.drop k) = none := by
  rw [List.drop_eq_getElem_cons h]; simp only [Tm.at]; rw [hk]
theorem at_some {t u : Tm} {p : List Int} {k : Nat} (h : k < p.length) (hk : t.kid p[k] = some u) : t.at (p.drop k) = u.at (p.drop (k + 1)) := by
  rw [List.drop_eq_getElem_cons h]; simp only [Tm.at]; rw [hk]

/-- what is handed back of a term that may be there -/
def Given (B : Nat) (w : World) (v : Value) : Option Tm → Prop
  | none => v = .tuple #[.agg #[.int .i64 0, .slice none 0 0], .bool false]
  | some t => ∃ a, v = .tuple #[.agg #[.int .i64 t.f, .slice a t.ks.length t.ks.length], .bool true] ∧ NewTm B w (.int .i64 t.f) (.slice a t.ks.length t.ks.length) t

set_option maxHeartbeats 1000000 in
set_option maxRecDepth 100000 in
theorem at_any (t : Tm) (p : List Int) (w : World) (x s : Value) (pa : Option Addr) (pc : Nat) (ht : IsTm w x s t) (hs : t.size ≤ 2097152) (hp : IsInts w pa p) (hpl : p.length ≤ 9000000000000000000) :
    Calls Tryd.prog 20 #[.agg #[x, s], .slice pa p.length pc] w fun e w' => (∃ v, e = .returned v ∧ Given w.heap.size w' v (t.at p)) ∧ Ext w w' := by
  have ht0 := ht
  obtain ⟨a', c', rfl, rfl, -, -, -, -⟩ := ht.form
  clear ht
  go_enter Tryd.func20, Tryd.ntmps20
  go_wp2_with fail
  obtain ⟨W, hW⟩ : ∃ W, W = ((w.alloc (.cells #[.int .i64 t.f, .slice a' t.ks.length c'] 27)).alloc (.cells #[.int .i64 0, .slice none 0 0] 27)) := ⟨_, rfl⟩
  have hx : Ext w W := by subst hW; go_grown
  have hsW : W.heap.size = w.heap.size + 2 := by subst hW; simp
  have k1 : W.cell? ⟨w.heap.size, 0, none⟩ = some (.int .i64 t.f) := by subst hW; go_simp
  have k2 : W.cell? ⟨w.heap.size, 1, none⟩ = some (.slice a' t.ks.length c') := by subst hW; go_simp
  have k3 : W.cell? ⟨w.heap.size + 1, 0, none⟩ = some (.int .i64 0) := by subst hW; go_simp
  have k4 : W.cell? ⟨w.heap.size + 1, 1, none⟩ = some (.slice none 0 0) := by subst hW; go_simp
  have f1 : W.frozen? ⟨w.heap.size, 0, none⟩ = false := by subst hW; go_simp
  have f2 : W.frozen? ⟨w.heap.size, 1, none⟩ = false := by subst hW; go_simp
  have f3 : W.frozen? ⟨w.heap.size + 1, 0, none⟩ = false := by subst hW; go_simp
  have f4 : W.frozen? ⟨w.heap.size + 1, 1, none⟩ = false := by subst hW; go_simp
  rw [← hW]
  clear hW
  go_loopw [10] (fun i wr => ∃ (k : Nat) (u : Tm) (a : Option Addr) (c : Nat), k ≤ p.length ∧ i = .int .i64 k ∧ t.at p = u.at (p.drop k) ∧ u.size ≤ t.size ∧ IsTm w (.int .i64 u.f) (.slice a u.ks.length c) u ∧ wr.cell? ⟨w.heap.size, 0, none⟩ = some (.int .i64 u.f) ∧ wr.cell? ⟨w.heap.size, 1, none⟩ = some (.slice a u.ks.length c) ∧ wr.frozen? ⟨w.heap.size, 0, none⟩ = false ∧ wr.frozen? ⟨w.heap.size, 1, none⟩ = false ∧ Chg [w.heap.size] W wr) (fun i _ => p.length - (intOf i).toNat)
  case atStart => exact ⟨0, t, _, _, by omega, rfl, rfl, Nat.le_refl _, ht0, k1, k2, f1, f2, Chg.refl _ _⟩
  case round =>
    obtain ⟨k, u, a, c, hkk, rfl, hat, hus, hu, q1, q2, z1, z2, hch⟩ := hrel
    have Hat := Lib.hid hat; clear hat
    have hext : Ext w wr := Chg.ext hx hch (by simp)
    have q3 := hch.cell k3 (by simp)
    have q4 := hch.cell k4 (by simp)
    have z3 := hch.frozen k3 (by simp) f3
    have z4 := hch.frozen k4 (by simp) f4
    by_cases hlt : k < p.length
    · have hk1 : (k : Int) < p.length := by omega
      obtain ⟨m1, m2, b, o, rfl, m3⟩ := hp k hlt
      have m3' := hext.cell m3
      have hul := length_le_sizes u.ks
      have hus2 : Tm.sizes u.ks + 1 = u.size := by cases u; simp [Tm.size, Tm.ks]
      by_cases hn : p[k] < 0
      · have hkid : u.kid p[k] = none := by unfold Tm.kid; rw [if_neg (by omega)]
        have Hst := Lib.hid (at_none hlt hkid)
        go_wp2_with fail
        have hc2 : Chg [w.heap.size + 1] wr ((wr.setCell ⟨w.heap.size + 1, 0, none⟩ (.int .i64 0)).setCell ⟨w.heap.size + 1, 1, none⟩ (.slice none 0 0)) := ((Chg.refl _ wr).setCell _ (.inl (by simp))).setCell _ (.inl (by simp))
        have c1 : ((wr.setCell ⟨w.heap.size + 1, 0, none⟩ (.int .i64 0)).setCell ⟨w.heap.size + 1, 1, none⟩ (.slice none 0 0)).cell? ⟨w.heap.size + 1, 0, none⟩ = some (.int .i64 0) := by
          rw [World.cell?_setCell_other _ _ _ _ (by simp)]; exact World.cell?_setCell_same _ _ _ q3
        have c2 : ((wr.setCell ⟨w.heap.size + 1, 0, none⟩ (.int .i64 0)).setCell ⟨w.heap.size + 1, 1, none⟩ (.slice none 0 0)).cell? ⟨w.heap.size + 1, 1, none⟩ = some (.slice none 0 0) :=
          World.cell?_setCell_same (u := .slice none 0 0) _ _ _ (by rw [World.cell?_setCell_other _ _ _ _ (by simp)]; exact q4)
        refine bodyPost_ret (v := .tuple #[.agg #[.int .i64 0, .slice none 0 0], .bool false]) (by simp [results, Tryd.results20, go_sem, c1, c2]) rfl ?_
        refine ⟨⟨_, rfl, ?_⟩, Chg.ext hext hc2 (by simp)⟩
        rw [Hat.out, Hst.out]; rfl
      · by_cases hn2 : (u.ks.length : Int) ≤ p[k]
        · have hkid : u.kid p[k] = none := by unfold Tm.kid; rw [if_pos (by omega), List.getElem?_eq_none (by omega)]
          have Hst := Lib.hid (at_none hlt hkid)
          go_wp2_with fail
          have hc2 : Chg [w.heap.size + 1] wr ((wr.setCell ⟨w.heap.size + 1, 0, none⟩ (.int .i64 0)).setCell ⟨w.heap.size + 1, 1, none⟩ (.slice none 0 0)) := ((Chg.refl _ wr).setCell _ (.inl (by simp))).setCell _ (.inl (by simp))
          have c1 : ((wr.setCell ⟨w.heap.size + 1, 0, none⟩ (.int .i64 0)).setCell ⟨w.heap.size + 1, 1, none⟩ (.slice none 0 0)).cell? ⟨w.heap.size + 1, 0, none⟩ = some (.int .i64 0) := by
            rw [World.cell?_setCell_other _ _ _ _ (by simp)]; exact World.cell?_setCell_same _ _ _ q3
          have c2 : ((wr.setCell ⟨w.heap.size + 1, 0, none⟩ (.int .i64 0)).setCell ⟨w.heap.size + 1, 1, none⟩ (.slice none 0 0)).cell? ⟨w.heap.size + 1, 1, none⟩ = some (.slice none 0 0) :=
            World.cell?_setCell_same (u := .slice none 0 0) _ _ _ (by rw [World.cell?_setCell_other _ _ _ _ (by simp)]; exact q4)
          refine bodyPost_ret (v := .tuple #[.agg #[.int .i64 0, .slice none 0 0], .bool false]) (by simp [results, Tryd.results20, go_sem, c1, c2]) rfl ?_
          refine ⟨⟨_, rfl, ?_⟩, Chg.ext hext hc2 (by simp)⟩
          rw [Hat.out, Hst.out]; rfl
        · obtain ⟨n, hn3⟩ : ∃ n : Nat, p[k] = (n : Int) := ⟨p[k].toNat, by omega⟩
          have hn4 : n < u.ks.length := by omega
          have hkid : u.kid p[k] = some u.ks[n] := by unfold Tm.kid; rw [if_pos (by omega), List.getElem?_eq_getElem (by omega)]; congr 2; omega
          have Hst := Lib.hid (at_some hlt hkid)
          rw [hn3] at m3'
          have hn5 : (n : Int) < u.ks.length := by omega
          obtain ⟨ka, kc, -, hka, -, -, -, hk⟩ := hu.form
          injection hka with e1 e2 e3
          subst e1
          obtain ⟨b2, o2, a2, c2, rfl, h1, h2, h3⟩ := hk.look hn4
          have g1 := hext.cell h1
          have g2 := hext.cell h2
          have hsz := size_le_sizes hn4
          go_wp2_with fail
          go_roundw
          case rel => exact ⟨k + 1, u.ks[n], a2, c2, by omega, by go_num, by rw [Hat.out, Hst.out], by omega, h3, by go_simp, by go_simp, by go_simp, by go_simp, Chg.trans hch (((Chg.refl _ wr).setCell _ (.inl (by simp))).setCell _ (.inl (by simp)))⟩
          case measure => simp [intOf]; omega
    · have hk1 : ¬ (k : Int) < p.length := by omega
      have hke : k = p.length := by omega
      have h0 : u.at (p.drop k) = some u := by rw [hke, List.drop_length]; rfl
      have H0 := Lib.hid h0; clear h0
      have hc := fun w' (hx : Ext w w') => copy_any u w' _ _ (hu.ext hx) (by omega)
      have Hc := Lib.hid hc; clear hc
      go_wp2_with ((go_at_call 63; refine (Hc.out _ hext).mono ?_; rintro e w2 ⟨⟨a4, rfl, hn4⟩, hx2⟩; have q3' := hx2.cell q3; have q4' := hx2.cell q4; have z3' := hx2.frozen q3 z3; have z4' := hx2.frozen q4 z4))
      obtain ⟨V, hV⟩ : ∃ V, V = Value.slice a4 u.ks.length u.ks.length := ⟨_, rfl⟩
      rw [← hV] at hn4 ⊢
      have hc2 : Chg [w.heap.size + 1] w2 ((w2.setCell ⟨w.heap.size + 1, 0, none⟩ (.int .i64 u.f)).setCell ⟨w.heap.size + 1, 1, none⟩ V) := ((Chg.refl _ w2).setCell _ (.inl (by simp))).setCell _ (.inl (by simp))
      have c1 : ((w2.setCell ⟨w.heap.size + 1, 0, none⟩ (.int .i64 u.f)).setCell ⟨w.heap.size + 1, 1, none⟩ V).cell? ⟨w.heap.size + 1, 0, none⟩ = some (.int .i64 u.f) := by
        rw [World.cell?_setCell_other _ _ _ _ (by simp)]; exact World.cell?_setCell_same _ _ _ q3'
      have c2 : ((w2.setCell ⟨w.heap.size + 1, 0, none⟩ (.int .i64 u.f)).setCell ⟨w.heap.size + 1, 1, none⟩ V).cell? ⟨w.heap.size + 1, 1, none⟩ = some V :=
        World.cell?_setCell_same (u := .slice none 0 0) _ _ _ (by rw [World.cell?_setCell_other _ _ _ _ (by simp)]; exact q4')
      refine bodyPost_ret (v := .tuple #[.agg #[.int .i64 u.f, V], .bool true]) (by simp [results, Tryd.results20, go_sem, c1, c2]) rfl ?_
      refine ⟨⟨_, rfl, ?_⟩, Chg.ext (Ext.trans hext hx2) hc2 (by simp)⟩
      rw [Hat.out, H0.out]
      subst hV
      refine ⟨a4, rfl, ?_⟩
      exact (hn4.chg hc2 (by have := hch.size; simp; omega)).of_cells (by have := hch.size; omega) fun _ _ _ h => h
end Go.Proofs.YtoidhdcbemmfhaaDoor
