/- What the reference's Join, Vars of layer 2 return. -/
import Derived.Test.YtoidhdcbemmfhaaDoorJoin
namespace Go.Proofs.YtoidhdcbemmfhaaDoor
open Go.ChangeShapes Go.WideShapes Go.ChangeAt Go.RowKit

mutual
/-- a rising row of variables, with those of a term -/
def Tm.join : List Int → Tm → List Int
  | l, .mk f ks => Tm.joins (if f < 0 then ins l (-1 - f) else l) ks
def Tm.joins : List Int → List Tm → List Int
  | l, [] => l
  | l, t :: ts => Tm.joins (Tm.join l t) ts
end
theorem joins_step {l : List Int} {ks : List Tm} {k : Nat} (h : k < ks.length) : Tm.joins l (ks.drop k) = Tm.joins (ks[k].join l) (ks.drop (k + 1)) := by
  rw [List.drop_eq_getElem_cons h]; rfl
theorem ins_length (l : List Int) (v : Int) : (ins l v).length ≤ l.length + 1 := by
  unfold ins
  have h := insFold_length v l (false, [])
  split
  · omega
  · cases hd : (List.foldl (insStep v) (false, []) l).1 <;> rw [hd] at h <;> simp at h ⊢ <;> omega
mutual
theorem join_length : ∀ (t : Tm) (l : List Int), (t.join l).length ≤ l.length + t.size
  | .mk f ks, l => by
    simp only [Tm.join, Tm.size]
    have h := joins_length ks (if f < 0 then ins l (-1 - f) else l)
    have h2 := ins_length l (-1 - f)
    split at h <;> split <;> first | omega | contradiction
theorem joins_length : ∀ (ks : List Tm) (l : List Int), (Tm.joins l ks).length ≤ l.length + Tm.sizes ks
  | [], l => by simp only [Tm.joins, Tm.sizes]; omega
  | t :: ts, l => by
    simp only [Tm.joins, Tm.sizes]
    have h := joins_length ts (t.join l)
    have h2 := join_length t l
    omega
end

set_option maxHeartbeats 1000000 in
set_option maxRecDepth 100000 in
theorem join_any (t : Tm) : ∀ (l : List Int) (w : World) (a : Option Addr) (c : Nat) (x s : Value), IsInts w a l → l.length ≤ c → IsTm w x s t → l.length + t.size ≤ 4000000 →
    Calls Tryd.prog 89 #[.slice a l.length c, .agg #[x, s]] w fun e w' => (∃ a' c', e = .returned (.slice a' (t.join l).length c') ∧ (t.join l).length ≤ c' ∧ IsInts w' a' (t.join l)) ∧ Ext w w' := by
  induction t using Tm.ind with
  | h f ks ih =>
    intro l w a c x s hl hlc ht hsz
    simp only [IsTm] at ht
    obtain ⟨rfl, hf1, hf2, ka, kc, rfl, hkc, hk⟩ := ht
    simp only [Tm.size] at hsz
    have hkl := length_le_sizes ks
    have Hih := Lib.hid ih; clear ih
    obtain ⟨W, hW⟩ : ∃ W, W = w.alloc (.cells #[.int .i64 f, .slice ka ks.length kc] 27) := ⟨_, rfl⟩
    have hx : Ext w W := by subst hW; go_grown
    have k0 : W.cell? ⟨w.heap.size, 0, none⟩ = some (.int .i64 f) := by subst hW; go_simp
    have k1 : W.cell? ⟨w.heap.size, 1, none⟩ = some (.slice ka ks.length kc) := by subst hW; go_simp
    obtain ⟨J, hJ⟩ : ∃ J, J = (Tm.mk f ks).join l := ⟨_, rfl⟩
    rw [← hJ]
    by_cases hf : f < 0
    · have hi := insert_any l (-1 - f) (by omega) (by omega) W a c (hl.ext hx) hlc (by omega)
      have hJ2 : J = Tm.joins (ins l (-1 - f)) ks := by rw [hJ]; simp only [Tm.join]; rw [if_pos hf]
      have hil := ins_length l (-1 - f)
      obtain ⟨L, hL⟩ : ∃ L, L = ins l (-1 - f) := ⟨_, rfl⟩
      rw [← hL] at hi hJ2 hil
      have Hi := Lib.hid hi
      have HJ := Lib.hid hJ2
      clear hi hJ hJ2 hL
      go_enter Tryd.func89, Tryd.ntmps89
      go_wp2_with fail
      rw [← hW]
      clear hW
      go_wp2_with ((refine (Hi.out).mono ?_); rintro e w1 ⟨⟨a1, c1, rfl, hlc1, hl1⟩, hx1⟩)
      go_loopw [0, 5] (fun lv i wr => ∃ (k : Nat) (m : List Int) (a : Option Addr) (c : Nat), k ≤ ks.length ∧ i = .int .i64 k ∧ lv = .slice a m.length c ∧ m.length ≤ c ∧ IsInts wr a m ∧ J = Tm.joins m (ks.drop k) ∧ m.length ≤ l.length + 1 + Tm.sizes (ks.take k) ∧ Ext W wr) (fun _ i _ => ks.length - (intOf i).toNat)
      case atStart => exact ⟨0, L, a1, c1, Nat.zero_le _, rfl, rfl, hlc1, hl1, HJ.out, by omega, hx1⟩
      case round =>
        obtain ⟨k, m, a2, c2, hkk, rfl, rfl, hmc, hm, hJm, hml, hext⟩ := hrel
        have HJm := Lib.hid hJm; clear hJm
        have q0 := hext.cell k0
        have q1 := hext.cell k1
        by_cases hlt : k < ks.length
        · have hk1 : (k : Int) < ks.length := by omega
          obtain ⟨b', o', a', c', rfl, h1, h2, h3⟩ := hk.look hlt
          have g1 := hext.cell (hx.cell h1)
          have g2 := hext.cell (hx.cell h2)
          have hst := sizes_take hlt
          have hst2 := sizes_take_le ks (k + 1)
          have hjl := join_length ks[k] m
          have hi2 := Hih.out _ (List.getElem_mem hlt) m wr a2 c2 _ _ hm hmc (h3.ext (Ext.trans hx hext)) (by omega)
          have Hi := Lib.hid hi2; clear hi2
          have Hst := Lib.hid (joins_step (l := m) hlt)
          clear hm
          go_wp2_with ((refine (Hi.out).mono ?_); rintro e w2 ⟨⟨a3, c3, rfl, hmc3, hm3⟩, hx2⟩)
          go_roundw
          case rel => exact ⟨k + 1, ks[k].join m, a3, c3, by omega, by go_num, rfl, hmc3, hm3, by rw [HJm.out, Hst.out], by omega, Ext.trans hext hx2⟩
          case measure => simp [intOf]; omega
        · have hk1 : ¬ (k : Int) < ks.length := by omega
          have hke : k = ks.length := by omega
          go_wp2_with fail
          go_ret
          have h := HJm.out
          rw [hke, List.drop_length] at h
          simp only [Tm.joins] at h
          rw [h]
          exact ⟨⟨_, _, rfl, hmc, hm⟩, Ext.trans hx hext⟩
    · have hJ2 : J = Tm.joins l ks := by rw [hJ]; simp only [Tm.join]; rw [if_neg hf]
      have HJ := Lib.hid hJ2
      clear hJ hJ2
      go_enter Tryd.func89, Tryd.ntmps89
      go_wp2_with fail
      rw [← hW]
      clear hW
      go_loopw [0, 5] (fun lv i wr => ∃ (k : Nat) (m : List Int) (a : Option Addr) (c : Nat), k ≤ ks.length ∧ i = .int .i64 k ∧ lv = .slice a m.length c ∧ m.length ≤ c ∧ IsInts wr a m ∧ J = Tm.joins m (ks.drop k) ∧ m.length ≤ l.length + 1 + Tm.sizes (ks.take k) ∧ Ext W wr) (fun _ i _ => ks.length - (intOf i).toNat)
      case atStart => exact ⟨0, l, a, c, Nat.zero_le _, rfl, rfl, hlc, hl.ext hx, HJ.out, by omega, Below.refl _ _⟩
      case round =>
        obtain ⟨k, m, a2, c2, hkk, rfl, rfl, hmc, hm, hJm, hml, hext⟩ := hrel
        have HJm := Lib.hid hJm; clear hJm
        have q0 := hext.cell k0
        have q1 := hext.cell k1
        by_cases hlt : k < ks.length
        · have hk1 : (k : Int) < ks.length := by omega
          obtain ⟨b', o', a', c', rfl, h1, h2, h3⟩ := hk.look hlt
          have g1 := hext.cell (hx.cell h1)
          have g2 := hext.cell (hx.cell h2)
          have hst := sizes_take hlt
          have hst2 := sizes_take_le ks (k + 1)
          have hjl := join_length ks[k] m
          have hi2 := Hih.out _ (List.getElem_mem hlt) m wr a2 c2 _ _ hm hmc (h3.ext (Ext.trans hx hext)) (by omega)
          have Hi := Lib.hid hi2; clear hi2
          have Hst := Lib.hid (joins_step (l := m) hlt)
          clear hm
          go_wp2_with ((refine (Hi.out).mono ?_); rintro e w2 ⟨⟨a3, c3, rfl, hmc3, hm3⟩, hx2⟩)
          go_roundw
          case rel => exact ⟨k + 1, ks[k].join m, a3, c3, by omega, by go_num, rfl, hmc3, hm3, by rw [HJm.out, Hst.out], by omega, Ext.trans hext hx2⟩
          case measure => simp [intOf]; omega
        · have hk1 : ¬ (k : Int) < ks.length := by omega
          have hke : k = ks.length := by omega
          go_wp2_with fail
          go_ret
          have h := HJm.out
          rw [hke, List.drop_length] at h
          simp only [Tm.joins] at h
          rw [h]
          exact ⟨⟨_, _, rfl, hmc, hm⟩, Ext.trans hx hext⟩

theorem refVars_any (t : Tm) (w : World) (x s : Value) (ht : IsTm w x s t) (hs : t.size ≤ 4000000) :
    Calls Tryd.prog 44 #[.agg #[x, s]] w fun e w' => (∃ a' c', e = .returned (.slice a' (t.join []).length c') ∧ (t.join []).length ≤ c' ∧ IsInts w' a' (t.join [])) ∧ Ext w w' := by
  obtain ⟨a, c, rfl, rfl, -, -, -, -⟩ := ht.form
  obtain ⟨W, hW⟩ : ∃ W, W = w.alloc (.cells #[.int .i64 t.f, .slice a t.ks.length c] 27) := ⟨_, rfl⟩
  have hx : Ext w W := by subst hW; go_grown
  have h := join_any t [] W none 0 _ _ (fun i hi => by simp at hi) (Nat.le_refl _) (ht.ext hx) (by simp; omega)
  have H := Lib.hid h; clear h ht
  go_enter Tryd.func44, Tryd.ntmps44
  go_wp2_with fail
  go_wp2_with ((rw [← hW]; refine (H.out).mono ?_); rintro e w1 ⟨⟨a1, c1, rfl, hlc1, hl1⟩, hx1⟩)
  go_ret
  exact ⟨⟨_, _, rfl, hlc1, hl1⟩, Ext.trans hx hx1⟩
end Go.Proofs.YtoidhdcbemmfhaaDoor
