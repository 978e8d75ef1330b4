/- The reference of chapter 7: how often symbols stand in clauses. No condition but that numbers fit. -/
import Derived.Test.YtdmiphdohfcbeaaPrecR1
import Derived.Test.YtdmiphdohfcbeaaCheck1
import Derived.Test.YtdmiphdohfcbeaaBase
namespace Go.Proofs.Ytdmiphdohfcbeaa
open Go.ChangeShapes Go.WideShapes Go.ChangeAt Go.RowKit

/-- a row of numbers in a block of the call's own, none of it frozen -/
structure Nums (w : World) (b : Nat) (l : List Int) : Prop where
  cell : ∀ i (h : i < l.length), w.cell? ⟨b, i, none⟩ = some (.int .i64 l[i]) ∧ w.frozen? ⟨b, i, none⟩ = false
theorem Nums.chg {S : List Nat} {w w' : World} {b : Nat} {l : List Int} (h : Nums w b l) (hc : Chg S w w') (hb : b ∉ S) : Nums w' b l :=
  ⟨fun i hi => ⟨hc.cell (h.cell i hi).1 hb, hc.frozen (h.cell i hi).1 hb (h.cell i hi).2⟩⟩
theorem Nums.ext {w w' : World} {b : Nat} {l : List Int} (h : Nums w b l) (hx : Ext w w') : Nums w' b l := h.chg (S := []) (Chg.of_ext hx) (by simp)
theorem Nums.set {w : World} {b : Nat} {l : List Int} (h : Nums w b l) (i : Nat) (x : Int) : Nums (w.setCell ⟨b, i, none⟩ (.int .i64 x)) b (l.set i x) := by
  refine ⟨fun j hj => ?_⟩
  simp only [List.length_set] at hj
  obtain ⟨h1, h2⟩ := h.cell j hj
  refine ⟨?_, by rw [World.frozen?_setCell]; exact h2⟩
  by_cases hij : i = j
  · subst hij
    rw [List.getElem_set_self]
    exact World.cell?_setCell_same _ _ _ h1
  · rw [List.getElem_set_ne hij, World.cell?_setCell_other _ _ _ _ (by simp <;> omega)]
    exact h1
theorem Nums.isInts {w : World} {b : Nat} {l : List Int} (h : Nums w b l) (hr : ∀ x ∈ l, -9223372036854775808 ≤ x ∧ x ≤ 9223372036854775807) : IsInts w (some ⟨b, 0, none⟩) l := fun i hi =>
  ⟨(hr _ (List.getElem_mem hi)).1, (hr _ (List.getElem_mem hi)).2, b, 0, rfl, by simpa using (h.cell i hi).1⟩

theorem count_at {n : Nat} {s : List Int} {f : Nat} (h : f < n) : (counts n s)[f]'(by rw [counts_length]; exact h) = ((s.count (f : Int) : Nat) : Int) := counts_at h
theorem counts_app_none {n : Nat} {s : List Int} : counts n (s ++ []) = counts n s := by simp

mutual
def Tm.under (n : Nat) : Tm → Bool
  | .mk f ks => decide (f < (n : Int)) && Tm.unders n ks
def Tm.unders (n : Nat) : List Tm → Bool
  | [] => true
  | t :: ts => t.under n && Tm.unders n ts
end
theorem unders_mem {n : Nat} : ∀ {ks : List Tm}, Tm.unders n ks = true → ∀ k (h : k < ks.length), ks[k].under n = true
  | [], _, k, hk => by simp at hk
  | t :: ts, h, 0, _ => by simp only [Tm.unders, Bool.and_eq_true] at h; exact h.1
  | t :: ts, h, k + 1, hk => by simp only [Tm.unders, Bool.and_eq_true] at h; simpa using unders_mem h.2 k (by simpa using hk)

theorem symsL_room : ∀ (ks : List Tm) (k : Nat) (h : k < ks.length), (Tm.symsL (ks.take k)).length + ks[k].size ≤ Tm.sizes ks
  | [], k, h => by simp at h
  | t :: ts, 0, _ => by simp [Tm.symsL, Tm.sizes]
  | t :: ts, k + 1, h => by
    have h1 := symsL_room ts k (by simpa using h)
    have h2 := syms_length t
    simp only [List.take_succ_cons, Tm.symsL, List.length_append, Tm.sizes, List.getElem_cons_succ]
    omega
theorem syms_cons {f : Int} {ks : List Tm} : (Tm.mk f ks).syms = (if 0 ≤ f then [f] else []) ++ Tm.symsL ks := by simp only [Tm.syms]
theorem counts_le {n : Nat} {s : List Int} : ∀ x ∈ counts n s, 0 ≤ x ∧ x ≤ (s.length : Int) := by
  intro x hx
  unfold counts at hx
  obtain ⟨f, -, rfl⟩ := List.mem_map.1 hx
  have := List.count_le_length (a := (f : Int)) (l := s)
  omega

set_option maxHeartbeats 2000000 in
set_option maxRecDepth 100000 in
theorem refCount_any (n : Nat) (hn : n ≤ 1048576) (w0 : World) (nb nc : Nat) (hnb : w0.heap.size ≤ nb) (t : Tm) : ∀ (s : List Int) (w : World) (x y : Value), t.under n = true → s.length + t.size ≤ 4611686018427387904 → t.size ≤ 2097152 → IsTm w0 x y t → Ext w0 w → nb < w.heap.size →
    Nums w nb (counts n s) →
    Calls Try.prog 35 #[.agg #[x, y], .slice (some ⟨nb, 0, none⟩) n nc] w fun e w' => e = .returned (.tuple #[]) ∧ Chg [nb] w w' ∧ Nums w' nb (counts n (s ++ t.syms)) := by
  induction t using Tm.ind with
  | h f ks ih =>
    intro s w x y hbl hsl hsz ht hext hnw hN
    simp only [IsTm] at ht
    obtain ⟨rfl, hf1, hf2, a', c', rfl, hc, hk⟩ := ht
    simp only [Tm.size] at hsz hsl
    simp only [Tm.under, Bool.and_eq_true, decide_eq_true_eq] at hbl
    obtain ⟨hfn, hbs⟩ := hbl
    have hkl := length_le_sizes ks
    have Hih := Lib.hid ih; clear ih
    have hsyms : (Tm.mk f ks).syms = (if 0 ≤ f then [f] else []) ++ Tm.symsL ks := syms_cons
    rw [hsyms]
    clear hsyms
    by_cases hf : 0 ≤ f
    · obtain ⟨i, rfl⟩ : ∃ i : Nat, f = i := ⟨f.toNat, by omega⟩
      rw [if_pos hf]
      have hin : i < n := by omega
      obtain ⟨m1, m2⟩ := hN.cell i (by rw [counts_length]; exact hin)
      rw [count_at hin] at m1
      have hlen := List.count_le_length (a := (i : Int)) (l := s)
      have hwr : IntKind.i64.wrap (((s.count (i : Int) : Nat) : Int) + 1) = ((s.count (i : Int) : Nat) : Int) + 1 := IntWalk.i64_in _ (by omega)
      have hin1 : (i : Int) < n := by omega
      have hNset := hN.set i (((s.count (i : Int) : Nat) : Int) + 1)
      rw [← counts_snoc hin] at hNset
      generalize hcz : ((s.count (i : Int) : Nat) : Int) = cz at m1 hwr hNset
      clear hcz
      have HNS := Lib.hid hNset
      obtain ⟨s0, hs0⟩ : ∃ s0, s0 = s ++ [(i : Int)] := ⟨_, rfl⟩
      have HS : s0.length ≤ s.length + 1 := by rw [hs0]; simp
      rw [← hs0] at HNS
      rw [← List.append_assoc, ← hs0]
      clear hN hNset hs0
      go_enter Try.func35, Try.ntmps35
      go_wp2_with fail
      obtain ⟨W2, hW2⟩ : ∃ W2, W2 = (w.setCell ⟨nb, i, none⟩ (.int .i64 (cz + 1))).alloc (.cells #[.int .i64 i, .slice a' ks.length c'] 62) := ⟨_, rfl⟩
      have hch : Chg [nb] w W2 := by rw [hW2]; exact (((Chg.refl _ _).setCell (p := ⟨nb, i, none⟩) _ (.inl (by simp)))).alloc _
      have hN2 : Nums W2 nb (counts n s0) := by rw [hW2]; exact HNS.out.ext (ext_alloc _ _)
      have k1 : W2.cell? ⟨w.heap.size, 1, none⟩ = some (.slice a' ks.length c') := by
        have := (cells2 (w.setCell ⟨nb, i, none⟩ (.int .i64 (cz + 1))) (.int .i64 i) (.slice a' ks.length c') 62).2
        rw [hW2]; simpa using this
      have hsW : W2.heap.size = w.heap.size + 1 := by rw [hW2]; simp
      (try rw [← hW2])
      clear hW2 HNS m1 m2 hwr
      go_loopw [4] (fun i wr => ∃ k : Nat, k ≤ ks.length ∧ i = .int .i64 k ∧ Chg [nb] W2 wr ∧ Nums wr nb (counts n (s0 ++ Tm.symsL (ks.take k)))) (fun i _ => ks.length - (intOf i).toNat)
      case atStart => exact ⟨0, Nat.zero_le _, rfl, Chg.refl _ _, by simpa [Tm.symsL] using hN2⟩
      case round =>
        obtain ⟨k, hkk, rfl, hchk, hNk⟩ := hrel
        have HNk := Lib.hid hNk; clear hNk
        have e1 := hchk.cell k1 (by simp; omega)
        have hext' : Ext w0 wr := Chg.ext hext (hch.trans hchk) (by simpa using hnb)
        by_cases hlt : k < ks.length
        · have hk1 : (k : Int) < ks.length := by omega
          obtain ⟨b, o, a2, c2, rfl, j1, j2, j3⟩ := hk.look hlt
          have g1 := hext'.cell j1
          have g2 := hext'.cell j2
          have hsk := size_le_sizes hlt
          have hsl2 : (Tm.symsL (ks.take k)).length + ks[k].size ≤ Tm.sizes ks := symsL_room ks k hlt
          have Hi := Lib.hid (Hih.out _ (List.getElem_mem hlt) (s0 ++ Tm.symsL (ks.take k)) wr _ _ (unders_mem hbs k hlt) (by rw [List.length_append]; omega) (by omega) j3 hext' (by have := hchk.size; omega) HNk.out)
          have Hst := Lib.hid (symsL_take hlt)
          clear j1 j2 j3
          go_wp2_with ((go_at_call 35; refine (Hi.out).mono ?_; rintro e w2 ⟨rfl, hc2, hn2⟩))
          go_roundw
          case rel => exact ⟨k + 1, by omega, by go_num, hchk.trans hc2, by rw [Hst.out, ← List.append_assoc]; exact hn2⟩
          case measure => simp [intOf]; omega
        · go_wp2_with fail
          go_returns
          have hke : k = ks.length := by omega
          have h := HNk.out
          rw [hke, List.take_length] at h
          exact ⟨rfl, hch.trans hchk, h⟩
    · rw [if_neg hf]
      have hfd : decide (0 ≤ f) = false := decide_eq_false hf
      obtain ⟨s0, hs0⟩ : ∃ s0, s0 = s := ⟨_, rfl⟩
      have HS : s0.length ≤ s.length + 1 := by rw [hs0]; omega
      rw [List.nil_append, ← hs0]
      rw [← hs0] at hN
      clear hs0
      have HNS := Lib.hid hN
      clear hN
      go_enter Try.func35, Try.ntmps35
      go_wp2_with fail
      obtain ⟨W2, hW2⟩ : ∃ W2, W2 = w.alloc (.cells #[.int .i64 f, .slice a' ks.length c'] 62) := ⟨_, rfl⟩
      have hch : Chg [nb] w W2 := by rw [hW2]; exact (Chg.refl _ _).alloc _
      have hN2 : Nums W2 nb (counts n s0) := by rw [hW2]; exact HNS.out.ext (ext_alloc _ _)
      have k1 : W2.cell? ⟨w.heap.size, 1, none⟩ = some (.slice a' ks.length c') := by rw [hW2]; exact (cells2 _ _ _ _).2
      have hsW : W2.heap.size = w.heap.size + 1 := by rw [hW2]; simp
      (try rw [← hW2])
      clear hW2 HNS
      go_loopw [4] (fun i wr => ∃ k : Nat, k ≤ ks.length ∧ i = .int .i64 k ∧ Chg [nb] W2 wr ∧ Nums wr nb (counts n (s0 ++ Tm.symsL (ks.take k)))) (fun i _ => ks.length - (intOf i).toNat)
      case atStart => exact ⟨0, Nat.zero_le _, rfl, Chg.refl _ _, by simpa [Tm.symsL] using hN2⟩
      case round =>
        obtain ⟨k, hkk, rfl, hchk, hNk⟩ := hrel
        have HNk := Lib.hid hNk; clear hNk
        have e1 := hchk.cell k1 (by simp; omega)
        have hext' : Ext w0 wr := Chg.ext hext (hch.trans hchk) (by simpa using hnb)
        by_cases hlt : k < ks.length
        · have hk1 : (k : Int) < ks.length := by omega
          obtain ⟨b, o, a2, c2, rfl, j1, j2, j3⟩ := hk.look hlt
          have g1 := hext'.cell j1
          have g2 := hext'.cell j2
          have hsk := size_le_sizes hlt
          have hsl2 : (Tm.symsL (ks.take k)).length + ks[k].size ≤ Tm.sizes ks := symsL_room ks k hlt
          have Hi := Lib.hid (Hih.out _ (List.getElem_mem hlt) (s0 ++ Tm.symsL (ks.take k)) wr _ _ (unders_mem hbs k hlt) (by rw [List.length_append]; omega) (by omega) j3 hext' (by have := hchk.size; omega) HNk.out)
          have Hst := Lib.hid (symsL_take hlt)
          clear j1 j2 j3
          go_wp2_with ((go_at_call 35; refine (Hi.out).mono ?_; rintro e w2 ⟨rfl, hc2, hn2⟩))
          go_roundw
          case rel => exact ⟨k + 1, by omega, by go_num, hchk.trans hc2, by rw [Hst.out, ← List.append_assoc]; exact hn2⟩
          case measure => simp [intOf]; omega
        · go_wp2_with fail
          go_returns
          have hke : k = ks.length := by omega
          have h := HNk.out
          rw [hke, List.take_length] at h
          exact ⟨rfl, hch.trans hchk, h⟩
end Go.Proofs.Ytdmiphdohfcbeaa
