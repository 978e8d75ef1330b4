/- What term.Size, term.Depth and the reference's Size, Depth, low, Small return, for every term of at most 2097152 parts. -/
import Derived.Test.YtoidhdcbemmfhaaDoorBase
namespace Go.Proofs.YtoidhdcbemmfhaaDoor
open Go.ChangeShapes Go.WideShapes Go.ChangeAt Go.RowKit

theorem int_zero (n : Nat) : ((n : Int) == 0) = decide (n = 0) := by
  rw [Bool.eq_iff_iff]; simp
mutual
def Tm.size : Tm → Nat
  | .mk _ ks => Tm.sizes ks + 1
def Tm.sizes : List Tm → Nat
  | [] => 0
  | t :: ts => Tm.size t + Tm.sizes ts
end
mutual
def Tm.depth : Tm → Nat
  | .mk _ ks => Tm.depths ks + 1
def Tm.depths : List Tm → Nat
  | [] => 0
  | t :: ts => max (Tm.depth t) (Tm.depths ts)
end
mutual
def Tm.low (m : Int) : Tm → Bool
  | .mk f ks => if f < 0 then decide (-m ≤ f) && decide (ks.length = 0) else Tm.lows m ks
def Tm.lows (m : Int) : List Tm → Bool
  | [] => true
  | t :: ts => Tm.low m t && Tm.lows m ts
end

theorem sizes_take {ks : List Tm} {k : Nat} (h : k < ks.length) : Tm.sizes (ks.take (k+1)) = Tm.sizes (ks.take k) + ks[k].size := by
  induction ks generalizing k with
  | nil => simp at h
  | cons t ts ih =>
    cases k with
    | zero => simp [Tm.sizes]
    | succ k => simp only [List.take_succ_cons, Tm.sizes, List.getElem_cons_succ]; rw [ih (by simpa using h)]; omega
theorem sizes_take_le (ks : List Tm) (k : Nat) : Tm.sizes (ks.take k) ≤ Tm.sizes ks := by
  induction ks generalizing k with
  | nil => simp
  | cons t ts ih =>
    cases k with
    | zero => simp [Tm.sizes]
    | succ k => simp only [List.take_succ_cons, Tm.sizes]; have := ih k; omega
theorem size_pos (t : Tm) : 1 ≤ t.size := by cases t; simp [Tm.size]
theorem length_le_sizes (ks : List Tm) : ks.length ≤ Tm.sizes ks := by
  induction ks with
  | nil => simp [Tm.sizes]
  | cons t ts ih => simp only [List.length_cons, Tm.sizes]; have := size_pos t; omega
theorem size_le_sizes {ks : List Tm} {k : Nat} (h : k < ks.length) : ks[k].size ≤ Tm.sizes ks := by
  have := sizes_take h; have := sizes_take_le ks (k+1); omega
theorem depths_take {ks : List Tm} {k : Nat} (h : k < ks.length) : Tm.depths (ks.take (k+1)) = max (Tm.depths (ks.take k)) ks[k].depth := by
  induction ks generalizing k with
  | nil => simp at h
  | cons t ts ih =>
    cases k with
    | zero => simp [Tm.depths]
    | succ k => simp only [List.take_succ_cons, Tm.depths, List.getElem_cons_succ]; rw [ih (by simpa using h)]; omega
theorem depth_le_size (t : Tm) : t.depth ≤ t.size := by
  refine Tm.rec (motive_1 := fun t => t.depth ≤ t.size) (motive_2 := fun l => Tm.depths l ≤ Tm.sizes l) ?_ ?_ ?_ t
  · intro f ks h; simp only [Tm.depth, Tm.size]; omega
  · simp [Tm.depths]
  · intro t ts h1 h2; simp only [Tm.depths, Tm.sizes]; omega
theorem lows_at {m : Int} {ks : List Tm} (h : Tm.lows m ks = false) (k : Nat) (hk : Tm.lows m (ks.take k) = true) : k < ks.length := by
  rcases Nat.lt_or_ge k ks.length with h1 | h1
  · exact h1
  · rw [List.take_of_length_le h1] at hk; rw [hk] at h; cases h
theorem lows_take {m : Int} {ks : List Tm} {k : Nat} (h : k < ks.length) : Tm.lows m (ks.take (k+1)) = (Tm.lows m (ks.take k) && ks[k].low m) := by
  induction ks generalizing k with
  | nil => simp at h
  | cons t ts ih =>
    cases k with
    | zero => simp [Tm.lows]
    | succ k => simp only [List.take_succ_cons, Tm.lows, List.getElem_cons_succ]; rw [ih (by simpa using h), Bool.and_assoc]
theorem lows_false {m : Int} {ks : List Tm} {k : Nat} (h : Tm.lows m (ks.take k) = false) : Tm.lows m ks = false := by
  induction ks generalizing k with
  | nil => simp [Tm.lows] at h
  | cons t ts ih =>
    cases k with
    | zero => simp [Tm.lows] at h
    | succ k =>
      simp only [List.take_succ_cons, Tm.lows, Bool.and_eq_false_iff] at h ⊢
      exact h.imp id (fun h => ih h)

set_option maxHeartbeats 400000 in
theorem size_any (t : Tm) : ∀ (w : World) (x s : Value), IsTm w x s t → t.size ≤ 2097152 →
    Calls Tryd.prog 39 #[.agg #[x, s]] w fun e w' => e = .returned (.int .i64 t.size) ∧ Ext w w' := by
  induction t using Tm.ind with
  | h f ks ih =>
    intro w x s ht hs
    simp only [IsTm] at ht
    obtain ⟨rfl, hf1, hf2, a, c, rfl, hc, hk⟩ := ht
    simp only [Tm.size] at hs
    have hkl := length_le_sizes ks
    go_enter Tryd.func39, Tryd.ntmps39
    go_wp2_with fail
    go_loopw [3, 9] (fun n i wr => ∃ k : Nat, k ≤ ks.length ∧ i = .int .i64 k ∧ n = .int .i64 ((Tm.sizes (ks.take k) + 1 : Nat) : Int) ∧ Ext w wr) (fun _ i _ => ks.length - (intOf i).toNat)
    case atStart => exact ⟨0, Nat.zero_le _, rfl, rfl, by go_grown⟩
    case round =>
      obtain ⟨k, hkk, rfl, rfl, hext⟩ := hrel
      by_cases hlt : k < ks.length
      · have hm := ih _ (List.getElem_mem hlt)
        obtain ⟨b, o, a', c', rfl, h1, h2, h3⟩ := (hk.ext hext).look hlt
        have hst := sizes_take hlt
        have hsl := sizes_take_le ks (k+1)
        have hp : Tm.size ks[k] ≤ 2097152 := by omega
        have hb : Tm.sizes (ks.take k) + ks[k].size ≤ 2097152 := by omega
        have Hst := Lib.hid hst; clear hst
        go_wp2_with ((with_reducible refine (hm _ _ _ (h3.ext (by go_grown)) hp).mono ?_); rintro e w' ⟨rfl, hw'⟩)
        go_roundw
        case rel => exact ⟨k + 1, by omega, by go_num, by rw [Hst.out]; go_num, Ext.trans (hext.alloc _) hw'⟩
        case measure => simp [intOf]; omega
      · go_wp2_with fail
        have : k = ks.length := by omega
        subst this
        go_ret
        exact ⟨by simp [Tm.size], hext⟩

set_option maxHeartbeats 400000 in
theorem refSize_any (t : Tm) : ∀ (w : World) (x s : Value), IsTm w x s t → t.size ≤ 2097152 →
    Calls Tryd.prog 40 #[.agg #[x, s]] w fun e w' => e = .returned (.int .i64 t.size) ∧ Ext w w' := by
  induction t using Tm.ind with
  | h f ks ih =>
    intro w x s ht hs
    simp only [IsTm] at ht
    obtain ⟨rfl, hf1, hf2, a, c, rfl, hc, hk⟩ := ht
    simp only [Tm.size] at hs
    have hkl := length_le_sizes ks
    obtain ⟨-, hc1⟩ := cells2 w (.int .i64 f) (.slice a ks.length c) 27
    go_enter Tryd.func40, Tryd.ntmps40
    go_wp2_with fail
    go_loopw [3, 4] (fun n i wr => ∃ k : Nat, k ≤ ks.length ∧ i = .int .i64 k ∧ n = .int .i64 ((Tm.sizes (ks.take k) + 1 : Nat) : Int) ∧ Ext w wr ∧ wr.cell? ⟨w.heap.size, 1, none⟩ = some (.slice a ks.length c)) (fun _ i _ => ks.length - (intOf i).toNat)
    case atStart => exact ⟨0, Nat.zero_le _, rfl, rfl, by go_grown, hc1⟩
    case round =>
      obtain ⟨k, hkk, rfl, rfl, hext, hcell⟩ := hrel
      clear hc1
      by_cases hlt : k < ks.length
      · have hm := ih _ (List.getElem_mem hlt)
        obtain ⟨b, o, a', c', rfl, h1, h2, h3⟩ := (hk.ext hext).look hlt
        have hst := sizes_take hlt
        have hsl := sizes_take_le ks (k+1)
        have hp : Tm.size ks[k] ≤ 2097152 := by omega
        have hb : Tm.sizes (ks.take k) + ks[k].size ≤ 2097152 := by omega
        have Hst := Lib.hid hst; clear hst
        go_wp2_with ((with_reducible refine (hm _ _ _ h3 hp).mono ?_); rintro e w' ⟨rfl, hw'⟩)
        go_roundw
        case rel => exact ⟨k + 1, by omega, by go_num, by rw [Hst.out]; go_num, Ext.trans hext hw', hw'.cell hcell⟩
        case measure => simp [intOf]; omega
      · go_wp2_with fail
        have : k = ks.length := by omega
        subst this
        go_ret
        exact ⟨by simp [Tm.size], hext⟩

set_option maxHeartbeats 400000 in
theorem refDepth_any (t : Tm) : ∀ (w : World) (x s : Value), IsTm w x s t → t.size ≤ 2097152 →
    Calls Tryd.prog 42 #[.agg #[x, s]] w fun e w' => e = .returned (.int .i64 t.depth) ∧ Ext w w' := by
  induction t using Tm.ind with
  | h f ks ih =>
    intro w x s ht hs
    simp only [IsTm] at ht
    obtain ⟨rfl, hf1, hf2, a, c, rfl, hc, hk⟩ := ht
    have hsz := depth_le_size (.mk f ks)
    simp only [Tm.size, Tm.depth] at hs hsz
    have hkl := length_le_sizes ks
    obtain ⟨-, hc1⟩ := cells2 w (.int .i64 f) (.slice a ks.length c) 27
    go_enter Tryd.func42, Tryd.ntmps42
    go_wp2_with fail
    go_loopw [3, 4] (fun n i wr => ∃ k : Nat, k ≤ ks.length ∧ i = .int .i64 k ∧ n = .int .i64 ((Tm.depths (ks.take k) : Nat) : Int) ∧ Ext w wr ∧ wr.cell? ⟨w.heap.size, 1, none⟩ = some (.slice a ks.length c)) (fun _ i _ => ks.length - (intOf i).toNat)
    case atStart => exact ⟨0, Nat.zero_le _, rfl, rfl, by go_grown, hc1⟩
    case round =>
      obtain ⟨k, hkk, rfl, rfl, hext, hcell⟩ := hrel
      clear hc1
      by_cases hlt : k < ks.length
      · have hm := ih _ (List.getElem_mem hlt)
        obtain ⟨b, o, a', c', rfl, h1, h2, h3⟩ := (hk.ext hext).look hlt
        have hst := depths_take hlt
        have hp : Tm.size ks[k] ≤ 2097152 := by have := size_le_sizes hlt; omega
        have Hst := Lib.hid hst; clear hst
        go_wp2_with ((with_reducible refine (hm _ _ _ h3 hp).mono ?_); rintro e w' ⟨rfl, hw'⟩)
        all_goals
          go_roundw
          case rel => exact ⟨k + 1, by omega, by go_num, by rw [Hst.out]; congr 1; first | omega | (simp; omega), Ext.trans hext hw', hw'.cell hcell⟩
          case measure => simp [intOf]; omega
      · go_wp2_with fail
        have : k = ks.length := by omega
        subst this
        go_ret
        simp only [List.take_length] at hsz ⊢
        have hd : Tm.depths ks + 1 ≤ 2097152 := by omega
        exact ⟨by simp only [Tm.depth]; exact ret_int (by rw [IntWalk.wrap64_in _ (by omega)]; rfl), hext⟩

set_option maxHeartbeats 400000 in
theorem low_any (m : Int) (hm1 : -1048576 ≤ m) (hm2 : m ≤ 1048576) (t : Tm) : ∀ (w : World) (x s : Value), IsTm w x s t → t.size ≤ 2097152 →
    Calls Tryd.prog 103 #[.agg #[x, s], .int .i64 m] w fun e w' => e = .returned (.bool (t.low m)) ∧ Ext w w' := by
  induction t using Tm.ind with
  | h f ks ih =>
    intro w x s ht hs
    simp only [IsTm] at ht
    obtain ⟨rfl, hf1, hf2, a, c, rfl, hc, hk⟩ := ht
    simp only [Tm.size] at hs
    have hkl := length_le_sizes ks
    obtain ⟨-, hc1⟩ := cells2 w (.int .i64 f) (.slice a ks.length c) 27
    by_cases hneg : f < 0
    · go_enter Tryd.func103, Tryd.ntmps103
      go_wp2_with fail
      all_goals
        go_ret
        refine ⟨?_, by go_grown⟩
        first
          | (have h : -m ≤ f := by assumption
             simp [Tm.low, hneg, h, int_zero]; done)
          | (have h : f < -m := by assumption
             simp [Tm.low, hneg, Int.not_le.2 h]; done)
    · go_enter Tryd.func103, Tryd.ntmps103
      go_wp2_with fail
      go_loopw [5] (fun i wr => ∃ k : Nat, k ≤ ks.length ∧ i = .int .i64 k ∧ Tm.lows m (ks.take k) = true ∧ Ext w wr ∧ wr.cell? ⟨w.heap.size, 1, none⟩ = some (.slice a ks.length c)) (fun i _ => ks.length - (intOf i).toNat)
      case atStart => exact ⟨0, Nat.zero_le _, rfl, rfl, by go_grown, hc1⟩
      case round =>
        obtain ⟨k, hkk, rfl, hall, hext, hcell⟩ := hrel
        clear hc1
        have Hall := Lib.hid hall; clear hall
        by_cases hlt : k < ks.length
        · have hm := ih _ (List.getElem_mem hlt)
          obtain ⟨b, o, a', c', rfl, h1, h2, h3⟩ := (hk.ext hext).look hlt
          have hst := lows_take (m := m) hlt
          have hp : Tm.size ks[k] ≤ 2097152 := by have := size_le_sizes hlt; omega
          have Hst := Lib.hid hst; clear hst
          go_wp2_with ((with_reducible refine (hm _ _ _ h3 hp).mono ?_); rintro e w' ⟨rfl, hw'⟩)
          · go_ret
            have hf : Tm.low m ks[k] = false := by simpa using ‹(!Tm.low m ks[k]) = true›
            refine ⟨?_, Ext.trans hext hw'⟩
            have h1 := Hst.out
            rw [hf, Bool.and_false] at h1
            simp [Tm.low, Int.not_lt.2 hneg, lows_false h1]
          · have hf : Tm.low m ks[k] = true := by simpa using ‹(!Tm.low m ks[k]) = false›
            go_roundw
            case rel => exact ⟨k + 1, by omega, by go_num, by rw [Hst.out, Hall.out, hf]; rfl, Ext.trans hext hw', hw'.cell hcell⟩
            case measure => simp [intOf]; omega
        · go_wp2_with fail
          have : k = ks.length := by omega
          subst this
          go_ret
          refine ⟨?_, hext⟩
          have := Hall.out
          simp only [List.take_length] at this
          simp [Tm.low, Int.not_lt.2 hneg, this]
end Go.Proofs.YtoidhdcbemmfhaaDoor
