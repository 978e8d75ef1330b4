/- What the reference's Small, over and Check of layer 2 return. -/
import Derived.Test.YtoidhdcbemmfhaaDoorCheck1
namespace Go.Proofs.YtoidhdcbemmfhaaDoor
open Go.ChangeShapes Go.WideShapes Go.ChangeAt Go.RowKit

set_option maxHeartbeats 1000000 in
theorem refSmall_any (t : Tm) (w : World) (x s : Value) (ht : IsTm w x s t) (hs : t.size ≤ 2097152) :
    Calls Tryd.prog 57 #[.agg #[x, s], .int .i64 48] w fun e w' => e = .returned (.bool (t.small 48)) ∧ Ext w w' := by
  have ht0 := ht
  obtain ⟨a, c, rfl, rfl, -, -, -, -⟩ := ht.form
  obtain ⟨c0, c1⟩ := cells2 w (.int .i64 t.f) (.slice a t.ks.length c) 27
  have hx0 := ext_alloc w (.cells #[.int .i64 t.f, .slice a t.ks.length c] 27)
  have Hc := Lib.hid (And.intro c0 c1)
  have Hx0 := Lib.hid hx0; clear hx0
  have Ht := Lib.hid ht0; clear ht0 ht
  have hA : (t.size : Int) ≤ 2097152 := by omega
  have hdep := depth_le_size t
  go_enter Tryd.func57, Tryd.ntmps57
  go_wp2_with (first
    | (go_at_call 40; refine (refSize_any t _ _ _ (Ht.out.ext Hx0.out) hs).mono ?_; rintro e w1 ⟨rfl, hx1⟩; replace c0 := hx1.cell c0; replace c1 := hx1.cell c1)
    | (go_at_call 42; refine (refDepth_any t _ _ _ (Ht.out.ext (Ext.trans Hx0.out hx1)) hs).mono ?_; rintro e w2 ⟨rfl, hx2⟩; replace c0 := hx2.cell c0; replace c1 := hx2.cell c1)
    | (go_at_call 103; refine (low_any 48 (by omega) (by omega) t _ _ _ (Ht.out.ext (Ext.trans Hx0.out (Ext.trans hx1 hx2))) hs).mono ?_; rintro e w3 ⟨rfl, hx3⟩))
  · have q1 : (t.size : Int) ≤ 300 := by assumption
    have q2 : (t.depth : Int) ≤ 30 := by assumption
    have r1 : t.size ≤ 300 := by omega
    have r2 : t.depth ≤ 30 := by omega
    go_ret
    exact ⟨ret_bool (by simp [Tm.small, r1, r2]), Ext.trans Hx0.out (Ext.trans hx1 (Ext.trans hx2 hx3))⟩
  · have q2 : (30 : Int) < t.depth := by assumption
    have r2 : ¬ t.depth ≤ 30 := by omega
    go_ret
    exact ⟨ret_bool (by simp [Tm.small, r2]), Ext.trans Hx0.out (Ext.trans hx1 hx2)⟩
  · have q1 : (300 : Int) < t.size := by assumption
    have r1 : ¬ t.size ≤ 300 := by omega
    go_ret
    exact ⟨ret_bool (by simp [Tm.small, r1]), Ext.trans Hx0.out hx1⟩

theorem overs_take {l : List Sy} {ks : List Tm} {k : Nat} (h : k < ks.length) : Tm.overs l (ks.take (k+1)) = (Tm.overs l (ks.take k) && ks[k].over l false) := by
  induction ks generalizing k with
  | nil => simp at h
  | cons t ts ih =>
    cases k with
    | zero => simp [Tm.overs]
    | succ k => simp only [List.take_succ_cons, Tm.overs, List.getElem_cons_succ]; rw [ih (by simpa using h), Bool.and_assoc]
theorem overs_false {l : List Sy} {ks : List Tm} {k : Nat} (h : Tm.overs l (ks.take k) = false) : Tm.overs l ks = false := by
  induction ks generalizing k with
  | nil => simp [Tm.overs] at h
  | cons t ts ih =>
    cases k with
    | zero => simp [Tm.overs] at h
    | succ k =>
      simp only [List.take_succ_cons, Tm.overs, Bool.and_eq_false_iff] at h ⊢
      exact h.imp id (fun h => ih h)

set_option maxHeartbeats 1000000 in
set_option maxRecDepth 100000 in
theorem refOver_any (l : List Sy) (_hl : l.length ≤ 1048576) (t : Tm) : ∀ (top : Bool) (w : World) (a : Option Addr) (c : Nat) (x s : Value), IsSyms w a l → IsTm w x s t → t.size ≤ 2097152 →
    Calls Tryd.prog 58 #[.agg #[.slice a l.length c], .agg #[x, s], .bool top] w fun e w' => e = .returned (.bool (t.over l top)) ∧ Ext w w' := by
  induction t using Tm.ind with
  | h f ks ih =>
    intro top w a c x s hsy ht hs
    simp only [IsTm] at ht
    obtain ⟨rfl, hf1, hf2, a', c', rfl, hc, hk⟩ := ht
    simp only [Tm.size] at hs
    have hkl := length_le_sizes ks
    have Hih := Lib.hid ih; clear ih
    by_cases hf : f < 0
    · have Hspec := Lib.hid (show Tm.over l top (.mk f ks) = true by simp [Tm.over, okAt, Tm.f, hf])
      go_enter Tryd.func58, Tryd.ntmps58
      go_wp2_with fail
      go_ret
      exact ⟨ret_bool Hspec.out.symm, by go_grown⟩
    obtain ⟨i, rfl⟩ : ∃ i : Nat, f = i := ⟨f.toNat, by omega⟩
    have gt : decide ((i : Int) < 0) = false := decide_eq_false hf
    have hok : okAt l top (.mk i ks) = match l[i]? with
      | none => false
      | some s => (s.arity == (ks.length : Int)) && (top || !s.pred) := by
      unfold okAt; rw [if_neg (by simp [Tm.f])]; rfl
    by_cases hil : l.length ≤ i
    · have Hspec := Lib.hid (show Tm.over l top (.mk i ks) = false by simp only [Tm.over]; rw [hok, List.getElem?_eq_none hil]; rfl)
      clear hok
      go_enter Tryd.func58, Tryd.ntmps58
      go_wp2_with fail
      go_ret
      exact ⟨ret_bool Hspec.out.symm, by go_grown⟩
    have hil2 : i < l.length := by omega
    rw [List.getElem?_eq_getElem hil2] at hok
    obtain ⟨b2, o2, rfl, hok2, g0, g1, g2⟩ := hsy.look hil2
    have hil3 : (i : Int) < l.length := by omega
    generalize hq : l[i] = q at hok hok2 g0 g1 g2
    clear hq
    obtain ⟨n, ar, p⟩ := q
    have Hok := Lib.hid hok; clear hok
    have Hf := Lib.hid hf; clear hf
    obtain ⟨W, hW⟩ : ∃ W, W = ((w.alloc (.cells #[.slice (some ⟨b2, o2, none⟩) l.length c] 24)).alloc (.cells #[.int .i64 i, .slice a' ks.length c'] 27)) := ⟨_, rfl⟩
    have hx : Ext w W := by subst hW; go_grown
    have g0' := hx.cell g0
    have g1' := hx.cell g1
    have g2' := hx.cell g2
    subst hW
    have Hx := Lib.hid hx; clear hx
    clear g0 g1 g2
    by_cases hbad : (ar != (ks.length : Int)) = true ∨ (p = true ∧ top = false)
    · have hres : Tm.over l top (.mk i ks) = false := by
        simp only [Tm.over]; rw [Hok.out]
        rcases hbad with h | ⟨h1, h2⟩
        · rw [bne, Bool.not_eq_true'] at h; simp [h]
        · simp [h1, h2]
      have Hres := Lib.hid hres; clear hres
      by_cases h1 : (ar != (ks.length : Int)) = true
      · go_enter Tryd.func58, Tryd.ntmps58
        go_wp2_with fail
        go_ret
        exact ⟨ret_bool Hres.out.symm, Ext.trans Hx.out (by go_grown)⟩
      · obtain ⟨rfl, rfl⟩ := hbad.resolve_left h1
        have h1' : (ar != (ks.length : Int)) = false := by simpa using h1
        clear h1 hbad
        go_enter Tryd.func58, Tryd.ntmps58
        go_wp2_with fail
        go_ret
        exact ⟨ret_bool Hres.out.symm, Ext.trans Hx.out (by go_grown)⟩
    have h1 : (ar != (ks.length : Int)) = false := by
      cases h : (ar != (ks.length : Int)) with
      | false => rfl
      | true => exact absurd (.inl h) hbad
    have hpt : p = false ∨ top = true := by
      cases p <;> cases top <;> simp at hbad ⊢
    have hres : Tm.over l top (.mk i ks) = Tm.overs l ks := by
      simp only [Tm.over]; rw [Hok.out]
      have : (ar == (ks.length : Int)) = true := by rw [bne] at h1; simpa using h1
      simp only [this, Bool.true_and]
      have e : decide ((i : Int) < 0) = false := gt
      rw [e]
      rcases hpt with h | h <;> simp [h]
    have Hres := Lib.hid hres; clear hres hbad
    have hpt2 : p = false ∨ (p = true ∧ top = true) := by
      cases p with
      | false => exact .inl rfl
      | true => rcases hpt with h | h; cases h; exact .inr ⟨rfl, h⟩
    clear hpt
    have Hgt := Lib.hid gt; clear gt
    rcases hpt2 with rfl | ⟨rfl, rfl⟩
    all_goals
      have gt := Hgt.out
      go_enter Tryd.func58, Tryd.ntmps58
      go_wp2_with fail
      go_loopw [8] (fun i wr => ∃ k : Nat, k ≤ ks.length ∧ i = .int .i64 k ∧ Tm.overs l (ks.take k) = true ∧ Ext w wr ∧ wr.cell? ⟨w.heap.size, 0, none⟩ = some (.slice (some ⟨b2, o2, none⟩) l.length c) ∧ wr.cell? ⟨w.heap.size + 1, 1, none⟩ = some (.slice a' ks.length c')) (fun i _ => ks.length - (intOf i).toNat)
      case atStart => exact ⟨0, Nat.zero_le _, rfl, rfl, Ext.trans Hx.out (by go_grown), by go_simp, by go_simp⟩
      case round =>
        obtain ⟨k, hkk, rfl, hall, hext, d0, d1⟩ := hrel
        have Hall := Lib.hid hall; clear hall
        clear g0' g1' g2'
        by_cases hlt : k < ks.length
        · have hm := Hih.out _ (List.getElem_mem hlt)
          have hke := hk.ext hext
          obtain ⟨b, o, a2, c2, rfl, h1', h2, h3⟩ := hke.look hlt
          have hst := overs_take (l := l) hlt
          have hp2 : Tm.size ks[k] ≤ 2097152 := by have := size_le_sizes hlt; omega
          have Hst := Lib.hid hst; clear hst
          have hk1 : (k : Int) < ks.length := by omega
          have hk0 : (0 : Int) ≤ (k : Int) := by omega
          have hsy' := hsy.ext hext
          have Hm := Lib.hid hm; clear hm
          go_wp2_with fail
          go_region_held3 (fun w' => w'.cell? ⟨w.heap.size, 0, none⟩ = some (.slice (some ⟨b2, o2, none⟩) l.length c) ∧ w'.cell? ⟨w.heap.size + 1, 1, none⟩ = some (.slice (some ⟨b, o, none⟩) ks.length c') ∧ w'.cell? ⟨b, o + k * 2, none⟩ = some (.int .i64 ks[k].f) ∧ w'.cell? ⟨b, o + k * 2 + 1, none⟩ = some (.slice a2 ks[k].ks.length c2) ∧ Ext wr w')
            (((try go_split_ands); refine ⟨?_, ?_, ?_, ?_, ?_⟩ <;> first | (with_reducible assumption) | exact Below.drew (Below.refl _ _) | exact Ext.drew (by assumption) | exact Ext.drew (ext_alloc _ _) | (apply Ext.cell hw'; (with_reducible assumption)) | exact Ext.trans (by assumption) hw' | exact Ext.frozen hw' (by (with_reducible assumption)) (by (with_reducible assumption)) | (go_keep; done)))
            ((go_at_call 58; go_split_ands; refine (Hm.out false _ _ c _ _ (hsy'.ext (by assumption)) (h3.ext (by assumption)) hp2).mono ?_; rintro e w' ⟨rfl, hw'⟩))
          go_split_ands
          go_wp2_with fail
          · have hf : ks[k].over l false = false := by simpa using ‹(!ks[k].over l false) = true›
            go_ret
            have h := Hst.out
            rw [hf, Bool.and_false] at h
            exact ⟨ret_bool (by rw [Hres.out, overs_false h]), Ext.trans hext (by assumption)⟩
          · have hf : ks[k].over l false = true := by simpa using ‹(!ks[k].over l false) = false›
            go_roundw
            case rel => exact ⟨k + 1, by omega, by go_num, by rw [Hst.out, Hall.out, hf]; rfl, Ext.trans hext (by assumption), by assumption, by assumption⟩
            case measure => simp [intOf]; omega
        · go_wp2_with fail
          have : k = ks.length := by omega
          subst this
          go_ret
          have h := Hall.out
          rw [List.take_length] at h
          exact ⟨ret_bool (by rw [Hres.out, h]), hext⟩

set_option maxHeartbeats 1000000 in
theorem refTermCheck_any (l : List Sy) (hl : l.length ≤ 1048576) (t : Tm) (hs : t.size ≤ 2097152) (w : World) (a : Option Addr) (c : Nat) (hsy : IsSyms w a l) (x s : Value) (ht : IsTm w x s t) :
    Calls Tryd.prog 15 #[.agg #[.slice a l.length c], .agg #[x, s]] w fun e w' => e = .returned (.int .i64 (termCheck l t)) ∧ Ext w w' := by
  have ht0 := ht
  obtain ⟨a', c', rfl, rfl, -, -, -, -⟩ := ht.form
  obtain ⟨W, hW⟩ : ∃ W, W = ((w.alloc (.cells #[.slice a l.length c] 24)).alloc (.cells #[.int .i64 t.f, .slice a' t.ks.length c'] 27)) := ⟨_, rfl⟩
  have hx : Ext w W := by subst hW; go_grown
  have k0 : W.cell? ⟨w.heap.size, 0, none⟩ = some (.slice a l.length c) := by subst hW; go_simp
  have k1 : W.cell? ⟨w.heap.size + 1, 0, none⟩ = some (.int .i64 t.f) := by subst hW; go_simp
  have k2 : W.cell? ⟨w.heap.size + 1, 1, none⟩ = some (.slice a' t.ks.length c') := by subst hW; go_simp
  subst hW
  have Hx := Lib.hid hx; clear hx
  have Hall : ∀ w1, Ext w w1 → IsSyms w1 a l ∧ IsTm w1 (.int .i64 t.f) (.slice a' t.ks.length c') t := fun w1 h1 => ⟨hsy.ext h1, ht0.ext h1⟩
  have Hall := Lib.hid Hall
  clear ht ht0 hsy
  cases hz : (sigCheck l != 0) with
  | true =>
    have Hres := Lib.hid (show termCheck l t = 2 by unfold termCheck; rw [if_neg (by intro h; simp [h.1] at hz)])
    go_enter Tryd.func15, Tryd.ntmps15
    go_wp2_with (go_at_call 56; refine (refSigCheck_any l hl _ a c (Hall.out _ Hx.out).1).mono ?_; rintro e w1 ⟨rfl, hx1⟩)
    go_ret
    exact ⟨ret_int Hres.out.symm, Ext.trans Hx.out hx1⟩
  | false =>
    have hz0 : sigCheck l = 0 := by simpa using hz
    have Hz0 := Lib.hid hz0; clear hz0
    cases hs48 : t.small 48 with
    | false =>
      have Hres := Lib.hid (show termCheck l t = 2 by unfold termCheck; rw [if_neg (by intro h; rw [hs48] at h; simp at h)])
      go_enter Tryd.func15, Tryd.ntmps15
      go_wp2_with (first
        | (go_at_call 56; refine (refSigCheck_any l hl _ a c (Hall.out _ Hx.out).1).mono ?_; rintro e w1 ⟨rfl, hx1⟩; replace k0 := hx1.cell k0; replace k1 := hx1.cell k1; replace k2 := hx1.cell k2)
        | (go_at_call 57; refine (refSmall_any t _ _ _ (Hall.out _ (Ext.trans Hx.out hx1)).2 hs).mono ?_; rintro e w2 ⟨rfl, hx2⟩; replace k0 := hx2.cell k0; replace k1 := hx2.cell k1; replace k2 := hx2.cell k2))
      go_ret
      exact ⟨ret_int Hres.out.symm, Ext.trans Hx.out (Ext.trans hx1 hx2)⟩
    | true =>
      have hres : termCheck l t = if t.over l true then 0 else 2 := by
        unfold termCheck; rw [Hz0.out, hs48]; cases t.over l true <;> simp
      have Hres := Lib.hid hres; clear hres
      go_enter Tryd.func15, Tryd.ntmps15
      go_wp2_with (first
        | (go_at_call 56; refine (refSigCheck_any l hl _ a c (Hall.out _ Hx.out).1).mono ?_; rintro e w1 ⟨rfl, hx1⟩; replace k0 := hx1.cell k0; replace k1 := hx1.cell k1; replace k2 := hx1.cell k2)
        | (go_at_call 57; refine (refSmall_any t _ _ _ (Hall.out _ (Ext.trans Hx.out hx1)).2 hs).mono ?_; rintro e w2 ⟨rfl, hx2⟩; replace k0 := hx2.cell k0; replace k1 := hx2.cell k1; replace k2 := hx2.cell k2)
        | (go_at_call 58; refine (refOver_any l hl t true _ a c _ _ (Hall.out _ (Ext.trans Hx.out (Ext.trans hx1 hx2))).1 (Hall.out _ (Ext.trans Hx.out (Ext.trans hx1 hx2))).2 hs).mono ?_; rintro e w3 ⟨rfl, hx3⟩))
      · have hb : t.over l true = false := by simpa using ‹(!t.over l true) = true›
        go_ret
        exact ⟨ret_int (by rw [Hres.out, hb]; rfl), Ext.trans Hx.out (Ext.trans hx1 (Ext.trans hx2 hx3))⟩
      · have hb : t.over l true = true := by simpa using ‹(!t.over l true) = false›
        go_ret
        exact ⟨ret_int (by rw [Hres.out, hb]; rfl), Ext.trans Hx.out (Ext.trans hx1 (Ext.trans hx2 hx3))⟩
end Go.Proofs.YtoidhdcbemmfhaaDoor
